/- The walk of BucketPlays. -/
import Derived.Test.YtfckagokeimkmaaFewW
namespace Go.Proofs.Ytfckagokeimkmaa
open Go.RowKit

theorem mod_step {n r t : Int} (h : n % r = t) (h0 : 0 ≤ t) (h1 : t < r) : (n + 1) % r = if t + 1 = r then 0 else t + 1 := by
  have hn : n = r * (n / r) + t := by rw [← h]; exact (Int.mul_ediv_add_emod n r).symm
  split
  · rename_i e
    have : n + 1 = r * (n / r + 1) := by rw [Int.mul_add, Int.mul_one]; omega
    rw [this]
    exact Int.mul_emod_right r _
  · rename_i e
    have : n + 1 = (t + 1) + r * (n / r) := by omega
    rw [this, Int.add_mul_emod_self_left]
    exact Int.emod_eq_of_lt (by omega) (by omega)

set_option maxHeartbeats 4000000 in
theorem plays_any (most refill : Int) (A : Option Addr) (n c : Nat) (l : List Bool) (w : World) (r : Reads w (fun k => k < w.heap.size) 1 A n (bools l)) (hn : n ≤ 140737488355328) :
    Calls Try.prog 5 #[.int .i64 most, .int .i64 refill, .slice A n c] w fun e w' => e = .returned (.bool true) ∧ Below w.heap.size w w' := by
  have R := Lib.hid r
  clear r
  by_cases hbig : 500 < n
  · go_enter Try.func5, Try.ntmps5
    go_wp2_with (go_at_call 8; refine (known_any _).mono ?_; rintro e w' ⟨rfl, hb⟩)
    go_ret
    exact ⟨rfl, hb⟩
  by_cases hbad : most < 0 ∨ 64 < most ∨ refill < 1 ∨ 100 < refill
  · have HN := Lib.hid (newbk_no most refill w hbad)
    have HB := Lib.hid hbad
    clear hbad
    by_cases a1 : most < 0
    case pos =>
      go_enter Try.func5, Try.ntmps5
      go_wp2_with (first | (go_at_call 13; refine (HN.out).mono ?_; rintro e w' ⟨rfl, rfl⟩) | (go_at_call 8; refine (known_any _).mono ?_; rintro e w' ⟨rfl, hb⟩))
      go_ret
      exact ⟨rfl, hb⟩
    by_cases a2 : 64 < most
    case pos =>
      go_enter Try.func5, Try.ntmps5
      go_wp2_with (first | (go_at_call 13; refine (HN.out).mono ?_; rintro e w' ⟨rfl, rfl⟩) | (go_at_call 8; refine (known_any _).mono ?_; rintro e w' ⟨rfl, hb⟩))
      go_ret
      exact ⟨rfl, hb⟩
    by_cases a3 : refill < 1
    case pos =>
      go_enter Try.func5, Try.ntmps5
      go_wp2_with (first | (go_at_call 13; refine (HN.out).mono ?_; rintro e w' ⟨rfl, rfl⟩) | (go_at_call 8; refine (known_any _).mono ?_; rintro e w' ⟨rfl, hb⟩))
      go_ret
      exact ⟨rfl, hb⟩
    have a4 : 100 < refill := by rcases HB.out with h | h | h | h <;> omega
    go_enter Try.func5, Try.ntmps5
    go_wp2_with (first | (go_at_call 13; refine (HN.out).mono ?_; rintro e w' ⟨rfl, rfl⟩) | (go_at_call 8; refine (known_any _).mono ?_; rintro e w' ⟨rfl, hb⟩))
    go_ret
    exact ⟨rfl, hb⟩
  obtain ⟨o1, o2, o3, o4⟩ : 0 ≤ most ∧ most ≤ 64 ∧ 1 ≤ refill ∧ refill ≤ 100 := by omega
  clear hbad
  have hr0 : (refill == 0) = false := by simp; omega
  go_enter Try.func5, Try.ntmps5
  go_wp2_with fail
  refine (newbk_yes most refill w o1 o2 o3 o4).mono ?_
  rintro e w1 ⟨rfl, hw1⟩
  have hb1 : Below w.heap.size w w1 := by rw [hw1]; exact (Below.refl _ _).alloc (Nat.le_refl _) _
  have hk1 : IsBk w1 w.heap.size most refill most 0 := by rw [hw1]; exact Blk.new _ _ _
  have hlt1 : w.heap.size < w1.heap.size := by rw [hw1]; simp
  have K1 := Lib.hid hk1
  clear hw1 hk1
  go_wp2_with fail
  go_loopw [9, 10, 11] (fun hv tv i wr => ∃ (k N : Nat) (has tk : Int), k ≤ n ∧ i = .int .i64 k ∧ hv = .int .i64 has ∧ tv = .int .i64 N ∧ N ≤ k ∧ Below w.heap.size w wr ∧ w.heap.size < wr.heap.size ∧ BkOk most refill has tk ∧ IsBk wr w.heap.size most refill has tk ∧ (N : Int) % refill = tk) (fun _ _ i _ => n - (intOf i).toNat)
  case atStart => exact ⟨0, 0, most, 0, Nat.zero_le _, rfl, rfl, rfl, Nat.le_refl _, hb1, hlt1, ⟨o1, o2, o3, o4, o1, Int.le_refl _, Int.le_refl _, by omega⟩, K1.out, by simp⟩
  case round =>
    obtain ⟨k, N, has, tk, hk, rfl, rfl, rfl, hNk, hbr, hlr, ok, hkr, hmod⟩ := hrel
    have KR := Lib.hid hkr
    have OK := Lib.hid ok
    have HM := Lib.hid hmod
    obtain ⟨_, _, _, _, o5, o6, o7, o8⟩ := ok
    clear hkr hmod
    by_cases hlt : k < n
    · obtain ⟨ad, x, rfl, _, hc⟩ := reads_bool (R.out.keep (Same.ofBelow (hbr.trans ((Below.refl _ wr).alloc (Nat.le_of_lt hlr) (.cells #[.int .i64 most, .int .i64 refill, .int .i64 has, .int .i64 tk] 54))) fun _ h => h)) hlt
      have hi0 : (0 : Int) ≤ k := by omega
      have hi1 : (k : Int) < n := by omega
      have hN0 : (0 : Int) ≤ N := by omega
      have hN1 : (0 : Int) ≤ (N : Int) + 1 := by omega
      have hhas : has ≤ 64 := by omega
      go_wp2_with fail
      refine (bcopy_any _ most refill has tk _ KR.out OK.out).mono ?_
      rintro e w2 ⟨rfl, hw2⟩
      have hb2 : Below wr.heap.size wr w2 := by rw [hw2]; exact (Below.refl _ _).alloc (Nat.le_refl _) _
      have hk2 : IsBk w2 wr.heap.size most refill has tk := by rw [hw2]; exact Blk.new _ _ _
      have hkq : IsBk w2 w.heap.size most refill has tk := Blk.below KR.out hb2 hlr
      rw [← hw2] at hc
      have hbw : Below w.heap.size w w2 := hbr.trans (hb2.mono (Nat.le_of_lt hlr))
      have hl2 : w.heap.size < w2.heap.size := Nat.lt_of_lt_of_le hlr hb2.size
      have HC := Lib.hid (has_any _ most refill has tk _ hk2)
      have K2 := Lib.hid hkq
      clear hw2 hk2 hkq hb2
      go_wp2_with fail
      refine (HC.out).mono ?_
      rintro e w' ⟨rfl, rfl⟩
      cases x
      · -- a tick
        have hmn := mod_step HM.out o7 o8
        by_cases ht : tk + 1 = refill
        · have hz : ((((N : Nat) : Int) + 1) % refill == 0) = true := by rw [hmn, if_pos ht]; rfl
          have HT := Lib.hid ht
          have HMN := Lib.hid hmn
          clear ht hmn
          go_wp2_with fail
          refine (tick_any _ most refill has tk _ K2.out OK.out).mono ?_
          rintro e w9 ⟨rfl, hk9, hu9⟩
          have hb9 := below_only hbw hu9 (Nat.le_refl _) hbw.size
          have hl9 := Nat.lt_of_lt_of_le hl2 hu9.size
          by_cases hm : has < most
          · have e1 : tickH most refill has tk = has + 1 := by simp [tickH, HT.out]; omega
            rw [e1] at hk9
            have H9 := Lib.hid (has_any _ most refill (has + 1) _ _ hk9)
            have K9 := Lib.hid hk9
            clear hk9 hu9 e1
            go_wp2_with fail
            refine (H9.out).mono ?_
            rintro e w' ⟨rfl, rfl⟩
            go_wp2
            go_roundw
            case rel => exact ⟨k + 1, N + 1, has + 1, tickT refill tk, by omega, by go_num, rfl, by go_num, by omega, hb9, hl9, by have := tick_ok OK.out; simpa [tickH, HT.out, show min (has + 1) most = has + 1 by omega] using this, K9.out, by simp only [tickT, if_pos HT.out]; simpa [HT.out] using HMN.out⟩
            case measure => simp [intOf]; omega
          · have e1 : tickH most refill has tk = has := by simp [tickH, HT.out]; omega
            rw [e1] at hk9
            have H9 := Lib.hid (has_any _ most refill has _ _ hk9)
            have K9 := Lib.hid hk9
            clear hk9 hu9 e1
            go_wp2_with fail
            refine (H9.out).mono ?_
            rintro e w' ⟨rfl, rfl⟩
            go_wp2
            go_roundw
            case rel => exact ⟨k + 1, N + 1, has, tickT refill tk, by omega, by go_num, rfl, by go_num, by omega, hb9, hl9, by have := tick_ok OK.out; simpa [tickH, HT.out, show min (has + 1) most = has by omega] using this, K9.out, by simp only [tickT, if_pos HT.out]; simpa [HT.out] using HMN.out⟩
            case measure => simp [intOf]; omega
        · have hz : ((((N : Nat) : Int) + 1) % refill == 0) = false := by rw [hmn, if_neg ht]; simp; omega
          have HT := Lib.hid ht
          have HMN := Lib.hid hmn
          clear ht hmn
          go_wp2_with fail
          refine (tick_any _ most refill has tk _ K2.out OK.out).mono ?_
          rintro e w9 ⟨rfl, hk9, hu9⟩
          have hb9 := below_only hbw hu9 (Nat.le_refl _) hbw.size
          have hl9 := Nat.lt_of_lt_of_le hl2 hu9.size
          have e1 : tickH most refill has tk = has := by simp [tickH, HT.out]
          rw [e1] at hk9
          have H9 := Lib.hid (has_any _ most refill has _ _ hk9)
          have K9 := Lib.hid hk9
          clear hk9 hu9 e1
          go_wp2_with fail
          refine (H9.out).mono ?_
          rintro e w' ⟨rfl, rfl⟩
          go_wp2
          go_roundw
          case rel => exact ⟨k + 1, N + 1, has, tickT refill tk, by omega, by go_num, rfl, by go_num, by omega, hb9, hl9, by have := tick_ok OK.out; simpa [tickH, HT.out] using this, K9.out, by simp only [tickT, if_neg HT.out]; simpa [HT.out] using HMN.out⟩
          case measure => simp [intOf]; omega
      · -- one is to be taken
        by_cases hh : 0 < has
        · go_wp2_with fail
          refine (take_any _ most refill has tk _ K2.out OK.out).mono ?_
          rintro e w9 ⟨he, hk9, hu9⟩
          rw [decide_eq_true (show 0 < has by omega)] at he
          subst he
          have hb9 := below_only hbw hu9 (Nat.le_refl _) hbw.size
          have hl9 := Nat.lt_of_lt_of_le hl2 hu9.size
          have e1 : takeN has = has - 1 := by simp [takeN, hh]
          have ok9 := take_ok OK.out
          rw [e1] at hk9 ok9
          have H9 := Lib.hid (has_any _ most refill (has - 1) _ _ hk9)
          have K9 := Lib.hid hk9
          have O9 := Lib.hid ok9
          clear hk9 hu9 e1 ok9
          go_wp2_with fail
          refine (H9.out).mono ?_
          rintro e w' ⟨rfl, rfl⟩
          go_wp2
          go_roundw
          case rel => exact ⟨k + 1, N, has - 1, tk, by omega, by go_num, rfl, rfl, by omega, hb9, hl9, O9.out, K9.out, HM.out⟩
          case measure => simp [intOf]; omega
        · obtain rfl : has = 0 := by omega
          go_wp2_with fail
          refine (take_any _ most refill 0 tk _ K2.out OK.out).mono ?_
          rintro e w9 ⟨he, hk9, hu9⟩
          obtain rfl : e = .returned (.bool false) := he
          have hb9 := below_only hbw hu9 (Nat.le_refl _) hbw.size
          have hl9 := Nat.lt_of_lt_of_le hl2 hu9.size
          have hk9' : IsBk w9 w.heap.size most refill 0 tk := hk9
          have H9 := Lib.hid (has_any _ most refill 0 _ _ hk9')
          have K9 := Lib.hid hk9'
          clear hk9 hk9' hu9
          go_wp2_with fail
          refine (H9.out).mono ?_
          rintro e w' ⟨rfl, rfl⟩
          go_wp2
          go_roundw
          case rel => exact ⟨k + 1, N, 0, tk, by omega, by go_num, rfl, rfl, by omega, hb9, hl9, OK.out, K9.out, HM.out⟩
          case measure => simp [intOf]; omega
    · go_wp2_with fail
      refine (known_any _).mono ?_
      rintro e w9 ⟨rfl, hb9⟩
      go_wp2
      go_ret
      exact ⟨rfl, hbr.trans (hb9.mono hbr.size)⟩
end Go.Proofs.Ytfckagokeimkmaa
