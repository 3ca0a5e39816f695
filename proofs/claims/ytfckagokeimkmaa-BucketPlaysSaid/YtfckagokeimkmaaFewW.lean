/- The walk of BucketFew. -/
import Derived.Test.YtfckagokeimkmaaKn
namespace Go.Proofs.Ytfckagokeimkmaa
open Go.RowKit

theorem few_end {t had q n refill t0 tk : Int} (h1 : t ≤ had + q) (h2 : t0 + n = refill * q + tk) (h3 : 0 ≤ tk) (h4 : t0 < refill) (h5 : 1 ≤ refill) : t ≤ had + n / refill + 1 := by
  have : q - 1 ≤ n / refill := by
    refine (Int.le_ediv_iff_mul_le (by omega)).2 ?_
    rw [Int.mul_comm, Int.mul_sub, Int.mul_one]
    omega
  omega

def bools (l : List Bool) : List Value := l.map Value.bool

theorem reads_bool {w : World} {I : Nat → Prop} {A : Option Addr} {n k : Nat} {l : List Bool} (h : Reads w I 1 A n (bools l)) (hk : k < n) : ∃ ad x, A = some ad ∧ l[k]? = some x ∧ w.cell? (ad.add k) = some (.bool x) := by
  obtain ⟨ad, u, e, _, hu, hc⟩ := h.at_ hk
  simp only [bools, List.getElem?_map, Option.map_eq_some_iff] at hu
  obtain ⟨x, hx, rfl⟩ := hu
  exact ⟨ad, x, e, hx, hc⟩

set_option maxHeartbeats 4000000 in
theorem few_any (most refill : Int) (A1 A2 : Option Addr) (n1 n2 c1 c2 : Nat) (l1 l2 : List Bool) (w : World) (r1 : Reads w (fun k => k < w.heap.size) 1 A1 n1 (bools l1)) (r2 : Reads w (fun k => k < w.heap.size) 1 A2 n2 (bools l2)) (b1 : n1 ≤ 140737488355328) (b2 : n2 ≤ 140737488355328) :
    Calls Try.prog 4 #[.int .i64 most, .int .i64 refill, .slice A1 n1 c1, .slice A2 n2 c2] w fun e w' => e = .returned (.bool true) ∧ Below w.heap.size w w' := by
  have R1 := Lib.hid r1
  have R2 := Lib.hid r2
  clear r1 r2
  by_cases hbig : 500 < n1 + n2
  · go_enter Try.func4, Try.ntmps4
    go_wp2_with (go_at_call 8; refine (known_any _).mono ?_; rintro e w' ⟨rfl, hb⟩)
    go_ret
    exact ⟨rfl, hb⟩
  by_cases hbad : most < 0 ∨ 64 < most ∨ refill < 1 ∨ 100 < refill
  · have HN := Lib.hid (newbk_no most refill w hbad)
    clear hbad
    go_enter Try.func4, Try.ntmps4
    go_wp2_with (first | (go_at_call 13; refine (HN.out).mono ?_; rintro e w' ⟨rfl, rfl⟩) | (go_at_call 8; refine (known_any _).mono ?_; rintro e w' ⟨rfl, hb⟩))
    go_ret
    exact ⟨rfl, hb⟩
  obtain ⟨o1, o2, o3, o4⟩ : 0 ≤ most ∧ most ≤ 64 ∧ 1 ≤ refill ∧ refill ≤ 100 := by omega
  clear hbad
  go_enter Try.func4, Try.ntmps4
  go_wp2_with fail
  refine (newbk_yes most refill w o1 o2 o3 o4).mono ?_
  rintro e w1 ⟨rfl, hw1⟩
  have hb1 : Below w.heap.size w w1 := by rw [hw1]; exact (Below.refl _ _).alloc (Nat.le_refl _) _
  have hk1 : IsBk w1 w.heap.size most refill most 0 := by rw [hw1]; exact Blk.new _ _ _
  have K1 := Lib.hid hk1
  clear hw1 hk1
  go_wp2_with fail
  go_loopw [11] (fun i wr => ∃ k : Nat, k ≤ n1 ∧ i = .int .i64 k ∧ Below w.heap.size w wr ∧ ∃ has tk, BkOk most refill has tk ∧ IsBk wr w.heap.size most refill has tk) (fun i _ => n1 - (intOf i).toNat)
  case atStart => exact ⟨0, Nat.zero_le _, rfl, hb1, most, 0, ⟨o1, o2, o3, o4, o1, Int.le_refl _, Int.le_refl _, by omega⟩, K1.out⟩
  case round =>
    obtain ⟨k, hk, rfl, hbr, has, tk, ok, hkr⟩ := hrel
    have KR := Lib.hid hkr
    have OK := Lib.hid ok
    clear hkr ok
    by_cases hlt : k < n1
    · obtain ⟨ad, x, rfl, _, hc⟩ := reads_bool (R1.out.keep (Same.ofBelow hbr fun _ h => h)) hlt
      have hi0 : (0 : Int) ≤ k := by omega
      have hi1 : (k : Int) < n1 := by omega
      cases x
      · go_wp2_with fail
        refine (tick_any _ most refill has tk _ KR.out OK.out).mono ?_
        rintro e w9 ⟨rfl, hk9, hu9⟩
        have hb9 := below_only hbr hu9 (Nat.le_refl _) hbr.size
        have K9 := Lib.hid hk9
        clear hk9 hu9
        go_wp2
        go_roundw
        case rel => exact ⟨k + 1, by omega, by go_num, hb9, _, _, tick_ok OK.out, K9.out⟩
        case measure => simp [intOf]; omega
      · go_wp2_with fail
        refine (take_any _ most refill has tk _ KR.out OK.out).mono ?_
        rintro e w9 ⟨rfl, hk9, hu9⟩
        have hb9 := below_only hbr hu9 (Nat.le_refl _) hbr.size
        have K9 := Lib.hid hk9
        clear hk9 hu9
        go_wp2
        go_roundw
        case rel => exact ⟨k + 1, by omega, by go_num, hb9, _, _, take_ok OK.out, K9.out⟩
        case measure => simp [intOf]; omega
    · obtain rfl : k = n1 := by omega
      clear hlt hk
      go_wp2_with fail
      refine (has_any _ most refill has tk _ KR.out).mono ?_
      rintro e w2 ⟨rfl, rfl⟩
      obtain ⟨o5, o6, o7, o8⟩ := OK.out.2.2.2.2
      have hh64 : has ≤ 64 := by omega
      go_wp2_with fail
      obtain ⟨wo, hwo⟩ : ∃ wo : World, wo = wr := ⟨_, rfl⟩
      rw [← hwo] at hbr KR ⊢
      clear hwo
      go_loopw [13, 14, 15] (fun t n i wr => ∃ k T N : Nat, k ≤ n2 ∧ i = .int .i64 k ∧ t = .int .i64 T ∧ n = .int .i64 N ∧ T ≤ k ∧ N ≤ k ∧ Below w.heap.size w wr ∧ ∃ h tk2 q p : Int, BkOk most refill h tk2 ∧ IsBk wr w.heap.size most refill h tk2 ∧ h + T ≤ has + q ∧ p = refill * q ∧ tk + N = p + tk2) (fun _ _ i _ => n2 - (intOf i).toNat)
      case atStart => exact ⟨0, 0, 0, Nat.zero_le _, rfl, rfl, rfl, Nat.le_refl _, Nat.le_refl _, hbr, has, tk, 0, 0, OK.out, KR.out, by omega, by simp, by omega⟩
      case round =>
        obtain ⟨k, T, N, hk, rfl, rfl, rfl, hTk, hNk, hbr2, h, tk2, q, p, ok2, hkr2, e1, e2, e3⟩ := hrel
        have KR2 := Lib.hid hkr2
        have OK2 := Lib.hid ok2
        have E := Lib.hid (And.intro e1 (And.intro e2 e3))
        clear hkr2 ok2 e1 e2 e3
        by_cases hlt : k < n2
        · obtain ⟨ad, x, rfl, _, hc⟩ := reads_bool (R2.out.keep (Same.ofBelow hbr2 fun _ h => h)) hlt
          have hi0 : (0 : Int) ≤ k := by omega
          have hi1 : (k : Int) < n2 := by omega
          cases x
          · go_wp2_with fail
            refine (tick_any _ most refill h tk2 _ KR2.out OK2.out).mono ?_
            rintro e w9 ⟨rfl, hk9, hu9⟩
            have hb9 := below_only hbr2 hu9 (Nat.le_refl _) hbr2.size
            have K9 := Lib.hid hk9
            clear hk9 hu9
            go_wp2
            go_roundw
            case rel =>
              obtain ⟨e1, e2, e3⟩ := E.out
              by_cases ht : tk2 + 1 = refill
              · refine ⟨k + 1, T, N + 1, by omega, by go_num, rfl, by go_num, by omega, by omega, hb9, _, _, q + 1, p + refill, tick_ok OK2.out, K9.out, ?_, by rw [e2, Int.mul_add, Int.mul_one], ?_⟩
                · simp only [tickH, if_pos ht]; omega
                · simp only [tickT, if_pos ht]; omega
              · refine ⟨k + 1, T, N + 1, by omega, by go_num, rfl, by go_num, by omega, by omega, hb9, _, _, q, p, tick_ok OK2.out, K9.out, ?_, e2, ?_⟩
                · simp only [tickH, if_neg ht]; omega
                · simp only [tickT, if_neg ht]; omega
            case measure => simp [intOf]; omega
          · by_cases hh : 0 < h
            · go_wp2_with fail
              refine (take_any _ most refill h tk2 _ KR2.out OK2.out).mono ?_
              rintro e w9 ⟨he, hk9, hu9⟩
              rw [decide_eq_true hh] at he
              subst he
              have hb9 := below_only hbr2 hu9 (Nat.le_refl _) hbr2.size
              have K9 := Lib.hid hk9
              clear hk9 hu9
              go_wp2
              go_roundw
              case rel =>
                obtain ⟨e1, e2, e3⟩ := E.out
                refine ⟨k + 1, T + 1, N, by omega, by go_num, by go_num, rfl, by omega, by omega, hb9, _, _, q, p, take_ok OK2.out, K9.out, ?_, e2, e3⟩
                simp only [takeN, if_pos hh]; omega
              case measure => simp [intOf]; omega
            · go_wp2_with fail
              refine (take_any _ most refill h tk2 _ KR2.out OK2.out).mono ?_
              rintro e w9 ⟨he, hk9, hu9⟩
              rw [decide_eq_false (show ¬ 0 < h by omega)] at he
              subst he
              have hb9 := below_only hbr2 hu9 (Nat.le_refl _) hbr2.size
              have K9 := Lib.hid hk9
              clear hk9 hu9
              go_wp2
              go_roundw
              case rel =>
                obtain ⟨e1, e2, e3⟩ := E.out
                refine ⟨k + 1, T, N, by omega, by go_num, rfl, rfl, by omega, by omega, hb9, _, _, q, p, take_ok OK2.out, K9.out, ?_, e2, e3⟩
                simp only [takeN, if_neg (show ¬ 0 < h by omega)]; omega
              case measure => simp [intOf]; omega
        · obtain rfl : k = n2 := by omega
          have hr0 : (refill == 0) = false := by simp; omega
          have hN0 : (0 : Int) ≤ (N : Int) := by omega
          have hq : (T : Int) ≤ has + N / refill + 1 := few_end (q := q) (t0 := tk) (tk := tk2) (by have := E.out.1; have := OK2.out.2.2.2.2.1; omega) (by have := E.out.2; omega) OK2.out.2.2.2.2.2.2.1 o8 o3
          have hq0 : 0 ≤ (N : Int) / refill := Int.ediv_nonneg hN0 (by omega)
          have hq1 : (N : Int) / refill ≤ N := Int.ediv_le_self _ hN0
          go_wp2_with fail
          refine (known_any _).mono ?_
          rintro e w9 ⟨rfl, hb9⟩
          go_wp2
          go_ret
          exact ⟨rfl, hbr2.trans (hb9.mono hbr2.size)⟩
end Go.Proofs.Ytfckagokeimkmaa
