/- The chapter's rows: known() answers true. -/
import Derived.Test.YtfckagokeimkmaaBk
import Derived.Test.YtfckagokeimkmaaLnS
import Derived.Lib.SlBytesConst
namespace Go.Proofs.Ytfckagokeimkmaa
open Go.RowKit

set_option maxHeartbeats 2000000 in
theorem known_any (w : World) : Calls Try.prog 8 #[] w fun e w' => e = .returned (.bool true) ∧ Below w.heap.size w w' := by
  have kc := fun (w : World) (C : Array Value) (n c : Nat) => Lib.run_convert_bytes_const (P := Try.prog) w 30 5 C n c Try.underlying30 Try.underlying5
  go_enter Try.func8, Try.ntmps8
  go_wp2_with fail
  refine (newln_s 1 _ (by omega) (by omega)).mono ?_
  rintro e w1 ⟨rfl, hl1, hb1⟩
  have H1 := Lib.hid hl1
  clear hl1
  go_wp2_with fail
  -- Put a
  have hal : Below w1.heap.size w1 (w1.alloc (.cells #[.int .u8 97] 5 (1, 2))) := (Below.refl _ _).alloc (Nat.le_refl _) _
  refine (put_s (H1.out.later hal) _ _ [97] 1 (reads_lit w1 5 #[.int .u8 97] 1 1 (1, 2) rfl) (by omega) (by simp) (by omega) (by omega) (Nat.le_trans hb1.size hal.size)).mono ?_
  rintro e w2 ⟨he, hl2, hb2⟩
  obtain rfl : e = .returned (.int .i64 0) := he
  have hb2' := (hb1.trans (hal.mono hb1.size)).trans hb2
  have H2 := Lib.hid hl2
  clear hl2 hb1 hb2 hal H1
  go_wp2_with fail
  -- Put b
  have hal : Below w2.heap.size w2 (w2.alloc (.cells #[.int .u8 98] 5 (1, 2))) := (Below.refl _ _).alloc (Nat.le_refl _) _
  refine (put_s (H2.out.later hal) _ _ [98] 1 (reads_lit w2 5 #[.int .u8 98] 1 1 (1, 2) rfl) (by omega) (by decide) (by decide) (by decide) (Nat.le_trans hb2'.size hal.size)).mono ?_
  rintro e w3 ⟨he, hl3, hb3⟩
  obtain rfl : e = .returned (.int .i64 5) := he
  have hb3' := (hb2'.trans (hal.mono hb2'.size)).trans hb3
  have hl3' : LineS w.heap.size w3 w.heap.size 1 1 [[97]] := hl3
  have H3 := Lib.hid hl3'
  clear hl3 hl3' hb2' hb3 hal H2
  go_wp2_with fail
  -- Get
  refine (get_s_yes H3.out (by decide) hb3'.size).mono ?_
  rintro e w4 ⟨A, c, rfl, hx4, hl4, hb4⟩
  have hb4' := hb3'.trans hb4
  have H4 := Lib.hid hl4
  have X4 := Lib.hid hx4
  clear hl4 hb3' hb4 hx4 H3
  go_wp2_with fail
  -- Get
  refine (get_s_no H4.out).mono ?_
  rintro e w5 ⟨rfl, rfl⟩
  go_wp2_with fail
  -- NewBucket
  refine (newbk_yes 2 3 _ (by omega) (by omega) (by omega) (by omega)).mono ?_
  rintro e w5 ⟨rfl, hw5⟩
  have hb5 : Below w4.heap.size w4 w5 := by rw [hw5]; exact (Below.refl _ _).alloc (Nat.le_refl _) _
  have hk5 : IsBk w5 w4.heap.size 2 3 2 0 := by rw [hw5]; exact Blk.new _ _ _
  have hlt : w4.heap.size < w5.heap.size := by rw [hw5]; simp
  have K5 := Lib.hid hk5
  clear hw5 hk5
  go_wp2_with fail
  -- Take, three times
  refine (take_any _ 2 3 2 0 _ K5.out ⟨by omega, by omega, by omega, by omega, by omega, by omega, by omega, by omega⟩).mono ?_
  rintro e w6 ⟨he, hk6, hu6⟩
  obtain rfl : e = .returned (.bool true) := he
  have hb6 := below_only hb5 hu6 (Nat.le_refl _) hb5.size
  have hlt6 := Nat.lt_of_lt_of_le hlt hu6.size
  have K6 := Lib.hid (show IsBk w6 w4.heap.size 2 3 1 0 from hk6)
  clear hk6 hu6 hb5 hlt K5
  go_wp2_with fail
  refine (take_any _ 2 3 1 0 _ K6.out ⟨by omega, by omega, by omega, by omega, by omega, by omega, by omega, by omega⟩).mono ?_
  rintro e w7 ⟨he, hk7, hu7⟩
  obtain rfl : e = .returned (.bool true) := he
  have hb7 := below_only hb6 hu7 (Nat.le_refl _) hb6.size
  have hlt7 := Nat.lt_of_lt_of_le hlt6 hu7.size
  have K7 := Lib.hid (show IsBk w7 w4.heap.size 2 3 0 0 from hk7)
  clear hk7 hu7 hb6 hlt6 K6
  go_wp2_with fail
  refine (take_any _ 2 3 0 0 _ K7.out ⟨by omega, by omega, by omega, by omega, by omega, by omega, by omega, by omega⟩).mono ?_
  rintro e w8 ⟨he, hk8, hu8⟩
  obtain rfl : e = .returned (.bool false) := he
  have hb8 := below_only hb7 hu8 (Nat.le_refl _) hb7.size
  have hlt8 := Nat.lt_of_lt_of_le hlt7 hu8.size
  have K8 := Lib.hid (show IsBk w8 w4.heap.size 2 3 0 0 from hk8)
  clear hk8 hu8 hb7 hlt7 K7
  go_wp2_with fail
  -- Tick, three times
  go_loopw [14] (fun i wr => ∃ k : Nat, k ≤ 3 ∧ i = .int .i64 k ∧ IsBk wr w4.heap.size 2 3 (if k = 3 then 1 else 0) (if k = 3 then 0 else k) ∧ Below w4.heap.size w4 wr ∧ w4.heap.size < wr.heap.size) (fun i _ => 3 - (intOf i).toNat)
  case atStart => exact ⟨0, by omega, rfl, K8.out, hb8, hlt8⟩
  case round =>
    obtain ⟨k, hk, rfl, hkb, hbr, hlr⟩ := hrel
    have KB := Lib.hid hkb
    clear hkb
    by_cases h3 : k < 3
    · go_wp2_with fail
      refine (tick_any _ 2 3 0 k _ (by have := KB.out; rw [if_neg (by omega), if_neg (by omega)] at this; exact this) ⟨by omega, by omega, by omega, by omega, by omega, by omega, by omega, by omega⟩).mono ?_
      rintro e w9 ⟨rfl, hk9, hu9⟩
      have hb9 := below_only hbr hu9 (Nat.le_refl _) hbr.size
      have hlt9 := Nat.lt_of_lt_of_le hlr hu9.size
      have K9 := Lib.hid hk9
      clear hk9 hu9
      go_wp2
      go_roundw
      case rel =>
        refine ⟨k + 1, by omega, by go_num, ?_, hb9, hlt9⟩
        have := K9.out
        simp only [tickH, tickT] at this
        by_cases h2 : k = 2
        · subst h2; exact this
        · rw [if_neg (by omega), if_neg (by omega)] at this
          rw [if_neg (by omega), if_neg (by omega)]
          exact this
      case measure => simp [intOf]; omega
    · obtain rfl : k = 3 := by omega
      have hs1 : (convert 30 9 (.slice A 1 c)).run Try.prog wr = .ok (.string ⟨#[97]⟩) wr := run_str wr _ A [97] c (Reads.of_own (own_later X4.out hbr rfl) (I := fun _ => True) (fun _ _ => trivial))
      have hD := dropped_s (H4.out.later hbr)
      have HD := Lib.hid hD
      have KB2 := Lib.hid (show IsBk wr w4.heap.size 2 3 1 0 from KB.out)
      clear hD KB H4 X4 K8
      go_wp2_with fail
      refine (HD.out).mono ?_
      rintro e w' ⟨rfl, rfl⟩
      go_wp2_with fail
      refine (take_any _ 2 3 1 0 _ KB2.out ⟨by omega, by omega, by omega, by omega, by omega, by omega, by omega, by omega⟩).mono ?_
      rintro e w9 ⟨he, hk9, hu9⟩
      obtain rfl : e = .returned (.bool true) := he
      have hb9 := below_only hbr hu9 (Nat.le_refl _) hbr.size
      clear hk9 hu9
      go_wp2
      go_ret
      exact ⟨rfl, hb4'.trans (hb9.mono hb4'.size)⟩
end Go.Proofs.Ytfckagokeimkmaa
