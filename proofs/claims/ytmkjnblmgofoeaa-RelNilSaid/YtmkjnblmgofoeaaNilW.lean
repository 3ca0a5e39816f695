/- The walk of RelNil. -/
import Derived.Test.YtmkjnblmgofoeaaKnR
import Derived.Test.YtmkjnblmgofoeaaNilC
namespace Go.Proofs.Ytmkjnblmgofoeaa
open Go.RowKit

set_option maxRecDepth 8000 in
set_option maxHeartbeats 4000000 in
theorem relnil_any (w : World) : Calls Try.prog 7 #[] w fun e w' => e = .returned (.bool true) ∧ Below w.heap.size w w' := by
  go_enter Try.func7, Try.ntmps7
  go_wp2_with fail
  obtain ⟨w0, hw0⟩ : ∃ w0, w0 = (w.alloc (.cells #[.int .i64 0, .int .u64 0, .slice none 0 0, .int .i64 0, .int .u64 0, .bool false, .int .i64 0] 63)).alloc (.cells #[.pointer none, .pointer (some ⟨w.heap.size, 0, none⟩)] 24) := ⟨_, rfl⟩
  have hb0 : Below w.heap.size w w0 := by rw [hw0]; exact ((Below.refl _ _).alloc (Nat.le_refl _) _).alloc (by simp) _
  have hz0 : Blk w0 w.heap.size 63 (strC ssZ (.slice none 0 0)) := by rw [hw0]; exact (Blk.new _ _ _).alloc _
  have hl0 : Blk w0 (w.heap.size + 1) 24 #[.pointer none, .pointer (some ⟨w.heap.size, 0, none⟩)] := by
    rw [hw0]
    have := Blk.new (w.alloc (.cells #[.int .i64 0, .int .u64 0, .slice none 0 0, .int .i64 0, .int .u64 0, .bool false, .int .i64 0] 63)) 24 #[.pointer none, .pointer (some ⟨w.heap.size, 0, none⟩)]
    rwa [World.size_alloc] at this
  have HB0 := Lib.hid hb0
  have HZ0 := Lib.hid hz0
  have HL0 := Lib.hid hl0
  rw [← hw0]
  clear hw0 hb0 hz0 hl0
  go_loopw [3] (fun i wr => ∃ k : Nat, i = .int .i64 (k : Int) ∧ k ≤ 2 ∧ Below w.heap.size w wr ∧ Blk wr w.heap.size 63 (strC ssZ (.slice none 0 0)) ∧ Blk wr (w.heap.size + 1) 24 #[.pointer none, .pointer (some ⟨w.heap.size, 0, none⟩)]) (fun i _ => 2 - (intOf i).toNat)
  case atStart => exact ⟨0, rfl, by omega, HB0.out, HZ0.out, HL0.out⟩
  case round =>
    obtain ⟨k, rfl, hk, hb, hz, hl⟩ := hrel
    have hlt : w.heap.size ≤ wr.heap.size := hb.size
    have ZS := Lib.hid hz
    have ZL := Lib.hid hl
    have hl0 : wr.cell? ⟨w.heap.size + 1, 0, none⟩ = some (.pointer none) := hl.cell 0
    have hl1 : wr.cell? ⟨w.heap.size + 1, 1, none⟩ = some (.pointer (some ⟨w.heap.size, 0, none⟩)) := hl.cell 1
    clear hz hl
    by_cases h0 : k = 0
    · subst h0
      have hp : NilP wr (.pointer none) := .inl rfl
      have PN := Lib.hid hp
      clear hp
      go_wp2_with fail
      refine (send_nil wr _ none 0 0 PN.out).mono ?_
      rintro e w' ⟨rfl, rfl⟩
      go_wp2_with fail
      refine (take_nil wr _ 0 0 none 0 0 PN.out).mono ?_
      rintro e w2 ⟨rfl, hw2⟩
      have hb2 : Below wr.heap.size wr w2 := by rw [hw2]; exact (Below.refl _ _).alloc (Nat.le_refl _) _
      have hp2 : NilP w2 (.pointer none) := by rw [hw2]; exact PN.out.alloc _
      have PN2 := Lib.hid hp2
      have hz2 := ZS.out.later hb2 (by trivial)
      have hl2 := ZL.out.later hb2 (by trivial)
      have st2 : Below w.heap.size w w2 := hb.trans (hb2.mono hlt)
      have ZS2 := Lib.hid hz2
      have ZL2 := Lib.hid hl2
      clear hw2 hb2 hp2 hz2 hl2
      go_wp2_with (first
        | (go_at_call 14; refine (tick_nil w2 _ PN2.out).mono ?_; rintro e w' ⟨rfl, rfl⟩)
        | (go_at_call 11; refine (due_nil w2 _ PN2.out).mono ?_; rintro e w' ⟨rfl, rfl⟩)
        | (go_at_call 17; refine (left_nil w2 _ PN2.out).mono ?_; rintro e w' ⟨rfl, rfl⟩)
        | (go_at_call 15; refine (acked_nil w2 _ PN2.out).mono ?_; rintro e w' ⟨rfl, rfl⟩)
        | (go_at_call 16; refine (taken_nil w2 _ PN2.out).mono ?_; rintro e w' ⟨rfl, rfl⟩)
        | (go_at_call 18; refine (copy_nil w2 _ PN2.out).mono ?_; rintro e w' ⟨rfl, rfl⟩))
      go_roundw
      case rel => exact ⟨1, rfl, by omega, st2, ZS2.out, ZL2.out⟩
      case measure => simp [intOf]
    by_cases h1 : k = 1
    · subst h1
      have hp : NilP wr (.pointer (some ⟨w.heap.size, 0, none⟩)) := .inr ⟨_, rfl, ZS.out⟩
      have PN := Lib.hid hp
      clear hp
      go_wp2_with fail
      refine (send_nil wr _ none 0 0 PN.out).mono ?_
      rintro e w' ⟨rfl, rfl⟩
      go_wp2_with fail
      refine (take_nil wr _ 0 0 none 0 0 PN.out).mono ?_
      rintro e w2 ⟨rfl, hw2⟩
      have hb2 : Below wr.heap.size wr w2 := by rw [hw2]; exact (Below.refl _ _).alloc (Nat.le_refl _) _
      have hp2 : NilP w2 (.pointer (some ⟨w.heap.size, 0, none⟩)) := by rw [hw2]; exact PN.out.alloc _
      have PN2 := Lib.hid hp2
      have hz2 := ZS.out.later hb2 (by trivial)
      have hl2 := ZL.out.later hb2 (by trivial)
      have st2 : Below w.heap.size w w2 := hb.trans (hb2.mono hlt)
      have ZS2 := Lib.hid hz2
      have ZL2 := Lib.hid hl2
      clear hw2 hb2 hp2 hz2 hl2
      go_wp2_with (first
        | (go_at_call 14; refine (tick_nil w2 _ PN2.out).mono ?_; rintro e w' ⟨rfl, rfl⟩)
        | (go_at_call 11; refine (due_nil w2 _ PN2.out).mono ?_; rintro e w' ⟨rfl, rfl⟩)
        | (go_at_call 17; refine (left_nil w2 _ PN2.out).mono ?_; rintro e w' ⟨rfl, rfl⟩)
        | (go_at_call 15; refine (acked_nil w2 _ PN2.out).mono ?_; rintro e w' ⟨rfl, rfl⟩)
        | (go_at_call 16; refine (taken_nil w2 _ PN2.out).mono ?_; rintro e w' ⟨rfl, rfl⟩)
        | (go_at_call 18; refine (copy_nil w2 _ PN2.out).mono ?_; rintro e w' ⟨rfl, rfl⟩))
      go_roundw
      case rel => exact ⟨2, rfl, by omega, st2, ZS2.out, ZL2.out⟩
      case measure => simp [intOf]
    obtain rfl : k = 2 := by omega
    go_wp2_with (go_at_call 8; refine (known_any _).mono ?_; rintro e w' ⟨rfl, hb3⟩)
    go_ret
    exact ⟨rfl, hb.trans (hb3.mono hlt)⟩
end Go.Proofs.Ytmkjnblmgofoeaa
