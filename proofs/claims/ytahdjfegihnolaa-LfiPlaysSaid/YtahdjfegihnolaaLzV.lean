/- Layer 12: Up. -/
import Derived.Test.YtahdjfegihnolaaLzA
namespace Go.Proofs.Ytahdjfegihnolaa
open Go.RowKit Go.Sort
/-- A port as Up tells of it. -/
def upsR (c : Pc) (po : Int) : Int × Bool := if 0 ≤ po ∧ po < 8 ∧ c.up po.toNat = true then (c.cost po.toNat, true) else (0, false)
set_option maxRecDepth 100000 in
set_option maxHeartbeats 2000000 in
attribute [-go_sem] Instr.storeAt Instr.loadAt in
theorem up_any {w : World} {cb mb : Nat} {ov : Value} {room : Int} {c : Pc} (h : Blk w cb 81 (coC room c mb ov)) (po : Int) :
    Calls Try.prog 15 #[.pointer (some ⟨cb, 0, none⟩), .int .i64 po] w fun e w' => e = .returned (.tuple #[.int .i64 (upsR c po).1, .bool (upsR c po).2]) ∧ w = w' := by
  have HTH := Lib.hid (cthere_any h)
  by_cases h0 : 0 ≤ po
  · by_cases h8 : po < 8
    · obtain ⟨q, rfl⟩ : ∃ q : Nat, po = q := ⟨po.toNat, by omega⟩
      have hq : q < 8 := by omega
      have b1 := ld_bC (b := cb) (o := 1 + q) (z := c.up q) ((h.cell (1 + q)).trans (coC_up _ _ _ _ hq))
      have c1 := ld_iC (b := cb) (o := 9 + q) (z := c.cost q) ((h.cell (9 + q)).trans (coC_cost _ _ _ _ hq))
      have hn1 : ¬ (q : Int) < 0 := by omega
      cases hu : c.up q with
      | true =>
        have hr : upsR c (q : Int) = (c.cost q, true) := by unfold upsR; rw [if_pos ⟨h0, h8, hu⟩]; rfl
        have HR := Lib.hid hr
        rw [hu] at b1
        clear hr hu h
        go_enter Try.func15, Try.ntmps15
        go_wp2_with (go_at_call 27; refine HTH.out.mono ?_; rintro e w' ⟨rfl, rfl⟩)
        go_ret2
        exact ⟨by rw [HR.out]; rfl, rfl⟩
      | false =>
        have hr : upsR c (q : Int) = (0, false) := by unfold upsR; rw [if_neg (fun e => by rw [show c.up (q : Int).toNat = false from hu] at e; cases e.2.2)]
        have HR := Lib.hid hr
        rw [hu] at b1
        clear hr hu h
        go_enter Try.func15, Try.ntmps15
        go_wp2_with (go_at_call 27; refine HTH.out.mono ?_; rintro e w' ⟨rfl, rfl⟩)
        go_ret2
        exact ⟨by rw [HR.out]; rfl, rfl⟩
    · have hr : upsR c po = (0, false) := by unfold upsR; rw [if_neg (fun e => h8 e.2.1)]
      have HR := Lib.hid hr
      have hn1 : ¬ po < 0 := by omega
      have hge : (8 : Int) ≤ po := by omega
      clear hr h
      go_enter Try.func15, Try.ntmps15
      go_wp2_with (go_at_call 27; refine HTH.out.mono ?_; rintro e w' ⟨rfl, rfl⟩)
      go_ret2
      exact ⟨by rw [HR.out]; rfl, rfl⟩
  · have hr : upsR c po = (0, false) := by unfold upsR; rw [if_neg (fun e => h0 e.1)]
    have HR := Lib.hid hr
    have hlt : po < 0 := by omega
    clear hr h
    go_enter Try.func15, Try.ntmps15
    go_wp2_with (go_at_call 27; refine HTH.out.mono ?_; rintro e w' ⟨rfl, rfl⟩)
    go_ret2
    exact ⟨by rw [HR.out]; rfl, rfl⟩
end Go.Proofs.Ytahdjfegihnolaa
