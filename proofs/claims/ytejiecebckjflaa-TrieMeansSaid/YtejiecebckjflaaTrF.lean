/- Tries: going over with nothing wanted (once). -/
import Derived.Test.YtejiecebckjflaaTrL
namespace Go.Proofs.Ytejiecebckjflaa
open Go.RowKit Go.Sort Go.BigFrame
attribute [local go_sem] Oper.semAt_some

set_option maxRecDepth 100000 in
set_option maxHeartbeats 8000000 in
theorem once_nil (f : Value) (w : World) (I : Nat → Prop) (hI : ∀ k, I k → k < w.heap.size) (h : SeqOf w I f []) : Calls Try.prog 24 #[f, .slice none 0 0, .int .i64 0] w fun e w' => e = .returned (.bool true) ∧ Below w.heap.size w w' := by
  obtain ⟨W0, hW0⟩ : ∃ W0, W0 = (((w.alloc (.cells #[.slice none 0 0] 46)).alloc (.cells #[.int .i64 0] 3)).alloc (.cells #[.bool false] 4)).alloc (.cells #[.int .i64 0] 3) := ⟨_, rfl⟩
  have hB0 : Below w.heap.size w W0 := by
    rw [hW0]
    exact ((((Below.refl _ _).alloc (Nat.le_refl _) _).alloc (by simp <;> omega) _).alloc (by simp <;> omega) _).alloc (by simp <;> omega) _
  have h0 : SeqOf W0 I f [] := h.keep ⟨hB0.size, fun k hk _ => hB0.block k (hI k hk)⟩
  obtain ⟨Bx, rfl, hst⟩ := h0.stops (by decide) Fence.wide 4 trivial rfl (by omega)
  have HST := Lib.hid hst
  have HW0 := Lib.hid hW0
  have HB0 := Lib.hid hB0
  clear hst h h0 hB0 hW0
  have hfn : ∀ (w2 : World) (b : Nat), (binOp .eql 51 (.func (.func 52) #[] #[.pointer (some ⟨b, 0, none⟩)]) Value.nilFunc).run Try.prog w2 = .ok (.bool false) w2 := fun w2 b => by kernel_rfl
  refine (callsIn_wide (n := 5)).1 ?_
  refine callsIn_of_wp_marks Try.func24 rfl trivial ?_ rfl
  simp only [Try.ntmps24, List.size_toArray, List.length_cons, List.length_nil, Nat.reduceAdd, Nat.reduceSub, Array.replicate_succ, Array.replicate_zero, List.push_toArray, List.append_toArray, List.nil_append, List.cons_append]
  gi_wp2_with fail
  rw [← HW0.out]
  have HZ0 : W0.heap.size = w.heap.size + 1 + 1 + 1 + 1 := by rw [HW0.out]; simp
  have hl0 : Blk W0 w.heap.size 46 #[.slice none 0 0] := by rw [HW0.out]; exact (((Blk.new _ _ _).alloc _).alloc _).alloc _
  have hn0 : Blk W0 (w.heap.size + 1 + 1 + 1) 3 #[.int .i64 0] := by
    rw [HW0.out]
    have := Blk.new (((w.alloc (.cells #[.slice none 0 0] 46)).alloc (.cells #[.int .i64 0] 3)).alloc (.cells #[.bool false] 4)) 3 #[.int .i64 0]
    simpa using this
  have hr0 : Blk W0 (w.heap.size + 1 + 1) 4 #[.bool false] := by
    rw [HW0.out]
    have := (Blk.new ((w.alloc (.cells #[.slice none 0 0] 46)).alloc (.cells #[.int .i64 0] 3)) 4 #[.bool false]).alloc (.cells #[.int .i64 0] 3)
    simpa using this
  refine wpIn_rangeFunc_ownH rfl (by omega) (gf := 52) (lb := #[.pointer (some ⟨Bx, 0, none⟩)]) rfl trivial (enters_of Try.func52 (by kernel_rfl) rfl) HST.out (fun h k => same_t h k) (same_b (fun k hk => hk.2)) (Below.refl _ _) (fun _ => rfl)
    (fun pre W => Below w.heap.size w W ∧ Blk W w.heap.size 46 #[.slice none 0 0] ∧ Blk W (w.heap.size + 1 + 1 + 1) 3 #[.int .i64 0] ∧ Blk W (w.heap.size + 1 + 1) 4 #[.bool false]) (fun _ _ _ => False) (fun s W W' row hs hg hr => ⟨hs.1.grown hg hs.1.size (fun k e => Nat.le_trans (by omega) (hr k e).1), blk_own hs.2.1 hg fun r e => (hr r e).2, blk_own hs.2.2.1 hg fun r e => (hr r e).2, blk_own hs.2.2.2 hg fun r e => (hr r e).2⟩) (fun _ _ _ _ _ hs _ _ => hs) ⟨HB0.out, hl0, hn0, hr0⟩
    (fun x a' W => True) (fun x a' _ W W' row hs hg hr => trivial) ?assign ?body ?done ?stop
  case assign =>
    intro l pre x W K hi hK
    simp only [entV]
    gi_wp2
    exact hK _ _ ((KeepsOthers.alloc W _).from _) (Same.ofBelow ((Below.refl _ W).alloc (Nat.le_refl _) _) fun k hk => Nat.lt_of_lt_of_le (hI k hk.1) hi.1.size) ⟨hi.1.alloc hi.1.size _, hi.2.1.alloc _, hi.2.2.1.alloc _, hi.2.2.2.alloc _⟩ trivial
  case body =>
    rintro l pre x a' W hl hr hi hx hlt
    exact absurd hlt (by simp)
  case stop =>
    rintro D c pre W hD _ h
    exact h.elim
  case done =>
    rintro D ys W hD hys ⟨hb, hl, hn, hr⟩ hK
    have p0 : W.cell? ⟨w.heap.size, 0, none⟩ = some (.slice none 0 0) := hl.cell 0
    have n0 : W.cell? ⟨w.heap.size + 1 + 1 + 1, 0, none⟩ = some (.int .i64 0) := hn.cell 0
    have r0 : W.cell? ⟨w.heap.size + 1 + 1, 0, none⟩ = some (.bool false) := hr.cell 0
    have fr0 : W.frozen? ⟨w.heap.size + 1 + 1, 0, none⟩ = false := hr.frozen 0
    gi_wp2
    have hu := upd_set W (w.heap.size + 1 + 1) 0 (.bool true)
    have hr9 := hr.set_ 0 (.bool true)
    generalize W.setCell ⟨w.heap.size + 1 + 1, 0, none⟩ (.bool true) = w9 at hu hr9 ⊢
    have hDl : D < W.heap.size := (Array.getElem?_eq_some_iff.1 hK).1
    have hk9 : w9.heap[D]? = some (.deferred (some [])) := (hu.block D hDl (fun (h : D = w.heap.size + 1 + 1) => by omega)).trans hK
    have hno : ∀ r, some D = some r → ∃ o : Obj, w9.heap[r]? = some o ∧ o.isCells = false := fun r e => by cases e; exact ⟨_, hk9, rfl⟩
    have jr := (blk_own hr9 (grownBy_putObj' w9 D (.deferred none)) hno)
    have hB9 := hb.trans (hu.below (fun k (hk : k = w.heap.size + 1 + 1) => by omega) hb.size)
    have hBz := hB9.trans (belowK_b (w := w) (Nat.le_refl _) w9 D _ (.deferred none) (by omega) hk9 rfl rfl)
    have a0 := jr.cell 0
    refine ⟨by simp, .inl ⟨_, _, rfl, run_takeDeferred hk9, ?_⟩⟩
    refine ⟨.bool true, ?_, rfl, hBz⟩
    simp [results, Try.f24, go_sem, a0]
end Go.Proofs.Ytejiecebckjflaa
