/- A struct of many cells, stored and loaded as a whole. -/
import Derived.Test.YtihfihehiifdkaaIpW
import Derived.Deep.MidRow
namespace Go.Proofs.Ytihfihehiifdkaa
open Go.RowKit
theorem Upd.setCells {F : Nat → Prop} {a : World} {g : Nat} : ∀ (l : List Value) (o : Nat) (b : World), Upd F a b → F g ∨ a.heap.size ≤ g → Upd F a (b.setCells g o l)
  | [], _, _, h, _ => h
  | v :: r, o, _, h, hg => Upd.setCells r (o + 1) _ (h.setCell (p := ⟨g, o, none⟩) hg v) hg
theorem below_setCells {B g : Nat} {a : World} (hg : B ≤ g) : ∀ (l : List Value) (o : Nat) (b : World), Below B a b → Below B a (b.setCells g o l)
  | [], _, _, h => h
  | v :: r, o, _, h => below_setCells hg r (o + 1) _ (h.setCell (p := ⟨g, o, none⟩) hg v)
theorem blk_far_setCells {g k : Nat} {t : TypeId} {cs : Array Value} (hk : k ≠ g) : ∀ (l : List Value) (o : Nat) (w : World), Blk w k t cs → Blk (w.setCells g o l) k t cs
  | [], _, _, h => h
  | v :: r, o, _, h => blk_far_setCells hk r (o + 1) _ (h.far (p := ⟨g, o, none⟩) hk v)
theorem blk_setCells_aux {g : Nat} {t : TypeId} : ∀ (l : List Value) (pre suf : List Value) (w : World), suf.length = l.length → Blk w g t (pre ++ suf).toArray → Blk (w.setCells g pre.length l) g t (pre ++ l).toArray
  | [], pre, suf, w, hl, h => by
    obtain rfl := List.eq_nil_of_length_eq_zero hl
    exact h
  | v :: r, pre, suf, w, hl, h => by
    match suf, hl with
    | x :: s, hl =>
      have h2 := h.set_ pre.length v
      rw [List.setIfInBounds_toArray, List.set_append_right _ _ (Nat.le_refl _), Nat.sub_self, List.set_cons_zero] at h2
      have h3 := blk_setCells_aux r (pre ++ [v]) s (w.setCell ⟨g, pre.length, none⟩ v) (by simpa using hl) (by simpa using h2)
      rw [List.length_append] at h3
      unfold World.setCells
      simpa using h3
theorem blk_setCells {g : Nat} {t : TypeId} {w : World} {cs vs : Array Value} (h : Blk w g t cs) (hl : cs.size = vs.size) : Blk (w.setCells g 0 vs.toList) g t vs := by
  have := blk_setCells_aux (t := t) vs.toList [] cs.toList w (by simpa using hl) (by simpa using h)
  simpa using this
section
variable {w : World} {g : Nat} {cs vs : Array Value}
theorem blk_there {t : TypeId} (h : Blk w g t cs) : w.there g 0 cs.size := fun j hj => ⟨by rw [Nat.zero_add, h.cell, Array.getElem?_eq_getElem hj]; rfl, by rw [Nat.zero_add]; exact h.frozen j⟩
theorem blk_range {t : TypeId} (h : Blk w g t cs) : w.rangeAt g 0 cs.toList := fun j v hj => by rw [Nat.zero_add, h.cell]; simpa using hj
theorem hd_info : (Try.prog.info? 32).map (·.size) = some 11 := by kernel_rfl
theorem hd_store (h : Blk w g 32 cs) (hc : cs.size = 11) (hv : vs.size = 11) (h1 : vs.all (·.oneCell') = true) : (Instr.storeAt 32 (.pointer (some ⟨g, 0, none⟩)) (.agg vs)).run Try.prog w = .ok () (w.setCells g 0 vs.toList) :=
  run_storeAt_mid w g 0 _ vs (by have := blk_there h; rwa [hc, ← hv] at this) (by rw [hv]; exact hd_info) h1
theorem hd_load (h : Blk w g 32 cs) (hc : cs.size = 11) : (Instr.loadAt 32 (.pointer (some ⟨g, 0, none⟩))).run Try.prog w = .ok (.agg cs) w := by
  have := run_loadAt_mid (P := Try.prog) w g 0 32 cs.toList _ (blk_range h) Try.underlying32 rfl (by simpa [hc] using hd_info)
  simpa using this
theorem res_hd {fn : Func} {p u v : Tmp} (hf : fn.results = #[.cell p 32, .tmp u, .tmp v]) (tmps : Array Value) (hp : tmps.getD p undef = .pointer (some ⟨g, 0, none⟩)) (h : Blk w g 32 cs) (hc : cs.size = 11) :
    (results fn tmps).run Try.prog w = .ok (.tuple #[.agg cs, tmps.getD u undef, tmps.getD v undef]) w := by
  have hl := run_loadVar_mid (P := Try.prog) w g 0 32 cs.toList _ (blk_range h) Try.underlying32 rfl (by simpa [hc] using hd_info)
  have e1 : tmps[p]?.getD undef = .pointer (some ⟨g, 0, none⟩) := by simpa using hp
  simp only [results, hf]
  simp [Result.andThen, e1, asAddr, hl]
end
end Go.Proofs.Ytihfihehiifdkaa
