/- Maps whose elements are any values: what stands at a key, as a function. -/
import Derived.Test.YtihfihehiifdkaaMem
import Derived.Maps.RangeWalk
import Derived.Maps.OwnSet
import Derived.Maps.Views
namespace Go.Proofs.Ytihfihehiifdkaa
open Go.RowKit Go.Maps
def heldE (v : Value) : Option (DataW Value × List MemPlace) := some (.held v, [])
/-- A datum says what F says. -/
def SaysV (D : DataW Value) (F : Lit → Option Value) : Prop := Maps.Tidy D ∧ ∀ kl, WideAt.IsKeyLit kl → ∀ zd, D.atKey kl zd = match F kl with | some v => .held v | none => zd
theorem SaysV.has {D : DataW Value} {F : Lit → Option Value} (h : SaysV D F) {kl : Lit} (hk : WideAt.IsKeyLit kl) : Maps.has D kl = (F kl).isSome := by
  have := h.2 kl hk
  cases hf : F kl with
  | none => rw [hf] at this; exact Maps.has_false_of_atKey this
  | some v => rw [hf] at this; exact Maps.has_true_of_atKey this
/-- Block b is a map of at most n entries, s in fact: F is what stands there. -/
def MapV (P : Program) (k : TypeId) (w : World) (b n : Nat) (F : Lit → Option Value) (s : Nat) : Prop :=
  ∃ D : DataW Value, w.ownsMap P k heldE b n D ∧ SaysV D F ∧ Maps.size D = s
open Classical in
noncomputable def setK (F : Lit → Option Value) (kl : Lit) (v : Option Value) : Lit → Option Value := fun x => if x = kl then v else F x
theorem setK_same (F : Lit → Option Value) (kl : Lit) (v : Option Value) : setK F kl v kl = v := by unfold setK; rw [if_pos rfl]
theorem setK_other (F : Lit → Option Value) {kl x : Lit} (v : Option Value) (h : x ≠ kl) : setK F kl v x = F x := by unfold setK; rw [if_neg h]
section
variable {P : Program} {k t e : TypeId} {w w' : World} {b n s : Nat} {F : Lit → Option Value} {key v : Value} {kl : Lit}
theorem mapv_new (w : World) (P : Program) (k : TypeId) : MapV P k (w.alloc (.map #[] 0)) w.heap.size 0 (fun _ => none) 0 :=
  ⟨_, World.ownsMap_made w P k heldE, ⟨Maps.tidy_empty, fun _ _ _ => rfl⟩, rfl⟩
theorem MapV.lt (h : MapV P k w b n F s) : b < w.heap.size := by obtain ⟨D, h1, _⟩ := h; exact h1.lt
theorem MapV.block (h : MapV P k w b n F s) (hb : w'.heap[b]? = w.heap[b]?) : MapV P k w' b n F s := by
  obtain ⟨D, ⟨es, clock, g1, g2⟩, h2⟩ := h
  exact ⟨D, ⟨es, clock, hb.trans g1, g2⟩, h2⟩
theorem MapV.below (h : MapV P k w b n F s) (hb : Below w.heap.size w w') : MapV P k w' b n F s := h.block (hb.block b h.lt)
theorem MapV.upd {G : Nat → Prop} (h : MapV P k w b n F s) (hu : Upd G w w') (hG : ¬ G b) : MapV P k w' b n F s := h.block (hu.block b h.lt hG)
theorem MapV.mono {n' : Nat} (h : MapV P k w b n F s) (hn : n ≤ n') : MapV P k w b n' F s := by obtain ⟨D, h1, h2⟩ := h; exact ⟨D, h1.mono hn, h2⟩
theorem MapV.tight (h : MapV P k w b n F s) : MapV P k w b s F s := by
  obtain ⟨D, ⟨es, clock, hb, fit, hs, hD⟩, h2, h3⟩ := h
  refine ⟨D, ⟨es, clock, hb, fit, ?_, hD⟩, h2, h3⟩
  rw [← h3, hD]
  simp [Maps.size, length_sorted]
theorem MapV.congr {G : Lit → Option Value} (h : MapV P k w b n F s) (hG : ∀ kl, WideAt.IsKeyLit kl → G kl = F kl) : MapV P k w b n G s := by
  obtain ⟨D, h1, h2, h3⟩ := h
  exact ⟨D, h1, ⟨h2.1, fun kl hk zd => by rw [hG kl hk]; exact h2.2 kl hk zd⟩, h3⟩
theorem MapV.look (h : MapV P k w b n F s) (K : Keyed P k) (ht : P.underlying t = some (.map k e)) {z : Value} (hz : (zeroValue e).run P w = .ok z w) (hkey : keyOf P k key = some kl) :
    (Instr.lookup t (.map (some b)) key false).run P w = .ok ((F kl).getD z) w := by
  obtain ⟨D, h1, h2, h3⟩ := h
  obtain ⟨u, ps, hr, hv⟩ := h1.lookup K ht hz (zd := .held z) (zp := []) rfl hkey
  rw [h2.2 kl (K.key hkey)] at hv
  rw [hr]
  unfold heldE at hv
  cases hf : F kl with
  | none => rw [hf] at hv; simp at hv; rw [hv.1]; rfl
  | some x => rw [hf] at hv; simp at hv; rw [hv.1]; rfl
theorem MapV.len (h : MapV P k w b n F s) (ht : P.underlying t = some (.map k e)) (ty : TypeId) : (Builtin.len_ #[t] ty #[.map (some b)]).run P w = .ok (.int .i64 (s : Int)) w := by
  obtain ⟨D, h1, h2, h3⟩ := h
  rw [h1.len ht ty, h3]
theorem mapTurned_upd (h : w.mapTurned w' b) : Upd (only b) w w' := (Upd.refl (only b) w).grown h.grown fun k e => .inl (by injection e with e; exact e.symm)
theorem MapV.drop (h : MapV P k w b n F s) (K : Keyed P k) (ht : P.underlying t = some (.map k e)) (hkey : keyOf P k key = some kl) (ty : TypeId) :
    ∃ w', (Builtin.delete_ #[t, k] ty #[.map (some b), key]).run P w = .ok (.tuple #[]) w' ∧ MapV P k w' b n (setK F kl none) (if (F kl).isSome then s - 1 else s) ∧ Upd (only b) w w' ∧ w'.heap.size = w.heap.size := by
  obtain ⟨D, h1, h2, h3⟩ := h
  obtain ⟨w', hr, ho, htu⟩ := h1.drop K ht hkey ty
  have hsz : w'.heap.size = w.heap.size := by obtain ⟨_, _, es', clock', _, rfl⟩ := htu; simp [ChangeMaps.setBlock]
  refine ⟨w', hr, ⟨_, ho, ⟨h2.1.del _, fun x hx zd => ?_⟩, ?_⟩, mapTurned_upd htu, hsz⟩
  · by_cases hxk : x = kl
    · subst hxk
      rw [setK_same, Maps.atKey_del_same]
    · rw [setK_other _ _ hxk, Maps.atKey_del_other hxk]
      exact h2.2 x hx zd
  · have := Maps.size_del (k := kl) h2.1
    rw [h2.has (K.key hkey)] at this
    split
    · rename_i hh
      rw [if_pos hh] at this
      omega
    · rename_i hh
      rw [if_neg hh] at this
      omega
theorem MapV.store (h : MapV P k w b n F s) (K : Keyed P k) (ht : P.underlying t = some (.map k e)) (hn : n < 1000000000) (hkey : keyOf P k key = some kl) (v : Value) :
    ∃ w', (Instr.mapUpdate t (.map (some b)) key v).run P w = .ok () w' ∧ MapV P k w' b (n + 1) (setK F kl (some v)) (if (F kl).isSome then s else s + 1) ∧ Upd (only b) w w' ∧ w'.heap.size = w.heap.size := by
  obtain ⟨D, h1, h2, h3⟩ := h
  obtain ⟨w', hr, ho, htu⟩ := h1.store K ht (by unfold maxLen; omega) hkey (val := v) (d := .held v) (ps := []) rfl
  have hsz : w'.heap.size = w.heap.size := by obtain ⟨_, _, es', clock', _, rfl⟩ := htu; simp [ChangeMaps.setBlock]
  refine ⟨w', hr, ⟨_, ho, ⟨h2.1.put (K.key hkey) _, fun x hx zd => ?_⟩, ?_⟩, mapTurned_upd htu, hsz⟩
  · by_cases hxk : x = kl
    · subst hxk
      rw [setK_same, Maps.atKey_put_same h2.1.isMap hx]
    · rw [setK_other _ _ hxk, Maps.atKey_put_other hxk]
      exact h2.2 x hx zd
  · rw [Maps.size_put h2.1, h2.has (K.key hkey), h3]
/-- A range over a map under way: left says which keys are still to come. -/
def RangeV (P : Program) (k : TypeId) (w : World) (b r n : Nat) (F : Lit → Option Value) (left : Lit → Bool) (cnt : Nat) : Prop :=
  ∃ D : DataW Value, w.ranges P k heldE b r n D left cnt ∧ SaysV D F
theorem MapV.range (h : MapV P k w b n F s) (K : Keyed P k) (ht : P.underlying t = some (.map k e)) :
    ∃ w' left, (Instr.range t (.map (some b))).run P w = .ok (.pointer (some ⟨w.heap.size, 0, none⟩)) w' ∧ RangeV P k w' b w.heap.size n F left s ∧ (∀ kl, WideAt.IsKeyLit kl → left kl = (F kl).isSome) ∧ Below w.heap.size w w' ∧ w'.heap.size = w.heap.size + 1 := by
  obtain ⟨D, h1, h2, h3⟩ := h
  obtain ⟨w', hr, hra, hg, hsz⟩ := h1.range K ht
  exact ⟨w', _, hr, ⟨D, by rw [← h3]; exact hra, h2⟩, fun kl hk => h2.has hk, (Below.refl _ _).grown hg (Nat.le_refl _) (fun _ e => by cases e), hsz⟩
variable {r cnt : Nat} {left : Lit → Bool}
theorem RangeV.lt (h : RangeV P k w b r n F left cnt) : r < w.heap.size := by obtain ⟨D, h1, _⟩ := h; exact h1.lt
theorem RangeV.below (h : RangeV P k w b r n F left cnt) (hb : Below w.heap.size w w') : RangeV P k w' b r n F left cnt := by
  obtain ⟨D, h1, h2⟩ := h
  exact ⟨D, h1.kept ⟨hb.os, hb.tape, hb.output, hb.size, fun i hi _ => hb.block i hi⟩ (row := none) (by simp) (by simp), h2⟩
theorem RangeV.kept {row : Option Nat} (h : RangeV P k w b r n F left cnt) (hg : w.grownBy w' row) (hb : some b ≠ row) (hr : some r ≠ row) : RangeV P k w' b r n F left cnt := by
  obtain ⟨D, h1, h2⟩ := h
  exact ⟨D, h1.kept hg hb hr, h2⟩
theorem RangeV.left_eq (h : RangeV P k w b r n F left cnt) : w.rangeLeft b r = cnt := by obtain ⟨D, h1, h2⟩ := h; exact h1.left_eq
theorem RangeV.next (h : RangeV P k w b r n F left cnt) (K : Keyed P k) (ty : TypeId) :
    (cnt = 0 ∧ (∀ kl, left kl = false) ∧ (Instr.next (.pointer (some ⟨r, 0, none⟩)) false ty).run P w = .ok (.tuple #[.bool false]) w) ∨
    ∃ key v kl w' cnt', keyOf P k key = some kl ∧ WideAt.IsKeyLit kl ∧ left kl = true ∧ F kl = some v ∧ (Instr.next (.pointer (some ⟨r, 0, none⟩)) false ty).run P w = .ok (.tuple #[.bool true, key, v]) w' ∧
      RangeV P k w' b r n F (fun x => left x && !x.sameKey kl) cnt' ∧ cnt' < cnt ∧ w.grownBy w' (some r) ∧ w'.heap.size = w.heap.size ∧ (Instr.entry (.pointer (some ⟨r, 0, none⟩))).run P w' = .ok (.tuple #[key, v]) w' := by
  obtain ⟨D, h1, h2⟩ := h
  rcases h1.next K ty with hh | ⟨key, v, kl, y, w', cnt', a1, a2, a3, a4, a5, a6, a7⟩
  · exact .inl hh
  · refine .inr ⟨key, v, kl, w', cnt', a1, K.key a1, a2, ?_, a5, ⟨D, a6, h2⟩, a7⟩
    have hv := h2.2 kl (K.key a1)
    cases hf : F kl with
    | none =>
      rw [hf] at hv
      have e1 := (hv (.held v)).symm.trans (a4 (.held v))
      have e2 := (hv .nil).symm.trans (a4 .nil)
      rw [← e2] at e1
      cases e1
    | some x =>
      rw [hf] at hv
      have e1 := (hv .nil).symm.trans (a4 .nil)
      unfold heldE at a3
      injection a3 with a3
      rw [← a3] at e1
      simp at e1
      rw [e1]
end
end Go.Proofs.Ytihfihehiifdkaa
