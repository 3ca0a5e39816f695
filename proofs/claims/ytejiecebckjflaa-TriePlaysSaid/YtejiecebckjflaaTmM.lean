/- TrieMeans: the map in memory, and its operations. -/
import Derived.Test.YtejiecebckjflaaTmL
namespace Go.Proofs.Ytejiecebckjflaa
open Go.RowKit Go.Maps

/-- Block b is a map that holds just what the trie T holds. -/
def MO (w : World) (b : Nat) (T : TT) (k : Nat) : Prop := ∃ (n : Nat) (D : DataW Unit), w.ownsMap Try.prog 31 (plainElem Try.prog 3) b n D ∧ n ≤ k ∧
  (∀ x : Px, x.ok → Maps.has D (klP x) = (getP x T).isSome ∧ D.atKey (klP x) (.lit (.int .i64 0)) = .lit (.int .i64 ((getP x T).getD 0))) ∧ Maps.size D = T.list.length
section
variable {w w' : World} {b k : Nat} {T : TT}
theorem mo_new (w : World) : MO (w.alloc (.map #[] 0)) w.heap.size .nil 0 :=
  ⟨0, _, World.ownsMap_made w _ _ _, Nat.le_refl _, fun x _ => by
    have : getP x .nil = none := by unfold getP; split <;> rfl
    rw [this]
    exact ⟨rfl, rfl⟩, rfl⟩
theorem MO.lt (h : MO w b T k) : b < w.heap.size := by obtain ⟨n, D, h1, _⟩ := h; exact h1.lt
theorem MO.kept {row : Option Nat} (h : MO w b T k) (hg : w.grownBy w' row) (hne : some b ≠ row) : MO w' b T k := by
  obtain ⟨n, D, h1, h2⟩ := h
  exact ⟨n, D, h1.kept hg hne, h2⟩
theorem MO.block (h : MO w b T k) (hb : w'.heap[b]? = w.heap[b]?) : MO w' b T k := by
  obtain ⟨n, D, ⟨es, clock, g1, g2⟩, h2⟩ := h
  exact ⟨n, D, ⟨es, clock, hb.trans g1, g2⟩, h2⟩
theorem MO.below (h : MO w b T k) (hb : Below w.heap.size w w') : MO w' b T k := h.block (hb.block b h.lt)
theorem MO.upd {F : Nat → Prop} (h : MO w b T k) (hu : Upd F w w') (hF : ¬ F b) : MO w' b T k := h.block (hu.block b h.lt hF)
theorem MO.mono {k' : Nat} (h : MO w b T k) (hk : k ≤ k') : MO w b T k' := by obtain ⟨n, D, h1, h2, h3⟩ := h; exact ⟨n, D, h1, Nat.le_trans h2 hk, h3⟩
theorem zero_int (w : World) : (zeroValue 3).run Try.prog w = .ok (.int .i64 0) w := by kernel_rfl
theorem MO.look (h : MO w b T k) {x : Px} (hx : x.ok) : (Instr.lookup 28 (.map (some b)) (pxV x.a x.n) true).run Try.prog w = .ok (.tuple #[.int .i64 ((getP x T).getD 0), .bool (getP x T).isSome]) w := by
  obtain ⟨n, D, h1, h2, h3, h4⟩ := h
  obtain ⟨v, ps, hr, hv⟩ := h1.look_ok pxKeyed Try.underlying28 (zero_int w) (plainElem_int Try.underlying3 (by decide)) (klP_key hx)
  obtain ⟨c, rfl, hc, _⟩ := plainElem_int_inv Try.underlying3 hv
  obtain ⟨g1, g2⟩ := h3 x hx
  simp only [Prod.mk.injEq] at hc
  rw [g2] at hc
  have : c = (getP x T).getD 0 := by
    have := hc.1
    injection this with this
    injection this with _ this
    exact this.symm
  rw [g1, this] at hr
  exact hr
theorem MO.len (h : MO w b T k) (ty : TypeId) : (Builtin.len_ #[28] ty #[.map (some b)]).run Try.prog w = .ok (.int .i64 (T.list.length : Int)) w := by
  obtain ⟨n, D, h1, h2, h3, h4⟩ := h
  rw [h1.len Try.underlying28 ty, h4]
theorem turned_upd (h : w.mapTurned w' b) : Upd (only b) w w' := (Upd.refl (only b) w).grown h.grown fun k e => .inl (by injection e with e; exact e.symm)
theorem MO.drop (h : MO w b T k) (wf : T.wf []) {x : Px} (hx : x.ok) (mx : x.may = true) (ty : TypeId) :
    ∃ w', (Builtin.delete_ #[28, 31] ty #[.map (some b), pxV x.a x.n]).run Try.prog w = .ok (.tuple #[]) w' ∧ MO w' b (delP x T).2 k ∧ Upd (only b) w w' := by
  obtain ⟨n, D, h1, h2, h3, h4⟩ := h
  obtain ⟨w', hr, ho, ht⟩ := h1.drop pxKeyed Try.underlying28 (klP_key hx) ty
  have htd := h1.tidy pxKeyed
  refine ⟨w', hr, ⟨n, _, ho, h2, ?_, ?_⟩, turned_upd ht⟩
  · intro y hy
    unfold delP
    rw [if_pos mx]
    by_cases hs : (T.get (pB x)).isSome = true
    · rw [if_pos hs]
      show _ = (getP y (T.del (pB x))).isSome ∧ _ = DataW.lit (Lit.int IntKind.i64 ((getP y (T.del (pB x))).getD 0))
      rw [getP_del wf hx.1 hy.1 mx hs]
      by_cases h : y = x
      · subst h
        rw [if_pos rfl]
        exact ⟨has_del_same, atKey_del_same _⟩
      · rw [if_neg h, has_del_other (fun e => h (klP_inj hy hx e)), atKey_del_other (fun e => h (klP_inj hy hx e))]
        exact h3 y hy
    · rw [if_neg hs]
      have hh : Maps.has D (klP x) = false := by
        rw [(h3 x hx).1]
        unfold getP
        rw [if_pos mx]
        simpa using hs
      rw [del_of_not_has hh]
      exact h3 y hy
  · have hsz := size_del htd (k := klP x)
    rw [(h3 x hx).1, h4] at hsz
    have hg : getP x T = T.get (pB x) := by unfold getP; rw [if_pos mx]
    rw [hg] at hsz
    unfold delP
    rw [if_pos mx]
    by_cases hs : (T.get (pB x)).isSome = true
    · rw [if_pos hs] at hsz ⊢
      show _ = (T.del (pB x)).list.length
      have := delS_len (p := pB x) (TT.sorted wf) (by rw [← TT.get_list wf]; exact hs)
      rw [del_keys wf hs]
      omega
    · rw [if_neg hs] at hsz ⊢
      exact hsz
theorem MO.store (h : MO w b T k) (wf : T.wf []) (hk : k < 1000) {x : Px} (hx : x.ok) (mx : x.may = true) {v : Int} (hv : (Lit.int .i64 v).wf = true) :
    ∃ w', (Instr.mapUpdate 28 (.map (some b)) (pxV x.a x.n) (.int .i64 v)).run Try.prog w = .ok () w' ∧ MO w' b (T.ins (pB x) v) (k + 1) ∧ Upd (only b) w w' := by
  obtain ⟨n, D, h1, h2, h3, h4⟩ := h
  obtain ⟨w', hr, ho, ht⟩ := h1.store pxKeyed Try.underlying28 (by unfold maxLen; omega) (klP_key hx) (plainElem_int Try.underlying3 hv)
  have htd := h1.tidy pxKeyed
  refine ⟨w', hr, ⟨n + 1, _, ho, by omega, ?_, ?_⟩, turned_upd ht⟩
  · intro y hy
    rw [getP_ins wf hx.1 hy.1 mx]
    by_cases h : y = x
    · subst h
      rw [if_pos rfl]
      exact ⟨has_put_same h1.isMap (klP_lit hy) _, atKey_put_same h1.isMap (klP_lit hy) _ _⟩
    · rw [if_neg h, has_put_other (fun e => h (klP_inj hy hx e)), atKey_put_other (fun e => h (klP_inj hy hx e))]
      exact h3 y hy
  · rw [size_put htd, (h3 x hx).1, h4, TT.ins_len wf (pB_may hx.1 mx).1]
    have hg : getP x T = T.get (pB x) := by unfold getP; rw [if_pos mx]
    rw [hg]
end
end Go.Proofs.Ytejiecebckjflaa
