/- Rows of rows of bytes. -/
import Derived.Test.YtihfihehiifdkaaHdP
import Derived.Test.YtihfihehiifdkaaIpJ
namespace Go.Proofs.Ytihfihehiifdkaa
open Go.RowKit Go.Sort Go.BigFrame
/-- The row us of slices reads as the rows xs. -/
def Lst8 (w : World) (I : Nat → Prop) (A : Option Addr) (n : Nat) (us : List Value) (xs : List By) : Prop :=
  Reads w I 1 A n us ∧ xs.length = n ∧ ∀ (k : Nat) (x : By), xs[k]? = some x → ∃ A' c', us[k]? = some (.slice A' x.length c') ∧ x.length ≤ c' ∧ Reads w I 1 A' x.length (bytesV x)
theorem Lst8.keep {w w2 : World} {I : Nat → Prop} {A : Option Addr} {n : Nat} {us : List Value} {xs : List By} (h : Lst8 w I A n us xs) (hs : Same I w w2) : Lst8 w2 I A n us xs :=
  ⟨h.1.keep hs, h.2.1, fun k x hx => by obtain ⟨A', c', h1, h2, h3⟩ := h.2.2 k x hx; exact ⟨A', c', h1, h2, h3.keep hs⟩⟩
theorem Lst8.mono {w : World} {I J : Nat → Prop} {A : Option Addr} {n : Nat} {us : List Value} {xs : List By} (h : Lst8 w I A n us xs) (hs : ∀ k, I k → J k) : Lst8 w J A n us xs :=
  ⟨h.1.mono hs, h.2.1, fun k x hx => by obtain ⟨A', c', h1, h2, h3⟩ := h.2.2 k x hx; exact ⟨A', c', h1, h2, h3.mono hs⟩⟩
theorem Lst8.lt {w : World} {I : Nat → Prop} {A : Option Addr} {n : Nat} {us : List Value} {xs : List By} (h : Lst8 w I A n us xs) : Lst8 w (fun k => I k ∧ k < w.heap.size) A n us xs :=
  ⟨h.1.lt, h.2.1, fun k x hx => by obtain ⟨A', c', h1, h2, h3⟩ := h.2.2 k x hx; exact ⟨A', c', h1, h2, h3.lt⟩⟩
theorem info_sl8 : (Try.prog.info? 22).map (fun i => (i.zero, i.size, i.bytes)) = some (some (.slice none 0 0), 1, 24) := by kernel_rfl
/-- A row of rows of bytes, all from block B on, each in a row of its own. -/
def Rows8 (B : Nat) (w : World) (v : Value) (L : List By) : Prop :=
  ∃ us, w.ownsRow B 22 1 v L.length us ∧ us.length = L.length ∧ ∀ (k : Nat) (x : By), L[k]? = some x → ∃ u, us[k]? = some u ∧ w.ownsRow B 5 1 u x.length (bytesV x)
section
variable {w w' : World} {B : Nat} {v : Value} {L : List By}
theorem Rows8.nil (B : Nat) (w : World) : Rows8 B w (.slice none 0 0) [] := ⟨[], World.ownsRow_nil _ _ _ _, rfl, fun k x h => by simp at h⟩
theorem Rows8.form (h : Rows8 B w v L) : ∃ A c, v = .slice A L.length c ∧ L.length ≤ c := by
  obtain ⟨us, h1, _⟩ := h
  exact own_form h1
theorem Rows8.types (h : Rows8 B w v L) (hs : w.heap.size ≤ w'.heap.size) (h1 : ∀ k (cs : Array Value), k < w.heap.size → Blk w k 22 cs → w'.heap[k]? = w.heap[k]?) (h2 : ∀ k (cs : Array Value), k < w.heap.size → Blk w k 5 cs → w'.heap[k]? = w.heap[k]?) : Rows8 B w' v L := by
  obtain ⟨us, ho, hl, hu⟩ := h
  exact ⟨us, own_type ho hs h1, hl, fun k x hx => by obtain ⟨u, e, r⟩ := hu k x hx; exact ⟨u, e, own_type r hs h2⟩⟩
theorem Rows8.below (h : Rows8 B w v L) (hb : Below w.heap.size w w') : Rows8 B w' v L := h.types hb.size (fun k _ hk _ => hb.block k hk) fun k _ hk _ => hb.block k hk
theorem Rows8.own {row : Option Nat} (h : Rows8 B w v L) (hg : w.grownBy w' row) (hr : ∀ r, row = some r → ∃ o : Obj, w.heap[r]? = some o ∧ o.isCells = false) : Rows8 B w' v L :=
  h.types hg.size (fun k cs hk hb => hg.block k hk fun e => by
    obtain ⟨o, ho, hc⟩ := hr k e.symm
    unfold Blk at hb
    rw [ho] at hb
    injection hb with hb
    rw [hb] at hc
    cases hc) fun k cs hk hb => hg.block k hk fun e => by
    obtain ⟨o, ho, hc⟩ := hr k e.symm
    unfold Blk at hb
    rw [ho] at hb
    injection hb with hb
    rw [hb] at hc
    cases hc
/-- append of one row. -/
theorem Rows8.push {us : List Value} {v2 u : Value} {x : By} (h1 : w'.ownsRow B 22 1 v2 (L.length + 1) (us ++ [u])) (hv : w.ownsRow B 22 1 v L.length us) (hl : us.length = L.length) (hg : w.grownBy w' v.ownBlock)
    (hu : ∀ (k : Nat) (x : By), L[k]? = some x → ∃ u, us[k]? = some u ∧ w.ownsRow B 5 1 u x.length (bytesV x)) (hx : w.ownsRow B 5 1 u x.length (bytesV x)) : Rows8 B w' v2 (L ++ [x]) := by
  have hk : ∀ k (cs : Array Value), k < w.heap.size → Blk w k 5 cs → w'.heap[k]? = w.heap[k]? := fun k cs hk hb => hg.block k hk fun e => own_blk_ne hv hb (by decide) e.symm
  refine ⟨us ++ [u], by rw [List.length_append, List.length_singleton]; exact h1, by simp [hl], fun k y hy => ?_⟩
  rcases Nat.lt_or_ge k L.length with hlt | hge
  · rw [List.getElem?_append_left hlt] at hy
    obtain ⟨u', e, r⟩ := hu k y hy
    exact ⟨u', by rw [List.getElem?_append_left (by rw [hl]; exact hlt)]; exact e, own_type r hg.size hk⟩
  · rw [List.getElem?_append_right hge] at hy
    obtain ⟨e0, rfl⟩ : k - L.length = 0 ∧ y = x := by
      cases hkl : k - L.length with
      | zero => rw [hkl] at hy; simpa using hy.symm
      | succ j => rw [hkl] at hy; simp at hy
    exact ⟨u, by rw [List.getElem?_append_right (by rw [hl]; exact hge), hl, e0]; rfl, own_type hx hg.size hk⟩
/-- What a reader sees. -/
theorem Rows8.lst {A : Option Addr} {n c : Nat} (h : Rows8 B w (.slice A n c) L) : n = L.length ∧ ∃ us, Lst8 w (fun k => B ≤ k ∧ k < w.heap.size) A n us L := by
  obtain ⟨us, h1, h2, h3⟩ := h
  obtain ⟨A1, c1, e, _⟩ := own_form h1
  injection e with e1 e2 e3
  subst e1 e2 e3
  refine ⟨rfl, us, Reads.of_own h1 fun g hg => own_lt h1 hg, rfl, fun k x hx => ?_⟩
  obtain ⟨u, e, r⟩ := h3 k x hx
  obtain ⟨A2, c2, rfl, hc⟩ := own_form r
  exact ⟨A2, c2, e, hc, Reads.of_own r fun g hg => own_lt r hg⟩
end
/-- Reading one of the rows. -/
theorem Rows8.read {w wx : World} {B n c : Nat} {ad : Addr} {L : List By} (h : Rows8 B w (.slice (some ad) n c) L) (hb : Below w.heap.size w wx) {k : Nat} {x : By} (hx : L[k]? = some x) :
    ∃ A' c', wx.cell? (ad.add k) = some (.slice A' x.length c') ∧ x.length ≤ c' ∧ Reads wx (fun j => B ≤ j ∧ j < w.heap.size) 1 A' x.length (bytesV x) := by
  obtain ⟨hn, us, hl⟩ := h.lst
  have hl2 := hl.keep (Same.ofBelow hb fun j hj => hj.2)
  obtain ⟨A', c', e, hc, hr⟩ := hl2.2.2 k x hx
  obtain ⟨ad', e2, _, _, hcell⟩ := hl2.1.2 (by have := (List.getElem?_eq_some_iff.1 hx).1; omega)
  injection e2 with e2
  subst e2
  have := hcell k _ e
  exact ⟨A', c', this, hc, hr⟩
end Go.Proofs.Ytihfihehiifdkaa
