/- RelWhole's memory: each block bears a label; a step writes blocks of one label alone. -/
import Derived.Test.YtmkjnblmgofoeaaWhoL
import Derived.Test.YtmkjnblmgofoeaaStAckQ
namespace Go.Proofs.Ytmkjnblmgofoeaa
open Go.RowKit

/-- Only blocks with the label c have turned; what was there keeps its label. -/
structure Step (c : Nat) (lab lab2 : Nat → Nat) (w w2 : World) : Prop where
  upd : Upd (fun k => lab k = c) w w2
  lab : ∀ k, k < w.heap.size → lab2 k = lab k

theorem relab (n : Nat) (lab : Nat → Nat) (p : Nat → Prop) (c d : Nat) : ∃ lab2 : Nat → Nat, (∀ k, k < n → lab2 k = lab k) ∧ (∀ k, n ≤ k → p k → lab2 k = c) ∧ (∀ k, n ≤ k → ¬ p k → lab2 k = d) := by
  classical
  refine ⟨fun k => if k < n then lab k else if p k then c else d, fun k hk => if_pos hk, fun k hk hp => ?_, fun k hk hp => ?_⟩
  · simp only []
    rw [if_neg (by omega), if_pos hp]
  · simp only []
    rw [if_neg (by omega), if_neg hp]

def PSt (lab : Nat → Nat) (w : World) (c b : Nat) (s : SS) : Prop := ∃ M I, IsStr w M I b s ∧ (∀ k, M k → lab k = c) ∧ (∀ k, I k → lab k = 2)
def PFl (lab : Nat → Nat) (w : World) (c : Nat) (v : Value) (l : List Seg) : Prop := ∃ gs : List Sg, gs.map Sg.t = l ∧ w.ownsRow 0 33 3 v gs.length (sgCells gs) ∧ SgOk w (fun k => lab k = 2) gs ∧ (∀ k, v.ownBlock = some k → lab k = c)
def PBy (lab : Nat → Nat) (w : World) (c : Nat) (v : Value) (xs : List UInt8) : Prop := w.ownsRow 0 5 1 v xs.length (bytesV xs) ∧ ∀ k, v.ownBlock = some k → lab k = c
def PAr (lab : Nat → Nat) (w : World) (c b : Nat) (t : TypeId) (x : Nat → Value) : Prop := Blk w b t #[x 0, x 1] ∧ lab b = c

section
variable {c d : Nat} {lab lab2 : Nat → Nat} {w w2 : World}
theorem Step.same {I : Nat → Prop} (h : Step d lab lab2 w w2) (hI : ∀ k, I k → lab k ≠ d) : Same I w w2 := h.upd.same fun k hk hi => hI k hi hk
theorem PSt.keep {b : Nat} {s : SS} (h : PSt lab w c b s) (hs : Step d lab lab2 w w2) (hc : c ≠ d) (h2 : 2 ≠ d) : PSt lab2 w2 c b s := by
  obtain ⟨M, I, h1, hm, hi⟩ := h
  refine ⟨M, I, h1.keep (hs.same fun k hk => ?_), fun k hk => by rw [hs.lab k (h1.ltM k hk)]; exact hm k hk, fun k hk => by rw [hs.lab k (h1.ltI k hk)]; exact hi k hk⟩
  rcases hk with hk | hk
  · rw [hm k hk]; exact hc
  · rw [hi k hk]; exact h2
theorem PFl.keep {v : Value} {l : List Seg} (h : PFl lab w c v l) (hs : Step d lab lab2 w w2) (hc : c ≠ d) (h2 : 2 ≠ d) : PFl lab2 w2 c v l := by
  obtain ⟨gs, hg, ho, hk, hv⟩ := h
  refine ⟨gs, hg, own_keep ho (hs.same (I := fun k => lab k = c) fun k hk => hk ▸ hc) hv, fun g hgm => ?_, fun k hk2 => by rw [hs.lab k (own_lt ho hk2).2]; exact hv k hk2⟩
  obtain ⟨g1, g2⟩ := hk g hgm
  exact ⟨own_keep g1 (hs.same (I := fun k => lab k = 2) fun k hk => hk ▸ h2) g2, fun k hk2 => by show lab2 k = 2; rw [hs.lab k (own_lt g1 hk2).2]; exact g2 k hk2⟩
theorem PBy.keep {v : Value} {xs : List UInt8} (h : PBy lab w c v xs) (hs : Step d lab lab2 w w2) (hc : c ≠ d) : PBy lab2 w2 c v xs :=
  ⟨own_keep h.1 (hs.same (I := fun k => lab k = c) fun k hk => hk ▸ hc) h.2, fun k hk => by rw [hs.lab k (own_lt h.1 hk).2]; exact h.2 k hk⟩
theorem PAr.keep {b : Nat} {t : TypeId} {x : Nat → Value} (h : PAr lab w c b t x) (hs : Step d lab lab2 w w2) (hc : c ≠ d) : PAr lab2 w2 c b t x :=
  ⟨h.1.upd hs.upd fun e => hc (h.2 ▸ e), by rw [hs.lab b h.1.lt]; exact h.2⟩
theorem PAr.cell {b : Nat} {t : TypeId} {x : Nat → Value} (h : PAr lab w c b t x) {f : Nat} (hf : f < 2) : w.cell? ⟨b, f, none⟩ = some (x f) := by
  rw [h.1.cell f]
  rcases f with _ | _ | f
  · rfl
  · rfl
  · omega
def up {α : Type} (g : Nat → α) (f : Nat) (x : α) : Nat → α := fun k => if k = f then x else g k
theorem up_same {α : Type} (g : Nat → α) (f : Nat) (x : α) : up g f x f = x := if_pos rfl
theorem up_other {α : Type} (g : Nat → α) {f k : Nat} (x : α) (h : k ≠ f) : up g f x k = g k := if_neg h
theorem PAr.set {b : Nat} {t : TypeId} {x : Nat → Value} (h : PAr lab w c b t x) {f : Nat} (hf : f < 2) (v : Value) : PAr lab (w.setCell ⟨b, f, none⟩ v) c b t (up x f v) := by
  refine ⟨?_, h.2⟩
  have := h.1.set_ f v
  rcases f with _ | _ | f
  · simpa [up] using this
  · simpa [up] using this
  · omega
theorem Step.set {b f : Nat} {v : Value} (hl : lab b = c) : Step c lab lab w (w.setCell ⟨b, f, none⟩ v) :=
  ⟨(Upd.refl _ _).setCell (p := ⟨b, f, none⟩) (.inl hl) _, fun _ _ => rfl⟩
theorem Step.refl (c : Nat) (lab : Nat → Nat) (w : World) : Step c lab lab w w := ⟨Upd.refl _ _, fun _ _ => rfl⟩
theorem Step.ofHeap {w3 : World} (c : Nat) (e : w3.heap = w.heap) (ht : w3.tape = w.tape ∧ w3.os = w.os ∧ w3.output = w.output) : Step c lab lab w w3 :=
  ⟨⟨ht.2.1, ht.1, ht.2.2, by rw [e]; exact Nat.le_refl _, fun k _ _ => by rw [e]⟩, fun _ _ => rfl⟩
end

structure Fs where
  S : Nat → SS
  F : Nat → List Seg
  sn : Nat → List UInt8
  tk : Nat → List UInt8
structure Vv where
  fv : Nat → Value
  av : Nat → Value
  sv : Nat → Value
  sa : Nat → Value
  tv : Nat → Value
  ta : Nat → Value

/-- The whole memory. -/
structure WSt (w wr : World) (lab : Nat → Nat) (q : Fs) (v : Vv) : Prop where
  low : ∀ k, k < w.heap.size → lab k = 9
  below : Below w.heap.size w wr
  st : ∀ f, f < 2 → PSt lab wr f (w.heap.size + f) (q.S f)
  fl : ∀ f, f < 2 → PFl lab wr (3 + f) (v.fv f) (q.F f)
  sn : ∀ f, f < 2 → PBy lab wr (5 + f) (v.sv f) (q.sn f)
  tk : ∀ f, f < 2 → PBy lab wr (7 + f) (v.tv f) (q.tk f)
  ae : PAr lab wr 13 (w.heap.size + 2) 37 (fun f => .pointer (some ⟨w.heap.size + f, 0, none⟩))
  af : PAr lab wr 10 (w.heap.size + 3) 38 v.av
  asn : PAr lab wr 11 (w.heap.size + 4) 39 v.sa
  atk : PAr lab wr 12 (w.heap.size + 5) 39 v.ta

section
variable {w wr w2 : World} {lab lab2 : Nat → Nat} {q : Fs} {v : Vv}
theorem WSt.low2 (h : WSt w wr lab q v) {c : Nat} (hs : Step c lab lab2 wr w2) : ∀ k, k < w.heap.size → lab2 k = 9 := fun k hk => by
  rw [hs.lab k (Nat.lt_of_lt_of_le hk h.below.size)]; exact h.low k hk
theorem WSt.below2 (h : WSt w wr lab q v) {c : Nat} (hc : c ≠ 9) (hs : Step c lab lab2 wr w2) : Below w.heap.size w w2 :=
  h.below.trans (hs.upd.below (fun k (hk : lab k = c) => by
    rcases Nat.lt_or_ge k w.heap.size with hl | hl
    · exact absurd ((h.low k hl).symm.trans hk) (fun e => hc e.symm)
    · exact hl) h.below.size)
/-- Stream f has turned, and nothing else. -/
theorem WSt.setS (h : WSt w wr lab q v) {f : Nat} (hf : f < 2) (hs : Step f lab lab2 wr w2) {s2 : SS} (hp : PSt lab2 w2 f (w.heap.size + f) s2) : WSt w w2 lab2 { q with S := up q.S f s2 } v := by
  refine ⟨h.low2 hs, h.below2 (by omega) hs, fun g hg => ?_, fun g hg => (h.fl g hg).keep hs (by omega) (by omega), fun g hg => (h.sn g hg).keep hs (by omega), fun g hg => (h.tk g hg).keep hs (by omega),
    h.ae.keep hs (by omega), h.af.keep hs (by omega), h.asn.keep hs (by omega), h.atk.keep hs (by omega)⟩
  show PSt lab2 w2 g (w.heap.size + g) (up q.S f s2 g)
  by_cases e : g = f
  · subst e; rw [up_same]; exact hp
  · rw [up_other _ _ e]; exact (h.st g hg).keep hs e (by omega)
/-- What is under way from f has turned. -/
theorem WSt.setF (h : WSt w wr lab q v) {f : Nat} (hf : f < 2) (hs : Step (3 + f) lab lab2 wr w2) {u : Value} {l : List Seg} (hp : PFl lab2 w2 (3 + f) u l) : WSt w w2 lab2 { q with F := up q.F f l } { v with fv := up v.fv f u } := by
  refine ⟨h.low2 hs, h.below2 (by omega) hs, fun g hg => (h.st g hg).keep hs (by omega) (by omega), fun g hg => ?_, fun g hg => (h.sn g hg).keep hs (by omega), fun g hg => (h.tk g hg).keep hs (by omega),
    h.ae.keep hs (by omega), h.af.keep hs (by omega), h.asn.keep hs (by omega), h.atk.keep hs (by omega)⟩
  show PFl lab2 w2 (3 + g) (up v.fv f u g) (up q.F f l g)
  by_cases e : g = f
  · subst e; rw [up_same, up_same]; exact hp
  · rw [up_other _ _ e, up_other _ _ e]; exact (h.fl g hg).keep hs (by omega) (by omega)
theorem WSt.setN (h : WSt w wr lab q v) {f : Nat} (hf : f < 2) (hs : Step (5 + f) lab lab2 wr w2) {u : Value} {l : List UInt8} (hp : PBy lab2 w2 (5 + f) u l) : WSt w w2 lab2 { q with sn := up q.sn f l } { v with sv := up v.sv f u } := by
  refine ⟨h.low2 hs, h.below2 (by omega) hs, fun g hg => (h.st g hg).keep hs (by omega) (by omega), fun g hg => (h.fl g hg).keep hs (by omega) (by omega), fun g hg => ?_, fun g hg => (h.tk g hg).keep hs (by omega),
    h.ae.keep hs (by omega), h.af.keep hs (by omega), h.asn.keep hs (by omega), h.atk.keep hs (by omega)⟩
  show PBy lab2 w2 (5 + g) (up v.sv f u g) (up q.sn f l g)
  by_cases e : g = f
  · subst e; rw [up_same, up_same]; exact hp
  · rw [up_other _ _ e, up_other _ _ e]; exact (h.sn g hg).keep hs (by omega)
theorem WSt.setT (h : WSt w wr lab q v) {f : Nat} (hf : f < 2) (hs : Step (7 + f) lab lab2 wr w2) {u : Value} {l : List UInt8} (hp : PBy lab2 w2 (7 + f) u l) : WSt w w2 lab2 { q with tk := up q.tk f l } { v with tv := up v.tv f u } := by
  refine ⟨h.low2 hs, h.below2 (by omega) hs, fun g hg => (h.st g hg).keep hs (by omega) (by omega), fun g hg => (h.fl g hg).keep hs (by omega) (by omega), fun g hg => (h.sn g hg).keep hs (by omega), fun g hg => ?_,
    h.ae.keep hs (by omega), h.af.keep hs (by omega), h.asn.keep hs (by omega), h.atk.keep hs (by omega)⟩
  show PBy lab2 w2 (7 + g) (up v.tv f u g) (up q.tk f l g)
  by_cases e : g = f
  · subst e; rw [up_same, up_same]; exact hp
  · rw [up_other _ _ e, up_other _ _ e]; exact (h.tk g hg).keep hs (by omega)
/-- Nothing of it has turned. -/
theorem WSt.none_ (h : WSt w wr lab q v) {c : Nat} (hc : 14 ≤ c) (hs : Step c lab lab2 wr w2) : WSt w w2 lab2 q v :=
  ⟨h.low2 hs, h.below2 (by omega) hs, fun g hg => (h.st g hg).keep hs (by omega) (by omega), fun g hg => (h.fl g hg).keep hs (by omega) (by omega), fun g hg => (h.sn g hg).keep hs (by omega), fun g hg => (h.tk g hg).keep hs (by omega),
    h.ae.keep hs (by omega), h.af.keep hs (by omega), h.asn.keep hs (by omega), h.atk.keep hs (by omega)⟩
theorem WSt.ofHeap (h : WSt w wr lab q v) (e : w2.heap = wr.heap) (ht : w2.tape = wr.tape ∧ w2.os = wr.os ∧ w2.output = wr.output) : WSt w w2 lab q v := h.none_ (by omega) (Step.ofHeap 14 e ht)
theorem WSt.storeF (h : WSt w wr lab q v) {f : Nat} (hf : f < 2) (u : Value) : WSt w (wr.setCell ⟨w.heap.size + 3, f, none⟩ u) lab q { v with av := up v.av f u } := by
  have hs : Step 10 lab lab wr (wr.setCell ⟨w.heap.size + 3, f, none⟩ u) := Step.set h.af.2
  exact ⟨h.low, h.below2 (by omega) hs, fun g hg => (h.st g hg).keep hs (by omega) (by omega), fun g hg => (h.fl g hg).keep hs (by omega) (by omega), fun g hg => (h.sn g hg).keep hs (by omega), fun g hg => (h.tk g hg).keep hs (by omega),
    h.ae.keep hs (by omega), h.af.set hf u, h.asn.keep hs (by omega), h.atk.keep hs (by omega)⟩
theorem WSt.storeN (h : WSt w wr lab q v) {f : Nat} (hf : f < 2) (u : Value) : WSt w (wr.setCell ⟨w.heap.size + 4, f, none⟩ u) lab q { v with sa := up v.sa f u } := by
  have hs : Step 11 lab lab wr (wr.setCell ⟨w.heap.size + 4, f, none⟩ u) := Step.set h.asn.2
  exact ⟨h.low, h.below2 (by omega) hs, fun g hg => (h.st g hg).keep hs (by omega) (by omega), fun g hg => (h.fl g hg).keep hs (by omega) (by omega), fun g hg => (h.sn g hg).keep hs (by omega), fun g hg => (h.tk g hg).keep hs (by omega),
    h.ae.keep hs (by omega), h.af.keep hs (by omega), h.asn.set hf u, h.atk.keep hs (by omega)⟩
theorem WSt.storeT (h : WSt w wr lab q v) {f : Nat} (hf : f < 2) (u : Value) : WSt w (wr.setCell ⟨w.heap.size + 5, f, none⟩ u) lab q { v with ta := up v.ta f u } := by
  have hs : Step 12 lab lab wr (wr.setCell ⟨w.heap.size + 5, f, none⟩ u) := Step.set h.atk.2
  exact ⟨h.low, h.below2 (by omega) hs, fun g hg => (h.st g hg).keep hs (by omega) (by omega), fun g hg => (h.fl g hg).keep hs (by omega) (by omega), fun g hg => (h.sn g hg).keep hs (by omega), fun g hg => (h.tk g hg).keep hs (by omega),
    h.ae.keep hs (by omega), h.af.keep hs (by omega), h.asn.keep hs (by omega), h.atk.set hf u⟩

/-- A call that makes memory alone, and the struct's cells of stream f. -/
theorem step_only {b f : Nat} (hl : lab b = f) (hu : Upd (only b) wr w2) (hn : ∀ k, k < wr.heap.size → lab2 k = lab k) : Step f lab lab2 wr w2 := ⟨hu.mono fun k (hk : k = b) => .inl (hk ▸ hl), hn⟩

theorem due_w (h : WSt w wr lab q v) {f : Nat} (hf : f < 2) (ok : (q.S f).ok) (hx : ∀ x ∈ (q.S f).xs, x.length ≤ 1024) :
    Calls Try.prog 11 #[.pointer (some ⟨w.heap.size + f, 0, none⟩)] wr fun e w' => ∃ u lab2, e = .returned u ∧ PFl lab2 w' 14 u (dueL (q.S f)) ∧ Step f lab lab2 wr w' ∧ WSt w w' lab2 { q with S := up q.S f (dueS (q.S f)) } v := by
  obtain ⟨M, I, hs, hm, hi⟩ := h.st f hf
  refine (due_any M I _ (q.S f) wr hs ok hx).mono ?_
  rintro e w2 ⟨u, rfl, ⟨gs, hg, ho, hk⟩, hs2, hu⟩
  obtain ⟨lab2, l1, l2, l3⟩ := relab wr.heap.size lab (fun k => u.ownBlock = some k) 14 2
  have st : Step f lab lab2 wr w2 := step_only (hm _ hs.mb) hu l1
  refine ⟨u, lab2, rfl, ⟨gs, hg, own_base ho (Nat.zero_le _), fun g hgm => ⟨(hk g hgm).1, fun k hk2 => l3 k ((hk g hgm).2 k hk2) (own_own_ne (hk g hgm).1 ho (by decide) hk2)⟩, fun k hk2 => l2 k (own_lt ho hk2).1 hk2⟩, st, h.setS hf st ⟨M, I, hs2, fun k hk => by rw [l1 k (hs.ltM k hk)]; exact hm k hk, fun k hk => by rw [l1 k (hs.ltI k hk)]; exact hi k hk⟩⟩

theorem tick_w (h : WSt w wr lab q v) {f : Nat} (hf : f < 2) (ok : (q.S f).ok) (hq : (q.S f).silent ≤ 1000) (hx : ∀ x ∈ (q.S f).xs, x.length ≤ 1024) :
    Calls Try.prog 14 #[.pointer (some ⟨w.heap.size + f, 0, none⟩)] wr fun e w' => ∃ u lab2, e = .returned u ∧ PFl lab2 w' 14 u (tickL (q.S f)) ∧ Step f lab lab2 wr w' ∧ WSt w w' lab2 { q with S := up q.S f (tickS (q.S f)) } v := by
  obtain ⟨M, I, hs, hm, hi⟩ := h.st f hf
  refine (tick_any M I _ (q.S f) wr hs ok hq hx).mono ?_
  rintro e w2 ⟨u, rfl, ⟨gs, hg, ho, hk⟩, hs2, hu⟩
  obtain ⟨lab2, l1, l2, l3⟩ := relab wr.heap.size lab (fun k => u.ownBlock = some k) 14 2
  have st : Step f lab lab2 wr w2 := step_only (hm _ hs.mb) hu l1
  refine ⟨u, lab2, rfl, ⟨gs, hg, own_base ho (Nat.zero_le _), fun g hgm => ⟨(hk g hgm).1, fun k hk2 => l3 k ((hk g hgm).2 k hk2) (own_own_ne (hk g hgm).1 ho (by decide) hk2)⟩, fun k hk2 => l2 k (own_lt ho hk2).1 hk2⟩, st, h.setS hf st ⟨M, I, hs2, fun k hk => by rw [l1 k (hs.ltM k hk)]; exact hm k hk, fun k hk => by rw [l1 k (hs.ltI k hk)]; exact hi k hk⟩⟩

/-- Behind an append onto what is under way. -/
theorem append_w (h : WSt w wr lab q v) {f : Nat} (hf : f < 2) {u2 : Value} {l : List Seg} {gs ls : List Sg} (hg : gs.map Sg.t = q.F f) (hk : SgOk wr (fun k => lab k = 2) gs) (hl : ls.map Sg.t = l) (hk2 : SgOk wr (fun k => lab k = 2) ls)
    (ho : w2.ownsRow 0 33 3 u2 (gs.length + ls.length) (sgCells gs ++ sgCells ls)) (hgr : wr.grownBy w2 (v.fv f).ownBlock) (hat : u2.ownBlock = (v.fv f).ownBlock ∨ u2.ownBlock = some wr.heap.size) :
    ∃ lab2, Step (3 + f) lab lab2 wr w2 ∧ WSt w w2 lab2 { q with F := up q.F f (q.F f ++ l) } { v with fv := up v.fv f u2 } := by
  obtain ⟨_, _, _, _, hv⟩ := h.fl f hf
  obtain ⟨lab2, l1, l2, _⟩ := relab wr.heap.size lab (fun _ => True) (3 + f) 2
  have st : Step (3 + f) lab lab2 wr w2 := ⟨(Upd.refl _ _).grown hgr fun k hk => .inl (hv k hk), l1⟩
  have keep : ∀ (x : List Sg), SgOk wr (fun k => lab k = 2) x → SgOk w2 (fun k => lab2 k = 2) x := fun x hx g hg => by
    obtain ⟨g1, g2⟩ := hx g hg
    exact ⟨own_keep g1 (st.same (I := fun k => lab k = 2) fun k hk => by omega) g2, fun k hk => by show lab2 k = 2; rw [l1 k (own_lt g1 hk).2]; exact g2 k hk⟩
  refine ⟨lab2, st, h.setF hf st ⟨gs ++ ls, by rw [List.map_append, hg, hl], ?_, fun g hgm => (List.mem_append.1 hgm).elim (keep gs hk g) (keep ls hk2 g), fun k hk3 => ?_⟩⟩
  · rw [List.length_append, show sgCells (gs ++ ls) = sgCells gs ++ sgCells ls from by simp [sgCells]]
    exact ho
  · rcases hat with e | e
    · rw [e] at hk3
      have := hv k hk3
      obtain ⟨_, _, ho2, _, _⟩ := h.fl f hf
      rw [l1 k (own_lt ho2 hk3).2]
      exact this
    · rw [e] at hk3
      injection hk3 with hk3
      exact l2 k (by omega) trivial

theorem take_w (h : WSt w wr lab q v) {f : Nat} (hf : f < 2) (ok : (q.S f).ok) {sq a : Nat} {A : Option Addr} {x : List UInt8} {c : Nat} (hx : Reads wr (fun k => lab k = 2) 1 A x.length (bytesV x)) (hn : x.length ≤ 1024) :
    Calls Try.prog 10 #[.pointer (some ⟨w.heap.size + f, 0, none⟩), segP sq a A x.length c] wr fun e w' => ∃ u lab2, e = .returned (takeR u (ackS (q.S f) a).acked (seqI (q.S f) sq)) ∧
      (seqI (q.S f) sq = true → w'.ownsRow wr.heap.size 5 1 u x.length (bytesV x)) ∧ Step f lab lab2 wr w' ∧ WSt w w' lab2 { q with S := up q.S f (seqS (ackS (q.S f) a) sq) } v := by
  obtain ⟨M, I, hs, hm, hi⟩ := h.st f hf
  have hJ : ¬ (fun k => lab k = 2) (w.heap.size + f) := fun (e : lab _ = 2) => by
    rw [hm _ hs.mb] at e
    omega
  by_cases hk : (q.S f).acked < a ∧ a ≤ (q.S f).acked + (q.S f).sent
  · have e1 : ackS (q.S f) a = ackd (q.S f) (a - (q.S f).acked) := by unfold ackS ackd; rw [if_pos hk, show (q.S f).acked + (a - (q.S f).acked) = a from by omega]
    rw [e1]
    obtain ⟨k, rfl⟩ : ∃ k, a = (q.S f).acked + k := ⟨a - (q.S f).acked, by omega⟩
    rw [show (q.S f).acked + k - (q.S f).acked = k from by omega]
    refine (take_ackq M I _ (q.S f) (fun k => lab k = 2) sq k A x c wr hs ok hx hJ hn (by omega) (by omega)).mono ?_
    rintro e w2 ⟨u, rfl, hv, M2, hs2, hu⟩
    obtain ⟨lab2, l1, l2, _⟩ := relab wr.heap.size lab M2 f 2
    have st : Step f lab lab2 wr w2 := ⟨hu.upd.mono fun k hk => .inl (hm k hk), l1⟩
    refine ⟨u, lab2, rfl, hv, st, h.setS hf st ⟨M2, I, hs2, fun k hk => ?_, fun k hk => by rw [l1 k (hs.ltI k hk)]; exact hi k hk⟩⟩
    rcases hu.m k hk with hk2 | hk2
    · rw [l1 k (hs.ltM k hk2)]; exact hm k hk2
    · exact l2 k hk2 hk
  · have e1 : ackS (q.S f) a = q.S f := by unfold ackS; rw [if_neg hk]
    rw [e1]
    refine (take_noack M I _ (q.S f) (fun k => lab k = 2) sq a A x c wr hs ok hx hJ hn hk).mono ?_
    rintro e w2 ⟨u, rfl, hv, hs2, hu⟩
    obtain ⟨lab2, l1, _, _⟩ := relab wr.heap.size lab M f 2
    have st : Step f lab lab2 wr w2 := step_only (hm _ hs.mb) hu l1
    exact ⟨u, lab2, rfl, hv, st, h.setS hf st ⟨M, I, hs2, fun k hk => by rw [l1 k (hs.ltM k hk)]; exact hm k hk, fun k hk => by rw [l1 k (hs.ltI k hk)]; exact hi k hk⟩⟩

theorem send_w (h : WSt w wr lab q v) {f : Nat} (hf : f < 2) (ok : (q.S f).ok) {J : Nat → Prop} {A : Option Addr} {x : List UInt8} {c : Nat} (hx : Reads wr J 1 A x.length (bytesV x)) (hn : x.length ≤ 1024) :
    Calls Try.prog 13 #[.pointer (some ⟨w.heap.size + f, 0, none⟩), .slice A x.length c] wr fun e w' => ∃ lab2, e = .returned (.tuple #[.int .u64 (((q.S f).acked + ((q.S f).xs.length + 1) : Nat) : Int), .int .i64 0]) ∧
      Step f lab lab2 wr w' ∧ WSt w w' lab2 { q with S := up q.S f { q.S f with xs := (q.S f).xs ++ [x] } } v := by
  obtain ⟨M, I, hs, hm, hi⟩ := h.st f hf
  refine (send_yes M I _ (q.S f) J A x c wr hs ok hx hn).mono ?_
  rintro e w2 ⟨rfl, M2, I2, hs2, hu⟩
  obtain ⟨lab2, l1, l2, l3⟩ := relab wr.heap.size lab M2 f 2
  have st : Step f lab lab2 wr w2 := ⟨hu.upd.mono fun k hk => .inl (hm k hk), l1⟩
  refine ⟨lab2, rfl, st, h.setS hf st ⟨M2, I2, hs2, fun k hk => ?_, fun k hk => ?_⟩⟩
  · rcases hu.m k hk with hk2 | hk2
    · rw [l1 k (hs.ltM k hk2)]; exact hm k hk2
    · exact l2 k hk2 hk
  · rcases hu.i k hk with hk2 | hk2
    · rw [l1 k (hs.ltI k hk2)]; exact hi k hk2
    · exact l3 k hk2 fun hM => hs2.dis k hM hk

/-- Behind an append onto a row of bytes with the label c. -/
theorem append_b {c : Nat} {u u2 : Value} {xs ys : List UInt8} (h : PBy lab wr c u xs) (ho : w2.ownsRow 0 5 1 u2 (xs.length + ys.length) (bytesV xs ++ bytesV ys)) (hgr : wr.grownBy w2 u.ownBlock) (hat : u2.ownBlock = u.ownBlock ∨ u2.ownBlock = some wr.heap.size) :
    ∃ lab2, Step c lab lab2 wr w2 ∧ PBy lab2 w2 c u2 (xs ++ ys) := by
  obtain ⟨lab2, l1, l2, _⟩ := relab wr.heap.size lab (fun _ => True) c 2
  refine ⟨lab2, ⟨(Upd.refl _ _).grown hgr fun k hk => .inl (h.2 k hk), l1⟩, ?_, fun k hk => ?_⟩
  · rw [List.length_append, show bytesV (xs ++ ys) = bytesV xs ++ bytesV ys from by simp [bytesV]]
    exact ho
  · rcases hat with e | e
    · rw [e] at hk
      rw [l1 k (own_lt h.1 hk).2]
      exact h.2 k hk
    · rw [e] at hk
      injection hk with hk
      exact l2 k (by omega) trivial

/-- Blocks with the label d get another one. -/
theorem PSt.re {c d b : Nat} {s : SS} (h : PSt lab wr c b s) (hr : ∀ k, lab k ≠ d → lab2 k = lab k) (hc : c ≠ d) (h2 : 2 ≠ d) : PSt lab2 wr c b s := by
  obtain ⟨M, I, h1, hm, hi⟩ := h
  exact ⟨M, I, h1, fun k hk => by rw [hr k (by rw [hm k hk]; exact hc)]; exact hm k hk, fun k hk => by rw [hr k (by rw [hi k hk]; exact h2)]; exact hi k hk⟩
theorem PFl.re {c d : Nat} {u : Value} {l : List Seg} (h : PFl lab wr c u l) (hr : ∀ k, lab k ≠ d → lab2 k = lab k) (hc : c ≠ d) (h2 : 2 ≠ d) : PFl lab2 wr c u l := by
  obtain ⟨gs, hg, ho, hk, hv⟩ := h
  exact ⟨gs, hg, ho, hk.mono fun k (e : lab k = 2) => (hr k (by omega)).trans e, fun k hk => by rw [hr k (by rw [hv k hk]; exact hc)]; exact hv k hk⟩
theorem PBy.re {c d : Nat} {u : Value} {l : List UInt8} (h : PBy lab wr c u l) (hr : ∀ k, lab k ≠ d → lab2 k = lab k) (hc : c ≠ d) : PBy lab2 wr c u l :=
  ⟨h.1, fun k hk => by rw [hr k (by rw [h.2 k hk]; exact hc)]; exact h.2 k hk⟩
theorem PAr.re {c d b : Nat} {t : TypeId} {x : Nat → Value} (h : PAr lab wr c b t x) (hr : ∀ k, lab k ≠ d → lab2 k = lab k) (hc : c ≠ d) : PAr lab2 wr c b t x :=
  ⟨h.1, by rw [hr b (by rw [h.2]; exact hc)]; exact h.2⟩
theorem PFl.nil (lab : Nat → Nat) (wr : World) (c : Nat) : PFl lab wr c (.slice none 0 0) [] := ⟨[], rfl, World.ownsRow_nil _ _ _ _, (fun g hg => by cases hg), (fun k hk => by cases hk)⟩

/-- What was under way from f goes out of the array, and stands by itself. -/
theorem WSt.outF (h : WSt w wr lab q v) {f : Nat} (hf : f < 2) : ∃ lab2, PFl lab2 (wr.setCell ⟨w.heap.size + 3, f, none⟩ (.slice none 0 0)) 14 (v.fv f) (q.F f) ∧
    WSt w (wr.setCell ⟨w.heap.size + 3, f, none⟩ (.slice none 0 0)) lab2 { q with F := up q.F f [] } { v with fv := up v.fv f (.slice none 0 0), av := up v.av f (.slice none 0 0) } := by
  have h2 := h.storeF hf (.slice none 0 0)
  obtain ⟨gs, hg, ho, hk, hv⟩ := h2.fl f hf
  generalize wr.setCell ⟨w.heap.size + 3, f, none⟩ (.slice none 0 0) = w3 at *
  have hr : ∀ k, lab k ≠ 3 + f → (if lab k = 3 + f then 14 else lab k) = lab k := fun k hk => if_neg hk
  refine ⟨fun k => if lab k = 3 + f then 14 else lab k, ⟨gs, hg, ho, hk.mono fun k (e : lab k = 2) => ?_, fun k hk => ?_⟩, ?_⟩
  · show (if lab k = 3 + f then 14 else lab k) = 2
    rw [if_neg (by omega)]; exact e
  · show (if lab k = 3 + f then 14 else lab k) = 14
    rw [if_pos (hv k hk)]
  · refine ⟨fun k hk => by show (if lab k = 3 + f then 14 else lab k) = 9; rw [if_neg (by rw [h2.low k hk]; omega)]; exact h2.low k hk, h2.below, fun g hg => (h2.st g hg).re hr (by omega) (by omega), fun g hg => ?_, fun g hg => (h2.sn g hg).re hr (by omega), fun g hg => (h2.tk g hg).re hr (by omega), h2.ae.re hr (by omega), h2.af.re hr (by omega), h2.asn.re hr (by omega), h2.atk.re hr (by omega)⟩
    show PFl _ w3 (3 + g) (up v.fv f (.slice none 0 0) g) (up q.F f [] g)
    by_cases e : g = f
    · subst e; rw [up_same, up_same]; exact PFl.nil _ _ _
    · rw [up_other _ _ e, up_other _ _ e]; exact (h2.fl g hg).re hr (by omega) (by omega)
/-- What is under way from f is a new row. -/
theorem WSt.newF (h : WSt w wr lab q v) {f : Nat} (hf : f < 2) (hu : Upd (fun _ => False) wr w2) {gs gs2 : List Sg} (hk : SgOk wr (fun k => lab k = 2) gs) (hs : ∀ g ∈ gs2, g ∈ gs) {u : Value} (ho : w2.ownsRow wr.heap.size 33 3 u gs2.length (sgCells gs2)) :
    ∃ lab2, Step (3 + f) lab lab2 wr w2 ∧ WSt w w2 lab2 { q with F := up q.F f (gs2.map Sg.t) } { v with fv := up v.fv f u } := by
  obtain ⟨lab2, l1, l2, _⟩ := relab wr.heap.size lab (fun _ => True) (3 + f) 2
  have st : Step (3 + f) lab lab2 wr w2 := ⟨hu.mono fun _ h => h.elim, l1⟩
  refine ⟨lab2, st, h.setF hf st ⟨gs2, rfl, own_base ho (Nat.zero_le _), fun g hgm => ?_, fun k hk2 => l2 k (own_lt ho hk2).1 trivial⟩⟩
  obtain ⟨g1, g2⟩ := hk g (hs g hgm)
  exact ⟨own_keep g1 (st.same (I := fun k => lab k = 2) fun k hk => by omega) g2, fun k hk3 => by show lab2 k = 2; rw [l1 k (own_lt g1 hk3).2]; exact g2 k hk3⟩
end
end Go.Proofs.Ytmkjnblmgofoeaa
