/- RelWhole: the last rounds: an end's turn. -/
import Derived.Test.YtmkjnblmgofoeaaWhoA
namespace Go.Proofs.Ytmkjnblmgofoeaa
open Go.RowKit

section
variable {w wr w2 : World} {lab lab2 : Nat → Nat} {q : Fs} {v : Vv}

/-- What stands behind f's Due or Tick, the old row's elements left open. -/
def Aft (w w1 : World) (lab1 : Nat → Nat) (q1 : Fs) (v : Vv) (f : Nat) (old l : List Seg) (A : Option Addr) (m c : Nat) (Au : Option Addr) (mu : Nat) (gc news : List Value) : Prop :=
  Reads w1 (fun _ => True) 3 Au mu news ∧ (∀ u ∈ news, u.oneCell' = true) ∧ w1.ownsRow 0 33 3 (.slice A m c) m gc ∧ WSt w w1 lab1 q1 v ∧
    ∀ v2 w2, w2.ownsRow 0 33 3 v2 (m + mu) (gc ++ news) → w1.grownBy w2 (Value.slice A m c).ownBlock → (v2.ownBlock = (Value.slice A m c).ownBlock ∨ v2.ownBlock = some w1.heap.size) →
      ∃ lab3, WSt w w2 lab3 { q1 with F := up q1.F f (old ++ l) } { v with fv := up v.fv f v2 }
theorem fly_form (h : WSt w wr lab q v) {f : Nat} (hf : f < 2) : ∃ A m c, v.fv f = .slice A m c ∧ m = (q.F f).length := by
  obtain ⟨gs, hg, ho, _, _⟩ := h.fl f hf
  obtain ⟨A, c, e, _⟩ := own_form ho
  exact ⟨A, gs.length, c, e, by rw [← hg, List.length_map]⟩
theorem due_g (h : WSt w wr lab q v) {f : Nat} (hf : f < 2) (ok : (q.S f).ok) (hx : ∀ x ∈ (q.S f).xs, x.length ≤ 1024) (hl : (dueL (q.S f)).length ≤ 8) {A : Option Addr} {m c : Nat} (hfv : v.fv f = .slice A m c) :
    Calls Try.prog 11 #[.pointer (some ⟨w.heap.size + f, 0, none⟩)] wr fun e w' => ∃ Au mu cu lab1 gc news, e = .returned (.slice Au mu cu) ∧ mu ≤ 8 ∧ Aft w w' lab1 { q with S := up q.S f (dueS (q.S f)) } v f (q.F f) (dueL (q.S f)) A m c Au mu gc news := by
  obtain ⟨gs, hg, ho, hk, hv⟩ := h.fl f hf
  have hm : m = gs.length := by
    obtain ⟨A2, c2, e, _⟩ := own_form ho
    rw [hfv] at e
    injection e
  subst hm
  refine (due_f h hf ok hx hl hg hfv (hfv ▸ ho) hk hv).mono ?_
  rintro e w1 ⟨Au, mu, cu, lab1, rfl, h8, news, a1, a2, a3, a4, a5⟩
  exact ⟨Au, mu, cu, lab1, _, news, rfl, h8, a1, a2, a3, a4, a5⟩
theorem tick_g (h : WSt w wr lab q v) {f : Nat} (hf : f < 2) (ok : (q.S f).ok) (hq : (q.S f).silent ≤ 1000) (hx : ∀ x ∈ (q.S f).xs, x.length ≤ 1024) (hl : (tickL (q.S f)).length ≤ 8) {A : Option Addr} {m c : Nat} (hfv : v.fv f = .slice A m c) :
    Calls Try.prog 14 #[.pointer (some ⟨w.heap.size + f, 0, none⟩)] wr fun e w' => ∃ Au mu cu lab1 gc news, e = .returned (.slice Au mu cu) ∧ mu ≤ 8 ∧ Aft w w' lab1 { q with S := up q.S f (tickS (q.S f)) } v f (q.F f) (tickL (q.S f)) A m c Au mu gc news := by
  obtain ⟨gs, hg, ho, hk, hv⟩ := h.fl f hf
  have hm : m = gs.length := by
    obtain ⟨A2, c2, e, _⟩ := own_form ho
    rw [hfv] at e
    injection e
  subst hm
  refine (tick_f h hf ok hq hx hl hg hfv (hfv ▸ ho) hk hv).mono ?_
  rintro e w1 ⟨Au, mu, cu, lab1, rfl, h8, news, a1, a2, a3, a4, a5⟩
  exact ⟨Au, mu, cu, lab1, _, news, rfl, h8, a1, a2, a3, a4, a5⟩
end
theorem up_up {α : Type} (g : Nat → α) (f : Nat) (a b : α) : up (up g f a) f b = up g f b := by
  funext k
  unfold up
  split <;> rfl
/-- f has ticked, and sent what is due. -/
def tickQ (q : Fs) (f : Nat) : Fs := { q with S := up q.S f (tickS (q.S f)), F := up q.F f (q.F f ++ tickL (q.S f)) }
def dueQ (q : Fs) (f : Nat) : Fs := { q with S := up q.S f (dueS (q.S f)), F := up q.F f (q.F f ++ dueL (q.S f)) }
def sentQ (q : Fs) (f : Nat) : Fs := dueQ (tickQ q f) f
/-- The other end has taken j of what came. -/
def gotQ (q : Fs) (o : Nat) (l : List Seg) : Fs := { q with S := up q.S o (recvAll (q.S o) l), tk := up q.tk o (q.tk o ++ tookAll (q.S o) l) }
def turnQ (q : Fs) (f o : Nat) : Fs := let s := sentQ q f; { gotQ s o (s.F f) with F := up s.F f [] }
theorem sentQ_S (q : Fs) (f : Nat) : (sentQ q f).S f = turnS (q.S f) ∧ (sentQ q f).F f = turnL (q.S f) (q.F f) := by
  unfold sentQ dueQ tickQ
  simp only [up_same]
  exact ⟨rfl, rfl⟩
theorem sentQ_o (q : Fs) {f o : Nat} (h : o ≠ f) : (sentQ q f).S o = q.S o ∧ (sentQ q f).F o = q.F o ∧ (sentQ q f).sn = q.sn ∧ (sentQ q f).tk = q.tk := by
  unfold sentQ dueQ tickQ
  simp only [up_other _ _ h, and_self]
theorem turnQ_y (q : Fs) {f o : Nat} (hfo : f + o = 1) : (turnQ q f o).y f = (q.y f).turn := by
  have ho : 1 - f = o := by omega
  have hne : o ≠ f := by omega
  obtain ⟨a1, a2⟩ := sentQ_S q f
  obtain ⟨b1, b2, b3, b4⟩ := sentQ_o q hne
  unfold Fs.y Sy.turn turnQ gotQ
  simp only [ho, up_same, up_other _ _ hne, up_other _ _ (Ne.symm hne), a1, a2, b1, b2, b3, b4]
theorem OkF.sent {q : Fs} (h : OkF q) {f o : Nat} (hfo : f + o = 1) : OkF (sentQ q f) := (h.tick hfo).due hfo
theorem OkF.got {q : Fs} (h : OkF q) {f o : Nat} (hfo : f + o = 1) : ∀ l : List Seg, (∀ g ∈ l, g ∈ q.F f) → OkF (gotQ q o l) := by
  intro l
  induction l using snoc_ind with
  | h0 =>
    intro _
    have e : gotQ q o [] = q := by
      unfold gotQ
      rw [show recvAll (q.S o) [] = q.S o from rfl, show tookAll (q.S o) [] = [] from rfl, List.append_nil, up_self, up_self]
    rw [e]; exact h
  | h1 l g ih =>
    intro hl
    have h2 := ((ih fun x hx => hl x (List.mem_append_left _ hx)).recv hfo (g := g) (hl g (List.mem_append_right _ (by simp)))).1
    have e : gotQ q o (l ++ [g]) = { gotQ q o l with S := up (gotQ q o l).S o (recvS ((gotQ q o l).S o) g), tk := up (gotQ q o l).tk o ((gotQ q o l).tk o ++ recvB ((gotQ q o l).S o) g) } := by
      unfold gotQ
      simp only [up_same, up_up, recvAll_snoc, tookAll_snoc, List.append_assoc]
    rw [e]; exact h2
theorem gotQ_snoc (q : Fs) (o : Nat) (l : List Seg) (g : Seg) : gotQ q o (l ++ [g]) = { gotQ q o l with S := up (gotQ q o l).S o (recvS ((gotQ q o l).S o) g), tk := up (gotQ q o l).tk o ((gotQ q o l).tk o ++ recvB ((gotQ q o l).S o) g) } := by
  unfold gotQ
  simp only [up_same, up_up, recvAll_snoc, tookAll_snoc, List.append_assoc]
theorem OkF.turn {q : Fs} (h : OkF q) {f o : Nat} (hfo : f + o = 1) : OkF (turnQ q f o) := by
  have h2 := ((h.sent hfo).got hfo ((sentQ q f).F f) fun g hg => hg).sub (f := f) (l := []) fun g hg => by cases hg
  exact h2
end Go.Proofs.Ytmkjnblmgofoeaa
