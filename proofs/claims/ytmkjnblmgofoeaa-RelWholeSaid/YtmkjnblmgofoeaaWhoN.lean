/- RelWhole: what holds of both ends at each step. -/
import Derived.Test.YtmkjnblmgofoeaaWhoM
namespace Go.Proofs.Ytmkjnblmgofoeaa
open Go.RowKit

structure OkF (q : Fs) : Prop where
  d : ∀ f o, f + o = 1 → Dir (q.S f) (q.S o) (q.F f) (q.sn f) (q.tk o)
  g : ∀ f, f < 2 → 1 ≤ (q.S f).again ∧ (q.S f).again ≤ 3
  q : ∀ f, f < 2 → (q.S f).silent ≤ 10
structure Lens (q : Fs) (k : Nat) : Prop where
  s : ∀ f, f < 2 → (q.sn f).length ≤ k
  f : ∀ f, f < 2 → (q.F f).length ≤ 20 * k

theorem two {f o a b : Nat} (h : f + o = 1) (k : a + b = 1) : (a = f ∧ b = o ∧ f ≠ o) ∨ (a = o ∧ b = f ∧ f ≠ o) := by omega
section
variable {q : Fs} {f o : Nat}
theorem OkF.ss (h : OkF q) (hfo : f + o = 1) (hs : (q.sn f).length ≤ 1000) (hs2 : (q.sn o).length ≤ 1000) : (q.S f).ok ∧ (∀ x ∈ (q.S f).xs, x.length ≤ 1024) := by
  have d := h.d f o hfo
  have d2 := h.d o f (by omega)
  have l0 := d.len
  have l1 := d2.tlen
  have := h.g f (by omega); have := d.n; have := d.n8; have := h.q f (by omega)
  refine ⟨⟨by omega, by omega, by omega, by omega, d.n, d.n8, by omega, by omega⟩, fun x hx => ?_⟩
  obtain ⟨i, hi, rfl⟩ := List.mem_iff_getElem.1 hx
  obtain ⟨c, _, c2⟩ := d.xs i hi
  rw [List.getElem?_eq_getElem hi] at c2
  injection c2 with c2
  rw [c2]; simp
theorem OkF.due (h : OkF q) (hfo : f + o = 1) : OkF { q with S := up q.S f (dueS (q.S f)), F := up q.F f (q.F f ++ dueL (q.S f)) } := by
  refine ⟨fun a b hab => ?_, fun a ha => ?_, fun a ha => ?_⟩
  · show Dir (up q.S f (dueS (q.S f)) a) (up q.S f (dueS (q.S f)) b) (up q.F f (q.F f ++ dueL (q.S f)) a) (q.sn a) (q.tk b)
    rcases two hfo hab with ⟨rfl, rfl, hne⟩ | ⟨rfl, rfl, hne⟩
    · rw [up_same, up_same, up_other _ _ (Ne.symm hne)]; exact (h.d _ _ hab).due
    · rw [up_same, up_other _ _ (Ne.symm hne), up_other _ _ (Ne.symm hne)]; exact (h.d _ _ hab).dueR
  · show 1 ≤ (up q.S f (dueS (q.S f)) a).again ∧ (up q.S f (dueS (q.S f)) a).again ≤ 3
    by_cases e : a = f
    · subst e; rw [up_same, (dueS_taken _).2.2.2.1]; exact h.g a ha
    · rw [up_other _ _ e]; exact h.g a ha
  · show (up q.S f (dueS (q.S f)) a).silent ≤ 10
    by_cases e : a = f
    · subst e; rw [up_same]; exact silent_due (h.q a ha)
    · rw [up_other _ _ e]; exact h.q a ha
theorem OkF.tick (h : OkF q) (hfo : f + o = 1) : OkF { q with S := up q.S f (tickS (q.S f)), F := up q.F f (q.F f ++ tickL (q.S f)) } := by
  refine ⟨fun a b hab => ?_, fun a ha => ?_, fun a ha => ?_⟩
  · show Dir (up q.S f (tickS (q.S f)) a) (up q.S f (tickS (q.S f)) b) (up q.F f (q.F f ++ tickL (q.S f)) a) (q.sn a) (q.tk b)
    rcases two hfo hab with ⟨rfl, rfl, hne⟩ | ⟨rfl, rfl, hne⟩
    · rw [up_same, up_same, up_other _ _ (Ne.symm hne)]; exact (h.d _ _ hab).tick
    · rw [up_same, up_other _ _ (Ne.symm hne), up_other _ _ (Ne.symm hne)]; exact (h.d _ _ hab).tickR
  · show 1 ≤ (up q.S f (tickS (q.S f)) a).again ∧ (up q.S f (tickS (q.S f)) a).again ≤ 3
    by_cases e : a = f
    · subst e; rw [up_same, (tickS_taken _).2.2.2.2]; exact h.g a ha
    · rw [up_other _ _ e]; exact h.g a ha
  · show (up q.S f (tickS (q.S f)) a).silent ≤ 10
    by_cases e : a = f
    · subst e; rw [up_same]; exact silent_tick (by have := h.g a ha; omega) (h.q a ha)
    · rw [up_other _ _ e]; exact h.q a ha
theorem OkF.send (h : OkF q) (hfo : f + o = 1) (c : UInt8) : OkF { q with S := up q.S f { q.S f with xs := (q.S f).xs ++ [[c]] }, sn := up q.sn f (q.sn f ++ [c]) } := by
  refine ⟨fun a b hab => ?_, fun a ha => ?_, fun a ha => ?_⟩
  · show Dir (up q.S f { q.S f with xs := (q.S f).xs ++ [[c]] } a) (up q.S f { q.S f with xs := (q.S f).xs ++ [[c]] } b) (q.F a) (up q.sn f (q.sn f ++ [c]) a) (q.tk b)
    rcases two hfo hab with ⟨rfl, rfl, hne⟩ | ⟨rfl, rfl, hne⟩
    · rw [up_same, up_same, up_other _ _ (Ne.symm hne)]; exact (h.d _ _ hab).send c
    · rw [up_same, up_other _ _ (Ne.symm hne), up_other _ _ (Ne.symm hne)]; exact (h.d _ _ hab).congr rfl rfl rfl (Nat.le_refl _) rfl fun _ h => h
  · show 1 ≤ (up q.S f { q.S f with xs := (q.S f).xs ++ [[c]] } a).again ∧ (up q.S f { q.S f with xs := (q.S f).xs ++ [[c]] } a).again ≤ 3
    by_cases e : a = f
    · subst e; rw [up_same]; exact h.g a ha
    · rw [up_other _ _ e]; exact h.g a ha
  · show (up q.S f { q.S f with xs := (q.S f).xs ++ [[c]] } a).silent ≤ 10
    by_cases e : a = f
    · subst e; rw [up_same]; exact h.q a ha
    · rw [up_other _ _ e]; exact h.q a ha
theorem OkF.recv (h : OkF q) (hfo : f + o = 1) {g : Seg} (hg : g ∈ q.F f) : OkF { q with S := up q.S o (recvS (q.S o) g), tk := up q.tk o (q.tk o ++ recvB (q.S o) g) } ∧ (seqI (q.S o) g.1 = true → ∃ c, g.2.2 = [c]) ∧ g.2.2.length ≤ 1024 := by
  have hr := (h.d f o hfo).recv hg
  refine ⟨⟨fun a b hab => ?_, fun a ha => ?_, fun a ha => ?_⟩, hr.2, ?_⟩
  · show Dir (up q.S o (recvS (q.S o) g) a) (up q.S o (recvS (q.S o) g) b) (q.F a) (q.sn a) (up q.tk o (q.tk o ++ recvB (q.S o) g) b)
    rcases two hfo hab with ⟨rfl, rfl, hne⟩ | ⟨rfl, rfl, hne⟩
    · rw [up_same, up_same, up_other _ _ hne]; exact hr.1
    · rw [up_same, up_other _ _ hne, up_other _ _ hne]; exact (h.d _ _ hab).recvR ((h.d _ _ hfo).fly g hg).1
  · show 1 ≤ (up q.S o (recvS (q.S o) g) a).again ∧ (up q.S o (recvS (q.S o) g) a).again ≤ 3
    by_cases e : a = o
    · subst e; rw [up_same, recvS_again]; exact h.g a ha
    · rw [up_other _ _ e]; exact h.g a ha
  · show (up q.S o (recvS (q.S o) g) a).silent ≤ 10
    by_cases e : a = o
    · subst e; rw [up_same]; exact silent_recv (h.q a ha) g
    · rw [up_other _ _ e]; exact h.q a ha
  · rcases ((h.d _ _ hfo).fly g hg).2 with ⟨_, e⟩ | ⟨_, _, c, _, e⟩ <;> rw [e] <;> simp
theorem OkF.sub (h : OkF q) {l : List Seg} (hl : ∀ g ∈ l, g ∈ q.F f) : OkF { q with F := up q.F f l } := by
  refine ⟨fun a b hab => ?_, h.g, h.q⟩
  show Dir (q.S a) (q.S b) (up q.F f l a) (q.sn a) (q.tk b)
  by_cases e : a = f
  · subst e; rw [up_same]; exact (h.d a b hab).congr rfl rfl rfl (Nat.le_refl _) rfl hl
  · rw [up_other _ _ e]; exact h.d a b hab
/-- What the law checks behind each act. -/
theorem OkF.check (h : OkF q) (hfo : f + o = 1) : (q.tk o).length ≤ (q.sn f).length ∧ q.tk o = (q.sn f).take (q.tk o).length ∧ (q.S f).acked ≤ (q.S o).taken ∧ (q.S o).taken = (q.tk o).length := by
  have d := h.d f o hfo
  obtain ⟨a, b⟩ := d.tlen
  exact ⟨by omega, by rw [a]; exact d.took, d.a, a.symm⟩
end
theorem due_len {q : Fs} {f o : Nat} (h : OkF q) (hfo : f + o = 1) : (dueL (q.S f)).length ≤ 8 := by
  have := (h.d f o hfo).n8
  unfold dueL
  split
  · rw [outSpec_len]; unfold dueTo; omega
  · split <;> simp
theorem tick_len {q : Fs} {f o : Nat} (h : OkF q) (hfo : f + o = 1) : (tickL (q.S f)).length ≤ 8 := by
  have := (h.d f o hfo).n8
  unfold tickL
  repeat' split
  · simp
  · simp
  · rw [outSpec_len]; omega

def Fs.y (q : Fs) (f : Nat) : Sy := ⟨q.S f, q.S (1 - f), q.F f, q.F (1 - f), q.sn f, q.sn (1 - f), q.tk f, q.tk (1 - f)⟩
theorem OkF.ok2 {q : Fs} (h : OkF q) : (q.y 0).Ok2 := ⟨h.d 0 1 rfl, h.d 1 0 rfl, (h.g 0 (by omega)).2, (h.g 1 (by omega)).2⟩
/-- At the start. -/
def q0 : Fs := ⟨fun f => if f = 0 then ssNew 2 else ssNew 3, fun _ => [], fun _ => [], fun _ => []⟩
theorem dir0 (a b : Nat) : Dir (ssNew a) (ssNew b) [] [] [] := by
  refine ⟨Nat.le_refl _, Nat.le_refl _, Nat.le_refl _, by show 0 ≤ 8; omega, rfl, ?_, rfl, ?_⟩
  · intro i hi
    exact absurd hi (Nat.not_lt_zero _)
  · intro g hg
    cases hg
theorem q0_ok : OkF q0 := by
  refine ⟨fun f o h => ?_, fun f hf => ?_, fun f hf => ?_⟩
  · have : (f = 0 ∧ o = 1) ∨ (f = 1 ∧ o = 0) := by omega
    rcases this with ⟨rfl, rfl⟩ | ⟨rfl, rfl⟩ <;> exact dir0 _ _
  · have : f = 0 ∨ f = 1 := by omega
    rcases this with rfl | rfl
    · exact ⟨by show 1 ≤ 2; omega, by show 2 ≤ 3; omega⟩
    · exact ⟨by show 1 ≤ 3; omega, by show 3 ≤ 3; omega⟩
  · have : f = 0 ∨ f = 1 := by omega
    rcases this with rfl | rfl <;> exact Nat.zero_le _

def v0 : Vv := ⟨fun _ => .slice none 0 0, fun _ => .slice none 0 0, fun _ => .slice none 0 0, fun _ => .slice none 0 0, fun _ => .slice none 0 0, fun _ => .slice none 0 0⟩
def lab0 (B : Nat) : Nat → Nat := fun k => if k < B then 9 else if k = B then 0 else if k = B + 1 then 1 else if k = B + 2 then 13 else if k = B + 3 then 10 else if k = B + 4 then 11 else if k = B + 5 then 12 else 2
abbrev W0 (w : World) : World := (((((w.alloc (.cells (strC (ssNew 2) (.slice none 0 0)) 63)).alloc (.cells (strC (ssNew 3) (.slice none 0 0)) 63)).alloc (.cells #[.pointer (some ⟨w.heap.size, 0, none⟩), .pointer (some ⟨w.heap.size + 1, 0, none⟩)] 37)).alloc
  (.cells #[.slice none 0 0, .slice none 0 0] 38)).alloc (.cells #[.slice none 0 0, .slice none 0 0] 39)).alloc (.cells #[.slice none 0 0, .slice none 0 0] 39)
theorem isStr_new {w : World} {b a : Nat} (h : Blk w b 63 (strC (ssNew a) (.slice none 0 0))) : IsStr w (fun k => k = b) (fun _ => False) b (ssNew a) :=
  ⟨⟨_, [], h, World.ownsRow_nil _ _ _ _, trivial, fun g hg => by (cases hg)⟩, rfl, fun _ _ h => h, fun k hk => by rw [hk]; exact h.lt, fun _ h => h.elim⟩
theorem blk_nth {w : World} {n : Nat} {t : TypeId} {cs : Array Value} (h : w.heap.size = n) : Blk (w.alloc (.cells cs t)) n t cs := by subst h; exact Blk.new _ _ _
theorem wst0 (w : World) : WSt w (W0 w) (lab0 w.heap.size) q0 v0 := by
  have l0 : ∀ i, i < 6 → lab0 w.heap.size (w.heap.size + i) = if i = 0 then 0 else if i = 1 then 1 else if i = 2 then 13 else if i = 3 then 10 else if i = 4 then 11 else 12 := by
    intro i hi
    unfold lab0
    have : i = 0 ∨ i = 1 ∨ i = 2 ∨ i = 3 ∨ i = 4 ∨ i = 5 := by omega
    rcases this with rfl | rfl | rfl | rfl | rfl | rfl <;> simp
  refine ⟨fun k hk => if_pos hk, ?_, fun f hf => ?_, fun f hf => PFl.nil _ _ _, fun f hf => ⟨World.ownsRow_nil _ _ _ _, fun k hk => by (cases hk)⟩, fun f hf => ⟨World.ownsRow_nil _ _ _ _, fun k hk => by (cases hk)⟩, ⟨?_, l0 2 (by omega)⟩, ⟨?_, l0 3 (by omega)⟩, ⟨?_, l0 4 (by omega)⟩, ⟨?_, l0 5 (by omega)⟩⟩
  · exact (((((((Below.refl _ _).alloc (Nat.le_refl _) _).alloc (by simp) _).alloc (by simp; omega) _).alloc (by simp; omega) _).alloc (by simp; omega) _).alloc (by simp; omega) _)
  · have : f = 0 ∨ f = 1 := by omega
    rcases this with rfl | rfl
    · exact ⟨_, _, isStr_new ((((((blk_nth rfl).alloc _).alloc _).alloc _).alloc _).alloc _), fun k hk => by rw [hk]; exact l0 0 (by omega), fun k hk => hk.elim⟩
    · exact ⟨_, _, isStr_new (((((blk_nth (by simp)).alloc _).alloc _).alloc _).alloc _), fun k hk => by rw [hk]; exact l0 1 (by omega), fun k hk => hk.elim⟩
  · exact (((blk_nth (by simp)).alloc _).alloc _).alloc _
  · exact ((blk_nth (by simp)).alloc _).alloc _
  · exact (blk_nth (by simp)).alloc _
  · exact blk_nth (by simp)
end Go.Proofs.Ytmkjnblmgofoeaa
