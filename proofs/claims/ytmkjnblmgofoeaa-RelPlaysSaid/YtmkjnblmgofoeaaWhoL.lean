/- RelWhole: what two streams are, whatever becomes of the segments between them; and that, where none is lost any more, all comes. -/
import Derived.Test.YtmkjnblmgofoeaaStAt
namespace Go.Proofs.Ytmkjnblmgofoeaa
open Go.RowKit

abbrev Seg := Nat × Nat × List UInt8
def recvS (R : SS) (g : Seg) : SS := seqS (ackS R g.2.1) g.1
def recvB (R : SS) (g : Seg) : List UInt8 := if seqI R g.1 = true then g.2.2 else []

theorem ackS_taken (s : SS) (a : Nat) : (ackS s a).taken = s.taken := by unfold ackS; split <;> rfl
theorem ackS_owed (s : SS) (a : Nat) : (ackS s a).owed = s.owed := by unfold ackS; split <;> rfl
theorem ackS_again (s : SS) (a : Nat) : (ackS s a).again = s.again := by unfold ackS; split <;> rfl
theorem seqS_again (s : SS) (a : Nat) : (seqS s a).again = s.again := by
  unfold seqS; repeat' split
  all_goals rfl
theorem seqS_acked (s : SS) (a : Nat) : (seqS s a).acked = s.acked := by
  unfold seqS; repeat' split
  all_goals rfl
theorem seqS_xs (s : SS) (a : Nat) : (seqS s a).xs = s.xs := by
  unfold seqS; repeat' split
  all_goals rfl
theorem seqS_sent (s : SS) (a : Nat) : (seqS s a).sent = s.sent := by
  unfold seqS; repeat' split
  all_goals rfl
theorem seqS_silent (s : SS) (a : Nat) : (seqS s a).silent = s.silent := by
  unfold seqS; repeat' split
  all_goals rfl
def tk (t q : Nat) : Nat := if q = t + 1 then t + 1 else t
theorem seqS_taken (s : SS) (q : Nat) : (seqS s q).taken = tk s.taken q := by
  unfold seqS tk
  by_cases h0 : q = 0
  · rw [if_pos h0, if_neg (by omega)]
  · rw [if_neg h0]; split <;> rfl
theorem seqS_owed (s : SS) (q : Nat) : (seqS s q).owed = (s.owed || decide (q ≠ 0)) := by
  unfold seqS
  by_cases h0 : q = 0
  · rw [if_pos h0]; simp [h0]
  · rw [if_neg h0]; split <;> simp [h0]
theorem recvS_taken (R : SS) (g : Seg) : (recvS R g).taken = tk R.taken g.1 := by unfold recvS; rw [seqS_taken, ackS_taken]
theorem recvS_owed (R : SS) (g : Seg) : (recvS R g).owed = (R.owed || decide (g.1 ≠ 0)) := by unfold recvS; rw [seqS_owed, ackS_owed]
theorem tickS_taken (s : SS) : (tickS s).taken = s.taken ∧ (tickS s).acked = s.acked ∧ (tickS s).xs = s.xs ∧ (tickS s).sent = s.sent ∧ (tickS s).again = s.again := by
  unfold tickS; repeat' split
  all_goals exact ⟨rfl, rfl, rfl, rfl, rfl⟩
theorem dueS_taken (s : SS) : (dueS s).taken = s.taken ∧ (dueS s).acked = s.acked ∧ (dueS s).xs = s.xs ∧ (dueS s).again = s.again ∧ (dueS s).owed = false ∧ s.sent ≤ (dueS s).sent ∧ ((dueS s).sent = if s.sent < dueTo s then dueTo s else s.sent) := by
  unfold dueS; split
  · rename_i h; exact ⟨rfl, rfl, rfl, rfl, rfl, by show s.sent ≤ dueTo s; omega, rfl⟩
  · exact ⟨rfl, rfl, rfl, rfl, rfl, Nat.le_refl _, rfl⟩

/-- One direction: S sends, R takes; fly is under way; all that was sent, and what was taken. -/
structure Dir (S R : SS) (fly : List Seg) (sent took : List UInt8) : Prop where
  a : S.acked ≤ R.taken
  t : R.taken ≤ S.acked + S.sent
  n : S.sent ≤ S.xs.length
  n8 : S.sent ≤ 8
  len : S.acked + S.xs.length = sent.length
  xs : ∀ i, i < S.xs.length → ∃ c, sent[S.acked + i]? = some c ∧ S.xs[i]? = some [c]
  took : took = sent.take R.taken
  fly : ∀ g ∈ fly, g.2.1 ≤ S.taken ∧ (g.1 = 0 ∧ g.2.2 = [] ∨ 1 ≤ g.1 ∧ g.1 ≤ S.acked + S.sent ∧ ∃ c, sent[g.1 - 1]? = some c ∧ g.2.2 = [c])

section
variable {S S2 R R2 : SS} {fly fly2 : List Seg} {sent took : List UInt8}
theorem Dir.tlen (h : Dir S R fly sent took) : took.length = R.taken ∧ R.taken ≤ sent.length := by
  have := h.t; have := h.n; have := h.len
  rw [h.took, List.length_take]
  omega
theorem Dir.congr (h : Dir S R fly sent took) (h1 : S2.acked = S.acked) (h2 : S2.xs = S.xs) (h3 : S2.sent = S.sent) (h4 : S.taken ≤ S2.taken) (h5 : R2.taken = R.taken) (hf : ∀ g ∈ fly2, g ∈ fly) : Dir S2 R2 fly2 sent took := by
  obtain ⟨a, t, n, n8, len, xs, tk, fl⟩ := h
  refine ⟨by omega, by omega, by rw [h2]; omega, by omega, by rw [h1, h2]; exact len, ?_, by rw [h5]; exact tk, fun g hg => ?_⟩
  · rw [h1, h2]; exact xs
  · obtain ⟨x, y⟩ := fl g (hf g hg)
    rw [h1, h3]
    exact ⟨by omega, y⟩
theorem outSpec_mem {s : SS} {frm k : Nat} {g : Seg} (h : g ∈ outSpec s frm k) : ∃ i, i < k ∧ g = (s.acked + (frm + i) + 1, s.taken, s.xs[frm + i]?.getD []) := by
  unfold outSpec at h
  obtain ⟨i, hi, rfl⟩ := List.mem_map.1 h
  exact ⟨i, by simpa using hi, rfl⟩
/-- S sends what it holds from one place up to another one. -/
theorem Dir.out (h : Dir S R fly sent took) (h1 : S2.acked = S.acked) (h2 : S2.xs = S.xs) (h3 : S.sent ≤ S2.sent) (h6 : S2.sent ≤ S.xs.length ∧ S2.sent ≤ 8) (h4 : S2.taken = S.taken) {l : List Seg}
    (hl : ∀ g ∈ l, g = (0, S.taken, []) ∨ ∃ i, i < S2.sent ∧ g = (S.acked + i + 1, S.taken, S.xs[i]?.getD [])) : Dir S2 R (fly ++ l) sent took := by
  obtain ⟨a, t, n, n8, len, xs, tk, fl⟩ := h
  refine ⟨by omega, by omega, by rw [h2]; exact h6.1, h6.2, by rw [h1, h2]; exact len, by rw [h1, h2]; exact xs, tk, fun g hg => ?_⟩
  rw [h1, h4]
  rcases List.mem_append.1 hg with hg | hg
  · obtain ⟨x, y⟩ := fl g hg
    exact ⟨x, y.imp id fun ⟨y1, y2, y3⟩ => ⟨y1, by omega, y3⟩⟩
  · rcases hl g hg with rfl | ⟨i, hi, rfl⟩
    · exact ⟨Nat.le_refl _, .inl ⟨rfl, rfl⟩⟩
    · obtain ⟨c, c1, c2⟩ := xs i (by omega)
      refine ⟨Nat.le_refl _, .inr ⟨by show 1 ≤ S.acked + i + 1; omega, by show S.acked + i + 1 ≤ S.acked + S2.sent; omega, c, c1, by show S.xs[i]?.getD [] = [c]; rw [c2]; rfl⟩⟩
theorem tickL_mem {s : SS} {g : Seg} (h : g ∈ tickL s) : ∃ i, i < s.sent ∧ g = (s.acked + i + 1, s.taken, s.xs[i]?.getD []) := by
  unfold tickL at h
  repeat' split at h
  · cases h
  · cases h
  · obtain ⟨i, hi, rfl⟩ := outSpec_mem h
    exact ⟨i, hi, by rw [Nat.zero_add]⟩
theorem dueL_mem {s : SS} {g : Seg} (h : g ∈ dueL s) : g = (0, s.taken, []) ∨ ∃ i, i < (dueS s).sent ∧ g = (s.acked + i + 1, s.taken, s.xs[i]?.getD []) := by
  rw [(dueS_taken s).2.2.2.2.2.2]
  unfold dueL at h
  split at h
  · rename_i hlt
    obtain ⟨i, hi, rfl⟩ := outSpec_mem h
    exact .inr ⟨s.sent + i, by rw [if_pos hlt]; omega, rfl⟩
  · split at h
    · exact .inl (by simpa using h)
    · cases h
theorem Dir.tick (h : Dir S R fly sent took) : Dir (tickS S) R (fly ++ tickL S) sent took := by
  obtain ⟨t1, t2, t3, t4, t5⟩ := tickS_taken S
  exact h.out t2 t3 (by omega) (by rw [t4]; exact ⟨h.n, h.n8⟩) t1 fun g hg => .inr (by rw [t4]; exact tickL_mem hg)
theorem Dir.due (h : Dir S R fly sent took) : Dir (dueS S) R (fly ++ dueL S) sent took := by
  obtain ⟨t1, t2, t3, t5, t6, t7, t8⟩ := dueS_taken S
  have hd : dueTo S ≤ S.xs.length ∧ dueTo S ≤ 8 := by unfold dueTo; omega
  have := h.n
  have := h.n8
  exact h.out t2 t3 t7 (by rw [t8]; split <;> omega) t1 fun g hg => dueL_mem hg
/-- The reverse direction sees of it nothing. -/
theorem Dir.tickR (h : Dir R S fly sent took) : Dir R (tickS S) fly sent took := h.congr rfl rfl rfl (Nat.le_refl _) (tickS_taken S).1 fun _ h => h
theorem Dir.dueR (h : Dir R S fly sent took) : Dir R (dueS S) fly sent took := h.congr rfl rfl rfl (Nat.le_refl _) (dueS_taken S).1 fun _ h => h
theorem Dir.send (h : Dir S R fly sent took) (c : UInt8) : Dir { S with xs := S.xs ++ [[c]] } R fly (sent ++ [c]) took := by
  have hl := h.tlen
  obtain ⟨a, t, n, n8, len, xs, tk, fl⟩ := h
  refine ⟨a, t, by show S.sent ≤ (S.xs ++ [[c]]).length; simp; omega, n8, by show S.acked + (S.xs ++ [[c]]).length = _; simp; omega, ?_, ?_, fun g hg => ?_⟩
  · intro i hi
    have hi : i < (S.xs ++ [[c]]).length := hi
    rw [List.length_append, List.length_singleton] at hi
    show ∃ c2, (sent ++ [c])[S.acked + i]? = some c2 ∧ (S.xs ++ [[c]])[i]? = some [c2]
    by_cases e : i < S.xs.length
    · obtain ⟨c2, c3, c4⟩ := xs i e
      exact ⟨c2, by rw [List.getElem?_append_left (by omega)]; exact c3, by rw [List.getElem?_append_left e]; exact c4⟩
    · obtain rfl : i = S.xs.length := by omega
      refine ⟨c, ?_, ?_⟩
      · rw [len]; simp
      · simp
  · rw [List.take_append_of_le_length hl.2]; exact tk
  · obtain ⟨x, y⟩ := fl g hg
    refine ⟨x, y.imp id fun ⟨y1, y2, c2, y3, y4⟩ => ⟨y1, y2, c2, ?_, y4⟩⟩
    rw [List.getElem?_append_left (by have := List.getElem?_eq_some_iff.1 y3; exact this.1)]
    exact y3
/-- R takes a segment that is under way. -/
theorem Dir.recv (h : Dir S R fly sent took) {g : Seg} (hg : g ∈ fly) : Dir S (recvS R g) fly sent (took ++ recvB R g) ∧ (seqI R g.1 = true → ∃ c, g.2.2 = [c]) := by
  have hl := h.tlen
  obtain ⟨a, t, n, n8, len, xs, tk_, fl⟩ := h
  obtain ⟨x, y⟩ := fl g hg
  by_cases hi : g.1 = R.taken + 1
  · rcases y with ⟨y, _⟩ | ⟨y1, y2, c, y3, y4⟩
    · omega
    have hs : seqI R g.1 = true := by unfold seqI; simp only [decide_eq_true_eq]; omega
    have ht : (recvS R g).taken = R.taken + 1 := by rw [recvS_taken]; unfold tk; rw [if_pos hi]
    refine ⟨⟨by omega, by omega, n, n8, len, xs, ?_, fl⟩, fun _ => ⟨c, y4⟩⟩
    unfold recvB
    rw [if_pos hs, y4, ht, tk_, List.take_succ_eq_append_getElem (by omega)]
    rw [hi, Nat.add_sub_cancel] at y3
    rw [List.getElem?_eq_some_iff] at y3
    rw [y3.2]
  · have hs : seqI R g.1 = false := by unfold seqI; simp only [decide_eq_false_iff_not]; omega
    have ht : (recvS R g).taken = R.taken := by rw [recvS_taken]; unfold tk; rw [if_neg hi]
    refine ⟨⟨by omega, by omega, n, n8, len, xs, ?_, fl⟩, fun h => by rw [hs] at h; cases h⟩
    unfold recvB
    rw [hs, ht]
    simpa using tk_
theorem ackS_or (s : SS) (a : Nat) : ackS s a = s ∨ (s.acked < a ∧ a ≤ s.acked + s.sent ∧ ackS s a = { s with xs := s.xs.drop (a - s.acked), sent := s.sent - (a - s.acked), acked := a, silent := 0 }) := by
  unfold ackS
  split
  · rename_i h; exact .inr ⟨h.1, h.2, rfl⟩
  · exact .inl rfl
/-- In the other direction R has sent: what is acknowledged is struck. -/
theorem Dir.recvR (h : Dir R S fly2 sent took) {g : Seg} (hg : g.2.1 ≤ S.taken) : Dir (recvS R g) S fly2 sent took := by
  obtain ⟨a, t, n, n8, len, xs, tk_, fl⟩ := h
  have hT : R.taken ≤ (recvS R g).taken := by rw [recvS_taken]; unfold tk; split <;> omega
  have e1 : (recvS R g).acked = (ackS R g.2.1).acked := seqS_acked _ _
  have e2 : (recvS R g).xs = (ackS R g.2.1).xs := seqS_xs _ _
  have e3 : (recvS R g).sent = (ackS R g.2.1).sent := seqS_sent _ _
  rcases ackS_or R g.2.1 with e | ⟨h1, h2, e⟩
  · rw [e] at e1 e2 e3
    exact Dir.congr ⟨a, t, n, n8, len, xs, tk_, fl⟩ e1 e2 e3 hT rfl fun _ h => h
  · rw [e] at e1 e2 e3
    simp only at e1 e2 e3
    refine ⟨by omega, by omega, by rw [e2, e3, List.length_drop]; omega, by omega, by rw [e1, e2, List.length_drop]; omega, ?_, tk_, fun g2 hg2 => ?_⟩
    · rw [e1, e2]
      intro i hi
      rw [List.length_drop] at hi
      obtain ⟨c, c1, c2⟩ := xs (g.2.1 - R.acked + i) (by omega)
      rw [show R.acked + (g.2.1 - R.acked + i) = g.2.1 + i from by omega] at c1
      exact ⟨c, c1, by rw [List.getElem?_drop]; exact c2⟩
    · obtain ⟨x, y⟩ := fl g2 hg2
      exact ⟨by omega, y.imp id fun ⟨y1, y2, y3⟩ => ⟨y1, by omega, y3⟩⟩
end

/-- The whole: two ends. -/
structure Sy where
  a : SS
  b : SS
  f0 : List Seg
  f1 : List Seg
  s0 : List UInt8
  s1 : List UInt8
  t0 : List UInt8
  t1 : List UInt8
structure Sy.Ok (y : Sy) : Prop where
  d0 : Dir y.a y.b y.f0 y.s0 y.t1
  d1 : Dir y.b y.a y.f1 y.s1 y.t0
  g0 : y.a.again = 2
  g1 : y.b.again = 3
  q0 : y.a.silent ≤ 10
  q1 : y.b.silent ≤ 10
def Sy.swap (y : Sy) : Sy := ⟨y.b, y.a, y.f1, y.f0, y.s1, y.s0, y.t1, y.t0⟩
theorem Sy.swap_swap (y : Sy) : y.swap.swap = y := rfl
/-- With fixed bounds: what the contracts ask. -/
theorem Sy.Ok.ss0 {y : Sy} (h : y.Ok) (h0 : y.s0.length ≤ 1000) (h1 : y.s1.length ≤ 1000) : y.a.ok ∧ (∀ x ∈ y.a.xs, x.length ≤ 1024) := by
  have l0 := h.d0.len
  have l1 := h.d1.tlen
  have := h.g0; have := h.d0.n; have := h.d0.n8; have := h.q0
  refine ⟨⟨by omega, by omega, by omega, by omega, h.d0.n, h.d0.n8, by omega, by omega⟩, fun x hx => ?_⟩
  obtain ⟨i, hi, rfl⟩ := List.mem_iff_getElem.1 hx
  obtain ⟨c, _, c2⟩ := h.d0.xs i hi
  rw [List.getElem?_eq_getElem hi] at c2
  injection c2 with c2
  rw [c2]; simp
theorem Sy.Ok.ss1 {y : Sy} (h : y.Ok) (h0 : y.s0.length ≤ 1000) (h1 : y.s1.length ≤ 1000) : y.b.ok ∧ (∀ x ∈ y.b.xs, x.length ≤ 1024) := by
  have l0 := h.d1.len
  have l1 := h.d0.tlen
  have := h.g1; have := h.d1.n; have := h.d1.n8; have := h.q1
  refine ⟨⟨by omega, by omega, by omega, by omega, h.d1.n, h.d1.n8, by omega, by omega⟩, fun x hx => ?_⟩
  obtain ⟨i, hi, rfl⟩ := List.mem_iff_getElem.1 hx
  obtain ⟨c, _, c2⟩ := h.d1.xs i hi
  rw [List.getElem?_eq_getElem hi] at c2
  injection c2 with c2
  rw [c2]; simp
theorem silent_due {s : SS} {n : Nat} (h : s.silent ≤ n) : (dueS s).silent ≤ n := by
  unfold dueS; split
  · exact Nat.zero_le _
  · exact h
theorem silent_tick {s : SS} {n : Nat} (hg : s.again ≤ n) (h : s.silent ≤ n) : (tickS s).silent ≤ n := by
  unfold tickS; repeat' split
  · exact Nat.zero_le _
  · show s.silent + 1 ≤ n; omega
  · exact Nat.zero_le _
theorem silent_recv {s : SS} {n : Nat} (h : s.silent ≤ n) (g : Seg) : (recvS s g).silent ≤ n := by
  unfold recvS
  rw [seqS_silent]
  rcases ackS_or s g.2.1 with e | ⟨_, _, e⟩ <;> rw [e]
  · exact h
  · exact Nat.zero_le _
theorem recvS_again (s : SS) (g : Seg) : (recvS s g).again = s.again := by unfold recvS; rw [seqS_again, ackS_again]

/-- R takes a row of segments. -/
def recvAll (R : SS) (l : List Seg) : SS := l.foldl recvS R
def tookAll : SS → List Seg → List UInt8
  | _, [] => []
  | R, g :: l => recvB R g ++ tookAll (recvS R g) l
theorem recvAll_cons (R : SS) (g : Seg) (l : List Seg) : recvAll R (g :: l) = recvAll (recvS R g) l := rfl
theorem recvAll_snoc (R : SS) (g : Seg) (l : List Seg) : recvAll R (l ++ [g]) = recvS (recvAll R l) g := by simp [recvAll]
theorem tookAll_snoc (g : Seg) : ∀ (l : List Seg) (R : SS), tookAll R (l ++ [g]) = tookAll R l ++ recvB (recvAll R l) g
  | [], R => by simp [tookAll, recvAll]
  | h :: l, R => by simp [tookAll, tookAll_snoc g l, recvAll]
theorem recvAll_append (R : SS) (l m : List Seg) : recvAll R (l ++ m) = recvAll (recvAll R l) m := by simp [recvAll]

def turnL (S : SS) (fly : List Seg) : List Seg := fly ++ tickL S ++ dueL (tickS S)
def turnS (S : SS) : SS := dueS (tickS S)
/-- One end's turn: it ticks, all that is under way comes. -/
def Sy.turn (y : Sy) : Sy := { y with a := turnS y.a, b := recvAll y.b (turnL y.a y.f0), f0 := [], t1 := y.t1 ++ tookAll y.b (turnL y.a y.f0) }
def Sy.nrut (y : Sy) : Sy := y.swap.turn.swap

theorem snoc_ind {α : Type} {p : List α → Prop} (h0 : p []) (h1 : ∀ l a, p l → p (l ++ [a])) (l : List α) : p l := by
  rw [← List.reverse_reverse l]
  induction l.reverse with
  | nil => exact h0
  | cons a r ih => rw [List.reverse_cons]; exact h1 _ _ ih

/-- R has taken k of the row l. -/
theorem Sy.Ok.takes {y : Sy} (h : y.Ok) : ∀ (l : List Seg), (∀ g ∈ l, g ∈ y.f0) → Sy.Ok { y with b := recvAll y.b l, t1 := y.t1 ++ tookAll y.b l } := by
  intro l
  induction l using snoc_ind with
  | h0 => intro _; simpa [tookAll, recvAll] using h
  | h1 l g ih =>
    intro hl
    have ih := ih fun x hx => hl x (List.mem_append_left _ hx)
    have hg : g ∈ y.f0 := hl g (List.mem_append_right _ (by simp))
    obtain ⟨d0, d1, g0, g1, q0, q1⟩ := ih
    rw [recvAll_snoc, tookAll_snoc]
    refine ⟨?_, d1.recvR (h.d0.fly g hg).1, g0, by show (recvS _ g).again = 3; rw [recvS_again]; exact g1, q0, silent_recv q1 g⟩
    have := (d0.recv hg).1
    rw [List.append_assoc] at this
    exact this

structure Sy.Ok2 (y : Sy) : Prop where
  d0 : Dir y.a y.b y.f0 y.s0 y.t1
  d1 : Dir y.b y.a y.f1 y.s1 y.t0
  q0 : y.a.again ≤ 3
  q1 : y.b.again ≤ 3
theorem Sy.Ok2.swap {y : Sy} (h : y.Ok2) : y.swap.Ok2 := ⟨h.d1, h.d0, h.q1, h.q0⟩
theorem Sy.Ok.ok2 {y : Sy} (h : y.Ok) : y.Ok2 := ⟨h.d0, h.d1, by rw [h.g0]; omega, by rw [h.g1]; omega⟩
theorem Sy.Ok2.turned {y : Sy} (h : y.Ok2) : Sy.Ok2 { y with a := turnS y.a, f0 := turnL y.a y.f0 } := by
  refine ⟨?_, ?_, ?_, h.q1⟩
  · have := h.d0.tick.due
    exact this
  · exact h.d1.tickR.dueR
  · show (dueS (tickS y.a)).again ≤ 3
    rw [(dueS_taken _).2.2.2.1, (tickS_taken _).2.2.2.2]
    exact h.q0
theorem Sy.Ok2.takes {y : Sy} (h : y.Ok2) : ∀ (l : List Seg), (∀ g ∈ l, g ∈ y.f0) → Sy.Ok2 { y with b := recvAll y.b l, t1 := y.t1 ++ tookAll y.b l } := by
  intro l
  induction l using snoc_ind with
  | h0 => intro _; simpa [tookAll, recvAll] using h
  | h1 l g ih =>
    intro hl
    have ih := ih fun x hx => hl x (List.mem_append_left _ hx)
    have hg : g ∈ y.f0 := hl g (List.mem_append_right _ (by simp))
    obtain ⟨d0, d1, g0, g1⟩ := ih
    rw [recvAll_snoc, tookAll_snoc]
    refine ⟨?_, d1.recvR (h.d0.fly g hg).1, g0, by show (recvS _ g).again ≤ 3; rw [recvS_again]; exact g1⟩
    have := (d0.recv hg).1
    rw [List.append_assoc] at this
    exact this
theorem Sy.Ok2.turn {y : Sy} (h : y.Ok2) : y.turn.Ok2 := by
  obtain ⟨d0, d1, g0, g1⟩ := h.turned.takes (turnL y.a y.f0) fun g hg => hg
  exact ⟨d0.congr rfl rfl rfl (Nat.le_refl _) rfl (fun g hg => by cases hg), d1, g0, g1⟩
theorem Sy.Ok2.nrut {y : Sy} (h : y.Ok2) : y.nrut.Ok2 := h.swap.turn.swap

/-! How far a turn comes. -/
theorem tk_le (t q : Nat) : t ≤ tk t q := by unfold tk; split <;> omega
theorem recvAll_taken (R : SS) : ∀ l : List Seg, (recvAll R l).taken = (l.map (·.1)).foldl tk R.taken := by
  intro l
  induction l generalizing R with
  | nil => rfl
  | cons g l ih => rw [recvAll_cons, ih, recvS_taken]; rfl
theorem recvAll_owed (R : SS) : ∀ l : List Seg, (recvAll R l).owed = (R.owed || l.any (fun g => decide (g.1 ≠ 0))) := by
  intro l
  induction l generalizing R with
  | nil => simp [recvAll]
  | cons g l ih => rw [recvAll_cons, ih, recvS_owed]; simp [Bool.or_assoc]
theorem fold_run (p : Nat) : ∀ (k t : Nat), ((List.range k).map fun i => p + i + 1).foldl tk t = if p ≤ t then max t (p + k) else t := by
  intro k
  induction k with
  | zero => intro t; simp; intro h; omega
  | succ k ih =>
    intro t
    rw [List.range_succ, List.map_append, List.foldl_append, ih]
    simp only [List.map_cons, List.map_nil, List.foldl_cons, List.foldl_nil]
    unfold tk
    split <;> split <;> omega
theorem outSpec_fst (s : SS) (frm k : Nat) : (outSpec s frm k).map (·.1) = (List.range k).map fun i => (s.acked + frm) + i + 1 := by
  unfold outSpec
  rw [List.map_map]
  apply List.map_congr_left
  intro i _
  show s.acked + (frm + i) + 1 = _
  omega
theorem outSpec_any (s : SS) (frm k : Nat) (h : 0 < k) : (outSpec s frm k).any (fun g => decide (g.1 ≠ 0)) = true := by
  rw [List.any_eq_true]
  refine ⟨(s.acked + (frm + 0) + 1, s.taken, s.xs[frm + 0]?.getD []), ?_, by simp⟩
  unfold outSpec
  exact List.mem_map.2 ⟨0, by simpa using h, rfl⟩

/-- All that an end sends in its turn bears the same acknowledgement. -/
theorem turn_ack {S : SS} {g : Seg} (hg : g ∈ turnL S []) : g.2.1 = S.taken := by
  unfold turnL at hg
  rw [List.nil_append] at hg
  rcases List.mem_append.1 hg with h | h
  · obtain ⟨i, _, rfl⟩ := tickL_mem h; rfl
  · rcases dueL_mem h with rfl | ⟨i, _, rfl⟩ <;> exact (tickS_taken S).1
/-- If an acknowledgement is owed, something is sent. -/
theorem turn_owed {S : SS} (h : S.owed = true) : turnL S [] ≠ [] := by
  intro e
  unfold turnL at e
  rw [List.nil_append] at e
  obtain ⟨e1, e2⟩ := List.append_eq_nil_iff.1 e
  unfold dueL at e2
  split at e2
  · have := congrArg List.length e2
    rw [outSpec_len] at this
    simp at this; omega
  · unfold tickL at e1
    have ho : (tickS S).owed = true := by
      unfold tickS
      split
      · exact h
      · split
        · exact h
        · rename_i h1 h2
          rw [if_neg h1, if_neg h2] at e1
          have := congrArg List.length e1
          rw [outSpec_len] at this
          exact absurd this h1
    rw [if_pos ho] at e2
    cases e2
/-- What acknowledgements do. -/
theorem recvAll_acked (A : Nat) : ∀ (l : List Seg) (S : SS), (∀ g ∈ l, g.2.1 = A) → S.acked ≤ A → A ≤ S.acked + S.sent → S.sent ≤ S.xs.length →
    (l = [] ∨ A = S.acked) ∧ (recvAll S l).acked = S.acked ∧ (recvAll S l).xs = S.xs ∧ (recvAll S l).sent = S.sent ∧ (recvAll S l).silent = S.silent ∧ (recvAll S l).again = S.again ∨
    l ≠ [] ∧ S.acked < A ∧ (recvAll S l).acked = A ∧ (recvAll S l).xs.length = S.xs.length - (A - S.acked) ∧ (recvAll S l).sent = S.sent - (A - S.acked) ∧ (recvAll S l).silent = 0 ∧ (recvAll S l).again = S.again := by
  intro l
  induction l with
  | nil => intro S _ _ _ _; exact .inl ⟨.inl rfl, rfl, rfl, rfl, rfl, rfl⟩
  | cons g l ih =>
    intro S hl h1 h2 h3
    have hg : g.2.1 = A := hl g (by simp)
    have hl2 : ∀ x ∈ l, x.2.1 = A := fun x hx => hl x (List.mem_cons_of_mem _ hx)
    rw [recvAll_cons]
    have e1 : (recvS S g).acked = (ackS S g.2.1).acked := seqS_acked _ _
    have e2 : (recvS S g).xs = (ackS S g.2.1).xs := seqS_xs _ _
    have e3 : (recvS S g).sent = (ackS S g.2.1).sent := seqS_sent _ _
    have e4 : (recvS S g).silent = (ackS S g.2.1).silent := seqS_silent _ _
    have e5 := recvS_again S g
    rcases ackS_or S g.2.1 with e | ⟨k1, k2, e⟩
    · have hA : A = S.acked := by
        rcases Nat.lt_or_ge S.acked A with hlt | hge
        · unfold ackS at e
          rw [if_pos ⟨by omega, by omega⟩] at e
          have := congrArg SS.acked e
          simp only at this
          omega
        · omega
      rw [e] at e1 e2 e3 e4
      rcases ih (recvS S g) hl2 (by omega) (by omega) (by rw [e2]; omega) with ⟨_, r1, r2, r3, r4, r5⟩ | ⟨_, r0, _⟩
      · exact .inl ⟨.inr hA, by omega, by rw [r2, e2], by omega, by omega, by omega⟩
      · omega
    · rw [e] at e1 e2 e3 e4
      simp only at e1 e2 e3 e4
      rcases ih (recvS S g) hl2 (by omega) (by omega) (by rw [e2, List.length_drop]; omega) with ⟨_, r1, r2, r3, r4, r5⟩ | ⟨_, r0, _⟩
      · exact .inr ⟨by simp, by omega, by omega, by rw [r2, e2, List.length_drop, hg], by omega, by omega, by omega⟩
      · omega

/-- What is still to be done for one direction. -/
def mu (S R : SS) : Nat := S.xs.length + (if S.sent = 0 then 0 else 1 + (if S.acked < R.taken then 8 else 0) + (if S.sent = min S.xs.length 8 then S.again - S.silent else S.again + 1))

theorem due_takes (S : SS) (t : Nat) : ((dueL S).map (·.1)).foldl tk t = if S.sent < dueTo S then (if S.acked + S.sent ≤ t then max t (S.acked + dueTo S) else t) else t := by
  unfold dueL
  split
  · rename_i h
    rw [outSpec_fst, fold_run, show S.acked + S.sent + (dueTo S - S.sent) = S.acked + dueTo S from by omega]
  · split
    · simp [tk]
    · rfl
theorem due_any_ (S : SS) (h : S.sent < dueTo S) : (dueL S).any (fun g => decide (g.1 ≠ 0)) = true := by
  unfold dueL
  rw [if_pos h]
  exact outSpec_any _ _ _ (by omega)
theorem turn_taken (S R : SS) : (recvAll R (turnL S [])).taken = ((dueL (tickS S)).map (·.1)).foldl tk (((tickL S).map (·.1)).foldl tk R.taken) := by
  rw [recvAll_taken, turnL, List.nil_append, List.map_append, List.foldl_append]
theorem turn_any (S R : SS) : (recvAll R (turnL S [])).owed = (R.owed || ((tickL S).any (fun g => decide (g.1 ≠ 0)) || (dueL (tickS S)).any (fun g => decide (g.1 ≠ 0)))) := by
  rw [recvAll_owed, turnL, List.nil_append, List.any_append]
theorem dueS_silent (s : SS) : (dueS s).silent = if s.sent < dueTo s then 0 else s.silent := by unfold dueS; split <;> rfl
theorem dueTo_tick (S : SS) : dueTo (tickS S) = min S.xs.length 8 := by unfold dueTo; rw [(tickS_taken S).2.2.1]

/-- What R has taken behind S's turn, and whether it owes. -/
theorem turn_takes (S R : SS) (ha : S.acked ≤ R.taken) (ht : R.taken ≤ S.acked + S.sent) (hn : S.sent ≤ S.xs.length) (h8 : S.sent ≤ 8) :
    (S.sent = 0 ∧ S.xs.length = 0 ∧ (turnS S).sent = 0 ∧ (recvAll R (turnL S [])).taken = R.taken) ∨
    ((S.sent = 0 ∨ S.again ≤ S.silent + 1) ∧ 0 < (turnS S).sent ∧ (turnS S).sent = min S.xs.length 8 ∧ (recvAll R (turnL S [])).taken = S.acked + (turnS S).sent ∧ (recvAll R (turnL S [])).owed = true) ∨
    (0 < S.sent ∧ S.sent < min S.xs.length 8 ∧ (turnS S).sent = min S.xs.length 8 ∧ (turnS S).silent = 0 ∧ (recvAll R (turnL S [])).owed = true ∧
      ((recvAll R (turnL S [])).taken = R.taken ∨ (recvAll R (turnL S [])).taken = S.acked + (turnS S).sent)) ∨
    (0 < S.sent ∧ S.sent = min S.xs.length 8 ∧ (turnS S).sent = S.sent ∧ S.silent + 1 < S.again ∧ (turnS S).silent = S.silent + 1 ∧ (recvAll R (turnL S [])).taken = R.taken) := by
  obtain ⟨t1, t2, t3, t4, t5⟩ := tickS_taken S
  have hd := dueTo_tick S
  have hs : (turnS S).sent = if S.sent < min S.xs.length 8 then min S.xs.length 8 else S.sent := by
    show (dueS (tickS S)).sent = _
    rw [(dueS_taken (tickS S)).2.2.2.2.2.2, hd, t4]
  have hq : (turnS S).silent = if S.sent < min S.xs.length 8 then 0 else (tickS S).silent := by
    show (dueS (tickS S)).silent = _
    rw [dueS_silent, hd, t4]
  rw [turn_taken, turn_any, due_takes, hd, t2, t4, hs, hq]
  by_cases h0 : S.sent = 0
  · have e1 : tickL S = [] := by unfold tickL; rw [if_pos h0]
    rw [e1]
    simp only [List.map_nil, List.foldl_nil, List.any_nil, Bool.false_or]
    by_cases hlt : S.sent < min S.xs.length 8
    · refine .inr (.inl ⟨.inl h0, ?_, ?_, ?_, ?_⟩)
      · rw [if_pos hlt]; omega
      · rw [if_pos hlt]
      · rw [if_pos hlt, if_pos (by omega), if_pos hlt]; omega
      · rw [due_any_ (tickS S) (by rw [hd, t4]; exact hlt)]; simp
    · refine .inl ⟨h0, by omega, ?_, ?_⟩
      · rw [if_neg hlt]; exact h0
      · rw [if_neg hlt]
  · by_cases h1 : S.silent + 1 < S.again
    · have e1 : tickL S = [] := by unfold tickL; rw [if_neg h0, if_pos h1]
      have e2 : (tickS S).silent = S.silent + 1 := by unfold tickS; rw [if_neg h0, if_pos h1]
      rw [e1, e2]
      simp only [List.map_nil, List.foldl_nil, List.any_nil, Bool.false_or]
      by_cases hlt : S.sent < min S.xs.length 8
      · refine .inr (.inr (.inl ⟨by omega, hlt, ?_, ?_, ?_, ?_⟩))
        · rw [if_pos hlt]
        · rw [if_pos hlt]
        · rw [due_any_ (tickS S) (by rw [hd, t4]; exact hlt)]; simp
        · simp only [if_pos hlt]
          by_cases hp : S.acked + S.sent ≤ R.taken
          · rw [if_pos hp]; right; omega
          · rw [if_neg hp]; left; rfl
      · refine .inr (.inr (.inr ⟨by omega, by omega, ?_, h1, ?_, ?_⟩))
        · rw [if_neg hlt]
        · rw [if_neg hlt]
        · rw [if_neg hlt]
    · have e1 : tickL S = outSpec S 0 S.sent := by unfold tickL; rw [if_neg h0, if_neg h1]
      rw [e1, outSpec_fst, fold_run, Nat.add_zero, if_pos ha, outSpec_any S 0 S.sent (by omega)]
      simp only [Bool.true_or, Bool.or_true]
      by_cases hlt : S.sent < min S.xs.length 8
      · refine .inr (.inl ⟨.inr (by omega), ?_, ?_, ?_, trivial⟩)
        · rw [if_pos hlt]; omega
        · rw [if_pos hlt]
        · rw [if_pos hlt, if_pos (by omega), if_pos hlt]; omega
      · refine .inr (.inl ⟨.inr (by omega), ?_, ?_, ?_, trivial⟩)
        · rw [if_neg hlt]; omega
        · rw [if_neg hlt]; omega
        · rw [if_neg hlt, if_neg hlt]; omega

/-- The other end's turn behind it. -/
theorem turn_back (S R : SS) (ha : S.acked ≤ R.taken) (ht : R.taken ≤ S.acked + S.sent) (hn : S.sent ≤ S.xs.length) :
    ((R.owed = true ∨ (recvAll S (turnL R [])).acked ≠ S.acked) → (recvAll S (turnL R [])).acked = R.taken) ∧
    (recvAll S (turnL R [])).again = S.again ∧
    ((recvAll S (turnL R [])).acked = S.acked ∧ (recvAll S (turnL R [])).xs.length = S.xs.length ∧ (recvAll S (turnL R [])).sent = S.sent ∧ (recvAll S (turnL R [])).silent = S.silent ∨
      S.acked < R.taken ∧ (recvAll S (turnL R [])).acked = R.taken ∧ (recvAll S (turnL R [])).xs.length = S.xs.length - (R.taken - S.acked) ∧ (recvAll S (turnL R [])).sent = S.sent - (R.taken - S.acked) ∧ (recvAll S (turnL R [])).silent = 0) := by
  rcases recvAll_acked R.taken (turnL R []) S (fun g hg => turn_ack hg) ha ht hn with ⟨h0, h1, h2, h3, h4, h5⟩ | ⟨_, h0, h1, h2, h3, h4, h5⟩
  · refine ⟨fun h => ?_, h5, .inl ⟨h1, by rw [h2], h3, h4⟩⟩
    rcases h with h | h
    · rcases h0 with h0 | h0
      · exact absurd h0 (turn_owed h)
      · omega
    · exact absurd h1 h
  · exact ⟨fun _ => h1, h5, .inr ⟨h0, h1, h2, h3, h4⟩⟩

/-- Both turns: less is to be done. -/
theorem pair_less (S R : SS) (hg : S.again ≤ 3) (ha : S.acked ≤ R.taken) (ht : R.taken ≤ S.acked + S.sent) (hn : S.sent ≤ S.xs.length) (h8 : S.sent ≤ 8)
    (ha2 : (turnS S).acked ≤ (recvAll R (turnL S [])).taken) (ht2 : (recvAll R (turnL S [])).taken ≤ (turnS S).acked + (turnS S).sent) (hn2 : (turnS S).sent ≤ (turnS S).xs.length) :
    mu (recvAll (turnS S) (turnL (recvAll R (turnL S [])) [])) (turnS (recvAll R (turnL S []))) ≤ mu S R - 1 := by
  obtain ⟨t1, t2, t3, t4, t5⟩ := tickS_taken S
  obtain ⟨d1, d2, d3, d4, d5, d6, d7⟩ := dueS_taken (tickS S)
  have eA : (turnS S).acked = S.acked := by show (dueS (tickS S)).acked = _; rw [d2, t2]
  have eX : (turnS S).xs = S.xs := by show (dueS (tickS S)).xs = _; rw [d3, t3]
  have eG : (turnS S).again = S.again := by show (dueS (tickS S)).again = _; rw [d4, t5]
  have eT : (turnS (recvAll R (turnL S []))).taken = (recvAll R (turnL S [])).taken := by show (dueS (tickS _)).taken = _; rw [(dueS_taken _).1, (tickS_taken _).1]
  obtain ⟨b1, b2, b3⟩ := turn_back (turnS S) (recvAll R (turnL S [])) ha2 ht2 hn2
  have hm := turn_takes S R ha ht hn h8
  unfold mu
  rw [eT]
  generalize (recvAll R (turnL S [])).taken = T at *
  generalize (recvAll R (turnL S [])).owed = O at *
  generalize recvAll (turnS S) (turnL (recvAll R (turnL S [])) []) = S2 at *
  generalize (turnS S).silent = q1 at *
  rw [eA, eX] at b3
  rw [eA] at b1 ha2 ht2
  rw [eX] at hn2
  rw [eG] at b2
  generalize (turnS S).sent = n1 at *
  rw [b2]
  clear t1 t2 t3 t4 t5 d1 d2 d3 d4 d5 d6 d7 eA eX eG eT
  rcases hm with ⟨m1, m2, m3, m4⟩ | ⟨m1, m2, m3, m4, m5⟩ | ⟨m1, m2, m3, m4, m5, m6⟩ | ⟨m1, m2, m3, m4, m5, m6⟩
  · rcases b3 with ⟨c1, c2, c3, c4⟩ | ⟨c0, c1, c2, c3, c4⟩
    · rw [c2, c3, m2, m3, m1]; simp
    · omega
  · have := b1 (.inl m5)
    rcases b3 with ⟨c1, c2, c3, c4⟩ | ⟨c0, c1, c2, c3, c4⟩
    · omega
    · rw [c2, c3, m4, if_pos (by omega)]; omega
  · have := b1 (.inl m5)
    by_cases hz : S2.sent = 0
    · rw [if_pos hz, if_neg (by omega)]
      rcases b3 with ⟨c1, c2, c3, c4⟩ | ⟨c0, c1, c2, c3, c4⟩ <;> omega
    · have hT : T = R.taken := by
        rcases m6 with m6 | m6
        · exact m6
        · rcases b3 with ⟨c1, c2, c3, c4⟩ | ⟨c0, c1, c2, c3, c4⟩ <;> omega
      rw [if_neg hz, if_neg (show ¬ S2.acked < T by omega), if_neg (show ¬ S.sent = 0 by omega), if_neg (show ¬ S.sent = min S.xs.length 8 by omega)]
      rcases b3 with ⟨c1, c2, c3, c4⟩ | ⟨c0, c1, c2, c3, c4⟩
      · rw [if_neg (show ¬ S.acked < R.taken by omega)]
        split <;> omega
      · rw [if_pos (show S.acked < R.taken by omega)]
        split <;> omega
  · rw [if_neg (show ¬ S.sent = 0 by omega), if_pos m2]
    rcases b3 with ⟨c1, c2, c3, c4⟩ | ⟨c0, c1, c2, c3, c4⟩
    · rw [if_neg (by omega), if_pos (show S2.sent = min S2.xs.length 8 by omega)]
      split <;> split <;> omega
    · rw [if_pos (show S.acked < R.taken by omega)]
      split
      · omega
      · rw [if_neg (show ¬ S2.acked < T by omega)]
        split <;> omega

def Sy.round (y : Sy) : Sy := y.turn.nrut
def Sy.rounds : Nat → Sy → Sy
  | 0, y => y
  | n + 1, y => (Sy.rounds n y).round
theorem Sy.rounds_succ' (n : Nat) (y : Sy) : Sy.rounds (n + 1) y = Sy.rounds n y.round := by
  induction n with
  | zero => rfl
  | succ n ih => show (Sy.rounds (n + 1) y).round = (Sy.rounds n y.round).round; rw [ih]
theorem Sy.rounds_turn (n : Nat) (y : Sy) : (Sy.rounds n y).turn.swap = Sy.rounds n y.turn.swap := by
  induction n with
  | zero => rfl
  | succ n ih => show (Sy.rounds n y).turn.nrut.turn.swap = (Sy.rounds n y.turn.swap).round; rw [← ih]; rfl
/-- Nothing is under way. -/
structure Sy.Still (y : Sy) : Prop where
  ok : y.Ok2
  f0 : y.f0 = []
  f1 : y.f1 = []
theorem Sy.Ok2.round {y : Sy} (h : y.Ok2) : y.round.Still := ⟨h.turn.nrut, rfl, rfl⟩
theorem Sy.Still.turn {y : Sy} (h : y.Still) : y.turn.swap.Still := ⟨h.ok.turn.swap, h.f1, rfl⟩
theorem Sy.Still.less {y : Sy} (h : y.Still) : mu y.round.a y.round.b ≤ mu y.a y.b - 1 := by
  have e0 := h.f0
  have e1 := h.f1
  have d := h.ok.d0
  have d2 := h.ok.turn.d0
  have hb : y.turn.b = recvAll y.b (turnL y.a []) := by show recvAll y.b (turnL y.a y.f0) = _; rw [e0]
  have ra : y.round.a = recvAll (turnS y.a) (turnL y.turn.b []) := by show recvAll (turnS y.a) (turnL y.turn.b y.f1) = _; rw [e1]
  have rb : y.round.b = turnS y.turn.b := rfl
  rw [ra, rb, hb]
  have h2 := d2.a
  have h3 := d2.t
  rw [hb] at h2 h3
  exact pair_less y.a y.b h.ok.q0 d.a d.t d.n d.n8 h2 h3 d2.n
theorem Sy.Still.rounds {y : Sy} (h : y.Still) : ∀ n, (Sy.rounds n y).Still ∧ mu (Sy.rounds n y).a (Sy.rounds n y).b ≤ mu y.a y.b - n
  | 0 => ⟨h, Nat.le_refl _⟩
  | n + 1 => by
    obtain ⟨a, b⟩ := Sy.Still.rounds h n
    exact ⟨a.ok.round, by have := a.less; show mu (Sy.rounds n y).round.a (Sy.rounds n y).round.b ≤ _; omega⟩
theorem mu_le (S R : SS) (h : S.again ≤ 3) : mu S R ≤ S.xs.length + 13 := by
  unfold mu
  repeat' split
  all_goals omega
theorem Dir.done {S R : SS} {fly : List Seg} {sent took : List UInt8} (h : Dir S R fly sent took) (hx : S.xs.length = 0) : took = sent := by
  have := h.len; have := h.a
  rw [h.took, List.take_of_length_le (by omega)]
theorem Sy.rounds_sent (n : Nat) (y : Sy) : (Sy.rounds n y).s0 = y.s0 ∧ (Sy.rounds n y).s1 = y.s1 := by
  induction n with
  | zero => exact ⟨rfl, rfl⟩
  | succ n ih => exact ih

theorem Sy.swap_a (y : Sy) : y.swap.a = y.b := rfl
theorem Sy.rounds_b (n : Nat) (y : Sy) : (Sy.rounds (n + 1) y).b = turnS (Sy.rounds n y).turn.b := rfl

/-- In 400 rounds all comes. -/
theorem Sy.Ok2.ends {y : Sy} (h : y.Ok2) (h0 : y.s0.length ≤ 200) (h1 : y.s1.length ≤ 200) : (Sy.rounds 400 y).t1 = y.s0 ∧ (Sy.rounds 400 y).t0 = y.s1 ∧ (Sy.rounds 400 y).a.xs = [] ∧ (Sy.rounds 400 y).b.xs = [] ∧ (Sy.rounds 400 y).Ok2 := by
  have hs := h.round
  have e : Sy.rounds 400 y = Sy.rounds 399 y.round := Sy.rounds_succ' 399 y
  obtain ⟨z0, m0⟩ := hs.rounds 399
  obtain ⟨z1, m1⟩ := hs.turn.rounds 398
  have l0 := hs.ok.d0.len
  have l1 := hs.turn.ok.d0.len
  have b0 := mu_le y.round.a y.round.b hs.ok.q0
  have b1 := mu_le y.round.turn.swap.a y.round.turn.swap.b hs.turn.ok.q0
  have s0 : y.round.s0 = y.s0 := rfl
  have s1 : y.round.turn.swap.s0 = y.s1 := rfl
  rw [s0] at l0
  rw [s1] at l1
  have x0 : (Sy.rounds 399 y.round).a.xs.length = 0 := by
    have : (Sy.rounds 399 y.round).a.xs.length ≤ mu (Sy.rounds 399 y.round).a (Sy.rounds 399 y.round).b := by unfold mu; omega
    omega
  have x1 : (Sy.rounds 399 y.round).b.xs.length = 0 := by
    have h2 : (Sy.rounds 398 y.round.turn.swap).a.xs.length ≤ mu (Sy.rounds 398 y.round.turn.swap).a (Sy.rounds 398 y.round.turn.swap).b := by unfold mu; omega
    rw [← Sy.rounds_turn] at h2 m1
    have h3 : (Sy.rounds 399 y.round).b = turnS (Sy.rounds 398 y.round).turn.b := Sy.rounds_b 398 y.round
    have h4 : (turnS (Sy.rounds 398 y.round).turn.b).xs = (Sy.rounds 398 y.round).turn.b.xs := by show (dueS (tickS _)).xs = _; rw [(dueS_taken _).2.2.1, (tickS_taken _).2.2.1]
    have h5 : (Sy.rounds 398 y.round).turn.swap.a = (Sy.rounds 398 y.round).turn.b := Sy.swap_a _
    rw [h3, h4, ← h5]
    omega
  have r := Sy.rounds_sent 399 y.round
  rw [e]
  refine ⟨?_, ?_, List.eq_nil_of_length_eq_zero x0, List.eq_nil_of_length_eq_zero x1, z0.ok⟩
  · rw [z0.ok.d0.done x0, r.1]; rfl
  · rw [z0.ok.d1.done x1, r.2]; rfl
end Go.Proofs.Ytmkjnblmgofoeaa
