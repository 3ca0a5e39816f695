/- Layer 12: what is told, prefix by prefix. -/
import Derived.Test.YtahdjfegihnolaaLfN
namespace Go.Proofs.Ytahdjfegihnolaa

/-- What is told of a prefix, in order: port, distance. -/
def selp (o : List Tl) (p : Pf) : List (Nat × Int) := (o.filter fun t => t.2.1 == p).map fun t => (t.1, t.2.2)
theorem selp_nil (p : Pf) : selp [] p = [] := rfl
theorem selp_app (a b : List Tl) (p : Pf) : selp (a ++ b) p = selp a p ++ selp b p := by unfold selp; rw [List.filter_append, List.map_append]
theorem selp_none {o : List Tl} {p : Pf} (h : ∀ t ∈ o, t.2.1 ≠ p) : selp o p = [] := by
  unfold selp
  rw [List.map_eq_nil_iff, List.filter_eq_nil_iff]
  intro t ht
  simp only [beq_iff_eq]
  exact h t ht
theorem mem_selp {o : List Tl} {p : Pf} {q : Nat} {d : Int} : (q, d) ∈ selp o p ↔ (q, p, d) ∈ o := by
  unfold selp
  rw [List.mem_map]
  constructor
  · rintro ⟨⟨a, b, e⟩, h1, h2⟩
    obtain ⟨h3, h4⟩ := List.mem_filter.1 h1
    simp only [beq_iff_eq] at h4
    simp only [Prod.mk.injEq] at h2
    obtain ⟨rfl, rfl⟩ := h2
    rw [← h4]
    exact h3
  · intro h
    exact ⟨(q, p, d), List.mem_filter.2 ⟨h, by simp⟩, rfl⟩
/-- What a look tells. -/
def tls (c : Pc) (x : Le) : List (Nat × Int) := if actF x = false ∧ distF c x ≠ x.told then (upsF c).map fun q => (q, distF c x) else []
theorem look_tells (c : Pc) (x : Le) : (lookF c x).2 = (tls c x).map fun t => (t.1, x.p, t.2) := by
  unfold lookF tls
  by_cases ha : actF x = true
  · rw [if_pos ha, if_neg (by rw [ha]; simp)]
    rfl
  · rw [if_neg ha]
    by_cases hd : distF c x = x.told
    · rw [if_pos hd, if_neg (fun h => h.2 hd)]
      rfl
    · rw [if_neg hd, if_pos (show actF x = false ∧ distF c x ≠ x.told from ⟨by simpa using ha, hd⟩)]
      dsimp only
      rw [List.map_map]
      rfl
theorem selp_own (s : List (Nat × Int)) (p p' : Pf) : selp (s.map fun t => (t.1, p', t.2)) p = if p = p' then s else [] := by
  by_cases hp : p = p'
  · subst hp
    rw [if_pos rfl]
    unfold selp
    rw [List.filter_eq_self.2 (by intro t ht; obtain ⟨u, _, rfl⟩ := List.mem_map.1 ht; simp), List.map_map]
    exact List.map_id' s
  · rw [if_neg hp]
    exact selp_none fun t ht => by
      obtain ⟨u, _, rfl⟩ := List.mem_map.1 ht
      exact fun e => hp e.symm
theorem selp_look (c : Pc) (x : Le) (p : Pf) : selp (lookF c x).2 p = if p = x.p then tls c x else [] := by rw [look_tells, selp_own]
/-- How an entry goes on while there is tidying: what it was, what is told of it, what it is. -/
inductive Evt (c : Pc) : Option Le → List (Nat × Int) → Option Le → Prop
  | refl (x : Option Le) : Evt c x [] x
  | gone (x : Le) : staysF x = false → Evt c (some x) [] none
  | take (x : Le) : x.tk = false → Evt c (some x) (tls c { x with tk := true }) (some (lookF c { x with tk := true }).1)
  | trans {a b d : Option Le} {s t : List (Nat × Int)} : Evt c a s b → Evt c b t d → Evt c a (s ++ t) d
theorem find_cons (x : Le) (l : List Le) (p : Pf) : findE (x :: l) p = if x.p = p then some x else findE l p := by
  unfold findE
  rw [List.find?_cons]
  by_cases h : x.p = p
  · rw [if_pos h, h]; simp
  · rw [if_neg h, show (x.p == p) = false by rw [beq_eq_false_iff_ne]; exact h]
theorem sorted_tail {x : Le} {l : List Le} (h : sortedL (x :: l)) : sortedL l ∧ findE l x.p = none := by
  unfold sortedL at h
  rw [List.map_cons, List.pairwise_cons] at h
  refine ⟨h.2, ?_⟩
  unfold findE
  rw [List.find?_eq_none]
  intro y hy
  have := h.1 y.p (List.mem_map_of_mem hy)
  simp only [beq_iff_eq]
  intro e
  rw [e] at this
  exact lessP_irrefl _ this
theorem find_filter {l : List Le} (h : sortedL l) (g : Le → Bool) (p : Pf) : findE (l.filter g) p = match findE l p with | some x => if g x = true then some x else none | none => none := by
  induction l with
  | nil => rfl
  | cons x l ih =>
    obtain ⟨h1, h2⟩ := sorted_tail h
    rw [List.filter_cons, find_cons]
    by_cases hp : x.p = p
    · subst hp
      rw [if_pos rfl]
      simp only
      by_cases hg : g x = true
      · rw [if_pos hg, if_pos hg, find_cons, if_pos rfl]
      · rw [if_neg hg, if_neg hg, ih h1, h2]
    · rw [if_neg hp]
      by_cases hg : g x = true
      · rw [if_pos hg, find_cons, if_neg hp, ih h1]
      · rw [if_neg hg, ih h1]
theorem takeR_tells (c : Pc) (room : Int) : ∀ (l : List Le) (n : Nat), ∀ t ∈ (takeR c room n l).2.1, findE l t.2.1 ≠ none
  | [], _ => fun t ht => by cases ht
  | x :: l, n => by
    unfold takeR
    split
    · intro t ht
      rw [find_cons]
      rcases List.mem_append.1 ht with ht | ht
      · have hp : t.2.1 = x.p := by
          have hm : (t.1, t.2.2) ∈ selp (lookF c { x with tk := true }).2 t.2.1 := mem_selp.2 ht
          rw [selp_look] at hm
          split at hm
          · assumption
          · cases hm
        rw [if_pos hp.symm]
        simp
      · split
        · simp
        · exact takeR_tells c room l (n + 1) t ht
    · intro t ht
      rw [find_cons]
      split
      · simp
      · exact takeR_tells c room l n t ht
theorem takeR_evt (c : Pc) (room : Int) (p : Pf) : ∀ (l : List Le) (n : Nat), sortedL l → Evt c (findE l p) (selp (takeR c room n l).2.1 p) (findE (takeR c room n l).1 p)
  | [], _, _ => Evt.refl _
  | x :: l, n, h => by
    obtain ⟨h1, h2⟩ := sorted_tail h
    unfold takeR
    by_cases hh : x.tk = false ∧ (n : Int) < room
    · rw [if_pos hh]
      simp only
      rw [find_cons, find_cons, (lookF_tk c { x with tk := true }).2.2.1]
      by_cases hp : x.p = p
      · subst hp
        simp only [if_true]
        have hrest : selp (takeR c room (n + 1) l).2.1 x.p = [] := selp_none fun t ht e => takeR_tells c room l (n + 1) t ht (by rw [e]; exact h2)
        rw [selp_app, hrest, List.append_nil, selp_look]
        simp only [if_true]
        exact Evt.take x hh.1
      · simp only [if_neg hp]
        rw [selp_app, selp_look, if_neg (fun e => hp e.symm), List.nil_append]
        exact takeR_evt c room p l (n + 1) h1
    · rw [if_neg hh]
      simp only
      rw [find_cons, find_cons]
      by_cases hp : x.p = p
      · subst hp
        simp only [if_true]
        have hrest : selp (takeR c room n l).2.1 x.p = [] := selp_none fun t ht e => takeR_tells c room l n t ht (by rw [e]; exact h2)
        rw [hrest]
        exact Evt.refl _
      · simp only [if_neg hp]
        exact takeR_evt c room p l n h1
/-- How each entry goes on while there is tidying. -/
theorem tidy_evt (c : Pc) (room : Int) (p : Pf) : ∀ (m : Nat) (l : List Le), l.length + untk l ≤ m → sortedL l → Evt c (findE l p) (selp (tidyW c room l).2 p) (findE (tidyW c room l).1 p)
  | m, l, hm, h => by
    obtain ⟨d1, d2⟩ := takeR_len c room (l.filter staysF) (cntT (l.filter staysF))
    have d3 := untk_filter l
    have d4 := List.length_filter_le staysF l
    rw [tidyW]
    unfold stayL
    split
    · exact Evt.refl _
    · rename_i hh
      match m with
      | 0 => omega
      | m + 1 =>
        have hs : sortedL (l.filter staysF) := sorted_sub h (filter_p l)
        have h2 := takeR_evt c room p (l.filter staysF) (cntT (l.filter staysF)) hs
        have hs2 : sortedL (takeR c room (cntT (l.filter staysF)) (l.filter staysF)).1 := by unfold sortedL; rw [takeR_p]; exact hs
        have h3 := tidy_evt c room p m _ (show (takeR c room (cntT (l.filter staysF)) (l.filter staysF)).1.length + untk (takeR c room (cntT (l.filter staysF)) (l.filter staysF)).1 ≤ m by omega) hs2
        have h1 : Evt c (findE l p) [] (findE (l.filter staysF) p) := by
          rw [find_filter h]
          cases hf : findE l p with
          | none => exact Evt.refl _
          | some x =>
            simp only
            by_cases hst : staysF x = true
            · rw [if_pos hst]; exact Evt.refl _
            · rw [if_neg hst]; exact Evt.gone x (by simpa using hst)
        have := (h1.trans h2).trans h3
        rw [List.nil_append] at this
        simp only [selp_app]
        exact this
end Go.Proofs.Ytahdjfegihnolaa
