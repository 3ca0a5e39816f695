/- Layer 12: what holds of a core between events. -/
import Derived.Test.YtahdjfegihnolaaLfL
namespace Go.Proofs.Ytahdjfegihnolaa

/-- An entry, whatever is to be looked at yet. -/
structure EW (c : Pc) (x : Le) : Prop where
  may : mayP x.p = true
  own : x.own = true → x.tk = true
  s : ∀ q, 0 ≤ x.said q ∧ x.said q ≤ 255
  sd : ∀ q, c.up q = false → x.said q = 255 ∧ x.aw q = 0
  aw : ∀ q, x.aw q ≤ 1
  t : 0 ≤ x.told ∧ x.told ≤ 255
  f : 0 ≤ x.feas ∧ x.feas ≤ x.told
  un : x.tk = false → x.told = 255 ∧ ∀ q, x.aw q = 0
structure EOk (c : Pc) (x : Le) : Prop extends EW c x where
  pas : actF x = false → x.told = distF c x ∧ x.feas = x.told
structure PcOk (c : Pc) : Prop where
  b : ∀ q, 0 ≤ c.cost q ∧ c.cost q ≤ 50
  dn : ∀ q, c.up q = false → c.cost q = 0
  lt : ∀ q, c.up q = true → q < 8
def sortedL (l : List Le) : Prop := (l.map (·.p)).Pairwise lessP
structure LcOk (c : Lc) : Prop where
  pc : PcOk c.pc
  srt : sortedL c.all
  e : ∀ x ∈ c.all, EOk c.pc x
  len : c.all.length ≤ 1024
  room : 0 ≤ c.room ∧ c.room ≤ 64
  cnt : (cntT c.all : Int) ≤ c.room
  left : ∀ x ∈ c.all, x.tk = true ∨ (cntT c.all : Int) = c.room
theorem act_iff (x : Le) : actF x = true ↔ ∃ q, q < 8 ∧ x.aw q ≠ 0 := by
  unfold actF
  rw [List.any_eq_true]
  exact ⟨fun ⟨q, h1, h2⟩ => ⟨q, List.mem_range.1 h1, of_decide_eq_true h2⟩, fun ⟨q, h1, h2⟩ => ⟨q, List.mem_range.2 h1, decide_eq_true h2⟩⟩
theorem act_no {x : Le} (h : actF x = false) {q : Nat} (hq : q < 8) : x.aw q = 0 := by
  rcases Nat.eq_zero_or_pos (x.aw q) with h0 | h0
  · exact h0
  · have := (act_iff x).2 ⟨q, hq, by omega⟩
    rw [h] at this
    cases this
theorem act_of {x : Le} (h : ∀ q, q < 8 → x.aw q = 0) : actF x = false := by
  cases ha : actF x with
  | false => rfl
  | true =>
    obtain ⟨q, h1, h2⟩ := (act_iff x).1 ha
    exact absurd (h q h1) h2
theorem minUp_bd (c : Pc) (s : Nat → Int) (hc : ∀ q, 0 ≤ c.cost q) (hs : ∀ q, 0 ≤ s q) : ∀ n, 0 ≤ minUp c s n ∧ minUp c s n ≤ 255
  | 0 => by unfold minUp; omega
  | n + 1 => by
    have := minUp_bd c s hc hs n
    have h1 := hc n
    have h2 := hs n
    unfold minUp
    split <;> omega
theorem dist_bd {c : Pc} {x : Le} (hc : ∀ q, 0 ≤ c.cost q) (hs : ∀ q, 0 ≤ x.said q) : 0 ≤ distF c x ∧ distF c x ≤ 255 := by
  unfold distF
  have := minUp_bd c x.said hc hs 8
  split
  · omega
  · split <;> omega
theorem mem_ups {c : Pc} {q : Nat} : q ∈ upsF c ↔ q < 8 ∧ c.up q = true := by unfold upsF; rw [List.mem_filter, List.mem_range]
theorem EW.pc0 {c : Pc} {x : Le} (_h : EW c x) (hc : PcOk c) : ∀ q, 0 ≤ c.cost q := fun q => (hc.b q).1
/-- What a look leaves. -/
theorem look_ok {c : Pc} {x : Le} (h : EW c x) (hc : PcOk c) : EOk c (lookF c x).1 := by
  have hd := dist_bd (x := x) (fun q => (hc.b q).1) fun q => (h.s q).1
  unfold lookF
  by_cases ha : actF x = true
  · rw [if_pos ha]
    refine ⟨⟨h.may, h.own, h.s, h.sd, h.aw, h.t, ⟨?_, ?_⟩, h.un⟩, fun hn => ?_⟩
    · show 0 ≤ min x.feas (distF c x)
      have := h.f.1
      omega
    · show min x.feas (distF c x) ≤ x.told
      have := h.f.2
      omega
    · have e : actF ({ x with feas := min x.feas (distF c x) } : Le) = actF x := rfl
      rw [e, ha] at hn
      cases hn
  · rw [if_neg ha]
    have ha' : actF x = false := by simpa using ha
    by_cases hdt : distF c x = x.told
    · rw [if_pos hdt]
      exact ⟨⟨h.may, h.own, h.s, h.sd, h.aw, h.t, ⟨h.t.1, Int.le_refl _⟩, h.un⟩, fun _ => ⟨hdt.symm, rfl⟩⟩
    · rw [if_neg hdt]
      refine ⟨⟨h.may, h.own, h.s, fun q hq => ⟨(h.sd q hq).1, ?_⟩, fun q => ?_, hd, ⟨?_, ?_⟩, fun ht => ?_⟩, fun hn => ?_⟩
      · show (if q < 8 ∧ c.up q = true then x.aw q + 1 else x.aw q) = 0
        rw [hq, if_neg (by simp)]
        exact (h.sd q hq).2
      · show (if q < 8 ∧ c.up q = true then x.aw q + 1 else x.aw q) ≤ 1
        split
        · rename_i hq
          rw [act_no ha' hq.1]
          omega
        · exact h.aw q
      · show 0 ≤ if upsF c = [] then distF c x else min x.told (distF c x)
        have := h.t.1
        split <;> omega
      · show (if upsF c = [] then distF c x else min x.told (distF c x)) ≤ distF c x
        split <;> omega
      · exfalso
        have h1 := (h.un ht).1
        have h2 : distF c x = 255 := by
          have ho : x.own = false := by
            cases hoo : x.own with
            | false => rfl
            | true => have := h.own hoo; rw [show x.tk = false from ht] at this; cases this
          unfold distF
          rw [ho, if_neg (by simp), if_pos ht]
        omega
      · have hup : upsF c = [] := by
          rw [List.eq_nil_iff_forall_not_mem]
          intro q hq
          obtain ⟨h1, h2⟩ := mem_ups.1 hq
          have := act_no hn h1
          have e : (if q < 8 ∧ c.up q = true then x.aw q + 1 else x.aw q) = 0 := this
          rw [if_pos ⟨h1, h2⟩] at e
          omega
        refine ⟨rfl, ?_⟩
        show (if upsF c = [] then distF c x else min x.told (distF c x)) = distF c x
        rw [if_pos hup]
theorem take_ew {c : Pc} {x : Le} (h : EW c x) : EW c { x with tk := true } := ⟨h.may, fun _ => rfl, h.s, h.sd, h.aw, h.t, h.f, fun e => by cases e⟩
theorem takeR_p (c : Pc) (room : Int) : ∀ (l : List Le) (n : Nat), (takeR c room n l).1.map (·.p) = l.map (·.p)
  | [], _ => rfl
  | x :: l, n => by
    unfold takeR
    split
    · simp only [List.map_cons]
      rw [takeR_p c room l (n + 1), (lookF_tk c { x with tk := true }).2.2.1]
    · simp only [List.map_cons]
      rw [takeR_p c room l n]
theorem takeR_ok {c : Pc} (hc : PcOk c) (room : Int) : ∀ (l : List Le) (n : Nat), (∀ x ∈ l, EOk c x) → ∀ x ∈ (takeR c room n l).1, EOk c x
  | [], _, _ => fun x hx => by cases hx
  | y :: l, n, h => by
    unfold takeR
    have h1 := h y (List.mem_cons_self ..)
    have h2 : ∀ x ∈ l, EOk c x := fun x hx => h x (List.mem_cons_of_mem _ hx)
    split
    · intro x hx
      rcases List.mem_cons.1 hx with rfl | hx
      · exact look_ok (take_ew h1.toEW) hc
      · exact takeR_ok hc room l (n + 1) h2 x hx
    · intro x hx
      rcases List.mem_cons.1 hx with rfl | hx
      · exact h1
      · exact takeR_ok hc room l n h2 x hx
theorem takeR_cnt (c : Pc) (room : Int) : ∀ (l : List Le) (n : Nat), (∀ x ∈ l, x.own = true → x.tk = true) →
    cntT (takeR c room n l).1 = cntT l + (takeR c room n l).2.2 ∧ ((n : Int) ≤ room → ((n + (takeR c room n l).2.2 : Nat) : Int) ≤ room)
  | [], n, _ => ⟨rfl, fun h => by simpa [takeR] using h⟩
  | x :: l, n, h => by
    have h2 : ∀ x ∈ l, x.own = true → x.tk = true := fun x hx => h x (List.mem_cons_of_mem _ hx)
    unfold takeR
    by_cases hh : x.tk = false ∧ (n : Int) < room
    · rw [if_pos hh]
      obtain ⟨a1, a2⟩ := takeR_cnt c room l (n + 1) h2
      obtain ⟨b1, b2, _⟩ := lookF_tk c { x with tk := true }
      have ho : x.own = false := by
        cases hoo : x.own with
        | false => rfl
        | true => have := h x (List.mem_cons_self ..) hoo; rw [hh.1] at this; cases this
      refine ⟨?_, fun _ => by have := a2 (by omega); dsimp only; omega⟩
      unfold cntT at a1 ⊢
      simp only
      rw [List.countP_cons, List.countP_cons, b1, b2, ho, hh.1, a1]
      simp
      omega
    · rw [if_neg hh]
      obtain ⟨a1, a2⟩ := takeR_cnt c room l n h2
      refine ⟨?_, a2⟩
      unfold cntT at a1 ⊢
      simp only
      rw [List.countP_cons, List.countP_cons, a1]
      omega
theorem takeR_zero (c : Pc) (room : Int) : ∀ (l : List Le) (n : Nat), (takeR c room n l).2.2 = 0 → (takeR c room n l).1 = l ∧ (takeR c room n l).2.1 = [] ∧ ∀ x ∈ l, x.tk = true ∨ room ≤ (n : Int)
  | [], _, _ => ⟨rfl, rfl, fun x hx => by cases hx⟩
  | y :: l, n, h => by
    unfold takeR at h ⊢
    by_cases hh : y.tk = false ∧ (n : Int) < room
    · rw [if_pos hh] at h
      simp at h
    · rw [if_neg hh] at h ⊢
      obtain ⟨a1, a2, a3⟩ := takeR_zero c room l n h
      refine ⟨by simp only [a1], a2, fun x hx => ?_⟩
      rcases List.mem_cons.1 hx with rfl | hx
      · cases ht : x.tk with
        | true => exact .inl rfl
        | false => exact .inr (by have : ¬ ((n : Int) < room) := fun e => hh ⟨ht, e⟩; omega)
      · exact a3 x hx
theorem sorted_sub {l l' : List Le} (h : sortedL l) (hs : (l'.map (·.p)).Sublist (l.map (·.p))) : sortedL l' := List.Pairwise.sublist hs h
theorem filter_p (l : List Le) : ((l.filter staysF).map (·.p)).Sublist (l.map (·.p)) := List.Sublist.map _ List.filter_sublist
theorem cntT_filter (l : List Le) (g : Le → Bool) : cntT (l.filter g) ≤ cntT l := List.Sublist.countP_le List.filter_sublist
/-- What the tidying leaves. -/
theorem tidy_ok {c : Pc} (hc : PcOk c) {room : Int} : ∀ (m : Nat) (l : List Le), l.length + untk l ≤ m → (∀ x ∈ l, EOk c x) → (cntT l : Int) ≤ room →
    (∀ x ∈ (tidyW c room l).1, EOk c x) ∧ (((tidyW c room l).1).map (·.p)).Sublist (l.map (·.p)) ∧ (cntT (tidyW c room l).1 : Int) ≤ room ∧ (∀ x ∈ (tidyW c room l).1, x.tk = true ∨ (cntT (tidyW c room l).1 : Int) = room) ∧ ∀ x ∈ (tidyW c room l).1, staysF x = true
  | m, l, hm, h, hr => by
    have h1 : ∀ x ∈ l.filter staysF, EOk c x := fun x hx => h x (List.mem_filter.1 hx).1
    have h2 := cntT_filter l staysF
    obtain ⟨c1, c2⟩ := takeR_cnt c room (l.filter staysF) (cntT (l.filter staysF)) fun x hx => (h1 x hx).own
    obtain ⟨d1, d2⟩ := takeR_len c room (l.filter staysF) (cntT (l.filter staysF))
    have d3 := untk_filter l
    have d4 := List.length_filter_le staysF l
    rw [tidyW]
    unfold stayL
    split
    · rename_i hh
      obtain ⟨e1, e2⟩ := hh
      have e3 : l.filter staysF = l := List.Sublist.eq_of_length List.filter_sublist e1
      obtain ⟨f1, f2, f3⟩ := takeR_zero c room _ _ e2
      rw [e3] at f3
      refine ⟨h, List.Sublist.refl _, hr, fun x hx => ?_, fun x hx => ?_⟩
      · rcases f3 x hx with e | e
        · exact .inl e
        · exact .inr (by show (cntT l : Int) = room; omega)
      · rw [← e3] at hx
        exact (List.mem_filter.1 hx).2
    · rename_i hh
      match m with
      | 0 => omega
      | m + 1 =>
        have := tidy_ok hc m (takeR c room (cntT (l.filter staysF)) (l.filter staysF)).1 (by omega) (takeR_ok hc room _ _ h1) (by rw [c1]; exact c2 (by omega))
        obtain ⟨g1, g2, g3, g4, g5⟩ := this
        rw [takeR_p] at g2
        exact ⟨g1, g2.trans (filter_p l), g3, g4, g5⟩
end Go.Proofs.Ytahdjfegihnolaa
