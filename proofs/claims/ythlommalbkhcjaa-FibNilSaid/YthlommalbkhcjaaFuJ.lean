/- The plain law of tables of routes. -/
import Derived.Test.YthlommalbkhcjaaFuI
namespace Go.Proofs.Ythlommalbkhcjaa
open Go.RowKit Go.Sort
/-- A route's prefix. -/
def rB (r : Rt) : Bs := bitsB r.a r.m.toNat
theorem rB_may {r : Rt} (ha : r.a < 2 ^ 32) (h : mayR r = true) : (rB r).length ≤ 32 ∧ padB (rB r) = r.a ∧ ((rB r).length : Int) = r.m := by
  have hm : mayB r.a r.m = true := by unfold mayR at h; exact (Bool.and_eq_true_iff.1 h).1
  exact pB_may (x := ⟨r.a, r.m⟩) ha hm
/-- A table is made, route by route; the route at k stands as vf k. -/
def mkT (vf : Nat → Int) : Nat → List Rt → TT → Option TT
  | _, [], T => some T
  | k, r :: l, T => if mayR r = true ∧ T.get (rB r) = none then mkT vf (k + 1) l (T.ins (rB r) (vf k)) else none
/-- .. as a list. -/
def mkL (vf : Nat → Int) : Nat → List Rt → List (Bs × Int) → Option (List (Bs × Int))
  | _, [], L => some L
  | k, r :: l, L => if mayR r = true ∧ getS (rB r) L = none then mkL vf (k + 1) l (insS (rB r) (vf k) L) else none
theorem mkT_list {vf : Nat → Int} : ∀ {l : List Rt} {k : Nat} {T : TT}, T.wf [] → (∀ r ∈ l, r.a < 2 ^ 32) → (mkT vf k l T).map TT.list = mkL vf k l T.list ∧ ∀ T', mkT vf k l T = some T' → T'.wf []
  | [], k, T, wf, _ => ⟨rfl, fun T' h => by injection h with h; rw [← h]; exact wf⟩
  | r :: l, k, T, wf, ha => by
    unfold mkT mkL
    rw [TT.get_list wf]
    by_cases hc : mayR r = true ∧ getS (rB r) T.list = none
    · rw [if_pos hc, if_pos hc]
      have hp := (rB_may (ha r (by simp)) hc.1).1
      have := mkT_list (vf := vf) (l := l) (k := k + 1) (T := T.ins (rB r) (vf k)) (TT.ins_wf wf List.nil_prefix hp) fun x hx => ha x (by simp [hx])
      rw [TT.ins_list wf List.nil_prefix hp] at this
      exact this
    · rw [if_neg hc, if_neg hc]
      exact ⟨rfl, fun T' h => by cases h⟩
theorem insS_in {p : Bs} {v : Int} {e : Bs × Int} : ∀ {L : List (Bs × Int)}, getS p L = none → (e ∈ insS p v L ↔ e = (p, v) ∨ e ∈ L)
  | [], _ => by simp [insS]
  | f :: r, h => by
    have hne : f.1 ≠ p := fun e => by
      have : (getS p (f :: r)).isSome = true := getS_mem.2 (by rw [← e]; simp)
      rw [h] at this; cases this
    have hr : getS p r = none := by
      unfold getS at h ⊢
      rwa [List.find?_cons_of_neg (by simpa using hne)] at h
    have ih := insS_in (p := p) (v := v) (e := e) hr
    unfold insS
    split
    · rw [List.mem_cons, ih, List.mem_cons]
      exact ⟨fun h => h.elim (fun x => .inr (.inl x)) fun h => h.elim .inl fun x => .inr (.inr x), fun h => h.elim (fun x => .inr (.inl x)) fun h => h.elim .inl fun x => .inr (.inr x)⟩
    · rw [List.mem_cons]
theorem insS_len1 {p : Bs} {v : Int} {L : List (Bs × Int)} (hs : SortedB L) (h : getS p L = none) : (insS p v L).length = L.length + 1 := by
  rw [insS_len hs, h]; rfl
/-- What a made table holds. -/
theorem mkL_in {vf : Nat → Int} : ∀ {l : List Rt} {k : Nat} {L L' : List (Bs × Int)}, SortedB L → mkL vf k l L = some L' →
    SortedB L' ∧ L'.length = L.length + l.length ∧ (∀ r ∈ l, mayR r = true) ∧ (∀ e, e ∈ L' ↔ e ∈ L ∨ ∃ i r, l[i]? = some r ∧ e = (rB r, vf (k + i)))
  | [], k, L, L', hs, h => by
    injection h with h
    rw [← h]
    exact ⟨hs, rfl, by simp, by simp⟩
  | r :: l, k, L, L', hs, h => by
    unfold mkL at h
    by_cases hc : mayR r = true ∧ getS (rB r) L = none
    · rw [if_pos hc] at h
      obtain ⟨h1, h2, h3, h4⟩ := mkL_in (insS_sorted hs) h
      refine ⟨h1, by rw [h2, insS_len1 hs hc.2, List.length_cons]; omega, fun x hx => ?_, fun e => ?_⟩
      · rcases List.mem_cons.1 hx with rfl | hx
        · exact hc.1
        · exact h3 x hx
      · rw [h4, insS_in hc.2]
        constructor
        · rintro ((h | h) | ⟨i, x, hi, h⟩)
          · exact .inr ⟨0, r, rfl, h⟩
          · exact .inl h
          · exact .inr ⟨i + 1, x, by simpa using hi, by rw [h, show k + 1 + i = k + (i + 1) by omega]⟩
        · rintro (h | ⟨i, x, hi, h⟩)
          · exact .inl (.inr h)
          · cases i with
            | zero =>
              simp at hi
              subst hi
              exact .inl (.inl h)
            | succ i => exact .inr ⟨i, x, by simpa using hi, by rw [h, show k + 1 + i = k + (i + 1) by omega]⟩
    · rw [if_neg hc] at h
      cases h
/-- Two rising lists with the same members. -/
theorem sorted_ext : ∀ {L M : List (Bs × Int)}, SortedB L → SortedB M → (∀ e, e ∈ L ↔ e ∈ M) → L = M
  | [], [], _, _, _ => rfl
  | [], f :: M, _, _, h => by have := (h f).2 (by simp); simp at this
  | e :: L, [], _, _, h => by have := (h e).1 (by simp); simp at this
  | e :: L, f :: M, hl, hm, h => by
    obtain ⟨l1, l2⟩ := List.pairwise_cons.1 hl
    obtain ⟨m1, m2⟩ := List.pairwise_cons.1 hm
    have ef : e = f := by
      rcases List.mem_cons.1 ((h e).1 (by simp)) with h1 | h1
      · exact h1
      · rcases List.mem_cons.1 ((h f).2 (by simp)) with h2 | h2
        · exact h2.symm
        · have a := m1 e h1
          have b := l1 f h2
          rw [ltB_asymm a] at b
          cases b
    subst ef
    rw [sorted_ext l2 m2 fun x => ?_]
    constructor
    · intro hx
      rcases List.mem_cons.1 ((h x).1 (by simp [hx])) with h1 | h1
      · have := l1 x hx
        rw [h1, ltB_irrefl] at this
        cases this
      · exact h1
    · intro hx
      rcases List.mem_cons.1 ((h x).2 (by simp [hx])) with h1 | h1
      · have := m1 x hx
        rw [h1, ltB_irrefl] at this
        cases this
      · exact h1
/-- When a table comes of routes. -/
theorem mkL_ok {vf : Nat → Int} : ∀ {l : List Rt} {k : Nat} {L : List (Bs × Int)}, SortedB L → ((mkL vf k l L).isSome = true ↔ (∀ r ∈ l, mayR r = true) ∧ (l.map rB).Nodup ∧ ∀ r ∈ l, rB r ∉ L.map (·.1))
  | [], k, L, _ => by simp [mkL]
  | r :: l, k, L, hs => by
    unfold mkL
    by_cases hc : mayR r = true ∧ getS (rB r) L = none
    · rw [if_pos hc, mkL_ok (insS_sorted hs)]
      have hr : rB r ∉ L.map (·.1) := fun h => by
        have := getS_mem.2 h
        rw [hc.2] at this; cases this
      have hin : ∀ q : Bs, q ∈ (insS (rB r) (vf k) L).map (·.1) ↔ q = rB r ∨ q ∈ L.map (·.1) := fun q => by
        rw [List.mem_map, List.mem_map]
        constructor
        · rintro ⟨e, he, rfl⟩
          rcases (insS_in hc.2).1 he with h | h
          · exact .inl (by rw [h])
          · exact .inr ⟨e, h, rfl⟩
        · rintro (h | ⟨e, he, rfl⟩)
          · exact ⟨_, (insS_in hc.2).2 (.inl rfl), h.symm⟩
          · exact ⟨e, (insS_in hc.2).2 (.inr he), rfl⟩
      rw [List.map_cons, List.nodup_cons]
      constructor
      · rintro ⟨h1, h2, h3⟩
        refine ⟨fun x hx => ?_, ⟨fun h => ?_, h2⟩, fun x hx => ?_⟩
        · rcases List.mem_cons.1 hx with rfl | hx
          · exact hc.1
          · exact h1 x hx
        · obtain ⟨x, hx, e⟩ := List.mem_map.1 h
          exact h3 x hx ((hin _).2 (.inl e))
        · rcases List.mem_cons.1 hx with rfl | hx
          · exact hr
          · exact fun h => h3 x hx ((hin _).2 (.inr h))
      · rintro ⟨h1, ⟨h2, h3⟩, h4⟩
        refine ⟨fun x hx => h1 x (by simp [hx]), h3, fun x hx h => ?_⟩
        rcases (hin _).1 h with h | h
        · exact h2 (List.mem_map.2 ⟨x, hx, h⟩)
        · exact h4 x (by simp [hx]) h
    · rw [if_neg hc]
      constructor
      · intro h; cases h
      · rintro ⟨h1, _, h4⟩
        refine absurd ⟨h1 r (by simp), ?_⟩ hc
        cases hg : getS (rB r) L with
        | none => rfl
        | some v => exact absurd (getS_mem.1 (by rw [hg]; rfl)) (h4 r (by simp))
/-- Routes turned about make the same table, where each stands as it stood. -/
theorem mkL_turned {vf vg : Nat → Int} {l : List Rt} {L : List (Bs × Int)} (hv : ∀ i, i < l.length → vg i = vf (l.length - 1 - i)) (h : mkL vf 0 l [] = some L) : mkL vg 0 l.reverse [] = some L := by
  have hn : SortedB ([] : List (Bs × Int)) := List.Pairwise.nil
  have ok := (mkL_ok (vf := vf) (k := 0) (l := l) hn).1 (by rw [h]; rfl)
  have ok2 := (mkL_ok (vf := vg) (k := 0) (l := l.reverse) hn).2 ⟨fun r hr => ok.1 r (by simpa using hr), by rw [List.map_reverse]; exact List.pairwise_reverse.2 (ok.2.1.imp fun h => h.symm), by simp⟩
  obtain ⟨M, hM⟩ := Option.isSome_iff_exists.1 ok2
  rw [hM]
  obtain ⟨a1, _, _, a4⟩ := mkL_in hn h
  obtain ⟨b1, _, _, b4⟩ := mkL_in hn hM
  rw [sorted_ext b1 a1 fun e => ?_]
  rw [a4, b4]
  constructor
  · rintro (h | ⟨i, r, hi, he⟩)
    · simp at h
    · have hl : i < l.length := by have := (List.getElem?_eq_some_iff.1 hi).1; simpa using this
      refine .inr ⟨l.length - 1 - i, r, by rw [List.getElem?_reverse hl] at hi; exact hi, ?_⟩
      rw [he, Nat.zero_add, Nat.zero_add, hv i hl]
  · rintro (h | ⟨i, r, hi, he⟩)
    · simp at h
    · have hl : i < l.length := (List.getElem?_eq_some_iff.1 hi).1
      refine .inr ⟨l.length - 1 - i, r, ?_, ?_⟩
      · rw [List.getElem?_reverse (by omega), show l.length - 1 - (l.length - 1 - i) = i by omega]; exact hi
      · rw [he, Nat.zero_add, Nat.zero_add, hv _ (by omega), show l.length - 1 - (l.length - 1 - i) = i by omega]
end Go.Proofs.Ythlommalbkhcjaa
