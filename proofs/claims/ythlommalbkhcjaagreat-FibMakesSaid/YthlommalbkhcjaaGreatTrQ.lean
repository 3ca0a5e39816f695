/- Tries and sorted lists: looks. -/
import Derived.Test.YthlommalbkhcjaaGreatTrT
namespace Go.Proofs.YthlommalbkhcjaaGreat

def TT.get (p : Bs) : TT → Option Int
  | .nil => none
  | .node q x h l r => if q = p then (if h then some x else none) else if q <+: p then (if nth p q.length then r.get p else l.get p) else none
theorem getS_app (p : Bs) (A B : List (Bs × Int)) : getS p (A ++ B) = (getS p A).or (getS p B) := by
  unfold getS
  rw [List.find?_append]
  cases A.find? fun e => decide (e.1 = p) <;> simp
theorem getS_none {p : Bs} {L : List (Bs × Int)} (h : ∀ e ∈ L, e.1 ≠ p) : getS p L = none := by
  unfold getS
  rw [List.find?_eq_none.2 fun e he => by simpa using h e he]; rfl
theorem getS_mem {p : Bs} {L : List (Bs × Int)} : (getS p L).isSome = true ↔ p ∈ L.map (·.1) := by
  unfold getS
  simp [List.find?_isSome]
theorem TT.get_list : ∀ {c p : Bs} {T : TT}, T.wf c → T.get p = getS p T.list
  | _, _, .nil, _ => rfl
  | c, p, .node q x h l r, w => by
    obtain ⟨w1, w2, w3, w4, w5⟩ := w
    have k1 := TT.keys_pre w4
    have k2 := TT.keys_pre w5
    show _ = getS p ((if h then [(q, x)] else []) ++ (l.list ++ r.list))
    unfold TT.get
    split
    · rename_i he
      subst he
      rw [getS_app, getS_none (L := l.list ++ r.list) fun e he => by
        rcases List.mem_append.1 he with he | he
        · exact fun e2 => (pre_snoc_ne (k1 e he).1).2 e2.symm
        · exact fun e2 => (pre_snoc_ne (k2 e he).1).2 e2.symm]
      cases h <;> simp [getS]
    · rename_i hne
      have hself : getS p (if h then [(q, x)] else []) = none := getS_none fun e he => by
        cases h
        · simp at he
        · simp at he; subst he; exact hne
      rw [getS_app, hself, Option.none_or, getS_app]
      split
      · rename_i hpre
        split
        · rename_i hb
          rw [getS_none (L := l.list) fun e he e2 => (by have := nth_snoc (k1 e he).1; rw [e2, hb] at this; cases this), Option.none_or]
          exact TT.get_list w5
        · rename_i hb
          have hb' : nth p q.length = false := by simpa using hb
          rw [getS_none (L := r.list) fun e he e2 => (by have := nth_snoc (k2 e he).1; rw [e2, hb'] at this; cases this), Option.or_none]
          exact TT.get_list w4
      · rename_i hpre
        rw [getS_none (L := l.list) fun e he e2 => hpre (by rw [← e2]; exact (List.prefix_append _ _).trans (k1 e he).1), getS_none (L := r.list) fun e he e2 => hpre (by rw [← e2]; exact (List.prefix_append _ _).trans (k2 e he).1)]
        rfl

/-- The prefixes that have an address. -/
def covS (A : Bs) (L : List (Bs × Int)) : List (Bs × Int) := L.filter fun e => decide (e.1 <+: A)
def TT.cov (A : Bs) : TT → List (Bs × Int)
  | .nil => []
  | .node q x h l r => if q <+: A then (if h then [(q, x)] else []) ++ (if q.length = 32 then [] else if nth A q.length then r.cov A else l.cov A) else []
theorem covS_none {A : Bs} {L : List (Bs × Int)} (h : ∀ e ∈ L, ¬ e.1 <+: A) : covS A L = [] := by
  unfold covS
  rw [List.filter_eq_nil_iff]
  intro e he
  simpa using h e he
theorem covS_app (A : Bs) (L M : List (Bs × Int)) : covS A (L ++ M) = covS A L ++ covS A M := List.filter_append ..
theorem TT.cov_list : ∀ {c A : Bs} {T : TT}, T.wf c → T.cov A = covS A T.list
  | _, _, .nil, _ => rfl
  | c, A, .node q x h l r, w => by
    obtain ⟨w1, w2, w3, w4, w5⟩ := w
    have k1 := TT.keys_pre w4
    have k2 := TT.keys_pre w5
    show _ = covS A ((if h then [(q, x)] else []) ++ (l.list ++ r.list))
    unfold TT.cov
    rw [covS_app, covS_app]
    split
    · rename_i hpre
      have e1 : covS A (if h then [(q, x)] else []) = (if h then [(q, x)] else []) := by
        cases h
        · rfl
        · simp [covS, hpre]
      rw [e1]
      congr 1
      split
      · rename_i h32
        rw [covS_none (L := l.list) fun e he _ => by have := (k1 e he).1.length_le; have := (k1 e he).2; simp at *; omega,
          covS_none (L := r.list) fun e he _ => by have := (k2 e he).1.length_le; have := (k2 e he).2; simp at *; omega]
        rfl
      · split
        · rename_i hb
          rw [covS_none (L := l.list) fun e he e2 => (by have := nth_snoc ((k1 e he).1.trans e2); rw [hb] at this; cases this), List.nil_append]
          exact TT.cov_list w5
        · rename_i hb
          have hb' : nth A q.length = false := by simpa using hb
          rw [covS_none (L := r.list) fun e he e2 => (by have := nth_snoc ((k2 e he).1.trans e2); rw [hb'] at this; cases this), List.append_nil]
          exact TT.cov_list w4
    · rename_i hpre
      rw [covS_none (L := if h then [(q, x)] else []) fun e he => by
          cases h
          · simp at he
          · simp at he; subst he; exact hpre,
        covS_none (L := l.list) fun e he e2 => hpre ((List.prefix_append _ _).trans ((k1 e he).1.trans e2)),
        covS_none (L := r.list) fun e he e2 => hpre ((List.prefix_append _ _).trans ((k2 e he).1.trans e2))]
      rfl

/-- All nodes' prefixes. -/
def TT.keys : TT → List Bs
  | .nil => []
  | .node p _ _ l r => p :: (l.keys ++ r.keys)
theorem TT.nodes_pre : ∀ {c : Bs} {T : TT}, T.wf c → ∀ k ∈ T.keys, c <+: k
  | _, .nil, _, k, h => by simp [TT.keys] at h
  | c, .node p v h l r, w, k, hk => by
    obtain ⟨w1, w2, _, w4, w5⟩ := w
    simp only [TT.keys, List.mem_cons, List.mem_append] at hk
    rcases hk with rfl | hk | hk
    · exact w1
    · exact w1.trans ((List.prefix_append _ _).trans (TT.nodes_pre w4 k hk))
    · exact w1.trans ((List.prefix_append _ _).trans (TT.nodes_pre w5 k hk))
theorem TT.keys_nodup : ∀ {c : Bs} {T : TT}, T.wf c → T.keys.Nodup
  | _, .nil, _ => List.Pairwise.nil
  | c, .node p v h l r, w => by
    obtain ⟨w1, w2, _, w4, w5⟩ := w
    have k1 := TT.nodes_pre w4
    have k2 := TT.nodes_pre w5
    refine List.nodup_cons.2 ⟨fun hm => ?_, List.nodup_append.2 ⟨TT.keys_nodup w4, TT.keys_nodup w5, fun a ha b hb e => ?_⟩⟩
    · rcases List.mem_append.1 hm with hm | hm
      · exact (pre_snoc_ne (k1 _ hm)).2 rfl
      · exact (pre_snoc_ne (k2 _ hm)).2 rfl
    · have x1 := nth_snoc (k1 a ha)
      have x2 := nth_snoc (k2 b hb)
      rw [e, x2] at x1; cases x1
theorem TT.list_ne : ∀ {c : Bs} {T : TT}, T.wf c → T ≠ .nil → T.list ≠ []
  | _, .nil, _, h => absurd rfl h
  | c, .node p v h l r, w, _ => by
    obtain ⟨w1, w2, w3, w4, w5⟩ := w
    intro e
    simp only [TT.list, List.append_eq_nil_iff] at e
    cases h
    · exact TT.list_ne w4 (w3 rfl).1 e.2.1
    · simp at e
/-- No more nodes than twice the prefixes, less one. -/
theorem TT.keys_le : ∀ {c : Bs} {T : TT}, T.wf c → T.keys.length ≤ 2 * T.list.length - 1 ∧ (T ≠ .nil → 0 < T.list.length)
  | _, .nil, _ => ⟨Nat.le_refl _, fun h => absurd rfl h⟩
  | c, .node p v h l r, w => by
    have hp := List.length_pos_iff.2 (TT.list_ne w (fun e => by cases e))
    refine ⟨?_, fun _ => hp⟩
    obtain ⟨w1, w2, w3, w4, w5⟩ := w
    obtain ⟨a1, a2⟩ := TT.keys_le w4
    obtain ⟨b1, b2⟩ := TT.keys_le w5
    simp only [TT.keys, TT.list, List.length_cons, List.length_append] at hp ⊢
    cases h
    · have := a2 (w3 rfl).1
      have := b2 (w3 rfl).2
      simp; omega
    · simp
      by_cases hl : l = .nil
      · subst hl; simp [TT.keys, TT.list]
        by_cases hr : r = .nil
        · subst hr; simp [TT.keys, TT.list]
        · have := b2 hr; omega
      · have := a2 hl
        by_cases hr : r = .nil
        · subst hr; simp [TT.keys, TT.list]; omega
        · have := b2 hr; omega

/-- Where neighbours part. -/
def consec : List (Bs × Int) → List Bs
  | e :: f :: r => lcpB e.1 f.1 :: consec (f :: r)
  | _ => []
theorem mem_consec_cons (x : Bs) (e : Bs × Int) (M : List (Bs × Int)) : x ∈ consec (e :: M) ↔ (∃ f ∈ M.head?, x = lcpB e.1 f.1) ∨ x ∈ consec M := by
  cases M with
  | nil => simp [consec]
  | cons f r => simp [consec]
theorem mem_consec_app (x : Bs) (B : List (Bs × Int)) : ∀ A : List (Bs × Int), x ∈ consec (A ++ B) ↔ x ∈ consec A ∨ x ∈ consec B ∨ (∃ e ∈ A.getLast?, ∃ f ∈ B.head?, x = lcpB e.1 f.1)
  | [] => by simp [consec]
  | [e] => by
    show x ∈ consec (e :: B) ↔ _
    rw [mem_consec_cons]
    simp [consec]
    constructor
    · rintro (h | h)
      · exact .inr h
      · exact .inl h
    · rintro (h | h)
      · exact .inr h
      · exact .inl h
  | e :: f :: A => by
    show x ∈ consec (e :: (f :: A ++ B)) ↔ _
    rw [mem_consec_cons, mem_consec_app x B (f :: A), mem_consec_cons]
    simp only [List.getLast?_cons_cons]
    rw [mem_consec_cons x e (f :: A), mem_consec_cons x f A]
    simp only [List.cons_append, List.head?_cons, or_assoc]
theorem lcp_at : ∀ {c l m : Bs} {b : Bool}, c ++ [b] <+: l → c ++ [!b] <+: m → lcpB l m = c
  | [], l, m, b, h1, h2 => by
    obtain ⟨x, rfl⟩ := h1
    obtain ⟨y, rfl⟩ := h2
    show lcpB (b :: x) ((!b) :: y) = []
    unfold lcpB
    rw [if_neg (by cases b <;> decide)]
  | a :: c, l, m, b, h1, h2 => by
    obtain ⟨x, rfl⟩ := h1
    obtain ⟨y, rfl⟩ := h2
    show lcpB (a :: (c ++ [b] ++ x)) (a :: (c ++ [!b] ++ y)) = a :: c
    unfold lcpB
    rw [if_pos rfl, lcp_at ⟨x, rfl⟩ ⟨y, rfl⟩]
theorem TT.mem_keys (x : Bs) : ∀ {c : Bs} {T : TT}, T.wf c → (x ∈ T.keys ↔ x ∈ T.list.map (·.1) ∨ x ∈ consec T.list)
  | _, .nil, _ => by simp [TT.keys, TT.list, consec]
  | c, .node q v h l r, w => by
    have w' := w
    obtain ⟨w1, w2, w3, w4, w5⟩ := w
    have k1 := TT.keys_pre w4
    have k2 := TT.keys_pre w5
    have i1 := TT.mem_keys x w4
    have i2 := TT.mem_keys x w5
    have hmid : ∀ y, (∃ e ∈ l.list.getLast?, ∃ f ∈ r.list.head?, y = lcpB e.1 f.1) → y = q := by
      rintro y ⟨e, he, f, hf, rfl⟩
      exact lcp_at (k1 e (List.mem_of_mem_getLast? he)).1 (k2 f (List.mem_of_mem_head? hf)).1
    have hlr : x ∈ consec (l.list ++ r.list) ↔ x ∈ consec l.list ∨ x ∈ consec r.list ∨ (∃ e ∈ l.list.getLast?, ∃ f ∈ r.list.head?, x = lcpB e.1 f.1) := mem_consec_app x r.list l.list
    simp only [TT.keys, List.mem_cons, List.mem_append, i1, i2]
    cases h
    · show _ ↔ x ∈ (l.list ++ r.list).map (·.1) ∨ x ∈ consec (l.list ++ r.list)
      rw [hlr, List.map_append, List.mem_append]
      constructor
      · rintro (rfl | (h | h) | (h | h))
        · obtain ⟨n1, n2⟩ := w3 rfl
          obtain ⟨e, he⟩ : ∃ e, l.list.getLast? = some e := ⟨_, List.getLast?_eq_some_getLast (TT.list_ne w4 n1)⟩
          obtain ⟨f, hf⟩ : ∃ f, r.list.head? = some f := ⟨_, List.head?_eq_some_head (TT.list_ne w5 n2)⟩
          exact .inr (.inr (.inr ⟨e, he, f, hf, (hmid _ ⟨e, he, f, hf, rfl⟩).symm⟩))
        · exact .inl (.inl h)
        · exact .inr (.inl h)
        · exact .inl (.inr h)
        · exact .inr (.inr (.inl h))
      · rintro ((h | h) | h | h | h)
        · exact .inr (.inl (.inl h))
        · exact .inr (.inr (.inl h))
        · exact .inr (.inl (.inr h))
        · exact .inr (.inr (.inr h))
        · exact .inl (hmid _ h)
    · show _ ↔ x ∈ ((q, v) :: (l.list ++ r.list)).map (·.1) ∨ x ∈ consec ((q, v) :: (l.list ++ r.list))
      have hq : ∀ y, (∃ f ∈ (l.list ++ r.list).head?, y = lcpB q f.1) → y = q := by
        rintro y ⟨f, hf, rfl⟩
        rcases List.mem_append.1 (List.mem_of_mem_head? hf) with hf | hf
        · exact lcp_eq_left.2 ((List.prefix_append _ _).trans (k1 f hf).1)
        · exact lcp_eq_left.2 ((List.prefix_append _ _).trans (k2 f hf).1)
      rw [mem_consec_cons, hlr, List.map_cons, List.mem_cons, List.map_append, List.mem_append]
      constructor
      · rintro (h | (h | h) | (h | h))
        · exact .inl (.inl h)
        · exact .inl (.inr (.inl h))
        · exact .inr (.inr (.inl h))
        · exact .inl (.inr (.inr h))
        · exact .inr (.inr (.inr (.inl h)))
      · rintro ((h | h | h) | h | h | h | h)
        · exact .inl h
        · exact .inr (.inl (.inl h))
        · exact .inr (.inr (.inl h))
        · exact .inl (hq _ h)
        · exact .inr (.inl (.inr h))
        · exact .inr (.inr (.inr h))
        · exact .inl (hmid _ h)
theorem nodup_le : ∀ {A B : List Bs}, A.Nodup → (∀ x ∈ A, x ∈ B) → A.length ≤ B.length
  | [], _, _, _ => Nat.zero_le _
  | a :: A, B, hn, hs => by
    obtain ⟨h1, h2⟩ := List.nodup_cons.1 hn
    have ha := hs a (List.mem_cons_self ..)
    have ih := nodup_le (B := B.erase a) h2 fun x hx => (List.mem_erase_of_ne (fun e => h1 (by rw [← e]; exact hx))).2 (hs x (List.mem_cons_of_mem _ hx))
    rw [List.length_erase_of_mem ha] at ih
    have := List.length_pos_of_mem ha
    simp; omega
theorem TT.nodes_eq {c : Bs} {T : TT} (w : T.wf c) {S : List Bs} (hn : S.Nodup) (hm : ∀ x, x ∈ S ↔ x ∈ T.list.map (·.1) ∨ x ∈ consec T.list) : T.keys.length = S.length :=
  Nat.le_antisymm (nodup_le (TT.keys_nodup w) fun x hx => (hm x).2 ((TT.mem_keys x w).1 hx)) (nodup_le hn fun x hx => (TT.mem_keys x w).2 ((hm x).1 hx))

/-- Where a prefix stands in the list, or would. -/
def atB (p : Bs) : List (Bs × Int) → Nat
  | [] => 0
  | e :: r => if ltB e.1 p = true then atB p r + 1 else 0
def hasB (p : Bs) (L : List (Bs × Int)) : Bool := match L[atB p L]? with
  | some e => decide (e.1 = p)
  | none => false
theorem atB_le (p : Bs) : ∀ L, atB p L ≤ L.length
  | [] => Nat.le_refl _
  | e :: r => by
    unfold atB
    split
    · have := atB_le p r; simp; omega
    · simp
theorem atB_lt (p : Bs) : ∀ (L : List (Bs × Int)) (i : Nat) (e : Bs × Int), i < atB p L → L[i]? = some e → ltB e.1 p = true
  | [], i, e, h, _ => by simp [atB] at h
  | f :: r, i, e, h, he => by
    unfold atB at h
    split at h
    · rename_i hf
      cases i with
      | zero => simp at he; subst he; exact hf
      | succ i => exact atB_lt p r i e (by omega) (by simpa using he)
    · omega
theorem atB_ge (p : Bs) : ∀ (L : List (Bs × Int)) (e : Bs × Int), L[atB p L]? = some e → ltB e.1 p = false
  | [], e, he => by simp at he
  | f :: r, e, he => by
    unfold atB at he
    split at he
    · exact atB_ge p r e (by simpa using he)
    · rename_i hf
      simp at he; subst he; simpa using hf
theorem insS_eq (p : Bs) (v : Int) : ∀ L : List (Bs × Int), insS p v L = if hasB p L = true then L.set (atB p L) (p, v) else L.take (atB p L) ++ (p, v) :: L.drop (atB p L)
  | [] => rfl
  | e :: r => by
    have ih := insS_eq p v r
    unfold insS
    split
    · rename_i h
      have e1 : atB p (e :: r) = atB p r + 1 := by rw [atB, if_pos h]
      have e2 : hasB p (e :: r) = hasB p r := by unfold hasB; rw [e1]; simp
      rw [e1, e2, ih]
      split <;> simp
    · rename_i h
      have e1 : atB p (e :: r) = 0 := by rw [atB, if_neg h]
      have e2 : hasB p (e :: r) = decide (e.1 = p) := by unfold hasB; rw [e1]; rfl
      rw [e1, e2]
      by_cases he : e.1 = p
      · rw [if_pos he, if_pos (decide_eq_true he)]; rfl
      · rw [if_neg he, if_neg (by simpa using he)]; rfl
theorem sorted_tail {e : Bs × Int} {r : List (Bs × Int)} (h : SortedB (e :: r)) : SortedB r := (List.pairwise_cons.1 h).2
theorem hasB_mem : ∀ {p : Bs} {L : List (Bs × Int)}, SortedB L → (hasB p L = true ↔ p ∈ L.map (·.1))
  | p, [], _ => by simp [hasB, atB]
  | p, e :: r, hs => by
    have ih := hasB_mem (p := p) (sorted_tail hs)
    by_cases h : ltB e.1 p = true
    · have e1 : atB p (e :: r) = atB p r + 1 := by rw [atB, if_pos h]
      have e2 : hasB p (e :: r) = hasB p r := by unfold hasB; rw [e1]; simp
      rw [e2, ih]
      have hne : p ≠ e.1 := fun e3 => by rw [e3, ltB_irrefl] at h; cases h
      rw [List.map_cons, List.mem_cons]
      exact ⟨.inr, fun h => h.resolve_left hne⟩
    · have e1 : atB p (e :: r) = 0 := by rw [atB, if_neg h]
      have e2 : hasB p (e :: r) = decide (e.1 = p) := by unfold hasB; rw [e1]; rfl
      rw [e2, decide_eq_true_iff, List.map_cons, List.mem_cons]
      constructor
      · exact fun h => .inl h.symm
      · rintro (h2 | h2)
        · exact h2.symm
        · obtain ⟨f, hf, rfl⟩ := List.mem_map.1 h2
          exact absurd ((List.pairwise_cons.1 hs).1 f hf) h
theorem getS_eq {p : Bs} {L : List (Bs × Int)} (hs : SortedB L) : getS p L = if hasB p L = true then (L[atB p L]?).map (·.2) else none := by
  split
  · rename_i h
    revert h hs
    induction L with
    | nil => intro hs h; simp [hasB, atB] at h
    | cons e r ih =>
      intro hs h
      by_cases h2 : ltB e.1 p = true
      · have e1 : atB p (e :: r) = atB p r + 1 := by rw [atB, if_pos h2]
        have e2 : hasB p (e :: r) = hasB p r := by unfold hasB; rw [e1]; simp
        rw [e2] at h
        have hne : e.1 ≠ p := fun e3 => by rw [e3, ltB_irrefl] at h2; cases h2
        have := ih (sorted_tail hs) h
        unfold getS at this ⊢
        rw [List.find?_cons_of_neg (by simpa using hne), this, e1]; simp
      · have e1 : atB p (e :: r) = 0 := by rw [atB, if_neg h2]
        have e2 : hasB p (e :: r) = decide (e.1 = p) := by unfold hasB; rw [e1]; rfl
        rw [e2, decide_eq_true_iff] at h
        unfold getS
        rw [List.find?_cons_of_pos (by simpa using h), e1]; rfl
  · rename_i h
    rw [hasB_mem hs] at h
    exact getS_none fun e he e2 => h (List.mem_map.2 ⟨e, he, e2⟩)
theorem delS_eq {p : Bs} : ∀ {L : List (Bs × Int)}, SortedB L → hasB p L = true → delS p L = L.take (atB p L) ++ L.drop (atB p L + 1)
  | [], _, h => by simp [hasB, atB] at h
  | e :: r, hs, h => by
    by_cases h2 : ltB e.1 p = true
    · have e1 : atB p (e :: r) = atB p r + 1 := by rw [atB, if_pos h2]
      have e2 : hasB p (e :: r) = hasB p r := by unfold hasB; rw [e1]; simp
      rw [e2] at h
      have hne : e.1 ≠ p := fun e3 => by rw [e3, ltB_irrefl] at h2; cases h2
      have ih := delS_eq (sorted_tail hs) h
      unfold delS at ih ⊢
      rw [List.filter_cons_of_pos (by simpa using hne), ih, e1]; rfl
    · have e1 : atB p (e :: r) = 0 := by rw [atB, if_neg h2]
      have e2 : hasB p (e :: r) = decide (e.1 = p) := by unfold hasB; rw [e1]; rfl
      rw [e2, decide_eq_true_iff] at h
      have : delS p r = r := delS_none fun f hf e3 => by
        have := (List.pairwise_cons.1 hs).1 f hf
        rw [h, e3, ltB_irrefl] at this; cases this
      unfold delS at this ⊢
      rw [List.filter_cons_of_neg (by simpa using h), this, e1]; rfl
theorem insS_mem {p : Bs} {v : Int} : ∀ {L : List (Bs × Int)} {e : Bs × Int}, e ∈ insS p v L → e = (p, v) ∨ e ∈ L
  | [], e, h => by simp [insS] at h; exact .inl h
  | f :: r, e, h => by
    unfold insS at h
    split at h
    · rcases List.mem_cons.1 h with h | h
      · exact .inr (h ▸ List.mem_cons_self ..)
      · rcases insS_mem h with h | h
        · exact .inl h
        · exact .inr (List.mem_cons_of_mem _ h)
    · split at h
      · rcases List.mem_cons.1 h with h | h
        · exact .inl h
        · exact .inr (List.mem_cons_of_mem _ h)
      · rcases List.mem_cons.1 h with h | h
        · exact .inl h
        · exact .inr h
theorem insS_sorted {p : Bs} {v : Int} : ∀ {L : List (Bs × Int)}, SortedB L → SortedB (insS p v L)
  | [], _ => List.pairwise_singleton ..
  | f :: r, hs => by
    obtain ⟨h1, h2⟩ := List.pairwise_cons.1 hs
    unfold insS
    split
    · rename_i h
      refine List.pairwise_cons.2 ⟨fun e he => ?_, insS_sorted h2⟩
      rcases insS_mem he with rfl | he
      · exact h
      · exact h1 e he
    · rename_i h
      split
      · rename_i he
        exact List.pairwise_cons.2 ⟨fun e hm => by rw [← he]; exact h1 e hm, h2⟩
      · rename_i hne
        have hlt : ltB p f.1 = true := by
          rcases ltB_tri f.1 p with h3 | h3 | h3
          · exact absurd h3 h
          · exact absurd h3 hne
          · exact h3
        refine List.pairwise_cons.2 ⟨fun e he => ?_, hs⟩
        rcases List.mem_cons.1 he with rfl | he
        · exact hlt
        · exact ltB_trans hlt (h1 e he)
theorem delS_sorted {p : Bs} {L : List (Bs × Int)} (h : SortedB L) : SortedB (delS p L) := List.Pairwise.filter _ h
end Go.Proofs.YthlommalbkhcjaaGreat
