/- Tries and sorted lists: the plain law. -/
import Derived.Test.YthlommalbkhcjaaGreatTrB
namespace Go.Proofs.YthlommalbkhcjaaGreat

abbrev Bs := List Bool

/-- The order of prefixes: by rising Addr, then Len. -/
def ltB : Bs → Bs → Bool
  | [], [] => false
  | [], _ :: _ => true
  | _ :: _, [] => false
  | a :: l, b :: m => if a = b then ltB l m else b
theorem ltB_irrefl : ∀ l, ltB l l = false
  | [] => rfl
  | a :: l => by simp [ltB, ltB_irrefl l]
theorem ltB_trans : ∀ {l m n : Bs}, ltB l m = true → ltB m n = true → ltB l n = true
  | [], m, n, h1, h2 => by
    cases n with
    | nil => cases m <;> simp [ltB] at h2
    | cons => rfl
  | a :: l, [], n, h1, h2 => by simp [ltB] at h1
  | a :: l, b :: m, [], h1, h2 => by simp [ltB] at h2
  | a :: l, b :: m, c :: n, h1, h2 => by
    simp only [ltB] at h1 h2 ⊢
    by_cases e1 : a = b
    · subst e1
      rw [if_pos rfl] at h1
      by_cases e2 : a = c
      · subst e2; rw [if_pos rfl] at h2 ⊢; exact ltB_trans h1 h2
      · rw [if_neg e2] at h2 ⊢; exact h2
    · rw [if_neg e1] at h1
      subst h1
      by_cases e2 : true = c
      · subst e2; rw [if_neg e1]
      · rw [if_neg e2] at h2; subst h2; exact absurd rfl e2
theorem ltB_tri : ∀ l m : Bs, ltB l m = true ∨ l = m ∨ ltB m l = true
  | [], [] => .inr (.inl rfl)
  | [], _ :: _ => .inl rfl
  | _ :: _, [] => .inr (.inr rfl)
  | a :: l, b :: m => by
    simp only [ltB]
    by_cases e : a = b
    · subst e
      rw [if_pos rfl, if_pos rfl]
      rcases ltB_tri l m with h | h | h
      · exact .inl h
      · exact .inr (.inl (by rw [h]))
      · exact .inr (.inr h)
    · rw [if_neg e, if_neg (fun h => e h.symm)]
      cases a <;> cases b <;> simp_all
theorem ltB_asymm {l m : Bs} (h : ltB l m = true) : ltB m l = false := by
  cases e : ltB m l with
  | false => rfl
  | true => have := ltB_trans h e; rw [ltB_irrefl] at this; cases this
theorem ltB_pre : ∀ {l m : Bs}, l <+: m → l ≠ m → ltB l m = true
  | [], [], _, h => absurd rfl h
  | [], _ :: _, _, _ => rfl
  | a :: l, m, h, hn => by
    obtain ⟨x, rfl⟩ := h
    show ltB (a :: l) (a :: (l ++ x)) = true
    simp only [ltB, if_pos]
    exact ltB_pre ⟨x, rfl⟩ fun e => hn (by show a :: l = a :: (l ++ x); rw [← e])
/-- Where two part at a bit. -/
theorem ltB_part : ∀ (c : Bs) (l m : Bs), c ++ [false] <+: l → c ++ [true] <+: m → ltB l m = true
  | [], l, m, h1, h2 => by
    obtain ⟨x, rfl⟩ := h1
    obtain ⟨y, rfl⟩ := h2
    rfl
  | a :: c, l, m, h1, h2 => by
    obtain ⟨x, rfl⟩ := h1
    obtain ⟨y, rfl⟩ := h2
    show ltB (a :: (c ++ [false] ++ x)) (a :: (c ++ [true] ++ y)) = true
    simp only [ltB, if_pos]
    exact ltB_part c _ _ ⟨x, rfl⟩ ⟨y, rfl⟩

/-- By numbers. -/
theorem valB_cons (a : Bool) (l : Bs) : valB (a :: l) = (if a then 2 ^ l.length else 0) + valB l := rfl
def padW (w : Nat) (l : Bs) : Nat := valB l * 2 ^ (w - l.length)
theorem padW_cons (w : Nat) (a : Bool) (l : Bs) (h : l.length ≤ w) : padW (w + 1) (a :: l) = (if a then 2 ^ w else 0) + padW w l := by
  unfold padW
  rw [valB_cons, List.length_cons, show w + 1 - (l.length + 1) = w - l.length from by omega, Nat.add_mul]
  congr 1
  cases a
  · simp
  · rw [if_pos rfl, if_pos rfl, ← Nat.pow_add]; congr 1; omega
theorem padW_lt (w : Nat) (l : Bs) (h : l.length ≤ w) : padW w l < 2 ^ w := by
  unfold padW
  have := valB_lt l
  calc valB l * 2 ^ (w - l.length) < 2 ^ l.length * 2 ^ (w - l.length) := Nat.mul_lt_mul_of_pos_right this (Nat.two_pow_pos _)
    _ = 2 ^ w := by rw [← Nat.pow_add]; congr 1; omega
theorem ltB_padW : ∀ (w : Nat) (l m : Bs), l.length ≤ w → m.length ≤ w → (ltB l m = true ↔ padW w l < padW w m ∨ (padW w l = padW w m ∧ l.length < m.length))
  | w, [], [], _, _ => by simp [ltB]
  | w, [], b :: m, _, _ => by
    have : padW w [] = 0 := by simp [padW, valB]
    rw [this]
    simp [ltB]; omega
  | w, a :: l, [], _, _ => by
    have : padW w [] = 0 := by simp [padW, valB]
    rw [this]
    simp [ltB]
  | 0, a :: l, b :: m, h, _ => by simp at h
  | w + 1, a :: l, b :: m, h1, h2 => by
    simp only [List.length_cons] at h1 h2
    have ih := ltB_padW w l m (by omega) (by omega)
    have k1 := padW_lt w l (by omega)
    have k2 := padW_lt w m (by omega)
    rw [padW_cons w a l (by omega), padW_cons w b m (by omega)]
    simp only [ltB, List.length_cons]
    cases a <;> cases b <;> simp <;> first | (rw [ih]) | omega
theorem ltB_pad {l m : Bs} (h1 : l.length ≤ 32) (h2 : m.length ≤ 32) : ltB l m = true ↔ padB l < padB m ∨ (padB l = padB m ∧ l.length < m.length) := ltB_padW 32 l m h1 h2

/-- A trie: a node's prefix, value, has it one, and what lies below. -/
inductive TT where
  | nil
  | node (p : Bs) (v : Int) (h : Bool) (l r : TT)
/-- Well made, below c. -/
def TT.wf (c : Bs) : TT → Prop
  | .nil => True
  | .node p _ h l r => c <+: p ∧ p.length ≤ 32 ∧ (h = false → l ≠ .nil ∧ r ≠ .nil) ∧ l.wf (p ++ [false]) ∧ r.wf (p ++ [true])
def TT.list : TT → List (Bs × Int)
  | .nil => []
  | .node p v h l r => (if h then [(p, v)] else []) ++ (l.list ++ r.list)
theorem TT.wf_mono {c d : Bs} (h : d <+: c) : ∀ {T : TT}, T.wf c → T.wf d
  | .nil, _ => trivial
  | .node .., w => ⟨h.trans w.1, w.2⟩
theorem TT.keys_pre : ∀ {c : Bs} {T : TT}, T.wf c → ∀ e ∈ T.list, c <+: e.1 ∧ e.1.length ≤ 32
  | c, .nil, _, e, h => by simp [TT.list] at h
  | c, .node p v h l r, w, e, he => by
    obtain ⟨w1, w2, _, w4, w5⟩ := w
    simp only [TT.list, List.mem_append] at he
    rcases he with he | he | he
    · cases h
      · simp at he
      · simp at he; subst he; exact ⟨w1, w2⟩
    · obtain ⟨k1, k2⟩ := TT.keys_pre w4 e he
      exact ⟨w1.trans ((List.prefix_append _ _).trans k1), k2⟩
    · obtain ⟨k1, k2⟩ := TT.keys_pre w5 e he
      exact ⟨w1.trans ((List.prefix_append _ _).trans k1), k2⟩

def SortedB (L : List (Bs × Int)) : Prop := L.Pairwise fun a b => ltB a.1 b.1 = true
theorem pre_snoc_ne {p q : Bs} {b : Bool} (h : p ++ [b] <+: q) : p <+: q ∧ p ≠ q := by
  obtain ⟨x, rfl⟩ := h
  refine ⟨⟨[b] ++ x, by simp⟩, fun e => ?_⟩
  have := congrArg List.length e
  simp at this
theorem TT.sorted : ∀ {c : Bs} {T : TT}, T.wf c → SortedB T.list
  | _, .nil, _ => List.Pairwise.nil
  | c, .node p v h l r, w => by
    obtain ⟨w1, w2, _, w4, w5⟩ := w
    have s1 := TT.sorted w4
    have s2 := TT.sorted w5
    have k1 := TT.keys_pre w4
    have k2 := TT.keys_pre w5
    have s3 : SortedB (l.list ++ r.list) := List.pairwise_append.2 ⟨s1, s2, fun a ha b hb => ltB_part p _ _ (k1 a ha).1 (k2 b hb).1⟩
    unfold TT.list
    cases h
    · exact s3
    · refine List.pairwise_cons.2 ⟨fun b hb => ?_, s3⟩
      have hb2 : b ∈ l.list ++ r.list := hb
      rcases List.mem_append.1 hb2 with hb | hb
      · obtain ⟨x1, x2⟩ := pre_snoc_ne (k1 b hb).1; exact ltB_pre x1 x2
      · obtain ⟨x1, x2⟩ := pre_snoc_ne (k2 b hb).1; exact ltB_pre x1 x2

/-- The document's list. -/
def insS (p : Bs) (v : Int) : List (Bs × Int) → List (Bs × Int)
  | [] => [(p, v)]
  | e :: r => if ltB e.1 p = true then e :: insS p v r else if e.1 = p then (p, v) :: r else (p, v) :: e :: r
def delS (p : Bs) (L : List (Bs × Int)) : List (Bs × Int) := L.filter fun e => decide (e.1 ≠ p)
def getS (p : Bs) (L : List (Bs × Int)) : Option Int := (L.find? fun e => decide (e.1 = p)).map (·.2)
theorem insS_left {p : Bs} {v : Int} {B : List (Bs × Int)} : ∀ {A : List (Bs × Int)}, (∀ e ∈ A, ltB e.1 p = true) → insS p v (A ++ B) = A ++ insS p v B
  | [], _ => rfl
  | a :: A, h => by
    show insS p v (a :: (A ++ B)) = a :: (A ++ insS p v B)
    rw [insS, if_pos (h a (List.mem_cons_self ..)), insS_left fun e he => h e (List.mem_cons_of_mem _ he)]
theorem insS_first {p : Bs} {v : Int} {B : List (Bs × Int)} (h : ∀ e ∈ B, ltB p e.1 = true) : insS p v B = (p, v) :: B := by
  cases B with
  | nil => rfl
  | cons b B =>
    have hb := h b (List.mem_cons_self ..)
    have hne : b.1 ≠ p := fun e => by rw [e, ltB_irrefl] at hb; cases hb
    rw [insS, if_neg (by rw [ltB_asymm hb]; decide), if_neg hne]
theorem insS_right {p : Bs} {v : Int} {B : List (Bs × Int)} (h : ∀ e ∈ B, ltB p e.1 = true) : ∀ (A : List (Bs × Int)), insS p v (A ++ B) = insS p v A ++ B
  | [] => by rw [List.nil_append, insS_first h]; rfl
  | a :: A => by
    show insS p v (a :: (A ++ B)) = insS p v (a :: A) ++ B
    rw [insS, insS, insS_right h A]
    split
    · rfl
    · split <;> rfl

/-- Which bit of p is behind the first n. -/
abbrev nth (p : Bs) (n : Nat) : Bool := p.getD n false
theorem pre_nth {q p : Bs} (h : q <+: p) (hn : q ≠ p) : q ++ [nth p q.length] <+: p := by
  obtain ⟨x, rfl⟩ := h
  cases x with
  | nil => simp at hn
  | cons b x =>
    have : nth (q ++ b :: x) q.length = b := by simp [nth, List.getD]
    rw [this]
    exact ⟨x, by simp⟩
def fork (c : Bs) (b : Bool) (x y : TT) : TT := if b then .node c 0 false y x else .node c 0 false x y
/-- What Insert leaves. -/
def TT.ins (p : Bs) (v : Int) : TT → TT
  | .nil => .node p v true .nil .nil
  | .node q x h l r =>
    if q = p then .node q v true l r
    else if q <+: p then (if nth p q.length then .node q x h l (r.ins p v) else .node q x h (l.ins p v) r)
    else if lcpB q p = p then (if nth q p.length then .node p v true .nil (.node q x h l r) else .node p v true (.node q x h l r) .nil)
    else fork (lcpB q p) (nth p (lcpB q p).length) (.node p v true .nil .nil) (.node q x h l r)
theorem TT.ins_ne (p : Bs) (v : Int) (T : TT) : T.ins p v ≠ .nil := by
  cases T with
  | nil => intro h; cases h
  | node q x h l r =>
    unfold TT.ins fork
    intro e
    split at e
    · cases e
    · split at e
      · split at e <;> cases e
      · split at e
        · split at e <;> cases e
        · split at e <;> cases e
/-- Two that are no beginnings of one another part at a bit. -/
theorem part_of {q p : Bs} (h1 : ¬ q <+: p) (h2 : lcpB q p ≠ p) : ∃ b, lcpB q p ++ [b] <+: q ∧ lcpB q p ++ [!b] <+: p := by
  rcases lcp_part q p with h | h | h
  · exact absurd (lcp_eq_left.1 ((lcp_left q p).eq_of_length h)) h1
  · exact absurd ((lcp_right q p).eq_of_length h) h2
  · exact h
theorem nth_snoc {c l : Bs} {b : Bool} (h : c ++ [b] <+: l) : nth l c.length = b := (getD_of_snoc h).1
theorem TT.ins_wf : ∀ {c p : Bs} {v : Int} {T : TT}, T.wf c → c <+: p → p.length ≤ 32 → (T.ins p v).wf c
  | c, p, v, .nil, _, hc, hp => ⟨hc, hp, (fun h => by cases h), trivial, trivial⟩
  | c, p, v, .node q x h l r, w, hc, hp => by
    have w' := w
    obtain ⟨w1, w2, w3, w4, w5⟩ := w
    unfold TT.ins
    split
    · exact ⟨w1, w2, (fun h => by cases h), w4, w5⟩
    · rename_i hne
      split
      · rename_i hpre
        have hn := pre_nth hpre hne
        split
        · rename_i hb
          rw [hb] at hn
          exact ⟨w1, w2, fun h => ⟨(w3 h).1, TT.ins_ne _ _ _⟩, w4, TT.ins_wf w5 hn hp⟩
        · rename_i hb
          have hb' : nth p q.length = false := by simpa using hb
          rw [hb'] at hn
          exact ⟨w1, w2, fun h => ⟨TT.ins_ne _ _ _, (w3 h).2⟩, TT.ins_wf w4 hn hp, w5⟩
      · rename_i hpre
        split
        · rename_i hl
          have hpq : p <+: q := by rw [← hl]; exact lcp_left q p
          have hn := pre_nth hpq (fun e => hne e.symm)
          split
          · rename_i hb
            rw [hb] at hn
            exact ⟨hc, hp, (fun h => by cases h), trivial, ⟨hn, w2, w3, w4, w5⟩⟩
          · rename_i hb
            have hb' : nth q p.length = false := by simpa using hb
            rw [hb'] at hn
            exact ⟨hc, hp, (fun h => by cases h), ⟨hn, w2, w3, w4, w5⟩, trivial⟩
        · rename_i hl
          obtain ⟨b, g1, g2⟩ := part_of hpre hl
          have e := nth_snoc g2
          have hcl := lcp_great w1 hc
          have h32 : (lcpB q p).length ≤ 32 := Nat.le_trans (lcp_left q p).length_le w2
          rw [e]
          unfold fork
          cases b
          · exact ⟨hcl, h32, fun _ => ⟨(fun e => by cases e), (fun e => by cases e)⟩, ⟨g1, w2, w3, w4, w5⟩, ⟨g2, hp, (fun h => by cases h), trivial, trivial⟩⟩
          · exact ⟨hcl, h32, fun _ => ⟨(fun e => by cases e), (fun e => by cases e)⟩, ⟨g2, hp, (fun h => by cases h), trivial, trivial⟩, ⟨g1, w2, w3, w4, w5⟩⟩
theorem TT.ins_list : ∀ {c p : Bs} {v : Int} {T : TT}, T.wf c → c <+: p → p.length ≤ 32 → (T.ins p v).list = insS p v T.list
  | c, p, v, .nil, _, hc, hp => rfl
  | c, p, v, .node q x h l r, w, hc, hp => by
    have w' := w
    obtain ⟨w1, w2, w3, w4, w5⟩ := w
    have k1 := TT.keys_pre w4
    have k2 := TT.keys_pre w5
    unfold TT.ins
    split
    · rename_i he
      subst he
      show _ = insS q v ((if h then [(q, x)] else []) ++ (l.list ++ r.list))
      have hlt : ∀ e ∈ l.list ++ r.list, ltB q e.1 = true := fun e he => by
        rcases List.mem_append.1 he with he | he
        · obtain ⟨x1, x2⟩ := pre_snoc_ne (k1 e he).1; exact ltB_pre x1 x2
        · obtain ⟨x1, x2⟩ := pre_snoc_ne (k2 e he).1; exact ltB_pre x1 x2
      cases h
      · show _ = insS q v (l.list ++ r.list)
        rw [insS_first hlt]; rfl
      · show _ = insS q v ((q, x) :: (l.list ++ r.list))
        rw [insS, if_neg (by rw [ltB_irrefl]; decide), if_pos rfl]; rfl
    · rename_i hne
      split
      · rename_i hpre
        have hn := pre_nth hpre hne
        have hq : ltB q p = true := ltB_pre hpre hne
        have hh : ∀ e ∈ (if h then [(q, x)] else [] : List (Bs × Int)), ltB e.1 p = true := fun e he => by
          cases h
          · simp at he
          · simp at he; subst he; exact hq
        split
        · rename_i hb
          rw [hb] at hn
          show _ = insS p v ((if h then [(q, x)] else []) ++ (l.list ++ r.list))
          rw [insS_left hh, insS_left fun e he => ltB_part q _ _ (k1 e he).1 hn, ← TT.ins_list w5 hn hp]
          rfl
        · rename_i hb
          have hb' : nth p q.length = false := by simpa using hb
          rw [hb'] at hn
          show _ = insS p v ((if h then [(q, x)] else []) ++ (l.list ++ r.list))
          rw [insS_left hh, insS_right (fun e he => ltB_part q _ _ hn (k2 e he).1), ← TT.ins_list w4 hn hp]
          rfl
      · rename_i hpre
        have hall : ∀ e ∈ (TT.node q x h l r).list, q <+: e.1 := fun e he => (TT.keys_pre (c := q) (T := .node q x h l r) ⟨List.prefix_refl q, w2, w3, w4, w5⟩ e he).1
        split
        · rename_i hl
          have hpq : p <+: q := by rw [← hl]; exact lcp_left q p
          have hlt : ∀ e ∈ (TT.node q x h l r).list, ltB p e.1 = true := fun e he => ltB_pre (hpq.trans (hall e he)) fun e2 => hne (by
            have h1 := (hall e he).length_le
            have h2 := hpq.length_le
            rw [← e2] at h1
            exact (hpq.eq_of_length (by omega)).symm)
          rw [insS_first hlt]
          split
          · simp [TT.list]
          · simp [TT.list]
        · rename_i hl
          obtain ⟨b, g1, g2⟩ := part_of hpre hl
          rw [nth_snoc g2]
          cases b
          · have hlt : ∀ e ∈ (TT.node q x h l r).list, ltB e.1 p = true := fun e he => ltB_part _ _ _ (g1.trans (hall e he)) g2
            have := insS_left (p := p) (v := v) (B := []) hlt
            rw [List.append_nil] at this
            rw [this]
            simp [fork, TT.list, insS]
          · have hlt : ∀ e ∈ (TT.node q x h l r).list, ltB p e.1 = true := fun e he => ltB_part _ _ _ g2 (g1.trans (hall e he))
            rw [insS_first hlt]
            simp [fork, TT.list]

/-- Without what it need not be. -/
def TT.trim : TT → TT
  | .nil => .nil
  | .node q x h l r => match h, l, r with
    | true, l, r => .node q x true l r
    | false, .nil, r => r
    | false, l, .nil => l
    | false, l, r => .node q x false l r
def TT.del (p : Bs) : TT → TT
  | .nil => .nil
  | .node q x h l r => if q = p then (TT.node q 0 false l r).trim
    else if nth p q.length then (TT.node q x h l (r.del p)).trim else (TT.node q x h (l.del p) r).trim
theorem TT.trim_list (q : Bs) (x : Int) (h : Bool) (l r : TT) : (TT.node q x h l r).trim.list = (TT.node q x h l r).list := by
  cases h
  · cases l
    · cases r <;> simp [TT.trim, TT.list]
    · cases r <;> simp [TT.trim, TT.list]
  · simp [TT.trim]
theorem TT.trim_wf {c q : Bs} {x : Int} {h : Bool} {l r : TT} (w1 : c <+: q) (w2 : q.length ≤ 32) (w4 : l.wf (q ++ [false])) (w5 : r.wf (q ++ [true])) : (TT.node q x h l r).trim.wf c := by
  have hc : ∀ b, c <+: q ++ [b] := fun b => w1.trans (List.prefix_append _ _)
  cases h
  · cases l with
    | nil => exact TT.wf_mono (hc true) w5
    | node =>
      cases r with
      | nil => exact TT.wf_mono (hc false) w4
      | node => exact ⟨w1, w2, fun _ => ⟨(fun e => by cases e), (fun e => by cases e)⟩, w4, w5⟩
  · exact ⟨w1, w2, (fun e => by cases e), w4, w5⟩
theorem TT.del_wf : ∀ {c p : Bs} {T : TT}, T.wf c → (T.del p).wf c
  | _, _, .nil, _ => trivial
  | c, p, .node q x h l r, w => by
    obtain ⟨w1, w2, w3, w4, w5⟩ := w
    unfold TT.del
    split
    · exact TT.trim_wf w1 w2 w4 w5
    · split
      · exact TT.trim_wf w1 w2 w4 (TT.del_wf w5)
      · exact TT.trim_wf w1 w2 (TT.del_wf w4) w5
theorem delS_none {p : Bs} {L : List (Bs × Int)} (h : ∀ e ∈ L, e.1 ≠ p) : delS p L = L := by
  unfold delS
  rw [List.filter_eq_self]
  intro e he
  exact decide_eq_true (h e he)
theorem delS_app (p : Bs) (A B : List (Bs × Int)) : delS p (A ++ B) = delS p A ++ delS p B := List.filter_append ..
theorem TT.del_list : ∀ {c p : Bs} {T : TT}, T.wf c → p ∈ T.list.map (·.1) → (T.del p).list = delS p T.list
  | _, _, .nil, _, h => by simp [TT.list] at h
  | c, p, .node q x h l r, w, hm => by
    obtain ⟨w1, w2, w3, w4, w5⟩ := w
    have k1 := TT.keys_pre w4
    have k2 := TT.keys_pre w5
    unfold TT.del
    split
    · rename_i he
      subst he
      rw [TT.trim_list]
      show (TT.node q 0 false l r).list = delS q ((if h then [(q, x)] else []) ++ (l.list ++ r.list))
      rw [delS_app, delS_none (L := l.list ++ r.list) fun e he => by
        rcases List.mem_append.1 he with he | he
        · exact fun e2 => (pre_snoc_ne (k1 e he).1).2 e2.symm
        · exact fun e2 => (pre_snoc_ne (k2 e he).1).2 e2.symm]
      cases h <;> simp [TT.list, delS]
    · rename_i hne
      have hself : delS p (if h then [(q, x)] else []) = (if h then [(q, x)] else []) := delS_none fun e he => by
        cases h
        · simp at he
        · simp at he; subst he; exact hne
      have hm2 : p ∈ l.list.map (·.1) ∨ p ∈ r.list.map (·.1) := by
        simp only [TT.list, List.map_append, List.mem_append] at hm
        rcases hm with hm | hm | hm
        · cases h
          · simp at hm
          · simp at hm; exact absurd hm.symm hne
        · exact .inl hm
        · exact .inr hm
      have dl : nth p q.length = true → ∀ e ∈ l.list, e.1 ≠ p := fun hb e he e2 => by
        have := nth_snoc (k1 e he).1
        rw [e2, hb] at this; cases this
      have dr : nth p q.length = false → ∀ e ∈ r.list, e.1 ≠ p := fun hb e he e2 => by
        have := nth_snoc (k2 e he).1
        rw [e2, hb] at this; cases this
      split
      · rename_i hb
        rw [TT.trim_list]
        show _ = delS p ((if h then [(q, x)] else []) ++ (l.list ++ r.list))
        have hr : p ∈ r.list.map (·.1) := by
          rcases hm2 with hm | hm
          · obtain ⟨e, he, e2⟩ := List.mem_map.1 hm
            exact absurd e2 (dl hb e he)
          · exact hm
        rw [delS_app, delS_app, hself, delS_none (dl hb), ← TT.del_list w5 hr]
        rfl
      · rename_i hb
        have hb' : nth p q.length = false := by simpa using hb
        rw [TT.trim_list]
        show _ = delS p ((if h then [(q, x)] else []) ++ (l.list ++ r.list))
        have hl : p ∈ l.list.map (·.1) := by
          rcases hm2 with hm | hm
          · exact hm
          · obtain ⟨e, he, e2⟩ := List.mem_map.1 hm
            exact absurd e2 (dr hb' e he)
        rw [delS_app, delS_app, hself, delS_none (dr hb'), ← TT.del_list w4 hl]
        rfl
end Go.Proofs.YthlommalbkhcjaaGreat
