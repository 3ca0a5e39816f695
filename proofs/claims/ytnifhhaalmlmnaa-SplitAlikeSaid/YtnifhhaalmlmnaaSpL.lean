/- Plain law of split: weights, shares, buckets. -/
import Derived.RowKit
namespace Go.Proofs.Ytnifhhaalmlmnaa
/-- A way: its port, and how far it is by it. -/
abbrev Nx := Int × Int
def wtF (n : Nx) : Nat := if n.2 < 0 ∨ 255 ≤ n.2 then 0 else 65536 / (n.2.toNat + 1)
def nxAt (l : List Nx) (i : Nat) : Nx := l.getD i (0, 0)
def lastP (l : List Nx) (i : Nat) : Int := if i = 0 then -1 else (nxAt l (i - 1)).1
def okN (l : List Nx) (i : Nat) : Bool := decide (lastP l i < (nxAt l i).1) && decide ((nxAt l i).1 < 8) && decide (0 ≤ (nxAt l i).2) && decide ((nxAt l i).2 < 255)
def mayF (l : List Nx) : Bool := decide (0 < l.length) && (List.range l.length).all (okN l)
theorem okN_iff (l : List Nx) (i : Nat) : okN l i = true ↔ lastP l i < (nxAt l i).1 ∧ (nxAt l i).1 < 8 ∧ 0 ≤ (nxAt l i).2 ∧ (nxAt l i).2 < 255 := by
  unfold okN
  simp only [Bool.and_eq_true, decide_eq_true_eq, and_assoc]
theorem mayF_iff (l : List Nx) : mayF l = true ↔ 0 < l.length ∧ ∀ i, i < l.length → okN l i = true := by
  unfold mayF
  simp only [Bool.and_eq_true, decide_eq_true_eq, List.all_eq_true, List.mem_range]
theorem port_ge {l : List Nx} : ∀ i : Nat, (∀ j, j ≤ i → okN l j = true) → (i : Int) ≤ (nxAt l i).1
  | 0, h => by
    have := ((okN_iff l 0).1 (h 0 (Nat.le_refl _))).1
    unfold lastP at this
    simp at this
    omega
  | i + 1, h => by
    have h1 := port_ge i fun j hj => h j (by omega)
    have := ((okN_iff l (i + 1)).1 (h (i + 1) (Nat.le_refl _))).1
    unfold lastP at this
    simp at this
    omega
theorem may_len {l : List Nx} (h : mayF l = true) : l.length ≤ 8 := by
  obtain ⟨h0, h1⟩ := (mayF_iff l).1 h
  have h2 := port_ge (l := l) (l.length - 1) fun j hj => h1 j (by omega)
  have h3 := ((okN_iff l (l.length - 1)).1 (h1 _ (by omega))).2.1
  omega
theorem may_port {l : List Nx} (h : mayF l = true) {i : Nat} (hi : i < l.length) : 0 ≤ (nxAt l i).1 ∧ (nxAt l i).1 < 8 ∧ 0 ≤ (nxAt l i).2 ∧ (nxAt l i).2 < 255 := by
  obtain ⟨h0, h1⟩ := (mayF_iff l).1 h
  have h2 := port_ge (l := l) i fun j hj => h1 j (by omega)
  have h3 := ((okN_iff l i).1 (h1 _ hi)).2
  omega
/-- The weight as the code reckons it. -/
theorem wtF_pos {n : Nx} (h0 : 0 ≤ n.2) (h1 : n.2 < 255) : 257 ≤ wtF n ∧ wtF n ≤ 65536 ∧ (wtF n : Int) = 65536 / (n.2 + 1) := by
  unfold wtF
  rw [if_neg (by omega)]
  obtain ⟨d, hd⟩ : ∃ d : Nat, n.2 = d := ⟨n.2.toNat, by omega⟩
  rw [hd]
  simp only [Int.toNat_natCast]
  refine ⟨?_, ?_, by simp⟩
  · rw [Nat.le_div_iff_mul_le (by omega)]; omega
  · exact Nat.div_le_self _ _
theorem wtF_no {n : Nx} (h : n.2 < 0 ∨ 255 ≤ n.2) : wtF n = 0 := by unfold wtF; rw [if_pos h]
theorem wtF_le (n : Nx) : wtF n ≤ 65536 := by
  unfold wtF; split
  · omega
  · exact Nat.div_le_self _ _
/-! ## who gets what is left -/
def bef (r : Nat → Nat) (i j : Nat) : Bool := decide (r j < r i) || (decide (r i = r j) && decide (i < j))
theorem bef_iff {r : Nat → Nat} {i j : Nat} : bef r i j = true ↔ r j < r i ∨ (r i = r j ∧ i < j) := by
  unfold bef; simp only [Bool.or_eq_true, Bool.and_eq_true, decide_eq_true_eq]
theorem bef_trans {r : Nat → Nat} {i j k : Nat} (h : bef r i j = true) (h2 : bef r j k = true) : bef r i k = true := by
  rw [bef_iff] at *; omega
theorem bef_irr {r : Nat → Nat} {i : Nat} : bef r i i = false := by
  rw [Bool.eq_false_iff]; intro h; rw [bef_iff] at h; omega
theorem bef_asym {r : Nat → Nat} {i j : Nat} (h : bef r i j = true) : bef r j i = false := by
  rw [Bool.eq_false_iff]; intro h2; rw [bef_iff] at *; omega
theorem bef_total {r : Nat → Nat} {i j : Nat} (h : i ≠ j) (h2 : bef r j i = false) : bef r i j = true := by
  rw [Bool.eq_false_iff] at h2; rw [Ne, bef_iff] at h2; rw [bef_iff]; omega
def cnt (n : Nat) (p : Nat → Bool) : Nat := (List.range n).countP p
theorem cnt_zero (p : Nat → Bool) : cnt 0 p = 0 := rfl
theorem cnt_succ (n : Nat) (p : Nat → Bool) : cnt (n + 1) p = cnt n p + if p n = true then 1 else 0 := by
  unfold cnt
  rw [List.range_succ, List.countP_append]
  simp [List.countP_cons]
theorem cnt_mono {p q : Nat → Bool} : ∀ n : Nat, (∀ j, j < n → p j = true → q j = true) → cnt n p ≤ cnt n q
  | 0, _ => Nat.le_refl _
  | n + 1, h => by
    have h1 := cnt_mono n fun j hj => h j (by omega)
    have h2 := h n (by omega)
    rw [cnt_succ, cnt_succ]
    split
    · rename_i hp; rw [if_pos (h2 hp)]; omega
    · omega
theorem cnt_congr {p q : Nat → Bool} (n : Nat) (h : ∀ j, j < n → (p j = true ↔ q j = true)) : cnt n p = cnt n q :=
  Nat.le_antisymm (cnt_mono n fun j hj => (h j hj).1) (cnt_mono n fun j hj => (h j hj).2)
theorem cnt_lt {p q : Nat → Bool} {a : Nat} (hq : q a = true) (hp : p a = false) : ∀ n : Nat, a < n → (∀ j, j < n → p j = true → q j = true) → cnt n p < cnt n q
  | 0, h, _ => absurd h (by omega)
  | n + 1, ha, h => by
    rw [cnt_succ, cnt_succ]
    by_cases e : a = n
    · subst e
      have h1 := cnt_mono (p := p) (q := q) a fun j hj => h j (by omega)
      rw [hq, hp]
      simp
      omega
    · have h1 := cnt_lt hq hp n (by omega) fun j hj => h j (by omega)
      have h2 := h n (by omega)
      split
      · rename_i hpn; rw [if_pos (h2 hpn)]; omega
      · omega
theorem cnt_add {p q : Nat → Bool} {a : Nat} (hp : p a = false) : ∀ n : Nat, a < n → (∀ j, j < n → (q j = true ↔ p j = true ∨ j = a)) → cnt n q = cnt n p + 1
  | 0, h, _ => absurd h (by omega)
  | n + 1, ha, h => by
    rw [cnt_succ, cnt_succ]
    have hn := h n (by omega)
    by_cases e : a = n
    · subst e
      rw [if_pos (hn.2 (.inr rfl)), if_neg (by rw [hp]; decide), cnt_congr (p := q) (q := p) a fun j hj => by rw [h j (by omega)]; exact ⟨fun k => k.elim id (fun k => by omega), .inl⟩]
    · rw [cnt_add hp n (by omega) fun j hj => h j (by omega)]
      by_cases k : p n = true
      · rw [if_pos (hn.2 (.inl k)), if_pos k]
      · rw [if_neg (fun c => by rcases hn.1 c with c | c; exact k c; omega), if_neg k]
theorem cnt_le : ∀ (n : Nat) (p : Nat → Bool), cnt n p ≤ n
  | 0, _ => Nat.le_refl _
  | n + 1, p => by
    have := cnt_le n p
    rw [cnt_succ]; split <;> omega
def rank (r : Nat → Nat) (n i : Nat) : Nat := cnt n fun j => bef r j i
theorem rank_lt {r : Nat → Nat} {n a b : Nat} (ha : a < n) (h : bef r a b = true) : rank r n a < rank r n b :=
  cnt_lt (p := fun j => bef r j a) (q := fun j => bef r j b) (a := a) h bef_irr n ha fun _ _ hj => bef_trans hj h
theorem rank_inj {r : Nat → Nat} {n a b : Nat} (ha : a < n) (hb : b < n) (h : rank r n a = rank r n b) : a = b := by
  apply Classical.byContradiction
  intro hne
  rcases hh : bef r a b with _ | _
  · have := rank_lt (n := n) hb (bef_total (Ne.symm hne) hh); omega
  · have := rank_lt (n := n) ha hh; omega
/-- Those of the m least ranks, and one of the next. -/
theorem rank_step {r : Nat → Nat} {n m b : Nat} (hb : b < n) (h : rank r n b = m) {i : Nat} (hi : i < n) : rank r n i < m + 1 ↔ rank r n i < m ∨ i = b := by
  constructor
  · intro h1
    by_cases e : rank r n i = m
    · exact .inr (rank_inj (r := r) hi hb (by omega))
    · exact .inl (by omega)
  · intro h1
    rcases h1 with h1 | h1
    · omega
    · rw [h1]; omega
/-- A best one of those that are left has the next rank. -/
theorem rank_best {r : Nat → Nat} {n m b : Nat} (hb : b < n) (hm : cnt n (fun j => decide (rank r n j < m)) = m) (hnb : m ≤ rank r n b)
    (h : ∀ j, j < n → m ≤ rank r n j → j = b ∨ bef r b j = true) : rank r n b = m := by
  have e : rank r n b = cnt n fun j => decide (rank r n j < m) := cnt_congr n fun j hj => by
    rw [decide_eq_true_eq]
    constructor
    · intro h1
      apply Classical.byContradiction
      intro h2
      rcases h j hj (by omega) with rfl | h3
      · rw [bef_irr] at h1; cases h1
      · rw [bef_asym h3] at h1; cases h1
    · intro h1
      rcases h2 : bef r j b with _ | _
      · by_cases e : j = b
        · subst e; omega
        · have := rank_lt (n := n) hb (bef_total (Ne.symm e) h2); omega
      · rfl
  omega
theorem cnt_next {r : Nat → Nat} {n m b : Nat} (hb : b < n) (h : rank r n b = m) (hm : cnt n (fun j => decide (rank r n j < m)) = m) : cnt n (fun j => decide (rank r n j < m + 1)) = m + 1 := by
  rw [cnt_add (p := fun j => decide (rank r n j < m)) (a := b) (by simp; omega) n hb fun j hj => by rw [decide_eq_true_eq, decide_eq_true_eq]; exact rank_step hb h hj, hm]
theorem cnt_all {r : Nat → Nat} {n : Nat} : cnt n (fun j => decide (rank r n j < 0)) = 0 := by
  have : ∀ m, cnt m (fun j => decide (rank r n j < 0)) = 0 := fun m => by
    induction m with
    | zero => rfl
    | succ m ih => rw [cnt_succ, ih]; simp
  exact this n
/-- One is left, where fewer than all are gone. -/
theorem some_left {r : Nat → Nat} {n m : Nat} (hm : cnt n (fun j => decide (rank r n j < m)) = m) (h : m < n) : ∃ j, j < n ∧ m ≤ rank r n j := by
  apply Classical.byContradiction
  intro hno
  have : ∀ k, k ≤ n → cnt k (fun j => decide (rank r n j < m)) = k := fun k => by
    induction k with
    | zero => intro _; rfl
    | succ k ih =>
      intro hk
      rw [cnt_succ, ih (by omega), if_pos]
      rw [decide_eq_true_eq]
      apply Classical.byContradiction
      intro h2
      exact hno ⟨k, by omega, by omega⟩
  have := this n (Nat.le_refl _)
  omega
/-- A list in order has the ranks in order. -/
theorem rank_sorted {r : Nat → Nat} {n : Nat} {o : List Nat} (hp : o.Perm (List.range n)) (hs : o.Pairwise fun a b => bef r a b = true) {k : Nat} {x : Nat} (hk : o[k]? = some x) : rank r n x = k := by
  unfold rank cnt
  rw [← hp.countP_eq]
  obtain ⟨hlt, hx⟩ := List.getElem?_eq_some_iff.1 hk
  have e : o = o.take k ++ x :: o.drop (k + 1) := by
    rw [← hx, ← List.drop_eq_getElem_cons hlt, List.take_append_drop]
  rw [e] at hs ⊢
  rw [List.pairwise_append] at hs
  obtain ⟨_, h2, h3⟩ := hs
  rw [List.countP_append, List.countP_cons, bef_irr, List.countP_eq_length.2 fun a ha => h3 a ha x (by simp), List.countP_eq_zero.2 fun a ha => by rw [bef_asym ((List.pairwise_cons.1 h2).1 a ha)]; decide]
  simp
  omega
end Go.Proofs.Ytnifhhaalmlmnaa
