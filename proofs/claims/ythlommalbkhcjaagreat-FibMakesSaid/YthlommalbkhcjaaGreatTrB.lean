/- Prefixes as lists of bits: plain arithmetic. -/
import Derived.Lib.BitFns
namespace Go.Proofs.YthlommalbkhcjaaGreat

def valB : List Bool → Nat
  | [] => 0
  | b :: l => (if b then 2 ^ l.length else 0) + valB l
def padB (l : List Bool) : Nat := valB l * 2 ^ (32 - l.length)
/-- An address's first n bits. -/
def bitsB (a n : Nat) : List Bool := (List.range n).map fun i => a.testBit (31 - i)
def bitB (a i : Nat) : Bool := a.testBit (31 - i)

theorem valB_lt : ∀ l : List Bool, valB l < 2 ^ l.length
  | [] => by simp [valB]
  | b :: l => by
    have := valB_lt l
    rw [valB, List.length_cons, Nat.pow_succ]
    split <;> omega
theorem valB_bit : ∀ (l : List Bool) (j : Nat), j < l.length → (valB l).testBit j = l.getD (l.length - 1 - j) false
  | [], j, h => by simp at h
  | b :: l, j, h => by
    rw [valB]
    have hl := valB_lt l
    by_cases hj : j = l.length
    · subst hj
      rw [List.length_cons, Nat.add_sub_cancel, Nat.sub_self]
      cases b
      · simp [Nat.testBit_lt_two_pow hl]
      · rw [if_pos rfl, Nat.testBit_two_pow_add_eq, Nat.testBit_lt_two_pow hl]; rfl
    · have hj2 : j < l.length := by simp at h; omega
      have ih := valB_bit l j hj2
      have e : (b :: l).length - 1 - j = (l.length - 1 - j) + 1 := by simp; omega
      rw [e, List.getD_cons_succ, ← ih]
      cases b
      · simp
      · rw [if_pos rfl, Nat.testBit_two_pow_add_gt (by omega)]
theorem padB_bit (l : List Bool) (h : l.length ≤ 32) (i : Nat) (hi : i < 32) : (padB l).testBit (31 - i) = l.getD i false := by
  unfold padB
  rw [← Nat.shiftLeft_eq, Nat.testBit_shiftLeft]
  by_cases hil : i < l.length
  · have e1 : decide (31 - i ≥ 32 - l.length) = true := decide_eq_true (by omega)
    rw [e1, valB_bit l _ (by omega), Bool.true_and]
    congr 1; omega
  · have e1 : decide (31 - i ≥ 32 - l.length) = false := decide_eq_false (by omega)
    rw [e1, Bool.false_and]
    simp [List.getD, List.getElem?_eq_none (Nat.le_of_not_lt hil)]
theorem padB_lt (l : List Bool) (h : l.length ≤ 32) : padB l < 2 ^ 32 := by
  unfold padB
  have := valB_lt l
  calc valB l * 2 ^ (32 - l.length) < 2 ^ l.length * 2 ^ (32 - l.length) := Nat.mul_lt_mul_of_pos_right this (Nat.two_pow_pos _)
    _ = 2 ^ 32 := by rw [← Nat.pow_add]; congr 1; omega
theorem bitsB_len (a n : Nat) : (bitsB a n).length = n := by simp [bitsB]
theorem bitsB_get (a n i : Nat) (h : i < n) : (bitsB a n).getD i false = a.testBit (31 - i) := by
  simp [bitsB, List.getD, List.getElem?_map, List.getElem?_range h]
theorem ext32 {a b : Nat} (ha : a < 2 ^ 32) (hb : b < 2 ^ 32) (h : ∀ i, i < 32 → a.testBit (31 - i) = b.testBit (31 - i)) : a = b := by
  apply Nat.eq_of_testBit_eq
  intro j
  by_cases hj : j < 32
  · have := h (31 - j) (by omega)
    rwa [show 31 - (31 - j) = j from by omega] at this
  · rw [Nat.testBit_lt_two_pow (Nat.lt_of_lt_of_le ha (Nat.pow_le_pow_right (by decide) (by omega))), Nat.testBit_lt_two_pow (Nat.lt_of_lt_of_le hb (Nat.pow_le_pow_right (by decide) (by omega)))]
theorem ext_get {l m : List Bool} (hl : l.length = m.length) (h : ∀ i, i < l.length → l.getD i false = m.getD i false) : l = m := by
  apply List.ext_getElem hl
  intro i h1 h2
  have := h i h1
  simpa [List.getD, List.getElem?_eq_getElem h1, List.getElem?_eq_getElem h2] using this
theorem bits_pad (l : List Bool) (h : l.length ≤ 32) : bitsB (padB l) l.length = l := by
  apply ext_get (bitsB_len _ _)
  intro i hi
  rw [bitsB_len] at hi
  rw [bitsB_get _ _ _ hi, padB_bit l h i (by omega)]
theorem pad_inj {l m : List Bool} (hl : l.length ≤ 32) (hm : l.length = m.length) (h : padB l = padB m) : l = m := by
  rw [← bits_pad l hl, h, hm, bits_pad m (by omega)]
/-- An address's first bits, the others noughts. -/
def firstB (a n : Nat) : Nat := a / 2 ^ (32 - n) * 2 ^ (32 - n)
theorem firstB_bit (a n i : Nat) (hn : n ≤ 32) (hi : i < 32) : (firstB a n).testBit (31 - i) = (decide (i < n) && a.testBit (31 - i)) := by
  unfold firstB
  rw [← Nat.shiftLeft_eq, Nat.testBit_shiftLeft, Nat.testBit_div_two_pow]
  by_cases h : i < n
  · have e1 : decide (31 - i ≥ 32 - n) = true := decide_eq_true (by omega)
    rw [e1, decide_eq_true h, Bool.true_and, Bool.true_and]
    congr 1; omega
  · have e1 : decide (31 - i ≥ 32 - n) = false := decide_eq_false (by omega)
    rw [e1, decide_eq_false h, Bool.false_and, Bool.false_and]
theorem firstB_le (a n : Nat) : firstB a n ≤ a := Nat.div_mul_le_self _ _
theorem firstB_pad {a n : Nat} (ha : a < 2 ^ 32) (hn : n ≤ 32) : firstB a n = padB (bitsB a n) := by
  have hl : (bitsB a n).length ≤ 32 := by rw [bitsB_len]; exact hn
  apply ext32 (Nat.lt_of_le_of_lt (firstB_le a n) ha) (padB_lt _ hl)
  intro i hi
  rw [firstB_bit a n i hn hi, padB_bit _ hl i hi]
  by_cases h : i < n
  · rw [decide_eq_true h, Bool.true_and, bitsB_get a n i h]
  · rw [decide_eq_false h, Bool.false_and]
    simp [List.getD, List.getElem?_eq_none (show (bitsB a n).length ≤ i by rw [bitsB_len]; omega)]
/-- 'p&mask(n)'. -/
theorem and_mask {a n : Nat} (ha : a < 2 ^ 32) (hn : n ≤ 32) : a &&& (2 ^ 32 - 2 ^ (32 - n)) = firstB a n := by
  have hle : 2 ^ (32 - n) ≤ 2 ^ 32 := Nat.pow_le_pow_right (by decide) (by omega)
  have hm : 2 ^ 32 - 2 ^ (32 - n) < 2 ^ 32 := by have := Nat.two_pow_pos (32 - n); omega
  apply ext32 (Nat.lt_of_le_of_lt Nat.and_le_left ha) (Nat.lt_of_le_of_lt (firstB_le a n) ha)
  intro i hi
  rw [Nat.testBit_and, firstB_bit a n i hn hi]
  have e : 2 ^ 32 - 2 ^ (32 - n) = (2 ^ n - 1) * 2 ^ (32 - n) := by
    rw [Nat.sub_mul, ← Nat.pow_add, Nat.one_mul]; congr 2; omega
  rw [e, ← Nat.shiftLeft_eq, Nat.testBit_shiftLeft, Nat.testBit_two_pow_sub_one]
  by_cases h : i < n
  · have e1 : decide (31 - i ≥ 32 - n) = true := decide_eq_true (by omega)
    have e2 : decide (31 - i - (32 - n) < n) = true := decide_eq_true (by omega)
    rw [e1, e2, decide_eq_true h]; simp
  · have e1 : decide (31 - i ≥ 32 - n) = false := decide_eq_false (by omega)
    rw [e1, decide_eq_false h]; simp
theorem bitsB_take (a n m : Nat) (h : n ≤ m) : (bitsB a m).take n = bitsB a n := by
  unfold bitsB
  rw [← List.map_take, List.take_range, Nat.min_eq_left h]
/-- A prefix l has an address a. -/
theorem has_iff {l : List Bool} {a : Nat} (hl : l.length ≤ 32) (ha : a < 2 ^ 32) : firstB a l.length = padB l ↔ l <+: bitsB a 32 := by
  rw [firstB_pad ha hl]
  constructor
  · intro h
    have := pad_inj (by rw [bitsB_len]; exact hl) (bitsB_len _ _) h
    rw [List.prefix_iff_eq_take, bitsB_take a _ 32 hl]
    exact this.symm
  · intro h
    rw [List.prefix_iff_eq_take, bitsB_take a _ 32 hl] at h
    rw [← h]
theorem mod_iff {a n : Nat} (ha : a < 2 ^ 32) (hn : n ≤ 32) : a % 2 ^ (32 - n) = 0 ↔ a = padB (bitsB a n) := by
  rw [← firstB_pad ha hn]
  unfold firstB
  have := Nat.div_add_mod a (2 ^ (32 - n))
  rw [Nat.mul_comm] at this
  omega

/-- What two lists begin with alike. -/
def lcpB : List Bool → List Bool → List Bool
  | a :: l, b :: m => if a = b then a :: lcpB l m else []
  | _, _ => []
theorem lcp_left : ∀ l m : List Bool, lcpB l m <+: l
  | [], _ => by simp [lcpB]
  | a :: l, [] => by simp [lcpB]
  | a :: l, b :: m => by
    unfold lcpB
    split
    · rw [List.cons_prefix_cons]; exact ⟨rfl, lcp_left l m⟩
    · exact List.nil_prefix
theorem lcp_comm : ∀ l m : List Bool, lcpB l m = lcpB m l
  | [], [] => rfl
  | [], _ :: _ => rfl
  | _ :: _, [] => rfl
  | a :: l, b :: m => by
    unfold lcpB
    by_cases h : a = b
    · subst h; rw [if_pos rfl, if_pos rfl, lcp_comm l m]
    · rw [if_neg h, if_neg (fun e => h e.symm)]
theorem lcp_right (l m : List Bool) : lcpB l m <+: m := by rw [lcp_comm]; exact lcp_left m l
theorem lcp_great : ∀ {c l m : List Bool}, c <+: l → c <+: m → c <+: lcpB l m
  | [], _, _, _, _ => List.nil_prefix
  | x :: c, l, m, h1, h2 => by
    obtain ⟨l', rfl⟩ := h1
    obtain ⟨m', rfl⟩ := h2
    show x :: c <+: lcpB (x :: (c ++ l')) (x :: (c ++ m'))
    unfold lcpB
    rw [if_pos rfl, List.cons_prefix_cons]
    exact ⟨rfl, lcp_great ⟨l', rfl⟩ ⟨m', rfl⟩⟩
theorem lcp_eq_left {l m : List Bool} : lcpB l m = l ↔ l <+: m := by
  constructor
  · intro h; rw [← h]; exact lcp_right l m
  · intro h
    exact (lcp_left l m).eq_of_length_le (List.IsPrefix.length_le (lcp_great (List.prefix_refl l) h))
/-- Where they part: one is at its end, or they differ. -/
theorem lcp_part : ∀ l m : List Bool, (lcpB l m).length = l.length ∨ (lcpB l m).length = m.length ∨ ∃ b, lcpB l m ++ [b] <+: l ∧ lcpB l m ++ [!b] <+: m
  | [], m => .inl (by cases m <;> rfl)
  | a :: l, [] => .inr (.inl rfl)
  | a :: l, b :: m => by
    unfold lcpB
    by_cases h : a = b
    · subst h
      rw [if_pos rfl]
      rcases lcp_part l m with h | h | ⟨b, h1, h2⟩
      · exact .inl (by simp [h])
      · exact .inr (.inl (by simp [h]))
      · exact .inr (.inr ⟨b, by rw [List.cons_append, List.cons_prefix_cons]; exact ⟨rfl, h1⟩, by rw [List.cons_append, List.cons_prefix_cons]; exact ⟨rfl, h2⟩⟩)
    · rw [if_neg h]
      refine .inr (.inr ⟨a, ?_, ?_⟩)
      · show [a] <+: a :: l
        rw [List.cons_prefix_cons]; exact ⟨rfl, List.nil_prefix⟩
      · have : (!a) = b := by cases a <;> cases b <;> simp_all
        rw [this]
        show [b] <+: b :: m
        rw [List.cons_prefix_cons]; exact ⟨rfl, List.nil_prefix⟩
theorem lcp_get (l m : List Bool) (i : Nat) (h : i < (lcpB l m).length) : l.getD i false = m.getD i false := by
  obtain ⟨x, hx⟩ := lcp_left l m
  obtain ⟨y, hy⟩ := lcp_right l m
  have e1 : l.getD i false = (lcpB l m).getD i false := by
    conv => lhs; rw [← hx]
    simp [List.getD, List.getElem?_append_left h]
  have e2 : m.getD i false = (lcpB l m).getD i false := by
    conv => lhs; rw [← hy]
    simp [List.getD, List.getElem?_append_left h]
  rw [e1, e2]
theorem getD_of_snoc {c l : List Bool} {b : Bool} (h : c ++ [b] <+: l) : l.getD c.length false = b ∧ c.length < l.length := by
  obtain ⟨x, rfl⟩ := h
  refine ⟨?_, by simp⟩
  simp [List.getD]
theorem lt_bitLen (n : Nat) (h : n < 2 ^ 64) : n < 2 ^ Lib.bitLen n := by
  induction n using Nat.strongRecOn with
  | _ n ih =>
    by_cases h0 : n = 0
    · subst h0; decide
    · rw [Lib.bitLen_half n h0 h, Nat.pow_add]
      have := ih (n / 2) (by omega) (by omega)
      omega
theorem bitLen_le_iff (n k : Nat) (hn : n < 2 ^ 64) (hk : k ≤ 64) : Lib.bitLen n ≤ k ↔ n < 2 ^ k := by
  constructor
  · intro h
    exact Nat.lt_of_lt_of_le (lt_bitLen n hn) (Nat.pow_le_pow_right (by decide) h)
  · intro h; exact Lib.bitLen_le n k hk h
/-- What 'common' reckons. -/
theorem common_len {l m : List Bool} (hl : l.length ≤ 32) (hm : m.length ≤ 32) : min (min l.length m.length) (32 - Lib.bitLen (padB l ^^^ padB m)) = (lcpB l m).length := by
  have hx : padB l ^^^ padB m < 2 ^ 32 := Nat.xor_lt_two_pow (padB_lt l hl) (padB_lt m hm)
  have h1 : (lcpB l m).length ≤ l.length := (lcp_left l m).length_le
  have h2 : (lcpB l m).length ≤ m.length := (lcp_right l m).length_le
  have hb : ∀ i, i < 32 → (padB l ^^^ padB m).testBit (31 - i) = (l.getD i false != m.getD i false) := fun i hi => by
    rw [Nat.testBit_xor, padB_bit l hl i hi, padB_bit m hm i hi]
  -- the two are alike up to there
  have h3 : (lcpB l m).length ≤ 32 - Lib.bitLen (padB l ^^^ padB m) := by
    have : Lib.bitLen (padB l ^^^ padB m) ≤ 32 - (lcpB l m).length := by
      rw [bitLen_le_iff _ _ (by omega) (by omega)]
      apply Nat.lt_pow_two_of_testBit
      intro j hj
      by_cases hj2 : j < 32
      · have := hb (31 - j) (by omega)
        rw [show 31 - (31 - j) = j from by omega] at this
        rw [this, lcp_get l m _ (by omega)]; simp
      · exact Nat.testBit_lt_two_pow (Nat.lt_of_lt_of_le hx (Nat.pow_le_pow_right (by decide) (by omega)))
    omega
  rcases lcp_part l m with h | h | ⟨b, g1, g2⟩
  · omega
  · omega
  · obtain ⟨p1, p2⟩ := getD_of_snoc g1
    obtain ⟨p3, p4⟩ := getD_of_snoc g2
    have hbit := hb (lcpB l m).length (by omega)
    rw [p1, p3] at hbit
    have hne : (padB l ^^^ padB m).testBit (31 - (lcpB l m).length) = true := by rw [hbit]; cases b <;> rfl
    have h4 : 32 - Lib.bitLen (padB l ^^^ padB m) ≤ (lcpB l m).length := by
      by_cases hle : Lib.bitLen (padB l ^^^ padB m) ≤ 31 - (lcpB l m).length
      · rw [bitLen_le_iff _ _ (by omega) (by omega)] at hle
        rw [Nat.testBit_lt_two_pow hle] at hne; cases hne
      · omega
    omega
theorem common_addr {l m : List Bool} (hl : l.length ≤ 32) : firstB (padB l) (lcpB l m).length = padB (lcpB l m) := by
  have h1 : (lcpB l m).length ≤ l.length := (lcp_left l m).length_le
  rw [firstB_pad (padB_lt l hl) (by omega)]
  congr 1
  rw [← bitsB_take _ _ l.length h1, bits_pad l hl]
  exact ((List.prefix_iff_eq_take).1 (lcp_left l m)).symm
end Go.Proofs.YthlommalbkhcjaaGreat
