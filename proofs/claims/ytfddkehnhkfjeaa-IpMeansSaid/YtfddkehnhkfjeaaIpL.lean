/- The plain law of layers 1 to 3: numbers and bytes, the checksum, options, headers. -/
namespace Go.Proofs.Ytfddkehnhkfjeaa
abbrev By := List UInt8

theorem snocInd {P : By → Prop} (h0 : P []) (hs : ∀ x c, P x → P (x ++ [c])) (x : By) : P x := by
  have key : ∀ y : By, P y.reverse := by
    intro y
    induction y with
    | nil => exact h0
    | cons c y ih => rw [List.reverse_cons]; exact hs _ _ ih
  have := key x.reverse
  rwa [List.reverse_reverse] at this
/-! ### Numbers -/
def getF (x : By) : Nat := x.foldl (fun n c => n * 256 + c.toNat) 0
def putF (n size : Nat) : By := (List.range size).map fun i => UInt8.ofNat (n / 256 ^ (size - 1 - i))
theorem putF_len (n size : Nat) : (putF n size).length = size := by simp [putF]
theorem getF_snoc (x : By) (c : UInt8) : getF (x ++ [c]) = getF x * 256 + c.toNat := by simp [getF, List.foldl_append]
theorem getF_lt : ∀ x : By, getF x < 256 ^ x.length := by
  intro x
  induction x using snocInd with
  | h0 => simp [getF]
  | hs x c ih =>
    rw [getF_snoc, List.length_append, List.length_singleton, Nat.pow_succ]
    have := c.toNat_lt
    omega
theorem putF_snoc (n size : Nat) : putF n (size + 1) = putF (n / 256) size ++ [UInt8.ofNat n] := by
  unfold putF
  rw [List.range_succ, List.map_append]
  congr 1
  · apply List.map_congr_left
    intro i hi
    have hi := List.mem_range.1 hi
    rw [Nat.div_div_eq_div_mul]
    congr 2
    rw [show size + 1 - 1 - i = (size - 1 - i) + 1 by omega, Nat.pow_succ, Nat.mul_comm]
  · simp
theorem get_put : ∀ (size n : Nat), getF (putF n size) = n % 256 ^ size
  | 0, n => by simp [putF, getF, Nat.mod_one]
  | size + 1, n => by
    rw [putF_snoc, getF_snoc, get_put size, Nat.pow_succ]
    have h1 : (UInt8.ofNat n).toNat = n % 256 := by simp
    rw [h1, Nat.mul_comm (256 ^ size) 256, Nat.mod_mul]
    omega
theorem put_get : ∀ (x : By), putF (getF x) x.length = x := by
  intro x
  induction x using snocInd with
  | h0 => rfl
  | hs x c ih =>
    have hc := c.toNat_lt
    rw [List.length_append, List.length_singleton, putF_snoc, getF_snoc]
    rw [show (getF x * 256 + c.toNat) / 256 = getF x by omega, ih]
    congr 2
    apply UInt8.toNat_inj.1
    simp only [UInt8.toNat_ofNat']
    omega

/-! ### The checksum -/
def addF (x y : Nat) : Nat := if 65536 ≤ x + y then x + y + 1 - 65536 else x + y
theorem addF_lt {x y : Nat} (hx : x < 65536) (hy : y < 65536) : addF x y < 65536 := by unfold addF; split <;> omega
def wordsF : By → List Nat
  | [] => []
  | [a] => [256 * a.toNat]
  | a :: b :: r => (256 * a.toNat + b.toNat) :: wordsF r
def sumF (l : List Nat) : Nat := l.foldl addF 0
def totalF (x : By) : Nat := sumF (wordsF x)
def checkF (x : By) : Nat := 65535 - totalF x
theorem wordsF_lt : ∀ x : By, ∀ n ∈ wordsF x, n < 65536
  | [], n, h => by cases h
  | [a], n, h => by
    have := a.toNat_lt
    obtain rfl : n = 256 * a.toNat := by simpa [wordsF] using h
    omega
  | a :: b :: r, n, h => by
    have h1 := a.toNat_lt
    have h2 := b.toNat_lt
    rcases List.mem_cons.1 h with rfl | h
    · omega
    · exact wordsF_lt r n h
theorem fold_lt : ∀ (l : List Nat) (s : Nat), s < 65536 → (∀ n ∈ l, n < 65536) → l.foldl addF s < 65536
  | [], _, h, _ => h
  | a :: r, _, h, hl => fold_lt r _ (addF_lt h (hl a List.mem_cons_self)) fun n hn => hl n (List.mem_cons_of_mem _ hn)
theorem totalF_lt (x : By) : totalF x < 65536 := fold_lt _ _ (by omega) (wordsF_lt x)
/-- What the program's Total holds behind some bytes: the sum, the last byte, whether their number is odd. -/
def accF (x : By) : Nat × Nat × Bool := x.foldl (fun s c => (if s.2.2 = true then addF s.1 (256 * s.2.1 + c.toNat) else s.1, c.toNat, !s.2.2)) (0, 0, false)
def accGo (s : Nat × Nat × Bool) (x : By) : Nat × Nat × Bool := x.foldl (fun s c => (if s.2.2 = true then addF s.1 (256 * s.2.1 + c.toNat) else s.1, c.toNat, !s.2.2)) s
theorem accF_snoc (x : By) (c : UInt8) : accF (x ++ [c]) = (if (accF x).2.2 = true then addF (accF x).1 (256 * (accF x).2.1 + c.toNat) else (accF x).1, c.toNat, !(accF x).2.2) := by
  unfold accF
  rw [List.foldl_append]
  rfl
theorem acc_even : ∀ (x : By) (n h : Nat), (let s := accGo (n, h, false) x; if s.2.2 = true then addF s.1 (256 * s.2.1) else s.1) = (wordsF x).foldl addF n
  | [], n, h => rfl
  | [a], n, h => rfl
  | a :: b :: r, n, h => by
    have := acc_even r (addF n (256 * a.toNat + b.toNat)) b.toNat
    exact this
theorem acc_total (x : By) : (if (accF x).2.2 = true then addF (accF x).1 (256 * (accF x).2.1) else (accF x).1) = totalF x := acc_even x 0 0
theorem accF_lt : ∀ x : By, (accF x).1 < 65536 ∧ (accF x).2.1 < 256 := by
  intro x
  induction x using snocInd with
  | h0 => exact ⟨by simp [accF], by simp [accF]⟩
  | hs x c ih =>
    rw [accF_snoc]
    have := c.toNat_lt
    refine ⟨?_, this⟩
    simp only
    split
    · exact addF_lt ih.1 (by omega)
    · exact ih.1
def changeF (c m n : Nat) : Nat := 65535 - addF (addF (65535 - c) (65535 - m)) n
theorem wordsF_app : ∀ (x y : By), x.length % 2 = 0 → wordsF (x ++ y) = wordsF x ++ wordsF y
  | [], y, _ => rfl
  | [a], y, h => by simp at h
  | a :: b :: r, y, h => by
    show (256 * a.toNat + b.toNat) :: wordsF (r ++ y) = _
    rw [wordsF_app r y (by simp at h; omega)]
    rfl
/-! Sums with carry are sums modulo 65535, but for nought. -/
theorem addF_mod {x y : Nat} : addF x y % 65535 = (x + y) % 65535 := by unfold addF; split <;> omega
theorem addF_zero {x y : Nat} (hx : x < 65536) (hy : y < 65536) : addF x y = 0 ↔ x = 0 ∧ y = 0 := by unfold addF; split <;> omega
theorem fold_mod : ∀ (l : List Nat) (s : Nat), s < 65536 → (∀ n ∈ l, n < 65536) → l.foldl addF s % 65535 = (s + l.sum) % 65535
  | [], s, _, _ => by simp
  | a :: r, s, h, hl => by
    have ha := hl a List.mem_cons_self
    rw [List.foldl_cons, fold_mod r _ (addF_lt h ha) fun n hn => hl n (List.mem_cons_of_mem _ hn), List.sum_cons]
    have := addF_mod (x := s) (y := a)
    omega
theorem fold_zero : ∀ (l : List Nat) (s : Nat), s < 65536 → (∀ n ∈ l, n < 65536) → (l.foldl addF s = 0 ↔ s = 0 ∧ ∀ n ∈ l, n = 0)
  | [], s, _, _ => by simp
  | a :: r, s, h, hl => by
    have ha := hl a List.mem_cons_self
    rw [List.foldl_cons, fold_zero r _ (addF_lt h ha) fun n hn => hl n (List.mem_cons_of_mem _ hn), addF_zero h ha]
    simp [and_assoc]

/-! ### Options -/
/-- The options, with their bytes, no operations too, up to the end; of the last one, where it is wrong, none. -/
def stepsF : Nat → By → List (UInt8 × By)
  | 0, _ => []
  | _, [] => []
  | f + 1, k :: r =>
    if k = 0 then [] else if k = 1 then (1, [1]) :: stepsF f r else
    match r with
    | [] => [(k, [])]
    | m :: _ => if 2 ≤ m.toNat ∧ m.toNat ≤ r.length + 1 then (k, (k :: r).take m.toNat) :: stepsF f ((k :: r).drop m.toNat) else [(k, [])]
def steps (x : By) : List (UInt8 × By) := stepsF x.length x
/-- The first step's length: nought where it is wrong. -/
def stepN (x : By) : Nat := match x with
  | [] => 0
  | k :: r => if k = 1 then 1 else match r with
    | [] => 0
    | m :: _ => if 2 ≤ m.toNat ∧ m.toNat ≤ r.length + 1 then m.toNat else 0
theorem stepN_le (x : By) : stepN x ≤ x.length := by
  unfold stepN
  split
  · exact Nat.le_refl _
  · split
    · simp
    · split
      · simp
      · split
        · simp only [List.length_cons]; rename_i h; have := h.2; simp only [List.length_cons] at this; omega
        · simp
theorem stepsF_more : ∀ (f : Nat) (x : By), x.length ≤ f → stepsF f x = stepsF x.length x := by
  intro f
  induction f using Nat.strongRecOn with
  | _ f ih =>
    intro x hx
    match f, x with
    | 0, [] => rfl
    | 0, _ :: _ => simp at hx
    | f + 1, [] => rfl
    | f + 1, k :: r =>
      simp only [List.length_cons] at hx
      show (if k = 0 then _ else _) = (if k = 0 then _ else _)
      split
      · rfl
      · split
        · rw [ih f (by omega) r (by omega)]
        · cases r with
          | nil => rfl
          | cons m r2 =>
            simp only
            split
            · rename_i h
              have hd : ((k :: m :: r2).drop m.toNat).length ≤ (m :: r2).length := by simp; omega
              rw [ih f (by omega) _ (Nat.le_trans hd (by omega)), ← ih (m :: r2).length (by omega) _ hd]
            · rfl
theorem steps_nil : steps [] = [] := rfl
theorem steps_cons (k : UInt8) (r : By) : steps (k :: r) = if k = 0 then [] else if stepN (k :: r) = 0 then [(k, [])] else (k, (k :: r).take (stepN (k :: r))) :: steps ((k :: r).drop (stepN (k :: r))) := by
  unfold steps
  show (if k = 0 then _ else _) = _
  split
  · rfl
  · unfold stepN
    split
    · rename_i h
      subst h
      simp
    · rename_i h1
      cases r with
      | nil => simp [h1]
      | cons m r2 =>
        simp only
        split
        · rename_i h
          rw [if_neg (by omega)]
          have hd : ((k :: m :: r2).drop m.toNat).length ≤ (m :: r2).length := by simp; omega
          rw [stepsF_more _ _ hd]
        · rfl
theorem steps_len : ∀ (n : Nat) (x : By), x.length ≤ n → (steps x).length ≤ x.length
  | 0, x, h => by
    obtain rfl : x = [] := List.eq_nil_of_length_eq_zero (by omega)
    exact Nat.le_refl _
  | n + 1, [], _ => Nat.le_refl _
  | n + 1, k :: r, h => by
    rw [steps_cons]
    split
    · exact Nat.zero_le _
    · split
      · simp
      · rename_i _ h0
        have hl := stepN_le (k :: r)
        have := steps_len n ((k :: r).drop (stepN (k :: r))) (by rw [List.length_drop]; simp only [List.length_cons] at h ⊢; omega)
        rw [List.length_drop] at this
        simp only [List.length_cons] at *
        omega
end Go.Proofs.Ytfddkehnhkfjeaa
