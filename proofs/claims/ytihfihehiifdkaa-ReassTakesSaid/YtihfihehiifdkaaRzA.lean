/- Layer 16: the document's flows byte by byte are the flows by places: plain law. -/
import Derived.Test.YtihfihehiifdkaaReP
namespace Go.Proofs.Ytihfihehiifdkaa
/-- Is a byte there; which. -/
def hasF (f : Fl) (n : Nat) : Bool := decide (n % 8 < (f.c (n / 8)).length)
def byF (f : Fl) (n : Nat) : UInt8 := (f.c (n / 8)).getD (n % 8) 0
def bL (f : Fl) : By := (List.range f.bl).map (byF f)
def hL (f : Fl) : List Bool := (List.range f.bl).map (hasF f)
theorem bL_len (f : Fl) : (bL f).length = f.bl := by simp [bL]
theorem hL_get {f : Fl} {n : Nat} (h : n < f.bl) : (hL f)[n]? = some (hasF f n) := by simp [hL, h]
theorem has_lt {f : Fl} (hf : FlOk f) {n : Nat} (h : hasF f n = true) : n < f.bl := by
  unfold hasF at h
  have h1 := of_decide_eq_true h
  have := hf.cb (n / 8) (by intro e; rw [e] at h1; simp at h1)
  omega
theorem by_no {f : Fl} {n : Nat} (h : hasF f n = false) : byF f n = 0 := by
  unfold hasF at h
  unfold byF
  have h1 := of_decide_eq_false h
  rw [List.getD_eq_getElem?_getD, List.getElem?_eq_none (by omega)]
  rfl
theorem lay_c {f : Fl} {h : Hd} {p : By} (k : Nat) : (layF f h p).c k = if h.off.toNat ≤ k then extF (f.c k) (chunkF p (k - h.off.toNat)) else f.c k := rfl
theorem lay_bl {f : Fl} {h : Hd} {p : By} : (layF f h p).bl = max f.bl (8 * h.off.toNat + p.length) := rfl
/-- What is there when a piece was laid. -/
theorem lay_has (f : Fl) (h : Hd) (p : By) (n : Nat) : hasF (layF f h p) n = (hasF f n || decide (8 * h.off.toNat ≤ n ∧ n < 8 * h.off.toNat + p.length)) := by
  unfold hasF
  rw [lay_c]
  rw [Bool.eq_iff_iff, Bool.or_eq_true, decide_eq_true_iff, decide_eq_true_iff, decide_eq_true_iff]
  split
  · rw [ext_len, chunk_len]
    omega
  · omega
theorem lay_by (f : Fl) (h : Hd) (p : By) (n : Nat) : byF (layF f h p) n = if hasF f n = true then byF f n else if 8 * h.off.toNat ≤ n ∧ n < 8 * h.off.toNat + p.length then p.getD (n - 8 * h.off.toNat) 0 else 0 := by
  unfold byF
  rw [lay_c]
  have hh : hasF f n = decide (n % 8 < (f.c (n / 8)).length) := rfl
  split
  · rename_i hk
    unfold extF
    by_cases h1 : n % 8 < (f.c (n / 8)).length
    · rw [if_pos (by rw [hh]; exact decide_eq_true h1), List.getD_eq_getElem?_getD, List.getD_eq_getElem?_getD, List.getElem?_append_left h1]
    · rw [if_neg (by rw [hh]; simpa using h1), List.getD_eq_getElem?_getD, List.getElem?_append_right (by omega), List.getElem?_drop]
      rw [show (f.c (n / 8)).length + (n % 8 - (f.c (n / 8)).length) = n % 8 by omega]
      unfold chunkF
      rw [List.getElem?_take, if_pos (by omega), List.getElem?_drop, List.getD_eq_getElem?_getD, show 8 * (n / 8 - h.off.toNat) + n % 8 = n - 8 * h.off.toNat by omega]
      split
      · rfl
      · rw [List.getElem?_eq_none (by omega)]; rfl
  · rename_i hk
    rw [if_neg (show ¬ (8 * h.off.toNat ≤ n ∧ n < 8 * h.off.toNat + p.length) by omega)]
    split
    · rfl
    · rename_i h1
      have := by_no (f := f) (n := n) (by simpa using h1)
      exact this
/-- Are all bytes ahead of the end there? -/
def allF (f : Fl) (n : Nat) : Bool := (List.range n).all (hasF f)
theorem allF_iff {f : Fl} {n : Nat} : allF f n = true ↔ ∀ i, i < n → hasF f i = true := by
  unfold allF
  rw [List.all_eq_true]
  exact ⟨fun h i hi => h i (List.mem_range.2 hi), fun h i hi => h i (List.mem_range.1 hi)⟩
theorem lack_iff {f : Fl} (hf : FlOk f) (k e : Nat) : (f.c k).length < min 8 (e - 8 * k) ↔ ∃ n, 8 * k ≤ n ∧ n < 8 * k + 8 ∧ n < e ∧ hasF f n = false := by
  have h8 := hf.c8 k
  constructor
  · intro h
    refine ⟨8 * k + (f.c k).length, by omega, by omega, by omega, ?_⟩
    unfold hasF
    refine decide_eq_false ?_
    rw [show (8 * k + (f.c k).length) / 8 = k by omega]
    omega
  · rintro ⟨n, h1, h2, h3, h4⟩
    unfold hasF at h4
    have h5 := of_decide_eq_false h4
    rw [show n / 8 = k by omega] at h5
    omega
/-- A flow is whole. -/
theorem whole_iff {f : Fl} (hf : FlOk f) : wholeF' f = (f.first && decide (0 ≤ f.en) && allF f f.en.toNat) := by
  unfold wholeF'
  by_cases h0 : 0 ≤ f.en
  · have he : endF f = f.en.toNat := by unfold endF; rw [if_pos h0]
    congr 1
    rw [Bool.eq_iff_iff, List.isEmpty_iff, allF_iff]
    unfold missF
    rw [List.filter_eq_nil_iff]
    constructor
    · intro h i hi
      cases hh : hasF f i with
      | true => rfl
      | false =>
        refine absurd ?_ (h (i / 8) (List.mem_range.2 (by rw [he]; omega)))
        unfold lackF
        exact decide_eq_true ((lack_iff hf _ _).2 ⟨i, by omega, by omega, by rw [he]; exact hi, hh⟩)
    · intro h k _ hl
      unfold lackF at hl
      obtain ⟨n, _, _, h3, h4⟩ := (lack_iff hf _ _).1 (of_decide_eq_true hl)
      rw [h n (by rw [← he]; exact h3)] at h4
      cases h4
  · rw [decide_eq_false h0]
    simp
theorem c_by (f : Fl) (k : Nat) : ∀ r, r ≤ (f.c k).length → r ≤ 8 → (f.c k).take r = (List.range r).map fun i => byF f (8 * k + i) := fun r hr h8 => by
  refine List.ext_getElem? fun i => ?_
  by_cases hi : i < r
  · rw [List.getElem?_take, if_pos hi, List.getElem?_map, List.getElem?_range hi]
    show _ = some (byF f (8 * k + i))
    unfold byF
    rw [show (8 * k + i) / 8 = k by omega, show (8 * k + i) % 8 = i by omega, List.getD_eq_getElem?_getD, List.getElem?_eq_getElem (by omega)]
    rfl
  · rw [List.getElem?_eq_none (by rw [List.length_take]; omega), List.getElem?_eq_none (by simp; omega)]
theorem flat_by {f : Fl} (hf : FlOk f) : ∀ m, (∀ k, k < m → (f.c k).length = 8) → (List.range m).flatMap f.c = (List.range (8 * m)).map (byF f)
  | 0, _ => by simp
  | m + 1, h => by
    rw [List.range_succ, List.flatMap_append, flat_by hf m fun k hk => h k (by omega), show 8 * (m + 1) = 8 * m + 8 by omega, List.range_add, List.map_append, List.map_map]
    congr 1
    have h8 := h m (by omega)
    have := c_by f m 8 (by omega) (by omega)
    rw [List.take_of_length_le (by omega)] at this
    simp only [List.flatMap_cons, List.flatMap_nil, List.append_nil]
    rw [this]
    rfl
/-- The payload of a flow that is whole. -/
theorem pay_by {f : Fl} (hf : FlOk f) (hw : wholeF' f = true) : payF f = (bL f).take f.en.toNat := by
  rw [whole_iff hf] at hw
  simp only [Bool.and_eq_true, decide_eq_true_eq] at hw
  obtain ⟨⟨_, h0⟩, hall⟩ := hw
  rw [allF_iff] at hall
  have he1 := hf.e1
  obtain ⟨e, he⟩ : ∃ e, e = f.en.toNat := ⟨_, rfl⟩
  rw [← he] at hall
  have hel : e ≤ f.bl := by omega
  have hge : ∀ k, min 8 (e - 8 * k) ≤ (f.c k).length := fun k => by
    rcases Nat.lt_or_ge (f.c k).length (min 8 (e - 8 * k)) with h | h
    · obtain ⟨n, _, _, h3, h4⟩ := (lack_iff hf _ _).1 h
      rw [hall n h3] at h4
      cases h4
    · exact h
  have hb : (bL f).take e = (List.range e).map (byF f) := by
    unfold bL
    rw [← List.map_take, List.take_range, Nat.min_eq_left hel]
  unfold payF
  rw [← he, hb]
  have h8 : ∀ k, k < e / 8 → (f.c k).length = 8 := fun k hk => by
    have := hge k
    have := hf.c8 k
    omega
  have hfl := flat_by hf (e / 8) h8
  by_cases hm : e % 8 = 0
  · rw [show (e + 7) / 8 = e / 8 by omega, hfl, show 8 * (e / 8) = e by omega, List.take_of_length_le (by simp)]
  · rw [show (e + 7) / 8 = e / 8 + 1 by omega, List.range_succ, List.flatMap_append, hfl, List.take_append, List.length_map, List.length_range, List.take_of_length_le (by simp; omega)]
    simp only [List.flatMap_cons, List.flatMap_nil, List.append_nil]
    rw [c_by f (e / 8) (e - 8 * (e / 8)) (by have := hge (e / 8); omega) (by omega)]
    conv => rhs; rw [show e = 8 * (e / 8) + (e - 8 * (e / 8)) by omega, List.range_add, List.map_append, List.map_map]
    rfl
/-- The last byte that is there. -/
def lastF (f : Fl) : Nat → Nat
  | 0 => 0
  | n + 1 => if hasF f n = true then n else lastF f n
theorem lastF_bl {f : Fl} (hf : FlOk f) : lastF f f.bl = f.bl - 1 := by
  rcases Nat.eq_zero_or_pos f.bl with h | h
  · rw [h]; rfl
  · obtain ⟨m, hm⟩ : ∃ m, f.bl = m + 1 := ⟨f.bl - 1, by omega⟩
    have hl := hf.last (by omega)
    have : hasF f m = true := by
      unfold hasF
      refine decide_eq_true ?_
      rw [hm] at hl
      rw [show (m + 1 - 1) / 8 = m / 8 by omega] at hl
      omega
    rw [hm]
    unfold lastF
    rw [if_pos this]
    omega
/-- A place that is all there, as far as the end. -/
def fullF (f : Fl) (k j : Nat) : Bool := (List.range j).all fun i => hasF f (8 * k + i)
theorem fullF_lack {f : Fl} (hf : FlOk f) (k : Nat) : lackF f k = !fullF f k (min 8 (endF f - 8 * k)) := by
  unfold lackF fullF
  rw [Bool.eq_iff_iff, decide_eq_true_iff, lack_iff hf, Bool.not_eq_true', List.all_eq_false]
  constructor
  · rintro ⟨n, h1, h2, h3, h4⟩
    exact ⟨n - 8 * k, List.mem_range.2 (by omega), by rw [show 8 * k + (n - 8 * k) = n by omega, h4]; simp⟩
  · rintro ⟨i, h1, h2⟩
    have := List.mem_range.1 h1
    exact ⟨8 * k + i, by omega, by omega, by omega, by simpa using h2⟩
theorem fullF_snoc (f : Fl) (k j : Nat) : fullF f k (j + 1) = (fullF f k j && hasF f (8 * k + j)) := by
  unfold fullF
  rw [List.range_succ, List.all_append]
  simp
theorem missF_snoc (f : Fl) (k : Nat) : (List.range (k + 1)).filter (lackF f) = (List.range k).filter (lackF f) ++ if lackF f k = true then [k] else [] := by
  rw [List.range_succ, List.filter_append]
  congr 1
  cases h : lackF f k <;> simp [h]
end Go.Proofs.Ytihfihehiifdkaa
