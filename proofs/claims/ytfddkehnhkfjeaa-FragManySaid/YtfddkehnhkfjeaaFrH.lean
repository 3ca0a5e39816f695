/- Frag, plain: what Cut answers, and how its pieces stand. -/
import Derived.Test.YtfddkehnhkfjeaaFrA
import Derived.Test.YtfddkehnhkfjeaaFrC
namespace Go.Proofs.Ytfddkehnhkfjeaa

/-- A piece's bytes. -/
def pbF (p : By) (q : Nat × Hd × Nat) : By := bytesF q.2.1 (partF p q.1 (q.1 + q.2.2))
/-- What Cut answers: the pieces' bytes, the error. -/
def cutF (x : By) (m : Int) : List By × Nat :=
  if (fitsF x m).2 ≠ 0 then ([], (fitsF x m).2)
  else if (fitsF x m).1 = true then ([x.take (20 + (prsF x).1.opts.length + (prsF x).2.1.length)], 0)
  else if (prsF x).1.df = true then ([], 7)
  else if ∃ q ∈ pcsF (prsF x).1 (prsF x).2.1.length m.toNat (prsF x).2.1.length 0, 8191 < q.2.1.off then ([], 3)
  else ((pcsF (prsF x).1 (prsF x).2.1.length m.toNat (prsF x).2.1.length 0).map (pbF (prsF x).2.1), 0)
/-- The pieces where there is no error. -/
def cutP (h : Hd) (L m : Nat) : List (Nat × Hd × Nat) := if 20 + h.opts.length + L ≤ m then [(0, h, L)] else pcsF h L m L 0
/-- Where a piece begins. -/
def posF (Q : List (Nat × Hd × Nat)) (i : Nat) : Nat := ((Q.take i).map (·.2.2)).sum
theorem posF_succ {Q : List (Nat × Hd × Nat)} {i : Nat} {q : Nat × Hd × Nat} (h : Q[i]? = some q) : posF Q (i + 1) = posF Q i + q.2.2 := by
  unfold posF
  rw [List.take_add_one, h]
  simp
theorem pcs_at {h : Hd} (hm : mayH h = true) {L m : Nat} (h68 : 68 ≤ m) : ∀ f a i q, L - a ≤ f → a % 8 = 0 → (pcsF h L m f a)[i]? = some q →
    q.1 % 8 = 0 ∧ a ≤ q.1 ∧ q.1 < L ∧ q.2 = pcF h L m q.1 ∧ posF (pcsF h L m f a) i + a = q.1 ∧ (i = 0 ↔ q.1 = a) ∧ (i + 1 < (pcsF h L m f a).length ↔ q.1 + q.2.2 < L)
  | 0, a, i, q, _, _, hq => by simp [pcsF] at hq
  | f + 1, a, i, q, hf, h8, hq => by
    by_cases hl : a < L
    · obtain ⟨hp, hle, h88, _⟩ := pc_pos hm h68 hl
      rw [pcs_cons _ _ _ _ _ hl] at hq ⊢
      cases i with
      | zero =>
        obtain rfl : (a, pcF h L m a) = q := by simpa using hq
        refine ⟨h8, Nat.le_refl _, hl, rfl, by simp [posF], by simp, ?_⟩
        simp only [List.length_cons]
        by_cases ht : a + (pcF h L m a).2 < L
        · obtain ⟨g, rfl⟩ : ∃ g, f = g + 1 := ⟨f - 1, by omega⟩
          rw [pcs_cons _ _ _ _ _ ht]
          simp [ht]
        · rw [pcs_end _ _ _ _ _ (by omega)]
          simp; omega
      | succ i =>
        rw [List.getElem?_cons_succ] at hq
        rcases h88 with h88 | h88
        · obtain ⟨b1, b2, b3, b4, b5, b6, b7⟩ := pcs_at hm h68 f _ i q (by omega) (by omega) hq
          refine ⟨b1, by omega, b3, b4, ?_, ⟨fun e => by omega, fun e => by omega⟩, ?_⟩
          · rw [← b5]
            unfold posF
            simp only [List.take_succ_cons, List.map_cons, List.sum_cons]
            omega
          · rw [List.length_cons, ← b7]; omega
        · rw [pcs_end _ _ _ _ _ (by omega)] at hq
          simp at hq
    · rw [pcs_end _ _ _ _ _ (by omega)] at hq
      simp at hq
theorem pc_mf (h : Hd) (L m a : Nat) (hl : a < L) (_ : 68 ≤ m) : (pcF h L m a).1 = { h with off := h.off + ((a / 8 : Nat) : Int), opts := if 0 < a then copF h.opts else h.opts, mf := h.mf || decide (a + (pcF h L m a).2 < L) } := by
  unfold pcF
  generalize (if 0 < a then copF h.opts else h.opts) = o
  simp only
  by_cases hr : m - (20 + o.length) < L - a
  · rw [if_pos hr]
    simp only
    rw [show decide (a + (m - (20 + o.length)) / 8 * 8 < L) = true from by simp; omega]
    simp
  · rw [if_neg hr]
    simp only
    rw [show decide (a + (L - a) < L) = false from by simp; omega]
    simp
/-- How the pieces stand. -/
structure PcAt (h : Hd) (L m : Nat) (i : Nat) (q : Nat × Hd × Nat) (n : Nat) : Prop where
  m8 : q.1 % 8 = 0
  le : q.1 + q.2.2 ≤ L
  hd : q.2.1 = { h with off := h.off + ((q.1 / 8 : Nat) : Int), opts := if 0 < i then copF h.opts else h.opts, mf := h.mf || decide (i + 1 < n) }
  n8 : i + 1 < n → q.2.2 % 8 = 0
  size : 20 + q.2.1.opts.length + q.2.2 ≤ m
  last : i + 1 = n → q.1 + q.2.2 = L
  pos : 1 < n → 0 < q.2.2
theorem cut_at {h : Hd} (hm : mayH h = true) {L m : Nat} (h68 : 68 ≤ m) {i : Nat} {q : Nat × Hd × Nat} (hq : (cutP h L m)[i]? = some q) : posF (cutP h L m) i = q.1 ∧ PcAt h L m i q (cutP h L m).length := by
  unfold cutP at hq ⊢
  by_cases hf : 20 + h.opts.length + L ≤ m
  · rw [if_pos hf] at hq ⊢
    cases i with
    | zero =>
      obtain rfl : (0, h, L) = q := by simpa using hq
      exact ⟨rfl, rfl, by simp, by simp, by simp, hf, by simp, by simp⟩
    | succ i => simp at hq
  · rw [if_neg hf] at hq ⊢
    obtain ⟨b1, b2, b3, b4, b5, b6, b7⟩ := pcs_at hm h68 L 0 i q (by omega) rfl hq
    obtain ⟨c1, c2, c3, c4⟩ := pc_pos hm h68 b3
    have e := pc_mf h L m q.1 b3 h68
    rw [← b4] at c1 c2 c3 c4 e
    have hi : i + 1 ≤ (pcsF h L m L 0).length := (List.getElem?_eq_some_iff.1 hq).1
    refine ⟨by omega, b1, by omega, ?_, fun hh => ?_, c4, fun hh => ?_, fun _ => c1⟩
    · rw [e]
      have e1 : (0 < q.1) = (0 < i) := by
        apply propext
        constructor
        · intro hh; rcases Nat.eq_zero_or_pos i with h0 | h0
          · have := b6.1 h0; omega
          · exact h0
        · intro hh; rcases Nat.eq_zero_or_pos q.1 with h0 | h0
          · have := b6.2 h0; omega
          · exact h0
      have e2 : (q.1 + q.2.2 < L) = (i + 1 < (pcsF h L m L 0).length) := propext b7.symm
      simp only [e1, e2]
    · have := b7.1 hh; omega
    · have : ¬ q.1 + q.2.2 < L := fun hc => by have := b7.2 hc; omega
      omega
theorem cut_ne {h : Hd} {L m : Nat} (h68 : 68 ≤ m) (hm : mayH h = true) : 0 < (cutP h L m).length := by
  unfold cutP
  obtain ⟨_, h40, _⟩ := may_opts hm
  split
  · simp
  · rename_i hf
    obtain ⟨g, rfl⟩ : ∃ g, L = g + 1 := ⟨L - 1, by omega⟩
    rw [pcs_cons _ _ _ _ _ (by omega)]
    simp
theorem cut_end {h : Hd} (hm : mayH h = true) {L m : Nat} (h68 : 68 ≤ m) : posF (cutP h L m) (cutP h L m).length = L := by
  have hn := cut_ne (L := L) h68 hm
  obtain ⟨n, hn⟩ : ∃ n, (cutP h L m).length = n + 1 := ⟨(cutP h L m).length - 1, by omega⟩
  obtain ⟨q, hq⟩ : ∃ q, (cutP h L m)[n]? = some q := ⟨_, List.getElem?_eq_getElem (by omega)⟩
  obtain ⟨e, k⟩ := cut_at hm h68 hq
  rw [hn, posF_succ hq, e]
  exact k.last hn.symm
theorem pc_ok {h : Hd} (ok : h.ok) {i n : Nat} {L m : Nat} {q : Nat × Hd × Nat} (k : PcAt h L m i q n) : q.2.1.ok := by rw [k.hd]; exact ok
theorem pc_fits {h : Hd} (hm : mayH h = true) {i n : Nat} {L m : Nat} {q : Nat × Hd × Nat} (k : PcAt h L m i q n) (hm2 : m ≤ 65535) (ho : q.2.1.off ≤ 8191) (p : By) (hp : p.length = q.2.2) : fitsH q.2.1 p = true := by
  obtain ⟨hg, h40, h4, h0, _⟩ := may_opts hm
  obtain ⟨hc, hc4⟩ := cop_le h4
  have hs := k.size
  unfold fitsH mayH
  simp only [Bool.and_eq_true, decide_eq_true_eq]
  have e := k.hd
  have e1 : q.2.1.opts = if 0 < i then copF h.opts else h.opts := by rw [e]
  have e2 : q.2.1.off = h.off + ((q.1 / 8 : Nat) : Int) := by rw [e]
  rw [e1] at hs ⊢
  refine ⟨⟨⟨⟨⟨?_, ?_⟩, ?_⟩, ?_⟩, ho⟩, ?_⟩
  · split
    · exact good_cop _
    · exact hg
  · split <;> omega
  · split <;> omega
  · rw [e2]; omega
  · rw [hp]; omega
theorem part_len2 {p : By} {a n : Nat} (h : a + n ≤ p.length) : (partF p a (a + n)).length = n := by
  unfold partF
  rw [List.length_drop, List.length_take]
  omega
theorem take_part {p : By} {a n : Nat} : p.take a ++ partF p a (a + n) = p.take (a + n) := by
  unfold partF
  rw [List.drop_take, show a + n - a = n from by omega, ← List.take_add]
/-- Cut of a packet that is one. -/
theorem cut_bytes {h : Hd} (ok : h.ok) {p : By} (hf : fitsH h p = true) (m : Int) :
    (cutF (bytesF h p) m).2 = 0 ∧ 68 ≤ m ∧ m ≤ 65535 ∧ (cutF (bytesF h p) m).1 = (cutP h p.length m.toNat).map (pbF p) ∧ (∀ q ∈ cutP h p.length m.toNat, q.2.1.off ≤ 8191) ∨
    (cutF (bytesF h p) m).1 = [] ∧ ((cutF (bytesF h p) m).2 = 2 ∨ (cutF (bytesF h p) m).2 = 3 ∨ (cutF (bytesF h p) m).2 = 7 ∧ h.df = true) := by
  have hr : prsF (bytesF h p) = (h, p, 0) := by have := read_back ok hf []; rwa [List.append_nil] at this
  unfold cutF
  rw [hr]
  simp only
  have hf2 : fitsF (bytesF h p) m = if m < 68 ∨ 65535 < m then (false, 2) else (decide (((20 + h.opts.length + p.length : Nat) : Int) ≤ m), 0) := by
    unfold fitsF
    rw [hr]
    simp
  have hmy : mayH h = true := by unfold fitsH at hf; simp only [Bool.and_eq_true] at hf; exact hf.1
  rw [hf2]
  by_cases hm : m < 68 ∨ 65535 < m
  · rw [if_pos hm]
    exact .inr ⟨rfl, .inl rfl⟩
  rw [if_neg hm]
  simp only [ne_eq, not_true_eq_false, if_false, decide_eq_true_eq]
  have e : cutP h p.length m.toNat = if ((20 + h.opts.length + p.length : Nat) : Int) ≤ m then [(0, h, p.length)] else pcsF h p.length m.toNat p.length 0 := by
    unfold cutP
    by_cases hfm : ((20 + h.opts.length + p.length : Nat) : Int) ≤ m
    · rw [if_pos hfm, if_pos (by omega)]
    · rw [if_neg hfm, if_neg (by omega)]
  rw [e]
  by_cases hfm : ((20 + h.opts.length + p.length : Nat) : Int) ≤ m
  · rw [if_pos hfm, if_pos hfm]
    refine .inl ⟨rfl, by omega, by omega, ?_, fun q hq => ?_⟩
    · simp only [List.map_cons, List.map_nil, pbF, partF]
      rw [List.take_of_length_le (by rw [bytesF_len]; omega)]
      simp
    · obtain rfl : q = (0, h, p.length) := by simpa using hq
      exact (may_opts hmy).2.2.2.2
  · rw [if_neg hfm, if_neg hfm]
    by_cases hd : h.df = true
    · rw [if_pos hd]
      exact .inr ⟨rfl, .inr (.inr ⟨rfl, hd⟩)⟩
    rw [if_neg hd]
    by_cases hx : ∃ q ∈ pcsF h p.length m.toNat p.length 0, 8191 < q.2.1.off
    · rw [if_pos hx]
      exact .inr ⟨rfl, .inr (.inl rfl)⟩
    · rw [if_neg hx]
      exact .inl ⟨rfl, by omega, by omega, rfl, fun q hq => by
        by_cases hh : q.2.1.off ≤ 8191
        · exact hh
        · exact (hx ⟨q, hq, by omega⟩).elim⟩
end Go.Proofs.Ytfddkehnhkfjeaa
