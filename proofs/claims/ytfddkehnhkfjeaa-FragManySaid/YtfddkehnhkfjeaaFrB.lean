/- Frag, plain: the pieces. -/
import Derived.Test.YtfddkehnhkfjeaaIpL
namespace Go.Proofs.Ytfddkehnhkfjeaa

theorem flat_steps_le : ∀ (n : Nat) (x : By), x.length ≤ n → (flatF (steps x)).length ≤ x.length
  | 0, x, h => by
    obtain rfl : x = [] := List.eq_nil_of_length_eq_zero (by omega)
    simp [steps_nil, flatF]
  | n + 1, [], _ => by simp [steps_nil, flatF]
  | n + 1, k :: r, h => by
    rw [steps_cons]
    by_cases h0 : k = 0
    · rw [if_pos h0]; simp [flatF]
    rw [if_neg h0]
    by_cases h1 : stepN (k :: r) = 0
    · rw [if_pos h1]; simp [flatF]
    rw [if_neg h1]
    have hle := stepN_le (k :: r)
    have ih := flat_steps_le n ((k :: r).drop (stepN (k :: r))) (by rw [List.length_drop]; simp at h ⊢; omega)
    rw [List.length_drop] at ih
    have e : flatF ((k, (k :: r).take (stepN (k :: r))) :: steps ((k :: r).drop (stepN (k :: r)))) = (k :: r).take (stepN (k :: r)) ++ flatF (steps ((k :: r).drop (stepN (k :: r)))) := rfl
    rw [e, List.length_append, List.length_take]
    omega
theorem flat_filter_le (p : UInt8 × By → Bool) : ∀ L : List (UInt8 × By), (flatF (L.filter p)).length ≤ (flatF L).length
  | [] => Nat.le_refl _
  | s :: L => by
    have ih := flat_filter_le p L
    have e : flatF (s :: L) = s.2 ++ flatF L := rfl
    rw [e, List.length_append]
    cases h : p s with
    | true =>
      rw [List.filter_cons_of_pos h]
      have e2 : flatF (s :: L.filter p) = s.2 ++ flatF (L.filter p) := rfl
      rw [e2, List.length_append]
      omega
    | false =>
      rw [List.filter_cons_of_neg (by simp [h])]
      omega
/-- The copied options are no more than the options. -/
theorem cop_le {x : By} (h4 : x.length % 4 = 0) : (copF x).length ≤ x.length ∧ (copF x).length % 4 = 0 := by
  unfold copF
  split
  · refine ⟨?_, padF_len _⟩
    have h1 := flat_filter_le (fun s => decide (128 ≤ s.1)) (steps x)
    have h2 := flat_steps_le x.length x (Nat.le_refl _)
    unfold padF highF
    simp only [List.length_append, List.length_replicate]
    omega
  · simp
/-- The piece at a place of a payload of L bytes: its header, how many bytes it has. -/
def pcF (h : Hd) (L m at_ : Nat) : Hd × Nat :=
  let o := if 0 < at_ then copF h.opts else h.opts
  let room := m - (20 + o.length)
  if room < L - at_ then ({ h with off := h.off + ((at_ / 8 : Nat) : Int), opts := o, mf := true }, room / 8 * 8) else ({ h with off := h.off + ((at_ / 8 : Nat) : Int), opts := o }, L - at_)
theorem may_opts {h : Hd} (hm : mayH h = true) : goodF h.opts = true ∧ h.opts.length ≤ 40 ∧ h.opts.length % 4 = 0 ∧ 0 ≤ h.off ∧ h.off ≤ 8191 := by
  unfold mayH at hm
  simp only [Bool.and_eq_true, decide_eq_true_eq] at hm
  exact ⟨hm.1.1.1.1, hm.1.1.1.2, hm.1.1.2, hm.1.2, hm.2⟩
theorem pc_opts (h : Hd) (L m at_ : Nat) : (pcF h L m at_).1.opts = if 0 < at_ then copF h.opts else h.opts := by
  unfold pcF
  generalize (if 0 < at_ then copF h.opts else h.opts) = o
  simp only
  split <;> rfl
theorem pc_off (h : Hd) (L m at_ : Nat) : (pcF h L m at_).1.off = h.off + ((at_ / 8 : Nat) : Int) := by
  unfold pcF
  generalize (if 0 < at_ then copF h.opts else h.opts) = o
  simp only
  split <;> rfl
/-- Each piece has something, if anything is left; all but the last are multiples of 8. -/
theorem pc_pos {h : Hd} (hm : mayH h = true) {L m at_ : Nat} (h68 : 68 ≤ m) (hlt : at_ < L) : 0 < (pcF h L m at_).2 ∧ (pcF h L m at_).2 ≤ L - at_ ∧ ((pcF h L m at_).2 % 8 = 0 ∨ (pcF h L m at_).2 = L - at_) ∧ 20 + (pcF h L m at_).1.opts.length + (pcF h L m at_).2 ≤ m := by
  obtain ⟨_, h40, h4, _⟩ := may_opts hm
  obtain ⟨hc, _⟩ := cop_le h4
  rw [pc_opts]
  unfold pcF
  simp only
  have ho : (if 0 < at_ then copF h.opts else h.opts).length ≤ 40 := by split <;> omega
  generalize (if 0 < at_ then copF h.opts else h.opts) = o at ho
  by_cases hr : m - (20 + o.length) < L - at_
  · rw [if_pos hr]
    simp only
    omega
  · rw [if_neg hr]
    exact ⟨by simp only; omega, by simp only; omega, .inr rfl, by simp only; omega⟩
/-- A piece's header may be, where its offset is not too far. -/
theorem pc_may {h : Hd} (hm : mayH h = true) {L m at_ : Nat} (ho : (pcF h L m at_).1.off ≤ 8191) : mayH (pcF h L m at_).1 = true := by
  obtain ⟨hg, h40, h4, h0, _⟩ := may_opts hm
  obtain ⟨hc, hc4⟩ := cop_le h4
  have hof := pc_off h L m at_
  have hop := pc_opts h L m at_
  unfold mayH
  simp only [Bool.and_eq_true, decide_eq_true_eq]
  rw [hop]
  refine ⟨⟨⟨⟨?_, ?_⟩, ?_⟩, ?_⟩, ho⟩
  · split
    · exact good_cop _
    · exact hg
  · split <;> omega
  · split <;> omega
  · rw [hof]; omega
end Go.Proofs.Ytfddkehnhkfjeaa
