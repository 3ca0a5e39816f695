/- Plain law: a list of indexes, put in order. -/
import Derived.Test.YtnifhhaalmlmnaaSpL
namespace Go.Proofs.Ytnifhhaalmlmnaa
def Ins (r : Nat → Nat) (n i : Nat) (xs : List Nat) : Prop := ∃ S : List Nat, xs = S ++ List.range' i (n - i) ∧ S.Perm (List.range i) ∧ S.Pairwise fun a b => bef r a b = true
def InsJ (r : Nat → Nat) (n i j : Nat) (xs : List Nat) : Prop := ∃ A B : List Nat, xs = A ++ i :: (B ++ List.range' (i + 1) (n - (i + 1))) ∧ A.length = j ∧ (A ++ B).Perm (List.range i) ∧ ((A ++ B).Pairwise fun a b => bef r a b = true) ∧ ∀ b ∈ B, bef r i b = true
theorem Ins.start (r : Nat → Nat) {n : Nat} (h : 1 ≤ n) : Ins r n 1 (List.range n) := by
  refine ⟨[0], ?_, ?_, by simp⟩
  · rw [List.range_eq_range']
    obtain ⟨m, rfl⟩ : ∃ m, n = m + 1 := ⟨n - 1, by omega⟩
    rfl
  · exact List.Perm.refl _
theorem Ins.begin_ {r : Nat → Nat} {n i : Nat} {xs : List Nat} (h : Ins r n i xs) (hi : i < n) : InsJ r n i i xs := by
  obtain ⟨S, e, hp, hs⟩ := h
  have hl : S.length = i := by rw [hp.length_eq, List.length_range]
  refine ⟨S, [], ?_, hl, by simpa using hp, by simpa using hs, fun b hb => by cases hb⟩
  rw [e]
  obtain ⟨m, hm⟩ : ∃ m, n - i = m + 1 := ⟨n - i - 1, by omega⟩
  rw [hm, show n - (i + 1) = m by omega]
  rfl
theorem InsJ.len {r : Nat → Nat} {n i j : Nat} {xs : List Nat} (h : InsJ r n i j xs) (hi : i < n) : xs.length = n ∧ j ≤ i ∧ xs[j]? = some i := by
  obtain ⟨A, B, e, hl, hp, _, _⟩ := h
  have h2 := hp.length_eq
  rw [List.length_append, List.length_range] at h2
  refine ⟨?_, by omega, ?_⟩
  · rw [e]; simp; omega
  · rw [e, List.getElem?_append_right (by omega), hl]; simp
theorem InsJ.lt {r : Nat → Nat} {n i j : Nat} {xs : List Nat} (h : InsJ r n i j xs) (hj : 0 < j) : ∃ a, xs[j - 1]? = some a ∧ a < i := by
  obtain ⟨A, B, e, hl, hp, _, _⟩ := h
  have hx : j - 1 < A.length := by omega
  refine ⟨A[j - 1], ?_, ?_⟩
  · rw [e, List.getElem?_append_left hx]; simp
  · have : A[j - 1] ∈ List.range i := hp.mem_iff.1 (List.mem_append_left _ (List.getElem_mem hx))
    simpa using this
theorem InsJ.swap {r : Nat → Nat} {n i j a : Nat} {xs : List Nat} (h : InsJ r n i j xs) (hj : 0 < j) (ha : xs[j - 1]? = some a) (hlt : r a < r i) : InsJ r n i (j - 1) ((xs.set j a).set (j - 1) i) := by
  obtain ⟨A, B, e, hl, hp, hs, hb⟩ := h
  obtain ⟨A', a', rfl⟩ : ∃ A' a', A = A' ++ [a'] := by
    rcases List.eq_nil_or_concat A with h | ⟨L, b, h⟩
    · subst h; simp at hl; omega
    · exact ⟨L, b, by simpa using h⟩
  have hl' : A'.length = j - 1 := by simp at hl; omega
  obtain rfl : a' = a := by
    rw [e, List.append_assoc, List.getElem?_append_right (by omega), hl'] at ha
    simpa using ha
  refine ⟨A', a' :: B, ?_, hl', by simpa using hp, by simpa using hs, fun b hb2 => ?_⟩
  · obtain ⟨k, rfl⟩ : ∃ k, j = k + 1 := ⟨j - 1, by omega⟩
    rw [e]
    simp only [Nat.add_sub_cancel] at hl' ⊢
    subst hl'
    simp
  · rcases List.mem_cons.1 hb2 with rfl | hb3
    · rw [bef_iff]; exact .inl hlt
    · exact hb b hb3
theorem InsJ.done {r : Nat → Nat} {n i j : Nat} {xs : List Nat} (h : InsJ r n i j xs) (hi : i < n) (hd : j = 0 ∨ ∃ a, xs[j - 1]? = some a ∧ ¬ r a < r i) : Ins r n (i + 1) xs := by
  have hlt := h.lt
  obtain ⟨A, B, e, hl, hp, hs, hb⟩ := h
  refine ⟨A ++ i :: B, by rw [e]; simp, ?_, ?_⟩
  · rw [List.range_succ]
    exact (List.perm_middle.trans (List.Perm.cons i hp)).trans (List.perm_append_comm (l₁ := [i]) (l₂ := List.range i))
  · rw [List.pairwise_append] at hs ⊢
    obtain ⟨h1, h2, h3⟩ := hs
    refine ⟨h1, List.pairwise_cons.2 ⟨hb, h2⟩, fun x hx y hy => ?_⟩
    rcases List.mem_cons.1 hy with rfl | hy
    · -- x stands ahead of the new one
      rcases hd with h0 | ⟨a, ha, hna⟩
      · rw [h0] at hl
        rw [List.length_eq_zero_iff.1 hl] at hx
        cases hx
      · have hj : 0 < j := by
          rcases Nat.eq_zero_or_pos j with h0 | h0
          · rw [h0] at hl; rw [List.length_eq_zero_iff.1 hl] at hx; cases hx
          · exact h0
        obtain ⟨A', a', rfl⟩ : ∃ A' a', A = A' ++ [a'] := by
          rcases List.eq_nil_or_concat A with h | ⟨L, b, h⟩
          · subst h; cases hx
          · exact ⟨L, b, by simpa using h⟩
        have hl' : A'.length = j - 1 := by simp at hl; omega
        obtain rfl : a' = a := by
          rw [e, List.append_assoc, List.getElem?_append_right (by omega), hl'] at ha
          simpa using ha
        obtain ⟨b, hb1, hb2⟩ := hlt hj
        rw [ha] at hb1
        injection hb1 with hb1
        subst hb1
        have hai : bef r a' y = true := by rw [bef_iff]; omega
        rcases List.mem_append.1 hx with hx | hx
        · rw [List.pairwise_append] at h1
          exact bef_trans (h1.2.2 x hx a' (by simp)) hai
        · simp at hx; rw [hx]; exact hai
    · exact h3 x hx y hy
theorem Ins.end_ {r : Nat → Nat} {n : Nat} {xs : List Nat} (h : Ins r n n xs) : xs.Perm (List.range n) ∧ xs.Pairwise fun a b => bef r a b = true := by
  obtain ⟨S, e, hp, hs⟩ := h
  have : xs = S := by rw [e]; simp
  rw [this]
  exact ⟨hp, hs⟩
end Go.Proofs.Ytnifhhaalmlmnaa
