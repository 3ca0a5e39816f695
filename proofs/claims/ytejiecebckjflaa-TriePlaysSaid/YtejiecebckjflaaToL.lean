/- TrieOrder: the plain law. -/
import Derived.Test.YtejiecebckjflaaTqG
import Derived.Test.YtejiecebckjflaaTrH
namespace Go.Proofs.Ytejiecebckjflaa

def pxE (e : Bs × Int) : Px := ⟨padB e.1, e.1.length⟩
theorem pxE_may {e : Bs × Int} (h : e.1.length ≤ 32) : (pxE e).may = true := bits_may h
theorem pxE_lt {e : Bs × Int} (h : e.1.length ≤ 32) : (pxE e).a < 2 ^ 32 := padB_lt _ h
theorem pB_pxE {e : Bs × Int} (h : e.1.length ≤ 32) : pB (pxE e) = e.1 := by
  unfold pB pxE
  rw [Int.toNat_natCast]
  exact bits_pad _ h
theorem hasP_pxE {e : Bs × Int} {b : Nat} (h : e.1.length ≤ 32) (hb : b < 2 ^ 32) : hasP (pxE e) b = decide (e.1 <+: bitsB b 32) := by
  rw [hasP_iff (pxE_lt h) hb (pxE_may h), pB_pxE h]
theorem cmpP_pxE {e f : Bs × Int} (h1 : e.1.length ≤ 32) (h2 : f.1.length ≤ 32) (hlt : ltB e.1 f.1 = true) : cmpP (pxE e) (pxE f) = -1 := by
  have := (ltB_pad h1 h2).1 hlt
  unfold cmpP pxE
  simp only
  rw [if_neg (by rintro ⟨h3, h4⟩; omega), if_pos (by rcases this with h | ⟨h, h'⟩; exact .inl h; exact .inr ⟨h, by omega⟩)]
theorem withinP_pxE {e f : Bs × Int} (h1 : e.1.length ≤ 32) (h2 : f.1.length ≤ 32) : withinP (pxE e) (pxE f) = decide (e.1 <+: f.1) := by
  rw [withinP_iff (pxE_lt h1) (pxE_lt h2) (pxE_may h1) (pxE_may h2), pB_pxE h1, pB_pxE h2]
theorem lastE_mem {L : List (Bs × Int)} (h : L ≠ []) : lastE L ∈ L := by
  unfold lastE
  rw [List.getLast?_eq_some_getLast h]
  exact List.getLast_mem h
theorem lastE_snoc (L : List (Bs × Int)) (x : Bs × Int) : lastE (L ++ [x]) = x := by simp [lastE]
theorem last_lt {L pre : List (Bs × Int)} {x : Bs × Int} (hs : SortedB L) (h : pre ++ [x] <+: L) (hne : pre ≠ []) : ltB (lastE pre).1 x.1 = true := by
  obtain ⟨r, rfl⟩ := h
  unfold SortedB at hs
  rw [List.append_assoc, List.pairwise_append] at hs
  exact hs.2.2 _ (lastE_mem hne) _ (by simp)
theorem cov_chain {A : Bs} {e f : Bs × Int} (he : e.1 <+: A) (hf : f.1 <+: A) (hlt : ltB e.1 f.1 = true) : e.1 <+: f.1 ∧ e.1.length < f.1.length := by
  have hne : e.1 ≠ f.1 := fun h => by rw [h, ltB_irrefl] at hlt; cases hlt
  rcases List.prefix_or_prefix_of_prefix he hf with h | h
  · exact ⟨h, Nat.lt_of_le_of_ne h.length_le fun hl => hne (h.eq_of_length hl)⟩
  · have := ltB_asymm (ltB_pre h fun e => hne e.symm)
    rw [hlt] at this
    cases this
theorem covS_sorted {A : Bs} {L : List (Bs × Int)} (h : SortedB L) : SortedB (covS A L) := List.Pairwise.filter _ h
theorem covS_mem {A : Bs} {L : List (Bs × Int)} {e : Bs × Int} (h : e ∈ covS A L) : e ∈ L ∧ e.1 <+: A := by
  obtain ⟨h1, h2⟩ := List.mem_filter.1 h
  exact ⟨h1, by simpa using h2⟩
theorem covS_snoc (A : Bs) (L : List (Bs × Int)) (x : Bs × Int) : (covS A (L ++ [x])).length = (covS A L).length + if x.1 <+: A then 1 else 0 := by
  rw [covS_app, List.length_append]
  congr 1
  unfold covS
  by_cases h : x.1 <+: A <;> simp [h]
theorem covS_len (A : Bs) (L : List (Bs × Int)) : (covS A L).length ≤ L.length := List.length_filter_le _ _
theorem mem_snoc {L pre : List (Bs × Int)} {x : Bs × Int} (h : pre ++ [x] <+: L) : x ∈ L := h.subset (by simp)
end Go.Proofs.Ytejiecebckjflaa
