/- The document's Common: the plain law. -/
import Derived.Test.YtejiecebckjflaaToL
namespace Go.Proofs.Ytejiecebckjflaa
/-- The prefix of n bits at e's start. -/
def topP (e : Bs × Int) (n : Nat) : Px := ⟨firstB (padB e.1) n, n⟩
theorem topP_eq {e : Bs × Int} {n : Nat} (he : e.1.length ≤ 32) (hn : n ≤ 32) : topP e n = pxE (bitsB (padB e.1) n, 0) := by
  unfold topP pxE
  rw [firstB_pad (padB_lt _ he) hn]
  simp [bitsB]
theorem top_both {e f : Bs × Int} {n : Nat} (he : e.1.length ≤ 32) (hf : f.1.length ≤ 32) (hn : n ≤ 32) : (withinP (topP e n) (pxE e) && withinP (topP e n) (pxE f)) = decide (n ≤ (lcpB e.1 f.1).length) := by
  have hl : (bitsB (padB e.1) n).length = n := by simp [bitsB]
  rw [topP_eq he hn, withinP_pxE (by simp only; omega) he, withinP_pxE (by simp only; omega) hf, ← Bool.decide_and, decide_eq_decide]
  constructor
  · rintro ⟨h1, h2⟩
    have h3 := (lcp_great h1 h2).length_le
    simp only [hl] at h3
    exact h3
  · intro h
    have key : bitsB (padB e.1) n = (lcpB e.1 f.1).take n := by
      have h1 : (lcpB e.1 f.1).length ≤ e.1.length := (lcp_left e.1 f.1).length_le
      have h2 : e.1.take n = bitsB (padB e.1) n := by
        have h3 := bits_pad e.1 he
        rw [← bitsB_take (padB e.1) n e.1.length (by omega), h3]
      obtain ⟨r, hr⟩ := lcp_left e.1 f.1
      rw [← h2]
      conv => lhs; rw [← hr]
      rw [List.take_append_of_le_length h]
    simp only [key]
    exact ⟨(List.take_prefix _ _).trans (lcp_left _ _), (List.take_prefix _ _).trans (lcp_right _ _)⟩
end Go.Proofs.Ytejiecebckjflaa
