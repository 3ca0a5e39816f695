/- Clones of slices of byte slices. -/
import Derived.Test.YtfckagokeimkmaaB8
namespace Go.Proofs.Ytfckagokeimkmaa
open Go.RowKit
theorem info_sl8 : (Try.prog.info? 30).map (fun i => (i.zero, i.size, i.bytes)) = some (some (.slice none 0 0), 1, 24) := by kernel_rfl
set_option maxHeartbeats 400000 in
theorem cloneS_any (A : Option Addr) (n c : Nat) (xs : List Value) (I : Nat → Prop) (w : World) (h : Reads w I 1 A n xs) (h1 : ∀ u ∈ xs, u.oneCell' = true) (hn : n * 24 ≤ 140737488355328) :
    Calls Try.prog 23 #[.slice A n c] w fun e w' => ∃ v, e = .returned v ∧ w'.ownsRow w.heap.size 30 1 v n xs ∧ Below w.heap.size w w' := by
  have hE := fun (w : World) (a : Option Addr) => Lib.run_eql_slice_nil (P := Try.prog) w 22 30 a n c 0 0 Try.underlying22
  rcases A with _ | ad
  · have h0 : n = 0 := by
      rcases Nat.eq_zero_or_pos n with h0 | h0
      · exact h0
      · obtain ⟨ad, h, _⟩ := h.2 h0
        cases h
    subst h0
    have hx : xs = [] := List.eq_nil_of_length_eq_zero (by simpa using h.1)
    subst hx
    clear h h1
    go_enter Try.func23, Try.ntmps23
    go_wp2
    go_ret
    exact ⟨_, rfl, World.ownsRow_nil _ _ _ _, Below.refl _ _⟩
  · obtain ⟨i0, hi, hz0, hz1, hz2⟩ := info_parts info_sl8
    have hown : (w.alloc (.cells #[] 30)).ownsRow w.heap.size 30 1 (.slice (some ⟨w.heap.size, 0, none⟩) 0 0) 0 [] := own_alloc_lit w.heap.size 30 1 #[] 0 (Nat.le_refl _) (Nat.zero_le _) rfl
    have hr : Reads (w.alloc (.cells #[] 30)) (fun k => I k ∧ k < w.heap.size) 1 (some ad) n xs := (h.lt).keep (Same.ofBelow ((Below.refl w.heap.size w).alloc (Nat.le_refl _) _) fun _ x => x.2)
    have hs : w.heap.size ≤ (w.alloc (.cells #[] 30)).heap.size := by simp
    have hm : 0 + n ≤ maxLen := by unfold maxLen; omega
    have hB := (Below.refl w.heap.size w).alloc (Nat.le_refl _) (.cells #[] 30)
    clear h
    go_enter Try.func23, Try.ntmps23
    go_wp2_with (at_builtin; refine wpList_append_any _ rfl (.tmp 5) (.tmp 6) _ rfl w.heap.size 30 i0 _ 1 24 Try.underlying22 hi hz0 hz1 hz2 rfl (by omega) (.slice (some ⟨w.heap.size, 0, none⟩) 0 0) 0 [] rfl hown _ (some ad) n c xs rfl hr h1 hm (by omega) hs ?_; intro v1 w1 hown1 hg1 hat1)
    go_ret
    refine ⟨v1, rfl, by simpa using hown1, hB.grown hg1 hs fun k hk => ?_⟩
    injection hk with hk
    exact Nat.le_of_eq hk
end Go.Proofs.Ytfckagokeimkmaa
