
/- Shares, read again; known numbers. -/
import Derived.Test.YthlommalbkhcjaaGreatSpS
namespace Go.Proofs.YthlommalbkhcjaaGreat
open Go.RowKit Go.Sort
theorem shares_get {l : List Nx} {i : Nat} (hi : i < l.length) : (sharesF l)[i]? = some (shF l i) := by
  unfold sharesF
  rw [List.getElem?_map, List.getElem?_range hi]
  rfl
theorem shares_len (l : List Nx) : (sharesF l).length = l.length := by unfold sharesF; simp
theorem Reads.nat {w : World} {I : Nat → Prop} {A : Option Addr} {n : Nat} {xs : List Nat} (h : Reads w I 1 A n (natsV xs)) (hn : xs.length = n) {D : Nat} (hI : ∀ k, I k → k < D) {k : Nat} (hk : k < n) : ∃ ad x, A = some ad ∧ xs[k]? = some x ∧ ∀ wx, Below D w wx → wx.cell? (ad.add k) = some (.int .i64 (x : Int)) := by
  have hx : xs[k]? = some (xs[k]'(by omega)) := List.getElem?_eq_getElem _
  obtain ⟨ad, e, hj, hadl, hc⟩ := h.2 (by omega)
  exact ⟨ad, _, e, hx, fun wx hb => (hb.cell (by rw [block_of_add]; exact hI _ hj)).trans (hc _ _ (natsV_get hx))⟩
theorem take_eq_nat {x y : List Nat} {k a b : Nat} (hx : x[k]? = some a) (hy : y[k]? = some b) (h : x.take k = y.take k) (e : a = b) : x.take (k + 1) = y.take (k + 1) := by
  obtain ⟨l1, e1⟩ := List.getElem?_eq_some_iff.1 hx
  obtain ⟨l2, e2⟩ := List.getElem?_eq_some_iff.1 hy
  rw [List.take_succ_eq_append_getElem l1, List.take_succ_eq_append_getElem l2, h, e1, e2, e]
def knL : List Nx := [(0, 0), (1, 0), (2, 1)]
theorem knL_may : mayF knL = true := by kernel_rfl
theorem knL_sh : sharesF knL = [103, 102, 51] := by kernel_rfl
theorem knM_may : mayF [(3, 7)] = true := by kernel_rfl
theorem knM_sh : sharesF [(3, 7)] = [256] := by kernel_rfl
theorem kn_wt : wtF (0, 2) = 21845 := by kernel_rfl
theorem kn_may0 : mayF [] = false := by kernel_rfl
theorem reads_own_nat {w : World} {B : Nat} {A : Option Addr} {n c : Nat} {xs : List Nat} (h : w.ownsRow B 3 1 (.slice A n c) n (natsV xs)) : Reads w (fun k => B ≤ k ∧ k < w.heap.size) 1 A n (natsV xs) := Reads.of_own h fun _ hg => own_lt h hg
end Go.Proofs.YthlommalbkhcjaaGreat
