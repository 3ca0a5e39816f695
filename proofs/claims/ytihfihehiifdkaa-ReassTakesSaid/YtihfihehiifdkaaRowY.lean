/- Readings of slices of ints. -/
import Derived.Test.YtihfihehiifdkaaRowI
namespace Go.Proofs.Ytihfihehiifdkaa
open Go.ChangeShapes Go.WideShapes Go.ChangeAt Go.RowKit
section
variable {H : Type} {enc : TypeId × Value → H} {w : World} {spare : Nat → Bool} {held : Bool}
/-- An argument []int. -/
theorem arg_ints {t : TypeId} (ht : Try.prog.underlying t = some (.slice 3)) {v : Value} {d : DataW H} {p : List MemPlace}
    (h : DataW.Trod enc Try.prog w 0 spare held t v d p) (hv : v.cells = #[v]) (hw : Light Try.prog t d) :
    ∃ (A : Option Addr) (n c : Nat) (l : List Int), v = .slice A n c ∧ Reads w (fun k => k < w.heap.size) 1 A n (l.map (Value.int .i64)) ∧ (∀ z ∈ l, (Lit.int .i64 z).wf = true) ∧ l.length = n ∧ n * 8 ≤ 140737488351232 ∧ n ≤ c := by
  obtain ⟨fuel, hf⟩ := h
  obtain ⟨A, n, c, ys, hcs, hr, hlen, hR, hn, hc⟩ := open_elems (fun z => [Value.int .i64 z]) (fun z => (Lit.int .i64 z).wf = true) 1 8 ht (by kernel_rfl) (by kernel_rfl) (fun _ => rfl) Nat.one_pos (fun n cs x h _ => elem_int Try.underlying3 n cs x h) hf hw
  rw [hv] at hcs
  simp at hcs
  rw [flat_one] at hr
  exact ⟨A, n, c, ys, hcs, hr, hR, hlen, by unfold reachBytes at hn; omega, hc⟩
end
end Go.Proofs.Ytihfihehiifdkaa
