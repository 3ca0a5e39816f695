/- Readings of slices of byte slices. -/
import Derived.Test.YtihfihehiifdkaaRowY
import Derived.Test.YtihfihehiifdkaaFqL
namespace Go.Proofs.Ytihfihehiifdkaa
open Go.ChangeShapes Go.WideShapes Go.ChangeAt Go.RowKit
/-- A slice of bytes that came in. -/
structure SlV where
  A : Option Addr
  c : Nat
  x : By
def SlV.v (y : SlV) : Value := .slice y.A y.x.length y.c
section
variable {H : Type} {enc : TypeId × Value → H} {w : World} {spare : Nat → Bool} {held : Bool}
/-- An argument [][]byte. -/
theorem arg_by8s {t : TypeId} (ht : Try.prog.underlying t = some (.slice 22)) {v : Value} {d : DataW H} {p : List MemPlace}
    (h : DataW.Trod enc Try.prog w 0 spare held t v d p) (hv : v.cells = #[v]) (hw : Light Try.prog t d) :
    ∃ (A : Option Addr) (n c : Nat) (l : List SlV), v = .slice A n c ∧ Lst8 w (fun k => k < w.heap.size) A n (l.map SlV.v) (l.map SlV.x) ∧ n ≤ c := by
  obtain ⟨fuel, hf⟩ := h
  obtain ⟨A, n, c, ys, hcs, hr, hlen, hR, hn, hc⟩ := open_elems (fun y : SlV => [y.v]) (fun y => Reads w (fun k => k < w.heap.size) 1 y.A y.x.length (bytesV y.x) ∧ y.x.length ≤ y.c) 1 24 ht (by kernel_rfl) (by kernel_rfl) (fun _ => rfl) Nat.one_pos (fun n cs x h hl => by
    obtain ⟨A, c, y, e, h1, h2⟩ := elem_bytes Try.underlying22 n cs x h hl
    exact ⟨⟨A, c, y⟩, e, h1, h2⟩) hf hw
  rw [hv] at hcs
  simp at hcs
  rw [flat_one] at hr
  refine ⟨A, n, c, ys, hcs, ⟨hr, by rw [List.length_map]; exact hlen, fun k x hx => ?_⟩, hc⟩
  rw [List.getElem?_map] at hx
  cases hy : ys[k]? with
  | none => rw [hy] at hx; cases hx
  | some y =>
    rw [hy] at hx
    injection hx with hx
    subst hx
    have hm := hR y (List.mem_of_getElem? hy)
    exact ⟨y.A, y.c, by rw [List.getElem?_map, hy]; rfl, hm.2, hm.1⟩
end
end Go.Proofs.Ytihfihehiifdkaa
