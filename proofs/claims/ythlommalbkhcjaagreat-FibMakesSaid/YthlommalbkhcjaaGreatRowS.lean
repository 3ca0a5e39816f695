/- Readings of ways. -/
import Derived.Test.YthlommalbkhcjaaGreatRow
import Derived.Test.YthlommalbkhcjaaGreatSpB
import Derived.Deep.Strs
namespace Go.Proofs.YthlommalbkhcjaaGreat
open Go.ChangeShapes Go.WideShapes Go.ChangeAt Go.RowKit
section
variable {H : Type} {enc : TypeId × Value → H} {w : World} {spare : Nat → Bool} {held : Bool}
set_option maxRecDepth 100000 in
theorem elem_nx (n : Nat) (cs : List Value) (x : DataW H × List MemPlace) (h : DataW.trod enc Tryz.prog w 0 spare held n 110 cs = some x) : ∃ g : Nx, cs = nxC g ∧ True := by
  obtain ⟨y0, y1, m, rfl, hlen, t0, t1⟩ := trod_struct2 Tryz.underlying110 h
  have hC : Tryz.prog.cellsOf 110 = 2 := by kernel_rfl
  have hC1 : Tryz.prog.cellsOf 3 = 1 := by kernel_rfl
  rw [hC] at hlen
  obtain ⟨a, b, rfl⟩ : ∃ a b, cs = [a, b] := by
    match cs, hlen with
    | [a, b], _ => exact ⟨a, b, rfl⟩
  simp only [hC1] at t0 t1
  obtain ⟨z0, e0, _⟩ := elem_int Tryz.underlying3 _ _ _ t0
  obtain ⟨z1, e1, _⟩ := elem_int Tryz.underlying3 _ _ _ t1
  obtain rfl : a = _ := by simpa using e0
  obtain rfl : b = _ := by simpa using e1
  exact ⟨(z0, z1), rfl, trivial⟩
set_option maxRecDepth 100000 in
/-- An argument []api.Next. -/
theorem arg_nexts {t : TypeId} (ht : Tryz.prog.underlying t = some (.slice 110)) {v : Value} {d : DataW H} {p : List MemPlace}
    (h : DataW.Trod enc Tryz.prog w 0 spare held t v d p) (hv : v.cells = #[v]) (hw : Light Tryz.prog t d) :
    ∃ (A : Option Addr) (n c : Nat) (l : List Nx), v = .slice A n c ∧ Reads w (fun k => k < w.heap.size) 2 A n (l.flatMap nxC) ∧ l.length = n := by
  obtain ⟨fuel, hf⟩ := h
  obtain ⟨A, n, c, ys, hcs, hr, hlen, _, hn, hc⟩ := open_elems nxC (fun _ => True) 2 16 ht (by kernel_rfl) (by kernel_rfl) (fun _ => rfl) (by omega) (fun n cs x h _ => elem_nx n cs x h) hf hw
  rw [hv] at hcs
  simp at hcs
  exact ⟨A, n, c, ys, hcs, hr, hlen⟩
end
end Go.Proofs.YthlommalbkhcjaaGreat
