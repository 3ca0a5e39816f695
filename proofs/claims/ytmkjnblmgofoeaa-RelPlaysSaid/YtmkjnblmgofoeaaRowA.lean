/- Readings of acts. -/
import Derived.Test.YtmkjnblmgofoeaaRowR
namespace Go.Proofs.Ytmkjnblmgofoeaa
open Go.ChangeShapes Go.WideShapes Go.ChangeAt Go.RowKit

/-- An act of an argument. -/
structure Ac where
  kind : Int
  u : Value
  x : List UInt8
  g : Sg
def Ac.cells (a : Ac) : List Value := .int .i64 a.kind :: a.u :: a.g.cells
def AcRd (w : World) (a : Ac) : Prop := (∃ A c, a.u = .slice A a.x.length c ∧ Reads w (fun k => k < w.heap.size) 1 A a.x.length (bytesV a.x)) ∧ SgRd w a.g

section
variable {H : Type} {enc : TypeId × Value → H} {w : World} {spare : Nat → Bool} {held : Bool}
theorem elem_act (n : Nat) (cs : List Value) (x : DataW H × List MemPlace) (h : DataW.trod enc Try.prog w 0 spare held n 50 cs = some x) (hl : Light Try.prog 50 x.1) :
    ∃ a : Ac, cs = a.cells ∧ AcRd w a := by
  obtain ⟨y0, y1, y2, m, rfl, hlen, t0, t1, t2⟩ := Go.Deep.trod_struct3 Try.underlying50 h
  have hC : Try.prog.cellsOf 50 = 5 := by kernel_rfl
  have hC0 : Try.prog.cellsOf 3 = 1 := by kernel_rfl
  have hC1 : Try.prog.cellsOf 29 = 1 := by kernel_rfl
  have hC2 : Try.prog.cellsOf 33 = 3 := by kernel_rfl
  rw [hC] at hlen
  obtain ⟨a, b, c, d, e, rfl⟩ : ∃ a b c d e, cs = [a, b, c, d, e] := by
    match cs, hlen with
    | [a, b, c, d, e], _ => exact ⟨a, b, c, d, e, rfl⟩
  have l1 : Light Try.prog 29 y1.1 := light_field Try.underlying50 hl (j := 1) rfl rfl
  have l2 : Light Try.prog 33 y2.1 := light_field Try.underlying50 hl (j := 2) rfl rfl
  simp only [hC0, hC1, hC2] at t0 t1 t2
  obtain ⟨z0, e0, _⟩ := elem_int Try.underlying3 _ _ _ t0
  obtain ⟨y, e1, hr, _⟩ := elem_bytes Try.underlying29 _ _ _ t1 l1
  obtain ⟨g, e2, hg⟩ := elem_seg _ _ _ t2 l2
  obtain rfl : a = _ := by simpa using e0
  obtain rfl : b = _ := by simpa using e1
  have e3 : [c, d, e] = g.cells := by simpa using e2
  exact ⟨⟨z0, y.v, y.x, g⟩, by simp only [Ac.cells]; rw [← e3], ⟨y.A, y.c, rfl, hr⟩, hg⟩

/-- An argument []Act. -/
theorem arg_acts {t : TypeId} (ht : Try.prog.underlying t = some (.slice 50)) (hB : Try.prog.bytesOf 50 = 72) {v : Value} {d : DataW H} {p : List MemPlace}
    (h : DataW.Trod enc Try.prog w 0 spare held t v d p) (hv : v.cells = #[v]) (hw : Light Try.prog t d) :
    ∃ (A : Option Addr) (n c : Nat) (l : List Ac), v = .slice A n c ∧ Reads w (fun k => k < w.heap.size) 5 A n (l.flatMap Ac.cells) ∧ l.length = n ∧ ∀ a ∈ l, AcRd w a := by
  obtain ⟨fuel, hf⟩ := h
  obtain ⟨A, n, c, ys, hcs, hr, hlen, hR, hn, hc⟩ := open_elems Ac.cells (fun a => AcRd w a) 5 72 ht (by kernel_rfl) hB (fun _ => rfl) (by omega) (fun n cs x h hl => elem_act n cs x h hl) hf hw
  rw [hv] at hcs
  simp at hcs
  exact ⟨A, n, c, ys, hcs, hr, hlen, hR⟩
end
end Go.Proofs.Ytmkjnblmgofoeaa
