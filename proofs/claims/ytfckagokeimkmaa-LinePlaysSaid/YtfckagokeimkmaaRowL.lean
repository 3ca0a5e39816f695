/- Readings of the line's acts. -/
import Derived.Test.YtfckagokeimkmaaRowB
import Derived.Deep.Strs
namespace Go.Proofs.Ytfckagokeimkmaa
open Go.ChangeShapes Go.WideShapes Go.ChangeAt Go.RowKit
/-- An act of an argument. -/
structure LAc where
  kind : Int
  s : SlB
def LAc.cells (a : LAc) : List Value := [.int .i64 a.kind, .slice a.s.A a.s.x.length a.s.c]
def LAcRd (w : World) (a : LAc) : Prop := Reads w (fun k => k < w.heap.size) 1 a.s.A a.s.x.length (bytesV a.s.x) ∧ a.s.x.length ≤ 140737488351232
section
variable {H : Type} {enc : TypeId × Value → H} {w : World} {spare : Nat → Bool} {held : Bool}
theorem light_field {P : Program} {t : TypeId} {fs : Array Field} (ht : P.underlying t = some (.struct fs)) {ds : List (DataW H)} (h : Light P t (.agg ds)) {j : Nat} {f : Field} {d : DataW H} (hf : fs[j]? = some f) (hd : ds[j]? = some d) : Light P f.type d :=
  fun k hk => h k (by
    simp only [DataW.weights, ht]
    exact DataW.weights_mem_each (j := j) (by simp [hf]) hd k hk)
set_option maxRecDepth 100000 in
theorem elem_lac (n : Nat) (cs : List Value) (x : DataW H × List MemPlace) (h : DataW.trod enc Try.prog w 0 spare held n 49 cs = some x) (hl : Light Try.prog 49 x.1) : ∃ a : LAc, cs = a.cells ∧ LAcRd w a := by
  obtain ⟨y0, y1, m, rfl, hlen, t0, t1⟩ := trod_struct2 Try.underlying49 h
  have hC : Try.prog.cellsOf 49 = 2 := by kernel_rfl
  have hC1 : Try.prog.cellsOf 3 = 1 := by kernel_rfl
  have hC2 : Try.prog.cellsOf 30 = 1 := by kernel_rfl
  have l1 : Light Try.prog 30 y1.1 := light_field Try.underlying49 hl (j := 1) rfl rfl
  rw [hC] at hlen
  obtain ⟨a, b, rfl⟩ : ∃ a b, cs = [a, b] := by
    match cs, hlen with
    | [a, b], _ => exact ⟨a, b, rfl⟩
  simp only [hC1, hC2] at t0 t1
  obtain ⟨z0, e0, _⟩ := elem_int Try.underlying3 _ _ _ t0
  obtain ⟨y, e1, hr, hn, _⟩ := elem_bytes Try.underlying30 _ _ _ t1 l1
  obtain rfl : a = _ := by simpa using e0
  obtain rfl : b = _ := by simpa using e1
  exact ⟨⟨z0, y⟩, rfl, hr, hn⟩
set_option maxRecDepth 100000 in
/-- An argument []Act. -/
theorem arg_lacs {t : TypeId} (ht : Try.prog.underlying t = some (.slice 49)) {v : Value} {d : DataW H} {p : List MemPlace}
    (h : DataW.Trod enc Try.prog w 0 spare held t v d p) (hv : v.cells = #[v]) (hw : Light Try.prog t d) :
    ∃ (A : Option Addr) (n c : Nat) (l : List LAc), v = .slice A n c ∧ Reads w (fun k => k < w.heap.size) 2 A n (l.flatMap LAc.cells) ∧ l.length = n ∧ ∀ a ∈ l, LAcRd w a := by
  obtain ⟨fuel, hf⟩ := h
  obtain ⟨A, n, c, ys, hcs, hr, hlen, hR, hn, hc⟩ := open_elems LAc.cells (fun a => LAcRd w a) 2 32 ht (by kernel_rfl) (by kernel_rfl) (fun _ => rfl) (by omega) (fun n cs x h hl => elem_lac n cs x h hl) hf hw
  rw [hv] at hcs
  simp at hcs
  exact ⟨A, n, c, ys, hcs, hr, hlen, hR⟩
end
end Go.Proofs.Ytfckagokeimkmaa
