/- Readings of segments. -/
import Derived.Test.YtmkjnblmgofoeaaRowB
import Derived.Test.YtmkjnblmgofoeaaAckW
import Derived.Deep.Strs
namespace Go.Proofs.Ytmkjnblmgofoeaa
open Go.ChangeShapes Go.WideShapes Go.ChangeAt Go.RowKit

theorem wf_u64 {z : Int} (h : (Lit.int .u64 z).wf = true) : 0 ≤ z ∧ z < 18446744073709551616 := by
  have h1 : IntKind.u64.min = 0 := rfl
  have h2 : IntKind.u64.max = 18446744073709551615 := rfl
  simp only [Lit.wf, Bool.and_eq_true, decide_eq_true_eq] at h
  omega

section
variable {H : Type} {enc : TypeId × Value → H} {w : World} {spare : Nat → Bool} {held : Bool}
theorem light_field {P : Program} {t : TypeId} {fs : Array Field} (ht : P.underlying t = some (.struct fs)) {ds : List (DataW H)} (h : Light P t (.agg ds)) {j : Nat} {f : Field} {d : DataW H} (hf : fs[j]? = some f) (hd : ds[j]? = some d) : Light P f.type d :=
  fun k hk => h k (by
    simp only [DataW.weights, ht]
    exact DataW.weights_mem_each (j := j) (by simp [hf]) hd k hk)

theorem elem_seg (n : Nat) (cs : List Value) (x : DataW H × List MemPlace) (h : DataW.trod enc Try.prog w 0 spare held n 33 cs = some x) (hl : Light Try.prog 33 x.1) :
    ∃ g : Sg, cs = g.cells ∧ SgRd w g := by
  obtain ⟨y0, y1, y2, m, rfl, hlen, t0, t1, t2⟩ := Go.Deep.trod_struct3 Try.underlying33 h
  have hC : Try.prog.cellsOf 33 = 3 := by kernel_rfl
  have hC0 : Try.prog.cellsOf 28 = 1 := by kernel_rfl
  have hC2 : Try.prog.cellsOf 29 = 1 := by kernel_rfl
  rw [hC] at hlen
  obtain ⟨a, b, c, rfl⟩ : ∃ a b c, cs = [a, b, c] := by
    match cs, hlen with
    | [a, b, c], _ => exact ⟨a, b, c, rfl⟩
  have l2 : Light Try.prog 29 y2.1 := light_field Try.underlying33 hl (j := 2) rfl rfl
  simp only [hC0, hC2] at t0 t1 t2
  obtain ⟨z0, e0, w0⟩ := elem_int Try.underlying28 _ _ _ t0
  obtain ⟨z1, e1, w1⟩ := elem_int Try.underlying28 _ _ _ t1
  obtain ⟨y, e2, hr, _⟩ := elem_bytes Try.underlying29 _ _ _ t2 l2
  obtain rfl : a = _ := by simpa using e0
  obtain rfl : b = _ := by simpa using e1
  obtain rfl : c = _ := by simpa using e2
  have b0 := wf_u64 w0
  have b1 := wf_u64 w1
  refine ⟨⟨z0.toNat, z1.toNat, y.v, y.x⟩, ?_, y.A, y.c, rfl, hr⟩
  simp only [Sg.cells]
  rw [Int.toNat_of_nonneg b0.1, Int.toNat_of_nonneg b1.1]

/-- An argument []api.Segment. -/
theorem arg_segs {t : TypeId} (ht : Try.prog.underlying t = some (.slice 33)) (hB : Try.prog.bytesOf 33 = 40) {v : Value} {d : DataW H} {p : List MemPlace}
    (h : DataW.Trod enc Try.prog w 0 spare held t v d p) (hv : v.cells = #[v]) (hw : Light Try.prog t d) :
    ∃ (A : Option Addr) (n c : Nat) (l : List Sg), v = .slice A n c ∧ Reads w (fun k => k < w.heap.size) 3 A n (sgCells l) ∧ l.length = n ∧ ∀ g ∈ l, SgRd w g := by
  obtain ⟨fuel, hf⟩ := h
  obtain ⟨A, n, c, ys, hcs, hr, hlen, hR, hn, hc⟩ := open_elems Sg.cells (fun g => SgRd w g) 3 40 ht (by kernel_rfl) hB (fun _ => rfl) (by omega) (fun n cs x h hl => elem_seg n cs x h hl) hf hw
  rw [hv] at hcs
  simp at hcs
  exact ⟨A, n, c, ys, hcs, hr, hlen, hR⟩
end
end Go.Proofs.Ytmkjnblmgofoeaa
