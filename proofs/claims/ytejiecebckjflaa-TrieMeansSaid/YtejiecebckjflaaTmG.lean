/- TrieMeans' walk, as its row asks for it; acts with their ranges. -/
import Derived.Test.YtejiecebckjflaaTmW
namespace Go.Proofs.Ytejiecebckjflaa
open Go.ChangeShapes Go.WideShapes Go.ChangeAt Go.RowKit
section
variable {H : Type} {enc : TypeId × Value → H} {w : World} {spare : Nat → Bool} {held : Bool}
theorem elem_px_ok (n : Nat) (cs : List Value) (x : DataW H × List MemPlace) (h : DataW.trod enc Try.prog w 0 spare held n 31 cs = some x) : ∃ g : Px, cs = g.cells ∧ g.ok := by
  obtain ⟨y0, y1, m, rfl, hlen, t0, t1⟩ := trod_struct2 Try.underlying31 h
  have hC : Try.prog.cellsOf 31 = 2 := by kernel_rfl
  have hC0 : Try.prog.cellsOf 24 = 1 := by kernel_rfl
  have hC1 : Try.prog.cellsOf 3 = 1 := by kernel_rfl
  rw [hC] at hlen
  obtain ⟨a, b, rfl⟩ : ∃ a b, cs = [a, b] := by
    match cs, hlen with
    | [a, b], _ => exact ⟨a, b, rfl⟩
  simp only [hC0, hC1] at t0 t1
  obtain ⟨z0, e0, w0⟩ := elem_int Try.underlying24 _ _ _ t0
  obtain ⟨z1, e1, w1⟩ := elem_int Try.underlying3 _ _ _ t1
  obtain rfl : a = _ := by simpa using e0
  obtain rfl : b = _ := by simpa using e1
  have b0 := wf_u32 w0
  exact ⟨⟨z0.toNat, z1⟩, by simp only [Px.cells]; rw [Int.toNat_of_nonneg b0.1], by show z0.toNat < _; omega, w1⟩
theorem elem_act_ok (n : Nat) (cs : List Value) (x : DataW H × List MemPlace) (h : DataW.trod enc Try.prog w 0 spare held n 33 cs = some x) : ∃ g : AcT, cs = g.cells ∧ (g.p.ok ∧ (Lit.int .i64 g.v).wf = true) := by
  obtain ⟨y0, y1, y2, m, rfl, hlen, t0, t1, t2⟩ := Go.Deep.trod_struct3 Try.underlying33 h
  have hC : Try.prog.cellsOf 33 = 4 := by kernel_rfl
  have hC0 : Try.prog.cellsOf 4 = 1 := by kernel_rfl
  have hC1 : Try.prog.cellsOf 31 = 2 := by kernel_rfl
  have hC2 : Try.prog.cellsOf 3 = 1 := by kernel_rfl
  rw [hC] at hlen
  obtain ⟨a, b, c, d, rfl⟩ : ∃ a b c d, cs = [a, b, c, d] := by
    match cs, hlen with
    | [a, b, c, d], _ => exact ⟨a, b, c, d, rfl⟩
  simp only [hC0, hC1, hC2] at t0 t1 t2
  obtain ⟨z0, e0⟩ := elem_bool Try.underlying4 _ _ _ t0
  obtain ⟨g, e1, hg⟩ := elem_px_ok _ _ _ t1
  obtain ⟨z2, e2, w2⟩ := elem_int Try.underlying3 _ _ _ t2
  obtain rfl : a = _ := by simpa using e0
  obtain rfl : d = _ := by simpa using e2
  have e3 : [b, c] = g.cells := by simpa using e1
  exact ⟨⟨z0, g, z2⟩, by simp only [AcT.cells]; rw [← e3]; rfl, hg, w2⟩
/-- An argument []Act. -/
theorem arg_acts_ok {t : TypeId} (ht : Try.prog.underlying t = some (.slice 33)) {v : Value} {d : DataW H} {p : List MemPlace}
    (h : DataW.Trod enc Try.prog w 0 spare held t v d p) (hv : v.cells = #[v]) (hw : Light Try.prog t d) :
    ∃ (A : Option Addr) (n c : Nat) (l : List AcT), v = .slice A n c ∧ Reads w (fun k => k < w.heap.size) 4 A n (l.flatMap AcT.cells) ∧ l.length = n ∧ ∀ g ∈ l, g.p.ok ∧ (Lit.int .i64 g.v).wf = true := by
  obtain ⟨fuel, hf⟩ := h
  obtain ⟨A, n, c, ys, hcs, hr, hlen, hR, hn, hc⟩ := open_elems AcT.cells (fun g => g.p.ok ∧ (Lit.int .i64 g.v).wf = true) 4 32 ht (by kernel_rfl) (by kernel_rfl) (fun _ => rfl) (by omega) (fun n cs x h _ => elem_act_ok n cs x h) hf hw
  rw [hv] at hcs
  simp at hcs
  exact ⟨A, n, c, ys, hcs, hr, hlen, hR⟩
end
theorem means_go (A : Option Addr) (n c : Nat) (l : List AcT) (b : Int) (w : World) (r : Reads w (fun k => k < w.heap.size) 4 A n (l.flatMap AcT.cells)) (hl : l.length = n) (hg : ∀ x ∈ l, x.p.ok ∧ (Lit.int .i64 x.v).wf = true) (hb : (Lit.int .u32 b).wf = true) :
    Calls Try.prog 3 #[.slice A n c, .int .u32 b] w fun e w' => e = .returned (.bool true) ∧ Below w.heap.size w w' := by
  have h := wf_u32 hb
  have := means_any A n c l b.toNat w r hl hg (by omega)
  rwa [Int.toNat_of_nonneg h.1] at this
end Go.Proofs.Ytejiecebckjflaa
