/- Readings of prefixes and of a core's events. -/
import Derived.Test.YtahdjfegihnolaaRow
import Derived.Test.YtahdjfegihnolaaLyB
import Derived.Lib.SmallJoins
import Derived.Deep.Strs
namespace Go.Proofs.Ytahdjfegihnolaa
open Go.ChangeShapes Go.WideShapes Go.ChangeAt Go.RowKit
theorem wf_u32E {z : Int} (h : (Lit.int .u32 z).wf = true) : 0 ≤ z ∧ z < 4294967296 := by
  have h1 : IntKind.u32.min = 0 := rfl
  have h2 : IntKind.u32.max = 4294967295 := rfl
  simp only [Lit.wf, Bool.and_eq_true, decide_eq_true_eq] at h
  omega
def evC (e : Ev) : List Value := [.int .i64 e.kind, .int .i64 e.port, .int .i64 e.cost, .int .u32 (e.p.1 : Int), .int .i64 e.p.2, .int .i64 e.dist]
section
variable {H : Type} {enc : TypeId × Value → H} {w : World} {spare : Nat → Bool} {held : Bool}
set_option maxRecDepth 100000 in
theorem elem_pf (n : Nat) (cs : List Value) (x : DataW H × List MemPlace) (h : DataW.trod enc Try.prog w 0 spare held n 36 cs = some x) : ∃ g : Pf, cs = pfE g ∧ g.1 < 2 ^ 32 := by
  obtain ⟨y0, y1, m, rfl, hlen, t0, t1⟩ := trod_struct2 Try.underlying36 h
  have hC : Try.prog.cellsOf 36 = 2 := by kernel_rfl
  have hC0 : Try.prog.cellsOf 34 = 1 := by kernel_rfl
  have hC1 : Try.prog.cellsOf 3 = 1 := by kernel_rfl
  rw [hC] at hlen
  obtain ⟨a, b, rfl⟩ : ∃ a b, cs = [a, b] := by
    match cs, hlen with
    | [a, b], _ => exact ⟨a, b, rfl⟩
  simp only [hC0, hC1] at t0 t1
  obtain ⟨z0, e0, w0⟩ := elem_int Try.underlying34 _ _ _ t0
  obtain ⟨z1, e1, _⟩ := elem_int Try.underlying3 _ _ _ t1
  obtain rfl : a = _ := by simpa using e0
  obtain rfl : b = _ := by simpa using e1
  have b0 := wf_u32E w0
  exact ⟨(z0.toNat, z1), by simp only [pfE]; rw [Int.toNat_of_nonneg b0.1], by show z0.toNat < _; omega⟩
set_option maxRecDepth 100000 in
theorem elem_ev (n : Nat) (cs : List Value) (x : DataW H × List MemPlace) (h : DataW.trod enc Try.prog w 0 spare held n 38 cs = some x) : ∃ g : Ev, cs = evC g ∧ g.p.1 < 2 ^ 32 := by
  obtain ⟨xs, m, _, rfl, hl, hlen, hfs⟩ := DataW.trod_struct Try.underlying38 h
  have hC : Try.prog.cellsOf 38 = 6 := by kernel_rfl
  have hC0 : Try.prog.cellsOf 32 = 1 := by kernel_rfl
  have hC1 : Try.prog.cellsOf 3 = 1 := by kernel_rfl
  have hC2 : Try.prog.cellsOf 36 = 2 := by kernel_rfl
  rw [hC] at hl
  obtain ⟨a, b, c, d, e, f, rfl⟩ : ∃ a b c d e f, cs = [a, b, c, d, e, f] := by
    match cs, hl with
    | [a, b, c, d, e, f], _ => exact ⟨a, b, c, d, e, f, rfl⟩
  obtain ⟨y0, y1, y2, y3, y4, rfl⟩ : ∃ y0 y1 y2 y3 y4, xs = [y0, y1, y2, y3, y4] := by
    match xs, hlen with
    | [y0, y1, y2, y3, y4], _ => exact ⟨y0, y1, y2, y3, y4, rfl⟩
  have t0 : DataW.trod enc Try.prog w 0 spare held m 32 [a] = some y0 := by have h := hfs 0 _ rfl; change DataW.trod enc Try.prog w 0 spare held m 32 (List.take (Try.prog.cellsOf 32) (List.drop 0 [a, b, c, d, e, f])) = some y0 at h; rw [hC0] at h; exact h
  have t1 : DataW.trod enc Try.prog w 0 spare held m 3 [b] = some y1 := by have h := hfs 1 _ rfl; change DataW.trod enc Try.prog w 0 spare held m 3 (List.take (Try.prog.cellsOf 3) (List.drop 1 [a, b, c, d, e, f])) = some y1 at h; rw [hC1] at h; exact h
  have t2 : DataW.trod enc Try.prog w 0 spare held m 3 [c] = some y2 := by have h := hfs 2 _ rfl; change DataW.trod enc Try.prog w 0 spare held m 3 (List.take (Try.prog.cellsOf 3) (List.drop 2 [a, b, c, d, e, f])) = some y2 at h; rw [hC1] at h; exact h
  have t3 : DataW.trod enc Try.prog w 0 spare held m 36 [d, e] = some y3 := by have h := hfs 3 _ rfl; change DataW.trod enc Try.prog w 0 spare held m 36 (List.take (Try.prog.cellsOf 36) (List.drop 3 [a, b, c, d, e, f])) = some y3 at h; rw [hC2] at h; exact h
  have t4 : DataW.trod enc Try.prog w 0 spare held m 3 [f] = some y4 := by have h := hfs 4 _ rfl; change DataW.trod enc Try.prog w 0 spare held m 3 (List.take (Try.prog.cellsOf 3) (List.drop 5 [a, b, c, d, e, f])) = some y4 at h; rw [hC1] at h; exact h
  obtain ⟨z0, e0, _⟩ := elem_int Try.underlying32 _ _ _ t0
  obtain rfl : a = _ := by simpa using e0
  obtain ⟨z1, e1, _⟩ := elem_int Try.underlying3 _ _ _ t1
  obtain rfl : b = _ := by simpa using e1
  obtain ⟨z2, e2, _⟩ := elem_int Try.underlying3 _ _ _ t2
  obtain rfl : c = _ := by simpa using e2
  obtain ⟨g, e3, hg⟩ := elem_pf _ _ _ t3
  obtain ⟨z4, e4, _⟩ := elem_int Try.underlying3 _ _ _ t4
  obtain rfl : f = _ := by simpa using e4
  simp only [pfE, List.cons.injEq, and_true] at e3
  obtain ⟨rfl, rfl⟩ := e3
  exact ⟨⟨z0, z1, z2, g, z4⟩, rfl, hg⟩
set_option maxRecDepth 100000 in
/-- An argument []api.Prefix. -/
theorem arg_pfs {t : TypeId} (ht : Try.prog.underlying t = some (.slice 36)) {v : Value} {d : DataW H} {p : List MemPlace}
    (h : DataW.Trod enc Try.prog w 0 spare held t v d p) (hv : v.cells = #[v]) (hw : Light Try.prog t d) :
    ∃ (A : Option Addr) (n c : Nat) (l : List Pf), v = .slice A n c ∧ Reads w (fun k => k < w.heap.size) 2 A n (flatP l) ∧ l.length = n ∧ ∀ g ∈ l, g.1 < 2 ^ 32 := by
  obtain ⟨fuel, hf⟩ := h
  obtain ⟨A, n, c, ys, hcs, hr, hlen, hR, hn, hc⟩ := open_elems pfE (fun g => g.1 < 2 ^ 32) 2 16 ht (by kernel_rfl) (by kernel_rfl) (fun _ => rfl) (by omega) (fun n cs x h _ => elem_pf n cs x h) hf hw
  rw [hv] at hcs
  simp at hcs
  exact ⟨A, n, c, ys, hcs, hr, hlen, hR⟩
set_option maxRecDepth 100000 in
/-- An argument []api.CoreEvent. -/
theorem arg_evs {t : TypeId} (ht : Try.prog.underlying t = some (.slice 38)) {v : Value} {d : DataW H} {p : List MemPlace}
    (h : DataW.Trod enc Try.prog w 0 spare held t v d p) (hv : v.cells = #[v]) (hw : Light Try.prog t d) :
    ∃ (A : Option Addr) (n c : Nat) (l : List Ev), v = .slice A n c ∧ Reads w (fun k => k < w.heap.size) 6 A n (l.flatMap evC) ∧ l.length = n ∧ ∀ g ∈ l, g.p.1 < 2 ^ 32 := by
  obtain ⟨fuel, hf⟩ := h
  obtain ⟨A, n, c, ys, hcs, hr, hlen, hR, hn, hc⟩ := open_elems evC (fun g => g.p.1 < 2 ^ 32) 6 48 ht (by kernel_rfl) (by kernel_rfl) (fun _ => rfl) (by omega) (fun n cs x h _ => elem_ev n cs x h) hf hw
  rw [hv] at hcs
  simp at hcs
  exact ⟨A, n, c, ys, hcs, hr, hlen, hR⟩
end
end Go.Proofs.Ytahdjfegihnolaa
