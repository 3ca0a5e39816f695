/- Readings of ways. -/
import Derived.Test.YtmkjnblmgofoeaaRowB
import Derived.Deep.Strs
namespace Go.Proofs.Ytmkjnblmgofoeaa
open Go.ChangeShapes Go.WideShapes Go.ChangeAt Go.RowKit

theorem way_after (ad : Addr) (i j : Nat) (h : 0 < j) : ad.add (i + j) = ⟨(ad.add i).block, (ad.add i).off + j, none⟩ := by
  unfold Addr.add
  rw [if_neg (by omega)]
  split
  · subst_vars; simp
  · simp; omega

/-- A way of an argument. -/
structure Wy where
  kind : Int
  num : Int
  back : Bool
def Wy.cells (a : Wy) : List Value := [.int .i64 a.kind, .int .i64 a.num, .bool a.back]
def Wy.ok (a : Wy) : Prop := -9223372036854775808 ≤ a.num ∧ a.num ≤ 9223372036854775807
theorem wyCells_get : ∀ (l : List Wy) (k : Nat) (a : Wy), l[k]? = some a → (l.flatMap Wy.cells)[k * 3]? = some (.int .i64 a.kind) ∧ (l.flatMap Wy.cells)[k * 3 + 1]? = some (.int .i64 a.num) ∧ (l.flatMap Wy.cells)[k * 3 + 2]? = some (.bool a.back)
  | a :: r, 0, g, h => by
    obtain rfl : a = g := by simpa using h
    simp [Wy.cells]
  | a :: r, k + 1, g, h => by
    have ih := wyCells_get r k g (by simpa using h)
    have e : (a :: r).flatMap Wy.cells = .int .i64 a.kind :: .int .i64 a.num :: .bool a.back :: r.flatMap Wy.cells := rfl
    rw [e, show (k + 1) * 3 = k * 3 + 1 + 1 + 1 from by omega]
    simpa using ih

theorem wf_i64 {z : Int} (h : (Lit.int .i64 z).wf = true) : -9223372036854775808 ≤ z ∧ z ≤ 9223372036854775807 := by
  have h1 : IntKind.i64.min = -9223372036854775808 := rfl
  have h2 : IntKind.i64.max = 9223372036854775807 := rfl
  simp only [Lit.wf, Bool.and_eq_true, decide_eq_true_eq] at h
  omega

section
variable {H : Type} {enc : TypeId × Value → H} {w : World} {spare : Nat → Bool} {held : Bool}
theorem elem_way (n : Nat) (cs : List Value) (x : DataW H × List MemPlace) (h : DataW.trod enc Try.prog w 0 spare held n 42 cs = some x) :
    ∃ a : Wy, cs = a.cells ∧ a.ok := by
  obtain ⟨y0, y1, y2, m, rfl, hlen, t0, t1, t2⟩ := Go.Deep.trod_struct3 Try.underlying42 h
  have hC : Try.prog.cellsOf 42 = 3 := by kernel_rfl
  have hC0 : Try.prog.cellsOf 3 = 1 := by kernel_rfl
  have hC2 : Try.prog.cellsOf 4 = 1 := by kernel_rfl
  rw [hC] at hlen
  obtain ⟨a, b, c, rfl⟩ : ∃ a b c, cs = [a, b, c] := by
    match cs, hlen with
    | [a, b, c], _ => exact ⟨a, b, c, rfl⟩
  simp only [hC0, hC2] at t0 t1 t2
  obtain ⟨z0, e0, _⟩ := elem_int Try.underlying3 _ _ _ t0
  obtain ⟨z1, e1, w1⟩ := elem_int Try.underlying3 _ _ _ t1
  obtain ⟨z2, e2⟩ := elem_bool Try.underlying4 _ _ _ t2
  obtain rfl : a = _ := by simpa using e0
  obtain rfl : b = _ := by simpa using e1
  obtain rfl : c = _ := by simpa using e2
  exact ⟨⟨z0, z1, z2⟩, rfl, wf_i64 w1⟩

/-- An argument []Way. -/
theorem arg_ways {t : TypeId} (ht : Try.prog.underlying t = some (.slice 42)) (hB : Try.prog.bytesOf 42 = 24) {v : Value} {d : DataW H} {p : List MemPlace}
    (h : DataW.Trod enc Try.prog w 0 spare held t v d p) (hv : v.cells = #[v]) (hw : Light Try.prog t d) :
    ∃ (A : Option Addr) (n c : Nat) (l : List Wy), v = .slice A n c ∧ Reads w (fun k => k < w.heap.size) 3 A n (l.flatMap Wy.cells) ∧ l.length = n ∧ ∀ a ∈ l, a.ok := by
  obtain ⟨fuel, hf⟩ := h
  obtain ⟨A, n, c, ys, hcs, hr, hlen, hR, hn, hc⟩ := open_elems Wy.cells (fun a => a.ok) 3 24 ht (by kernel_rfl) hB (fun _ => rfl) (by omega) (fun n cs x h _ => elem_way n cs x h) hf hw
  rw [hv] at hcs
  simp at hcs
  exact ⟨A, n, c, ys, hcs, hr, hlen, hR⟩
end
end Go.Proofs.Ytmkjnblmgofoeaa
