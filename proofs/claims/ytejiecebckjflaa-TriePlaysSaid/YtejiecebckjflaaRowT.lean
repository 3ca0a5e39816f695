/- Readings of prefixes, addresses, numbers and acts. -/
import Derived.Test.YtejiecebckjflaaRow
import Derived.Test.YtejiecebckjflaaTrR
import Derived.Deep.Strs
namespace Go.Proofs.Ytejiecebckjflaa
open Go.ChangeShapes Go.WideShapes Go.ChangeAt Go.RowKit

theorem wf_u32 {z : Int} (h : (Lit.int .u32 z).wf = true) : 0 ≤ z ∧ z < 4294967296 := by
  have h1 : IntKind.u32.min = 0 := rfl
  have h2 : IntKind.u32.max = 4294967295 := rfl
  simp only [Lit.wf, Bool.and_eq_true, decide_eq_true_eq] at h
  omega
def Px.cells (x : Px) : List Value := [.int .u32 (x.a : Int), .int .i64 x.n]
/-- An act of the law's. -/
structure AcT where
  del : Bool
  p : Px
  v : Int
def AcT.cells (x : AcT) : List Value := .bool x.del :: (x.p.cells ++ [.int .i64 x.v])
theorem pxs_get : ∀ (l : List Px) (k : Nat) (x : Px), l[k]? = some x → (l.flatMap Px.cells)[k * 2]? = some (.int .u32 (x.a : Int)) ∧ (l.flatMap Px.cells)[k * 2 + 1]? = some (.int .i64 x.n)
  | a :: r, 0, g, h => by
    obtain rfl : a = g := by simpa using h
    simp [Px.cells]
  | a :: r, k + 1, g, h => by
    have ih := pxs_get r k g (by simpa using h)
    have e : (a :: r).flatMap Px.cells = .int .u32 (a.a : Int) :: .int .i64 a.n :: r.flatMap Px.cells := rfl
    rw [e, show (k + 1) * 2 = k * 2 + 1 + 1 from by omega]
    simpa using ih
theorem acs_get : ∀ (l : List AcT) (k : Nat) (x : AcT), l[k]? = some x → (l.flatMap AcT.cells)[k * 4]? = some (.bool x.del) ∧ (l.flatMap AcT.cells)[k * 4 + 1]? = some (.int .u32 (x.p.a : Int)) ∧ (l.flatMap AcT.cells)[k * 4 + 2]? = some (.int .i64 x.p.n) ∧ (l.flatMap AcT.cells)[k * 4 + 3]? = some (.int .i64 x.v)
  | a :: r, 0, g, h => by
    obtain rfl : a = g := by simpa using h
    simp [AcT.cells, Px.cells]
  | a :: r, k + 1, g, h => by
    have ih := acs_get r k g (by simpa using h)
    have e : (a :: r).flatMap AcT.cells = .bool a.del :: .int .u32 (a.p.a : Int) :: .int .i64 a.p.n :: .int .i64 a.v :: r.flatMap AcT.cells := rfl
    rw [e, show (k + 1) * 4 = k * 4 + 1 + 1 + 1 + 1 from by omega]
    simpa using ih

section
variable {H : Type} {enc : TypeId × Value → H} {w : World} {spare : Nat → Bool} {held : Bool}
theorem elem_px (n : Nat) (cs : List Value) (x : DataW H × List MemPlace) (h : DataW.trod enc Try.prog w 0 spare held n 31 cs = some x) : ∃ g : Px, cs = g.cells ∧ g.a < 2 ^ 32 := by
  obtain ⟨y0, y1, m, rfl, hlen, t0, t1⟩ := trod_struct2 Try.underlying31 h
  have hC : Try.prog.cellsOf 31 = 2 := by kernel_rfl
  have hC0 : Try.prog.cellsOf 24 = 1 := by kernel_rfl
  have hC1 : Try.prog.cellsOf 3 = 1 := by kernel_rfl
  rw [hC] at hlen
  obtain ⟨a, b, rfl⟩ : ∃ a b, cs = [a, b] := by
    match cs, hlen with
    | [a, b], _ => exact ⟨a, b, rfl⟩
  simp only [hC0, hC1] at t0 t1
  obtain ⟨z0, e0, w0⟩ := elem_int Try.underlying24 _ _ _ t0
  obtain ⟨z1, e1, _⟩ := elem_int Try.underlying3 _ _ _ t1
  obtain rfl : a = _ := by simpa using e0
  obtain rfl : b = _ := by simpa using e1
  have b0 := wf_u32 w0
  exact ⟨⟨z0.toNat, z1⟩, by simp only [Px.cells]; rw [Int.toNat_of_nonneg b0.1], by show z0.toNat < _; omega⟩
theorem elem_act (n : Nat) (cs : List Value) (x : DataW H × List MemPlace) (h : DataW.trod enc Try.prog w 0 spare held n 33 cs = some x) : ∃ g : AcT, cs = g.cells ∧ g.p.a < 2 ^ 32 := by
  obtain ⟨y0, y1, y2, m, rfl, hlen, t0, t1, t2⟩ := Go.Deep.trod_struct3 Try.underlying33 h
  have hC : Try.prog.cellsOf 33 = 4 := by kernel_rfl
  have hC0 : Try.prog.cellsOf 4 = 1 := by kernel_rfl
  have hC1 : Try.prog.cellsOf 31 = 2 := by kernel_rfl
  have hC2 : Try.prog.cellsOf 3 = 1 := by kernel_rfl
  rw [hC] at hlen
  obtain ⟨a, b, c, d, rfl⟩ : ∃ a b c d, cs = [a, b, c, d] := by
    match cs, hlen with
    | [a, b, c, d], _ => exact ⟨a, b, c, d, rfl⟩
  simp only [hC0, hC1, hC2] at t0 t1 t2
  obtain ⟨z0, e0⟩ := elem_bool Try.underlying4 _ _ _ t0
  obtain ⟨g, e1, hg⟩ := elem_px _ _ _ t1
  obtain ⟨z2, e2, _⟩ := elem_int Try.underlying3 _ _ _ t2
  obtain rfl : a = _ := by simpa using e0
  obtain rfl : d = _ := by simpa using e2
  have e3 : [b, c] = g.cells := by simpa using e1
  exact ⟨⟨z0, g, z2⟩, by simp only [AcT.cells]; rw [← e3]; rfl, hg⟩
theorem elem_addr (n : Nat) (cs : List Value) (x : DataW H × List MemPlace) (h : DataW.trod enc Try.prog w 0 spare held n 24 cs = some x) : ∃ a : Nat, cs = [Value.int .u32 (a : Int)] ∧ a < 2 ^ 32 := by
  obtain ⟨z0, e0, w0⟩ := elem_int Try.underlying24 _ _ _ h
  have b0 := wf_u32 w0
  exact ⟨z0.toNat, by rw [e0, Int.toNat_of_nonneg b0.1], by omega⟩

/-- An argument []api.Prefix. -/
theorem arg_pxs {t : TypeId} (ht : Try.prog.underlying t = some (.slice 31)) {v : Value} {d : DataW H} {p : List MemPlace}
    (h : DataW.Trod enc Try.prog w 0 spare held t v d p) (hv : v.cells = #[v]) (hw : Light Try.prog t d) :
    ∃ (A : Option Addr) (n c : Nat) (l : List Px), v = .slice A n c ∧ Reads w (fun k => k < w.heap.size) 2 A n (l.flatMap Px.cells) ∧ l.length = n ∧ ∀ g ∈ l, g.a < 2 ^ 32 := by
  obtain ⟨fuel, hf⟩ := h
  obtain ⟨A, n, c, ys, hcs, hr, hlen, hR, hn, hc⟩ := open_elems Px.cells (fun g => g.a < 2 ^ 32) 2 16 ht (by kernel_rfl) (by kernel_rfl) (fun _ => rfl) (by omega) (fun n cs x h _ => elem_px n cs x h) hf hw
  rw [hv] at hcs
  simp at hcs
  exact ⟨A, n, c, ys, hcs, hr, hlen, hR⟩
/-- An argument []Act. -/
theorem arg_acts {t : TypeId} (ht : Try.prog.underlying t = some (.slice 33)) {v : Value} {d : DataW H} {p : List MemPlace}
    (h : DataW.Trod enc Try.prog w 0 spare held t v d p) (hv : v.cells = #[v]) (hw : Light Try.prog t d) :
    ∃ (A : Option Addr) (n c : Nat) (l : List AcT), v = .slice A n c ∧ Reads w (fun k => k < w.heap.size) 4 A n (l.flatMap AcT.cells) ∧ l.length = n ∧ ∀ g ∈ l, g.p.a < 2 ^ 32 := by
  obtain ⟨fuel, hf⟩ := h
  obtain ⟨A, n, c, ys, hcs, hr, hlen, hR, hn, hc⟩ := open_elems AcT.cells (fun g => g.p.a < 2 ^ 32) 4 32 ht (by kernel_rfl) (by kernel_rfl) (fun _ => rfl) (by omega) (fun n cs x h _ => elem_act n cs x h) hf hw
  rw [hv] at hcs
  simp at hcs
  exact ⟨A, n, c, ys, hcs, hr, hlen, hR⟩
/-- An argument []api.Addr. -/
theorem arg_addrs {t : TypeId} (ht : Try.prog.underlying t = some (.slice 24)) {v : Value} {d : DataW H} {p : List MemPlace}
    (h : DataW.Trod enc Try.prog w 0 spare held t v d p) (hv : v.cells = #[v]) (hw : Light Try.prog t d) :
    ∃ (A : Option Addr) (n c : Nat) (l : List Nat), v = .slice A n c ∧ Reads w (fun k => k < w.heap.size) 1 A n (l.map fun a : Nat => Value.int .u32 (a : Int)) ∧ l.length = n ∧ ∀ a ∈ l, a < 2 ^ 32 := by
  obtain ⟨fuel, hf⟩ := h
  obtain ⟨A, n, c, ys, hcs, hr, hlen, hR, hn, hc⟩ := open_elems (fun a : Nat => [Value.int .u32 (a : Int)]) (fun a => a < 2 ^ 32) 1 4 ht (by kernel_rfl) (by kernel_rfl) (fun _ => rfl) (by omega) (fun n cs x h _ => elem_addr n cs x h) hf hw
  rw [hv] at hcs
  simp at hcs
  rw [flat_one] at hr
  exact ⟨A, n, c, ys, hcs, hr, hlen, hR⟩
/-- An argument []int. -/
theorem arg_ints {t : TypeId} (ht : Try.prog.underlying t = some (.slice 3)) {v : Value} {d : DataW H} {p : List MemPlace}
    (h : DataW.Trod enc Try.prog w 0 spare held t v d p) (hv : v.cells = #[v]) (hw : Light Try.prog t d) :
    ∃ (A : Option Addr) (n c : Nat) (l : List Int), v = .slice A n c ∧ Reads w (fun k => k < w.heap.size) 1 A n (l.map (Value.int .i64)) ∧ l.length = n := by
  obtain ⟨fuel, hf⟩ := h
  obtain ⟨A, n, c, ys, hcs, hr, hlen, hR, hn, hc⟩ := open_elems (fun z => [Value.int .i64 z]) (fun z => (Lit.int .i64 z).wf = true) 1 8 ht (by kernel_rfl) (by kernel_rfl) (fun _ => rfl) Nat.one_pos (fun n cs x h _ => elem_int Try.underlying3 n cs x h) hf hw
  rw [hv] at hcs
  simp at hcs
  rw [flat_one] at hr
  exact ⟨A, n, c, ys, hcs, hr, hlen⟩
end
end Go.Proofs.Ytejiecebckjflaa
