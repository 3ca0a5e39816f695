/- Readings of byte slices, of slices of them, and of slices of ints. -/
import Derived.Test.YtfckagokeimkmaaRow
import Derived.Test.YtfckagokeimkmaaBs
namespace Go.Proofs.Ytfckagokeimkmaa
open Go.ChangeShapes Go.WideShapes Go.ChangeAt Go.RowKit

theorem wf_u8 {z : Int} (h : (Lit.int .u8 z).wf = true) : 0 ≤ z ∧ z < 256 := by
  have h1 : IntKind.u8.min = 0 := rfl
  have h2 : IntKind.u8.max = 255 := rfl
  simp only [Lit.wf, Bool.and_eq_true, decide_eq_true_eq] at h
  omega
theorem bytesV_of {zs : List Int} (h : ∀ z ∈ zs, (Lit.int .u8 z).wf = true) : bytesV (zs.map fun z => UInt8.ofNat z.toNat) = zs.map (Value.int .u8) := by
  induction zs with
  | nil => rfl
  | cons a r ih =>
    have ha := wf_u8 (h a List.mem_cons_self)
    have := ih fun z hz => h z (List.mem_cons_of_mem _ hz)
    simp only [bytesV, List.map_cons] at this ⊢
    rw [this]
    congr 2
    have : (UInt8.ofNat a.toNat).toNat = a.toNat := by simp; omega
    omega

/-- A slice of bytes that came in. -/
structure SlB where
  A : Option Addr
  c : Nat
  x : List UInt8
def SlB.v (y : SlB) : Value := .slice y.A y.x.length y.c

section
variable {H : Type} {enc : TypeId × Value → H} {w : World} {spare : Nat → Bool} {held : Bool}
theorem elem_bytes {e : TypeId} (he : Try.prog.underlying e = some (.slice 5)) (n : Nat) (cs : List Value) (x : DataW H × List MemPlace) (h : DataW.trod enc Try.prog w 0 spare held n e cs = some x) (hl : Light Try.prog e x.1) :
    ∃ y : SlB, cs = [y.v] ∧ (Reads w (fun k => k < w.heap.size) 1 y.A y.x.length (bytesV y.x) ∧ y.x.length ≤ 140737488351232 ∧ y.x.length ≤ y.c) := by
  obtain ⟨A, n, c, ys, rfl, hr, hlen, hR, hn, hc⟩ := open_elems (fun z => [Value.int .u8 z]) (fun z => (Lit.int .u8 z).wf = true) 1 1 he (by kernel_rfl) (by kernel_rfl) (fun _ => rfl) Nat.one_pos (fun n cs x h _ => elem_int Try.underlying5 n cs x h) h hl
  refine ⟨⟨A, c, ys.map fun z => UInt8.ofNat z.toNat⟩, by simp [SlB.v, hlen], ?_, ?_, ?_⟩
  · simp only [List.length_map, bytesV_of hR, hlen]
    rw [flat_one] at hr
    exact hr
  · simp only [List.length_map, hlen]
    unfold reachBytes at hn
    omega
  · simp only [List.length_map, hlen]
    exact hc

/-- An argument []byte. -/
theorem arg_bytes {t : TypeId} (ht : Try.prog.underlying t = some (.slice 5)) {v : Value} {d : DataW H} {p : List MemPlace}
    (h : DataW.Trod enc Try.prog w 0 spare held t v d p) (hv : v.cells = #[v]) (hw : Light Try.prog t d) : ∃ (A : Option Addr) (n c : Nat) (x : List UInt8), v = .slice A n c ∧ Reads w (fun k => k < w.heap.size) 1 A x.length (bytesV x) ∧ n = x.length ∧ x.length ≤ 140737488351232 ∧ x.length ≤ c := by
  obtain ⟨fuel, hf⟩ := h
  obtain ⟨y, hcs, hr, hn, hc⟩ := elem_bytes ht _ _ _ hf hw
  rw [hv] at hcs
  simp at hcs
  exact ⟨y.A, y.x.length, y.c, y.x, hcs, hr, rfl, hn, hc⟩

/-- An argument [][]byte. -/
theorem arg_rows8 {t e : TypeId} (ht : Try.prog.underlying t = some (.slice e)) (he : Try.prog.underlying e = some (.slice 5)) (hC : Try.prog.cellsOf e = 1) (hB : Try.prog.bytesOf e = 24) {v : Value} {d : DataW H} {p : List MemPlace}
    (h : DataW.Trod enc Try.prog w 0 spare held t v d p) (hv : v.cells = #[v]) (hw : Light Try.prog t d) :
    ∃ (A : Option Addr) (n c : Nat) (l : List SlB), v = .slice A n c ∧ Reads w (fun k => k < w.heap.size) 1 A n (l.map SlB.v) ∧ (∀ y ∈ l, Reads w (fun k => k < w.heap.size) 1 y.A y.x.length (bytesV y.x) ∧ y.x.length ≤ 140737488351232 ∧ y.x.length ≤ y.c) ∧ l.length = n ∧ n * 24 ≤ 140737488351232 ∧ n ≤ c := by
  obtain ⟨fuel, hf⟩ := h
  obtain ⟨A, n, c, ys, hcs, hr, hlen, hR, hn, hc⟩ := open_elems (fun y : SlB => [y.v]) (fun y => Reads w (fun k => k < w.heap.size) 1 y.A y.x.length (bytesV y.x) ∧ y.x.length ≤ 140737488351232 ∧ y.x.length ≤ y.c) 1 24 ht hC hB (fun _ => rfl) Nat.one_pos (fun n cs x h hl => elem_bytes he n cs x h hl) hf hw
  rw [hv] at hcs
  simp at hcs
  rw [flat_one] at hr
  exact ⟨A, n, c, ys, hcs, hr, hR, hlen, by unfold reachBytes at hn; omega, hc⟩

/-- An argument []int. -/
theorem arg_ints {k : IntKind} {t e : TypeId} (ht : Try.prog.underlying t = some (.slice e)) (he : Try.prog.underlying e = some (.int k)) (hC : Try.prog.cellsOf e = 1) (B : Nat) (hB : Try.prog.bytesOf e = B) {v : Value} {d : DataW H} {p : List MemPlace}
    (h : DataW.Trod enc Try.prog w 0 spare held t v d p) (hv : v.cells = #[v]) (hw : Light Try.prog t d) :
    ∃ (A : Option Addr) (n c : Nat) (l : List Int), v = .slice A n c ∧ Reads w (fun k => k < w.heap.size) 1 A n (l.map (Value.int k)) ∧ (∀ z ∈ l, (Lit.int k z).wf = true) ∧ l.length = n ∧ n * B ≤ 140737488351232 ∧ n ≤ c := by
  obtain ⟨fuel, hf⟩ := h
  obtain ⟨A, n, c, ys, hcs, hr, hlen, hR, hn, hc⟩ := open_elems (fun z => [Value.int k z]) (fun z => (Lit.int k z).wf = true) 1 B ht hC hB (fun _ => rfl) Nat.one_pos (fun n cs x h _ => elem_int he n cs x h) hf hw
  rw [hv] at hcs
  simp at hcs
  rw [flat_one] at hr
  exact ⟨A, n, c, ys, hcs, hr, hR, hlen, by unfold reachBytes at hn; omega, hc⟩
end
end Go.Proofs.Ytfckagokeimkmaa
