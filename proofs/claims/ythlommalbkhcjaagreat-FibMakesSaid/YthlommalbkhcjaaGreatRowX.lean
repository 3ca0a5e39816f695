/- Readings of rows of addresses. -/
import Derived.Test.YthlommalbkhcjaaGreatRowF
import Derived.Test.YthlommalbkhcjaaGreatRowU
namespace Go.Proofs.YthlommalbkhcjaaGreat
open Go.ChangeShapes Go.WideShapes Go.ChangeAt Go.RowKit
section
variable {H : Type} {enc : TypeId × Value → H} {w : World} {spare : Nat → Bool} {held : Bool}
theorem elem_addr (n : Nat) (cs : List Value) (x : DataW H × List MemPlace) (h : DataW.trod enc Tryz.prog w 0 spare held n 35 cs = some x) : ∃ a : Nat, cs = [Value.int .u32 (a : Int)] ∧ a < 2 ^ 32 := by
  obtain ⟨z0, e0, w0⟩ := elem_int Tryz.underlying35 _ _ _ h
  have b0 := wfz_u32 w0
  exact ⟨z0.toNat, by rw [e0, Int.toNat_of_nonneg b0.1], by omega⟩
/-- An argument []api.Addr. -/
theorem arg_addrs {t : TypeId} (ht : Tryz.prog.underlying t = some (.slice 35)) {v : Value} {d : DataW H} {p : List MemPlace}
    (h : DataW.Trod enc Tryz.prog w 0 spare held t v d p) (hv : v.cells = #[v]) (hw : Light Tryz.prog t d) :
    ∃ (A : Option Addr) (n c : Nat) (l : List Nat), v = .slice A n c ∧ Reads w (fun k => k < w.heap.size) 1 A n (l.map fun a : Nat => Value.int .u32 (a : Int)) ∧ l.length = n ∧ ∀ a ∈ l, a < 2 ^ 32 := by
  obtain ⟨fuel, hf⟩ := h
  obtain ⟨A, n, c, ys, hcs, hr, hlen, hR, hn, hc⟩ := open_elems (fun a : Nat => [Value.int .u32 (a : Int)]) (fun a => a < 2 ^ 32) 1 4 ht (by kernel_rfl) (by kernel_rfl) (fun _ => rfl) (by omega) (fun n cs x h _ => elem_addr n cs x h) hf hw
  rw [hv] at hcs
  simp at hcs
  rw [flat_one] at hr
  exact ⟨A, n, c, ys, hcs, hr, hlen, hR⟩
end
end Go.Proofs.YthlommalbkhcjaaGreat
