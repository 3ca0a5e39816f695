/- Readings of byte slices (for the Ip rows). -/
import Derived.Test.YtihfihehiifdkaaRow
import Derived.Test.YtihfihehiifdkaaHdP
namespace Go.Proofs.Ytihfihehiifdkaa
open Go.ChangeShapes Go.WideShapes Go.ChangeAt Go.RowKit
theorem wf_u8 {z : Int} (h : (Lit.int .u8 z).wf = true) : 0 ≤ z ∧ z < 256 := by
  have h1 : IntKind.u8.min = 0 := rfl
  have h2 : IntKind.u8.max = 255 := rfl
  simp only [Lit.wf, Bool.and_eq_true, decide_eq_true_eq] at h
  omega
theorem bytesV_of {zs : List Int} (h : ∀ z ∈ zs, (Lit.int .u8 z).wf = true) : bytesV (zs.map fun z => UInt8.ofNat z.toNat) = zs.map (Value.int .u8) := by
  induction zs with
  | nil => rfl
  | cons a r ih =>
    have ha := wf_u8 (h a List.mem_cons_self)
    have := ih fun z hz => h z (List.mem_cons_of_mem _ hz)
    simp only [bytesV, List.map_cons] at this ⊢
    rw [this]
    congr 2
    have : (UInt8.ofNat a.toNat).toNat = a.toNat := by simp; omega
    omega
section
variable {H : Type} {enc : TypeId × Value → H} {w : World} {spare : Nat → Bool} {held : Bool}
theorem elem_bytes {e : TypeId} (he : Try.prog.underlying e = some (.slice 5)) (n : Nat) (cs : List Value) (x : DataW H × List MemPlace) (h : DataW.trod enc Try.prog w 0 spare held n e cs = some x) (hl : Light Try.prog e x.1) :
    ∃ (A : Option Addr) (c : Nat) (y : By), cs = [.slice A y.length c] ∧ Reads w (fun k => k < w.heap.size) 1 A y.length (bytesV y) ∧ y.length ≤ c := by
  obtain ⟨A, n, c, ys, rfl, hr, hlen, hR, hn, hc⟩ := open_elems (fun z => [Value.int .u8 z]) (fun z => (Lit.int .u8 z).wf = true) 1 1 he (by kernel_rfl) (by kernel_rfl) (fun _ => rfl) Nat.one_pos (fun n cs x h _ => elem_int Try.underlying5 n cs x h) h hl
  refine ⟨A, c, ys.map fun z => UInt8.ofNat z.toNat, by simp [hlen], ?_, ?_⟩
  · simp only [List.length_map, bytesV_of hR, hlen]
    rw [flat_one] at hr
    exact hr
  · simp only [List.length_map, hlen]
    exact hc
end
end Go.Proofs.Ytihfihehiifdkaa
