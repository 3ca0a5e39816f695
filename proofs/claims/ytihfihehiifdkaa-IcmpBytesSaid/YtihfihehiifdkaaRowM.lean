/- Readings of messages. -/
import Derived.Test.YtihfihehiifdkaaRowI
import Derived.Test.YtihfihehiifdkaaIcB
namespace Go.Proofs.Ytihfihehiifdkaa
open Go.ChangeShapes Go.WideShapes Go.ChangeAt Go.RowKit
theorem light_field' {H : Type} {P : Program} {t : TypeId} {fs : Array Field} (ht : P.underlying t = some (.struct fs)) {ds : List (DataW H)} (h : Light P t (.agg ds)) {j : Nat} {f : Field} {d : DataW H} (hf : fs[j]? = some f) (hd : ds[j]? = some d) : Light P f.type d :=
  fun k hk => h k (by
    simp only [DataW.weights, ht]
    exact DataW.weights_mem_each (j := j) (by simp [hf]) hd k hk)
theorem u8_of {z : Int} (h : (Lit.int .u8 z).wf = true) : (((UInt8.ofNat z.toNat).toNat : Nat) : Int) = z := by
  have := wf_u8 h
  have h2 : (UInt8.ofNat z.toNat).toNat = z.toNat := by simp; omega
  omega
section
variable {H : Type} {enc : TypeId × Value → H} {w : World} {spare : Nat → Bool} {held : Bool}
set_option maxRecDepth 20000 in
/-- An argument api.Icmp. -/
theorem arg_ic {v : Value} {d : DataW H} {p : List MemPlace} {cs : Array Value} (hv : v = .agg cs)
    (h : DataW.Trod enc Try.prog w 0 spare held 45 v d p) (hw : Light Try.prog 45 d) :
    ∃ (m : Ic) (A : Option Addr) (n c : Nat), v = icV m (.slice A n c) ∧ Reads w (fun k => k < w.heap.size) 1 A n (bytesV m.body) ∧ m.body.length = n ∧ n ≤ c := by
  obtain ⟨fuel, hf⟩ := h
  subst hv
  have hcs : (Value.agg cs).cells.toList = cs.toList := rfl
  rw [hcs] at hf
  obtain ⟨xs, n, _, e, hl, hlen, hfs⟩ := DataW.trod_struct Try.underlying45 hf
  have hC : Try.prog.cellsOf 45 = 7 := by kernel_rfl
  have hC0 : Try.prog.cellsOf 5 = 1 := by kernel_rfl
  have hC2 : Try.prog.cellsOf 43 = 4 := by kernel_rfl
  have hC3 : Try.prog.cellsOf 22 = 1 := by kernel_rfl
  rw [hC] at hl
  obtain ⟨c0, c1, c2, c3, c4, c5, c6, ecs⟩ : ∃ c0 c1 c2 c3 c4 c5 c6, cs.toList = [c0, c1, c2, c3, c4, c5, c6] := by
    match cs.toList, hl with
    | [c0, c1, c2, c3, c4, c5, c6], _ => exact ⟨c0, c1, c2, c3, c4, c5, c6, rfl⟩
  obtain ⟨y0, y1, y2, y3, exs⟩ : ∃ y0 y1 y2 y3, xs = [y0, y1, y2, y3] := by
    match xs, hlen with
    | [y0, y1, y2, y3], _ => exact ⟨y0, y1, y2, y3, rfl⟩
  subst exs
  rw [ecs] at hfs
  have t0 : DataW.trod enc Try.prog w 0 spare held n 5 [c0] = some y0 := by have h := hfs 0 _ rfl; change DataW.trod enc Try.prog w 0 spare held n 5 (List.take (Try.prog.cellsOf 5) (List.drop 0 [c0, c1, c2, c3, c4, c5, c6])) = _ at h; rw [hC0] at h; exact h
  have t1 : DataW.trod enc Try.prog w 0 spare held n 5 [c1] = some y1 := by have h := hfs 1 _ rfl; change DataW.trod enc Try.prog w 0 spare held n 5 (List.take (Try.prog.cellsOf 5) (List.drop 1 [c0, c1, c2, c3, c4, c5, c6])) = _ at h; rw [hC0] at h; exact h
  have t2 : DataW.trod enc Try.prog w 0 spare held n 43 [c2, c3, c4, c5] = some y2 := by have h := hfs 2 _ rfl; change DataW.trod enc Try.prog w 0 spare held n 43 (List.take (Try.prog.cellsOf 43) (List.drop 2 [c0, c1, c2, c3, c4, c5, c6])) = _ at h; rw [hC2] at h; exact h
  have t3 : DataW.trod enc Try.prog w 0 spare held n 22 [c6] = some y3 := by have h := hfs 3 _ rfl; change DataW.trod enc Try.prog w 0 spare held n 22 (List.take (Try.prog.cellsOf 22) (List.drop 6 [c0, c1, c2, c3, c4, c5, c6])) = _ at h; rw [hC3] at h; exact h
  obtain ⟨z0, e0, w0⟩ := elem_int Try.underlying5 _ _ _ t0
  obtain rfl : c0 = _ := by simpa using e0
  obtain ⟨z1, e1, w1⟩ := elem_int Try.underlying5 _ _ _ t1
  obtain rfl : c1 = _ := by simpa using e1
  obtain ⟨xs2, n2, _, _, _, hlen2, hel⟩ := DataW.trod_array Try.underlying43 t2
  obtain ⟨g0, g1, g2, g3, exs2⟩ : ∃ g0 g1 g2 g3, xs2 = [g0, g1, g2, g3] := by
    match xs2, hlen2 with
    | [g0, g1, g2, g3], _ => exact ⟨g0, g1, g2, g3, rfl⟩
  subst exs2
  have q0 := hel 0 (by omega)
  have q1 := hel 1 (by omega)
  have q2 := hel 2 (by omega)
  have q3 := hel 3 (by omega)
  rw [hC0] at q0 q1 q2 q3
  obtain ⟨a0, f0, v0⟩ := elem_int Try.underlying5 _ _ g0 q0
  obtain rfl : c2 = _ := by simpa using f0
  obtain ⟨a1, f1, v1⟩ := elem_int Try.underlying5 _ _ g1 q1
  obtain rfl : c3 = _ := by simpa using f1
  obtain ⟨a2, f2, v2⟩ := elem_int Try.underlying5 _ _ g2 q2
  obtain rfl : c4 = _ := by simpa using f2
  obtain ⟨a3, f3, v3⟩ := elem_int Try.underlying5 _ _ g3 q3
  obtain rfl : c5 = _ := by simpa using f3
  injection e with ed ep
  subst ed
  have l3 : Light Try.prog 22 y3.1 := light_field' Try.underlying45 hw (j := 3) rfl rfl
  obtain ⟨A, c, x, e6, hr, hc⟩ := elem_bytes Try.underlying22 _ _ _ t3 l3
  obtain rfl : c6 = _ := by simpa using e6
  refine ⟨⟨UInt8.ofNat z0.toNat, UInt8.ofNat z1.toNat, UInt8.ofNat a0.toNat, UInt8.ofNat a1.toNat, UInt8.ofNat a2.toNat, UInt8.ofNat a3.toNat, x⟩, A, x.length, c, ?_, hr, rfl, hc⟩
  unfold icV icC
  simp only
  rw [u8_of w0, u8_of w1, u8_of v0, u8_of v1, u8_of v2, u8_of v3]
  congr 1
  exact Array.ext' ecs
end
end Go.Proofs.Ytihfihehiifdkaa
