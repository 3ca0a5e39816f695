/- Readings of headers. -/
import Derived.Test.YtihfihehiifdkaaRowI
namespace Go.Proofs.Ytihfihehiifdkaa
open Go.ChangeShapes Go.WideShapes Go.ChangeAt Go.RowKit
theorem wf_u16 {z : Int} (h : (Lit.int .u16 z).wf = true) : 0 ≤ z ∧ z < 65536 := by
  have h1 : IntKind.u16.min = 0 := rfl
  have h2 : IntKind.u16.max = 65535 := rfl
  simp only [Lit.wf, Bool.and_eq_true, decide_eq_true_eq] at h
  omega
theorem wf_u32 {z : Int} (h : (Lit.int .u32 z).wf = true) : 0 ≤ z ∧ z < 4294967296 := by
  have h1 : IntKind.u32.min = 0 := rfl
  have h2 : IntKind.u32.max = 4294967295 := rfl
  simp only [Lit.wf, Bool.and_eq_true, decide_eq_true_eq] at h
  omega
section
variable {H : Type} {enc : TypeId × Value → H} {w : World} {spare : Nat → Bool} {held : Bool}
theorem light_field {P : Program} {t : TypeId} {fs : Array Field} (ht : P.underlying t = some (.struct fs)) {ds : List (DataW H)} (h : Light P t (.agg ds)) {j : Nat} {f : Field} {d : DataW H} (hf : fs[j]? = some f) (hd : ds[j]? = some d) : Light P f.type d :=
  fun k hk => h k (by
    simp only [DataW.weights, ht]
    exact DataW.weights_mem_each (j := j) (by simp [hf]) hd k hk)
set_option maxRecDepth 20000 in
/-- An argument api.Header. -/
theorem arg_hd {v : Value} {d : DataW H} {p : List MemPlace} {cs : Array Value} (hv : v = .agg cs)
    (h : DataW.Trod enc Try.prog w 0 spare held 32 v d p) (hw : Light Try.prog 32 d) :
    ∃ (g : Hd) (u : Value), v = hdV g u ∧ Sl8 w (fun k => k < w.heap.size) u g.opts ∧ g.ok ∧ (Lit.int .i64 g.off).wf = true := by
  obtain ⟨fuel, hf⟩ := h
  subst hv
  have hcs : (Value.agg cs).cells.toList = cs.toList := rfl
  rw [hcs] at hf
  obtain ⟨xs, n, _, e, hl, hlen, hfs⟩ := DataW.trod_struct Try.underlying32 hf
  have hC : Try.prog.cellsOf 32 = 11 := by kernel_rfl
  have hC0 : Try.prog.cellsOf 5 = 1 := by kernel_rfl
  have hC1 : Try.prog.cellsOf 30 = 1 := by kernel_rfl
  have hC2 : Try.prog.cellsOf 4 = 1 := by kernel_rfl
  have hC5 : Try.prog.cellsOf 3 = 1 := by kernel_rfl
  have hC8 : Try.prog.cellsOf 24 = 1 := by kernel_rfl
  have hC10 : Try.prog.cellsOf 22 = 1 := by kernel_rfl
  rw [hC] at hl
  obtain ⟨c0, c1, c2, c3, c4, c5, c6, c7, c8, c9, c10, ecs⟩ : ∃ c0 c1 c2 c3 c4 c5 c6 c7 c8 c9 c10, cs.toList = [c0, c1, c2, c3, c4, c5, c6, c7, c8, c9, c10] := by
    match cs.toList, hl with
    | [c0, c1, c2, c3, c4, c5, c6, c7, c8, c9, c10], _ => exact ⟨c0, c1, c2, c3, c4, c5, c6, c7, c8, c9, c10, rfl⟩
  obtain ⟨y0, y1, y2, y3, y4, y5, y6, y7, y8, y9, y10, exs⟩ : ∃ y0 y1 y2 y3 y4 y5 y6 y7 y8 y9 y10, xs = [y0, y1, y2, y3, y4, y5, y6, y7, y8, y9, y10] := by
    match xs, hlen with
    | [y0, y1, y2, y3, y4, y5, y6, y7, y8, y9, y10], _ => exact ⟨y0, y1, y2, y3, y4, y5, y6, y7, y8, y9, y10, rfl⟩
  subst exs
  rw [ecs] at hfs
  have t0 : DataW.trod enc Try.prog w 0 spare held n 5 [c0] = some y0 := by have h := hfs 0 _ rfl; change DataW.trod enc Try.prog w 0 spare held n 5 (List.take (Try.prog.cellsOf 5) (List.drop 0 [c0, c1, c2, c3, c4, c5, c6, c7, c8, c9, c10])) = some y0 at h; rw [hC0] at h; exact h
  have t1 : DataW.trod enc Try.prog w 0 spare held n 30 [c1] = some y1 := by have h := hfs 1 _ rfl; change DataW.trod enc Try.prog w 0 spare held n 30 (List.take (Try.prog.cellsOf 30) (List.drop 1 [c0, c1, c2, c3, c4, c5, c6, c7, c8, c9, c10])) = some y1 at h; rw [hC1] at h; exact h
  have t2 : DataW.trod enc Try.prog w 0 spare held n 4 [c2] = some y2 := by have h := hfs 2 _ rfl; change DataW.trod enc Try.prog w 0 spare held n 4 (List.take (Try.prog.cellsOf 4) (List.drop 2 [c0, c1, c2, c3, c4, c5, c6, c7, c8, c9, c10])) = some y2 at h; rw [hC2] at h; exact h
  have t3 : DataW.trod enc Try.prog w 0 spare held n 4 [c3] = some y3 := by have h := hfs 3 _ rfl; change DataW.trod enc Try.prog w 0 spare held n 4 (List.take (Try.prog.cellsOf 4) (List.drop 3 [c0, c1, c2, c3, c4, c5, c6, c7, c8, c9, c10])) = some y3 at h; rw [hC2] at h; exact h
  have t4 : DataW.trod enc Try.prog w 0 spare held n 4 [c4] = some y4 := by have h := hfs 4 _ rfl; change DataW.trod enc Try.prog w 0 spare held n 4 (List.take (Try.prog.cellsOf 4) (List.drop 4 [c0, c1, c2, c3, c4, c5, c6, c7, c8, c9, c10])) = some y4 at h; rw [hC2] at h; exact h
  have t5 : DataW.trod enc Try.prog w 0 spare held n 3 [c5] = some y5 := by have h := hfs 5 _ rfl; change DataW.trod enc Try.prog w 0 spare held n 3 (List.take (Try.prog.cellsOf 3) (List.drop 5 [c0, c1, c2, c3, c4, c5, c6, c7, c8, c9, c10])) = some y5 at h; rw [hC5] at h; exact h
  have t6 : DataW.trod enc Try.prog w 0 spare held n 5 [c6] = some y6 := by have h := hfs 6 _ rfl; change DataW.trod enc Try.prog w 0 spare held n 5 (List.take (Try.prog.cellsOf 5) (List.drop 6 [c0, c1, c2, c3, c4, c5, c6, c7, c8, c9, c10])) = some y6 at h; rw [hC0] at h; exact h
  have t7 : DataW.trod enc Try.prog w 0 spare held n 5 [c7] = some y7 := by have h := hfs 7 _ rfl; change DataW.trod enc Try.prog w 0 spare held n 5 (List.take (Try.prog.cellsOf 5) (List.drop 7 [c0, c1, c2, c3, c4, c5, c6, c7, c8, c9, c10])) = some y7 at h; rw [hC0] at h; exact h
  have t8 : DataW.trod enc Try.prog w 0 spare held n 24 [c8] = some y8 := by have h := hfs 8 _ rfl; change DataW.trod enc Try.prog w 0 spare held n 24 (List.take (Try.prog.cellsOf 24) (List.drop 8 [c0, c1, c2, c3, c4, c5, c6, c7, c8, c9, c10])) = some y8 at h; rw [hC8] at h; exact h
  have t9 : DataW.trod enc Try.prog w 0 spare held n 24 [c9] = some y9 := by have h := hfs 9 _ rfl; change DataW.trod enc Try.prog w 0 spare held n 24 (List.take (Try.prog.cellsOf 24) (List.drop 9 [c0, c1, c2, c3, c4, c5, c6, c7, c8, c9, c10])) = some y9 at h; rw [hC8] at h; exact h
  have t10 : DataW.trod enc Try.prog w 0 spare held n 22 [c10] = some y10 := by have h := hfs 10 _ rfl; change DataW.trod enc Try.prog w 0 spare held n 22 (List.take (Try.prog.cellsOf 22) (List.drop 10 [c0, c1, c2, c3, c4, c5, c6, c7, c8, c9, c10])) = some y10 at h; rw [hC10] at h; exact h
  obtain ⟨z0, e0, w0⟩ := elem_int Try.underlying5 _ _ _ t0
  obtain rfl : c0 = _ := by simpa using e0
  obtain ⟨z1, e1, w1⟩ := elem_int Try.underlying30 _ _ _ t1
  obtain rfl : c1 = _ := by simpa using e1
  obtain ⟨z2, e2⟩ := elem_bool Try.underlying4 _ _ _ t2
  obtain rfl : c2 = _ := by simpa using e2
  obtain ⟨z3, e3⟩ := elem_bool Try.underlying4 _ _ _ t3
  obtain rfl : c3 = _ := by simpa using e3
  obtain ⟨z4, e4⟩ := elem_bool Try.underlying4 _ _ _ t4
  obtain rfl : c4 = _ := by simpa using e4
  obtain ⟨z5, e5, w5⟩ := elem_int Try.underlying3 _ _ _ t5
  obtain rfl : c5 = _ := by simpa using e5
  obtain ⟨z6, e6, w6⟩ := elem_int Try.underlying5 _ _ _ t6
  obtain rfl : c6 = _ := by simpa using e6
  obtain ⟨z7, e7, w7⟩ := elem_int Try.underlying5 _ _ _ t7
  obtain rfl : c7 = _ := by simpa using e7
  obtain ⟨z8, e8, w8⟩ := elem_int Try.underlying24 _ _ _ t8
  obtain rfl : c8 = _ := by simpa using e8
  obtain ⟨z9, e9, w9⟩ := elem_int Try.underlying24 _ _ _ t9
  obtain rfl : c9 = _ := by simpa using e9
  injection e with ed ep
  subst ed
  have l10 : Light Try.prog 22 y10.1 := light_field Try.underlying32 hw (j := 10) rfl rfl
  obtain ⟨A, c, x, e10, hr, hc⟩ := elem_bytes Try.underlying22 _ _ _ t10 l10
  obtain rfl : c10 = _ := by simpa using e10
  have b0 := wf_u8 w0
  have b1 := wf_u16 w1
  have b6 := wf_u8 w6
  have b7 := wf_u8 w7
  have b8 := wf_u32 w8
  have b9 := wf_u32 w9
  refine ⟨⟨z0.toNat, z1.toNat, z2, z3, z4, z5, z6.toNat, z7.toNat, z8.toNat, z9.toNat, x⟩, .slice A x.length c, ?_, ⟨A, c, rfl, hc, hr⟩, ⟨by show z0.toNat < _; omega, by show z1.toNat < _; omega, by show z6.toNat < _; omega, by show z7.toNat < _; omega, by show z8.toNat < _; omega, by show z9.toNat < _; omega⟩, w5⟩
  unfold hdV
  simp only
  rw [Int.toNat_of_nonneg b0.1, Int.toNat_of_nonneg b1.1, Int.toNat_of_nonneg b6.1, Int.toNat_of_nonneg b7.1, Int.toNat_of_nonneg b8.1, Int.toNat_of_nonneg b9.1]
  congr 1
  exact Array.ext' ecs
end
end Go.Proofs.Ytihfihehiifdkaa
