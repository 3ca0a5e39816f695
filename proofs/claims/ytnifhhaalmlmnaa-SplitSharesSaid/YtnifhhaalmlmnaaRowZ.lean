/- Readings of arrays of 256 numbers. -/
import Derived.Test.YtnifhhaalmlmnaaRow
import Derived.Test.YtnifhhaalmlmnaaSaP
namespace Go.Proofs.Ytnifhhaalmlmnaa
open Go.ChangeShapes Go.WideShapes Go.ChangeAt Go.RowKit
theorem wfz_u32 {z : Int} (h : (Lit.int .u32 z).wf = true) : 0 ≤ z ∧ z < 4294967296 := by
  have h1 : IntKind.u32.min = 0 := rfl
  have h2 : IntKind.u32.max = 4294967295 := rfl
  simp only [Lit.wf, Bool.and_eq_true, decide_eq_true_eq] at h
  omega
theorem okWide_arr {P : Program} {w : World} {r : Reach} {base : Nat} {t : TypeId} {v : Value} {n : Nat} {e : TypeId} (ht : P.underlying t = some (.array n e)) (h : Value.okWide P w r base t v) : ∃ cs, v = .agg cs ∧ cs.size = P.cellsOf t := by
  simp only [Value.okWide, ht] at h
  obtain ⟨cs, h1, h2, _⟩ := h
  exact ⟨cs, h1, h2⟩
section
variable {H : Type} {enc : TypeId × Value → H} {w : World} {spare : Nat → Bool} {held : Bool}
/-- An argument [256]int. -/
theorem arg_arr {v : Value} {d : DataW H} {p : List MemPlace} {cs : Array Value} (hv : v = .agg cs) (h : DataW.Trod enc Try.prog w 0 spare held 32 v d p) : ∃ zs : List Int, v = .agg (arrV zs) ∧ zs.length = 256 := by
  obtain ⟨fuel, hf⟩ := h
  subst hv
  have hcs : (Value.agg cs).cells.toList = cs.toList := rfl
  rw [hcs] at hf
  obtain ⟨xs, m, _, _, hl, hlen, hel⟩ := DataW.trod_array Try.underlying32 hf
  have hC : Try.prog.cellsOf 32 = 256 := by kernel_rfl
  have hC1 : Try.prog.cellsOf 3 = 1 := by kernel_rfl
  rw [hC] at hl
  have hz : ∀ i, i < 256 → ∃ z : Int, cs.toList[i]? = some (.int .i64 z) := fun i hi => by
    have h1 := hel i hi
    rw [hC1, Nat.mul_one, List.getElem?_eq_getElem (by omega)] at h1
    obtain ⟨z, e1, _, _⟩ := DataW.trod_int Try.underlying3 h1
    refine ⟨z, ?_⟩
    have h0 : ((cs.toList.drop i).take 1)[0]? = some (.int .i64 z) := by rw [e1]; rfl
    simpa using h0
  have key : ∀ (l : List Value), (∀ i, i < l.length → ∃ z : Int, l[i]? = some (.int .i64 z)) → ∃ zs : List Int, l = zs.map (Value.int .i64) := fun l => by
    induction l with
    | nil => intro _; exact ⟨[], rfl⟩
    | cons a r ih =>
      intro hl
      obtain ⟨z, e⟩ := hl 0 (by simp)
      obtain ⟨zs, ez⟩ := ih fun i hi => by
        have := hl (i + 1) (by simpa using hi)
        simpa using this
      refine ⟨z :: zs, ?_⟩
      simp at e
      rw [e, ez]
      rfl
  obtain ⟨zs, ez⟩ := key cs.toList fun i hi => hz i (by omega)
  refine ⟨zs, ?_, ?_⟩
  · unfold arrV
    rw [← ez]
  · have := congrArg List.length ez
    rw [hl, List.length_map] at this
    exact this.symm
end
end Go.Proofs.Ytnifhhaalmlmnaa
