/- Ways compared. -/
import Derived.Test.YthlommalbkhcjaaFuK
import Derived.ChangeKeysEq
namespace Go.Proofs.Ythlommalbkhcjaa
open Go.RowKit Go.Sort
theorem arr_iF : ∃ i, Try.prog.info? 3 = some i := by
  have := info_i64
  cases h : Try.prog.info? 3 with
  | none => rw [h] at this; cases this
  | some i => exact ⟨i, rfl⟩
theorem all_range_eq {zs ys : List Int} (hz : zs.length = 256) (hy : ys.length = 256) : ((List.range 256).all fun i => zs.getD i 0 == ys.getD i 0) = (zs == ys) := by
  rw [Bool.eq_iff_iff, List.all_eq_true, beq_iff_eq]
  constructor
  · intro h
    apply List.ext_getElem (by omega)
    intro i h1 h2
    have := h i (List.mem_range.2 (by omega))
    simpa [h1, h2] using this
  · rintro rfl i _
    simp
theorem eqIn_bk {zs ys : List Int} (hz : zs.length = 256) (hy : ys.length = 256) (w : World) : (Op.equalIn 9999 31 (.agg (arrV zs)) (.agg (arrV ys))).run Try.prog w = .ok (zs == ys) w := by
  obtain ⟨i, hi⟩ := arr_iF
  have hc : Try.prog.cellsOf 3 = 1 := by kernel_rfl
  rw [run_equalIn_array (P := Try.prog) w 9998 (arrV zs) (arrV ys) Try.underlying31 hi, hc]
  have key : ∀ is : List Nat, (∀ j ∈ is, j < 256) → (Op.eqItems 9998 3 1 (arrV zs) (arrV ys) is).run Try.prog w = .ok (is.all fun i => zs.getD i 0 == ys.getD i 0) w := fun is => by
    induction is with
    | nil => intro _; simp [Op.eqItems]
    | cons j is ih =>
      intro h
      have hj := h j (by simp)
      have gf : ∀ {zs : List Int}, zs.length = 256 → (arrV zs)[j * 1]? = some (.int .i64 (zs.getD j 0)) := fun {zs} hz => by
        rw [Nat.mul_one]
        unfold arrV
        rw [List.getElem?_toArray, List.getElem?_map, List.getElem?_eq_getElem (by omega)]
        simp [List.getD_eq_getElem?_getD, List.getElem?_eq_getElem (show j < zs.length by omega)]
      have hp : (part 3 (arrV zs) (j * 1)).run Try.prog w = .ok (.int .i64 (zs.getD j 0)) w := run_part_plain (P := Try.prog) (w := w) (by kernel_rfl) (gf hz)
      have hq : (part 3 (arrV ys) (j * 1)).run Try.prog w = .ok (.int .i64 (ys.getD j 0)) w := run_part_plain (P := Try.prog) (w := w) (by kernel_rfl) (gf hy)
      unfold Op.eqItems
      simp only [Sem.run_bind, hp, hq, Result.andThen_ok]
      rw [run_equalIn_int (P := Try.prog) (w := w) 9997 3 .i64 .i64 (zs.getD j 0) (ys.getD j 0) Try.underlying3]
      simp only [Result.andThen_ok, List.all_cons]
      have ih2 := ih fun j hj => h j (by simp [hj])
      cases hb : (zs.getD j 0 == ys.getD j 0) with
      | true => simpa using ih2
      | false => simp
  rw [key _ fun j hj => List.mem_range.1 hj, all_range_eq hz hy]
theorem wyC_0 (k : Int) (zs : List Int) : (wyC k zs)[0]? = some (.int .i64 k) := by unfold wyC; simp
theorem wyC_ex (k : Int) {zs : List Int} (hz : zs.length = 256) : (wyC k zs).extract 1 257 = arrV zs := by
  unfold wyC
  apply Array.ext'
  simp
  exact List.take_of_length_le (by rw [Array.length_toList, arrV_size, hz]; exact Nat.le_refl _)
theorem eqIn_wy (k j : Int) {zs ys : List Int} (hz : zs.length = 256) (hy : ys.length = 256) (w : World) : (Op.equalIn 10000 33 (.agg (wyC k zs)) (.agg (wyC j ys))).run Try.prog w = .ok (k == j && zs == ys) w := by
  have h1 := wyC_0 k zs
  have h2 := wyC_0 j ys
  have h3 := wyC_ex k hz
  have h4 := wyC_ex j hy
  have h5 := eqIn_bk hz hy w
  generalize wyC k zs = X at h1 h3 ⊢
  generalize wyC j ys = Y at h2 h4 ⊢
  generalize (zs == ys) = b at h5 ⊢
  cases hk : (k == j) <;> cases b <;> go_simp
/-- Ways compared, as they are loaded. -/
theorem eql_wy (k j : Int) {zs ys : List Int} (hz : zs.length = 256) (hy : ys.length = 256) (w : World) : (binOp .eql 33 (.agg (wyC k zs)) (.agg (wyC j ys))).run Try.prog w = .ok (.bool (k == j && zs == ys)) w := by
  rw [run_eql_struct, eqIn_wy k j hz hy]
  rfl
theorem neq_wy (k j : Int) {zs ys : List Int} (hz : zs.length = 256) (hy : ys.length = 256) (w : World) : (binOp .neq 33 (.agg (wyC k zs)) (.agg (wyC j ys))).run Try.prog w = .ok (.bool (!(k == j && zs == ys))) w := by
  rw [run_neq_struct, eqIn_wy k j hz hy]
  rfl
/-- The same way. -/
theorem eqs_wy (wz : Int × List Int) (hz : wz.2.length = 256) (w : World) : (Op.equalIn 10000 33 (.agg (wayC wz)) (.agg (wayC wz))).run Try.prog w = .ok true w := by
  have := eqIn_wy wz.1 wz.1 hz hz w
  unfold wayC
  simpa using this
theorem way_build (w : World) : (Instr.build 33 #[]).run Try.prog w = .ok (.agg wy0) w := by kernel_rfl
theorem way_build2 (w : World) : (Instr.build 33 #[(0, .int .i64 2)]).run Try.prog w = .ok (.agg (wyC 2 zs0)) w := by kernel_rfl
/-- The ways of a row of routes; the route at k is known by k + 1. -/
def wkL (l : List Rt) (v : Int) : Int × List Int := match l[(v - 1).toNat]? with
  | some r => if 1 ≤ v ∧ mayR r = true then wayR r else (0, zs0)
  | none => (0, zs0)
theorem wayR_len {r : Rt} (h : mayR r = true) : (wayR r).2.length = 256 := by
  unfold wayR
  split
  · exact zs0_len
  · split
    · exact zs0_len
    · rename_i h1 h2
      have hm : mayF r.nx = true := by
        unfold mayR at h
        rw [decide_eq_false (fun e => h2 (.inr e))] at h
        simp at h
        exact h.2
      exact table_len hm
theorem wkL_len (l : List Rt) (v : Int) : (wkL l v).2.length = 256 := by
  unfold wkL
  split
  · split
    · rename_i r _ h
      exact wayR_len h.2
    · exact zs0_len
  · exact zs0_len
def dcL (l : List Rt) (v : Int) : Array Value := wayC (wkL l v)
theorem dcL_ok (l : List Rt) : Dc (dcL l) := ⟨fun v => wyC_size (wkL_len l v), fun v => wyC_one _ _, by
  unfold dcL wkL
  split
  · rw [if_neg (by omega)]; exact wyC_zero
  · exact wyC_zero⟩
theorem wkL_at {l : List Rt} {i : Nat} {r : Rt} (h : l[i]? = some r) (hm : mayR r = true) : wkL l ((i : Int) + 1) = wayR r := by
  unfold wkL
  rw [show ((i : Int) + 1 - 1).toNat = i by omega, h]
  show (if _ then _ else _) = _
  rw [if_pos ⟨by omega, hm⟩]
theorem dcL_at {l : List Rt} (i : Nat) (r : Rt) (h : l[i]? = some r) (hm : mayR r = true) : dcL l ((i : Int) + 1) = wayC (wayR r) := by
  unfold dcL
  rw [wkL_at h hm]
theorem dcL_wk (l : List Rt) (v : Int) : dcL l v = wayC (wkL l v) ∧ (wkL l v).2.length = 256 := ⟨rfl, wkL_len l v⟩
end Go.Proofs.Ythlommalbkhcjaa
