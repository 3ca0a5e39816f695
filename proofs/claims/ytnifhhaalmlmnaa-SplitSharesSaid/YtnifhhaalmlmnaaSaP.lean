/- split.Pick; arrays of 256 numbers; SplitPicks' walk. -/
import Derived.Test.YtnifhhaalmlmnaaSpV
import Derived.Deep.MidRow
namespace Go.Proofs.Ytnifhhaalmlmnaa
open Go.RowKit Go.Sort
def arrV (zs : List Int) : Array Value := (zs.map (Value.int .i64)).toArray
theorem arrV_get {zs : List Int} {i : Nat} {z : Int} (h : zs[i]? = some z) : (arrV zs)[i]? = some (.int .i64 z) := by simp [arrV, h]
theorem arrV_size (zs : List Int) : (arrV zs).size = zs.length := by simp [arrV]
theorem arrV_one (zs : List Int) : (arrV zs).all (·.oneCell') = true := by simp [arrV, Value.oneCell']
section
variable {w : World} {g : Nat} {cs vs : Array Value}
theorem blkR_there {t : TypeId} (h : Blk w g t cs) : w.there g 0 cs.size := fun j hj => ⟨by rw [Nat.zero_add, h.cell, Array.getElem?_eq_getElem hj]; rfl, by rw [Nat.zero_add]; exact h.frozen j⟩
theorem blkR_range {t : TypeId} (h : Blk w g t cs) : w.rangeAt g 0 cs.toList := fun j v hj => by rw [Nat.zero_add, h.cell]; simpa using hj
theorem arr_info : (Try.prog.info? 32).map (·.size) = some 256 := by kernel_rfl
theorem arr_store (h : Blk w g 32 cs) (hc : cs.size = 256) (hv : vs.size = 256) (h1 : vs.all (·.oneCell') = true) : (Instr.storeAt 32 (.pointer (some ⟨g, 0, none⟩)) (.agg vs)).run Try.prog w = .ok () (w.setCells g 0 vs.toList) :=
  run_storeAt_mid w g 0 _ vs (by have := blkR_there h; rwa [hc, ← hv] at this) (by rw [hv]; exact arr_info) h1
theorem arr_load (h : Blk w g 32 cs) (hc : cs.size = 256) : (Instr.loadAt 32 (.pointer (some ⟨g, 0, none⟩))).run Try.prog w = .ok (.agg cs) w := by
  have := run_loadAt_mid (P := Try.prog) w g 0 32 cs.toList _ (blkR_range h) Try.underlying32 rfl (by simpa [hc] using arr_info)
  simpa using this
end
theorem ld_int {w : World} {g i : Nat} {z : Int} (hu : w.cell? ⟨g, i, none⟩ = some (.int .i64 z)) : (Instr.loadAt 3 (.pointer (some ⟨g, i, none⟩))).run Try.prog w = .ok (.int .i64 z) w := by
  simp [go_sem, hu]
theorem pick_any (zs : List Int) (hz : zs.length = 256) (h : Nat) (w : World) :
    Calls Try.prog 9 #[.agg (arrV zs), .int .u32 (h : Int)] w fun e w' => e = .returned (.int .i64 (zs.getD (h % 256) 0)) ∧ Below w.heap.size w w' := by
  obtain ⟨z, hzz⟩ : ∃ z, zs[h % 256]? = some z := ⟨zs[h % 256]'(by omega), List.getElem?_eq_getElem _⟩
  have HE := Lib.hid (show zs.getD (h % 256) 0 = z by rw [List.getD_eq_getElem?_getD, hzz]; rfl)
  obtain ⟨vs, hvs⟩ : ∃ v, v = arrV zs := ⟨_, rfl⟩
  have hc := arrV_get hzz
  rw [← hvs] at hc ⊢
  obtain ⟨W, hW⟩ : ∃ W, W = w.alloc (.cells vs 32) := ⟨_, rfl⟩
  have hk : Blk W w.heap.size 32 vs := by rw [hW]; exact Blk.new _ _ _
  have HB := Lib.hid (show Below w.heap.size w W by rw [hW]; exact (Below.refl _ _).alloc (Nat.le_refl _) _)
  obtain ⟨i, hi⟩ : ∃ i, i = h % 256 := ⟨_, rfl⟩
  rw [← hi] at hc
  have hx : W.cell? ⟨w.heap.size, i, none⟩ = some (.int .i64 z) := (hk.cell i).trans hc
  have he : ((h : Int) % 256) = (i : Int) := by omega
  have hil : (i : Int) < 256 := by omega
  have hi0 : (0 : Int) ≤ i := by omega
  have HW := Lib.hid hW
  have h0 : (0 : Int) ≤ h := by omega
  clear hzz hvs hc hW hk hi hz
  go_enter Try.func9, Try.ntmps9
  go_upto_region 1 with (fail)
  rw [← HW.out]
  go_wp2_with fail
  go_ret
  exact ⟨by rw [HE.out]; rfl, HB.out⟩
attribute [-go_sem] Instr.storeAt Instr.loadAt in
set_option maxRecDepth 20000 in
set_option maxHeartbeats 1600000 in
theorem picks_any (zs : List Int) (hz : zs.length = 256) (h : Nat) (hh : h < 4294967296) (w : World) :
    Calls Try.prog 4 #[.agg (arrV zs), .int .u32 (h : Int)] w fun e w' => e = .returned (.bool true) ∧ Below w.heap.size w w' := by
  obtain ⟨z, hzz⟩ : ∃ z, zs[h % 256]? = some z := ⟨zs[h % 256]'(by omega), List.getElem?_eq_getElem _⟩
  have hzd : zs.getD (h % 256) 0 = z := by rw [List.getD_eq_getElem?_getD, hzz]; rfl
  obtain ⟨h2, hh2⟩ : ∃ k, k = (h + 256) % 4294967296 := ⟨_, rfl⟩
  have hm2 : h2 % 256 = h % 256 := by omega
  have hw2 : IntKind.u32.wrap ((h : Int) + 256) = (h2 : Int) := by
    rw [hh2]
    simp [IntKind.wrap, IntKind.bits, IntKind.signed]
  have hw1 : IntKind.i64.wrap (h : Int) = (h : Int) := IntWalk.i64_in _ (by omega)
  have hp1 := fun wx => pick_any zs hz h wx
  have hp2 := fun wx => pick_any zs hz h2 wx
  rw [hm2] at hp2
  rw [hzd] at hp1 hp2
  obtain ⟨vs, hvs⟩ : ∃ v, v = arrV zs := ⟨_, rfl⟩
  have hc := arrV_get hzz
  have hvn : vs.size = 256 := by rw [hvs, arrV_size, hz]
  rw [← hvs] at hc hp1 hp2 ⊢
  obtain ⟨W, hW⟩ : ∃ W, W = w.alloc (.cells vs 32) := ⟨_, rfl⟩
  have hk : Blk W w.heap.size 32 vs := by rw [hW]; exact Blk.new _ _ _
  have HB := Lib.hid (show Below w.heap.size w W by rw [hW]; exact (Below.refl _ _).alloc (Nat.le_refl _) _)
  obtain ⟨i, hi⟩ : ∃ i, i = h % 256 := ⟨_, rfl⟩
  rw [← hi] at hc
  have he : ((h : Int) % 256) = (i : Int) := by omega
  have het : ((h : Int).tmod 256) = (i : Int) := by rw [Int.tmod_eq_emod_of_nonneg (by omega)]; exact he
  have x1 := fun (dd : Nat) (os : Array Obj) => arr_load (hk.below (below_regrown W dd os) hk.lt) hvn
  have x2 := fun (dd : Nat) (os : Array Obj) => ld_int (((hk.below (below_regrown W dd os) hk.lt).cell i).trans hc)
  have cA := fun (dd : Nat) (os : Array Obj) => Calls.regrown_of (hp1 (grow (redrawn W dd) os))
  have cB := fun (dd : Nat) (os : Array Obj) => Calls.regrown_of (hp2 (grow (redrawn W dd) os))
  have cC := fun (dd : Nat) (os : Array Obj) => Calls.regrown_of (known13_any (grow (redrawn W dd) os))
  have e1 : (z == z) = true := beq_self_eq_true z
  have hil : (i : Int) < 256 := by omega
  have hi0 : (0 : Int) ≤ i := by omega
  have h0 : (0 : Int) ≤ h := by omega
  have HW := Lib.hid hW
  clear hzz hzd hvs hc hW hk hi hz hh hh2 hm2 hp1 hp2 hvn
  go_enter Try.func4, Try.ntmps4
  go_upto_region 1 with (fail)
  rw [← HW.out]
  refine wp_region_quiet_below (by kernel_rfl) (by kernel_rfl) ?_
  repeat (go_big_quiet_step (first | with_reducible exact cA _ _ | with_reducible exact cB _ _ | with_reducible exact cC _ _))
  refine wpQuiet_nil ?_
  intro _ hw'
  obtain ⟨⟨dq, osq⟩, hw''⟩ := hw'
  subst hw''
  have HB2 := Lib.hid (HB.out.trans ((below_regrown W dq osq).mono HB.out.size))
  go_wp2_with fail
  go_ret
  exact ⟨rfl, HB2.out⟩
end Go.Proofs.Ytnifhhaalmlmnaa
