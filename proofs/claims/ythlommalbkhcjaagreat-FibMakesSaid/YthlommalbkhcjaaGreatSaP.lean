
/- split.Pick; arrays of 256 numbers; the value picked. -/
import Derived.Test.YthlommalbkhcjaaGreatSpV
import Derived.Deep.MidRow
namespace Go.Proofs.YthlommalbkhcjaaGreat
open Go.RowKit Go.Sort
def arrV (zs : List Int) : Array Value := (zs.map (Value.int .i64)).toArray
theorem arrV_get {zs : List Int} {i : Nat} {z : Int} (h : zs[i]? = some z) : (arrV zs)[i]? = some (.int .i64 z) := by simp [arrV, h]
theorem arrV_size (zs : List Int) : (arrV zs).size = zs.length := by simp [arrV]
theorem arrV_one (zs : List Int) : (arrV zs).all (·.oneCell') = true := by simp [arrV, Value.oneCell']
section
variable {w : World} {g : Nat} {cs vs : Array Value}
theorem blkR_there {t : TypeId} (h : Blk w g t cs) : w.there g 0 cs.size := fun j hj => ⟨by rw [Nat.zero_add, h.cell, Array.getElem?_eq_getElem hj]; rfl, by rw [Nat.zero_add]; exact h.frozen j⟩
theorem blkR_range {t : TypeId} (h : Blk w g t cs) : w.rangeAt g 0 cs.toList := fun j v hj => by rw [Nat.zero_add, h.cell]; simpa using hj
theorem arr_info : (Tryz.prog.info? 39).map (·.size) = some 256 := by kernel_rfl
theorem arr_store (h : Blk w g 39 cs) (hc : cs.size = 256) (hv : vs.size = 256) (h1 : vs.all (·.oneCell') = true) : (Instr.storeAt 39 (.pointer (some ⟨g, 0, none⟩)) (.agg vs)).run Tryz.prog w = .ok () (w.setCells g 0 vs.toList) :=
  run_storeAt_mid w g 0 _ vs (by have := blkR_there h; rwa [hc, ← hv] at this) (by rw [hv]; exact arr_info) h1
theorem arr_load (h : Blk w g 39 cs) (hc : cs.size = 256) : (Instr.loadAt 39 (.pointer (some ⟨g, 0, none⟩))).run Tryz.prog w = .ok (.agg cs) w := by
  have := run_loadAt_mid (P := Tryz.prog) w g 0 39 cs.toList _ (blkR_range h) Tryz.underlying39 rfl (by simpa [hc] using arr_info)
  simpa using this
end
theorem ld_int {w : World} {g i : Nat} {z : Int} (hu : w.cell? ⟨g, i, none⟩ = some (.int .i64 z)) : (Instr.loadAt 3 (.pointer (some ⟨g, i, none⟩))).run Tryz.prog w = .ok (.int .i64 z) w := by
  simp [go_sem, hu]
theorem pick_any (zs : List Int) (hz : zs.length = 256) (h : Nat) (w : World) :
    Calls Tryz.prog 57 #[.agg (arrV zs), .int .u32 (h : Int)] w fun e w' => e = .returned (.int .i64 (zs.getD (h % 256) 0)) ∧ Below w.heap.size w w' := by
  obtain ⟨z, hzz⟩ : ∃ z, zs[h % 256]? = some z := ⟨zs[h % 256]'(by omega), List.getElem?_eq_getElem _⟩
  have HE := Lib.hid (show zs.getD (h % 256) 0 = z by rw [List.getD_eq_getElem?_getD, hzz]; rfl)
  obtain ⟨vs, hvs⟩ : ∃ v, v = arrV zs := ⟨_, rfl⟩
  have hc := arrV_get hzz
  rw [← hvs] at hc ⊢
  obtain ⟨W, hW⟩ : ∃ W, W = w.alloc (.cells vs 39) := ⟨_, rfl⟩
  have hk : Blk W w.heap.size 39 vs := by rw [hW]; exact Blk.new _ _ _
  have HB := Lib.hid (show Below w.heap.size w W by rw [hW]; exact (Below.refl _ _).alloc (Nat.le_refl _) _)
  obtain ⟨i, hi⟩ : ∃ i, i = h % 256 := ⟨_, rfl⟩
  rw [← hi] at hc
  have hx : W.cell? ⟨w.heap.size, i, none⟩ = some (.int .i64 z) := (hk.cell i).trans hc
  have he : ((h : Int) % 256) = (i : Int) := by omega
  have hil : (i : Int) < 256 := by omega
  have hi0 : (0 : Int) ≤ i := by omega
  have HW := Lib.hid hW
  have h0 : (0 : Int) ≤ h := by omega
  clear hzz hvs hc hW hk hi hz
  go_enter Tryz.func57, Tryz.ntmps57
  go_upto_region 1 with (fail)
  rw [← HW.out]
  go_wp2_with fail
  go_ret
  exact ⟨by rw [HE.out]; rfl, HB.out⟩
end Go.Proofs.YthlommalbkhcjaaGreat
