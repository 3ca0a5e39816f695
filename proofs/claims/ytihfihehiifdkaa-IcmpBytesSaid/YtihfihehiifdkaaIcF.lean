/- Icmp: which may be answered. -/
import Derived.Test.YtihfihehiifdkaaIcE
import Derived.Test.YtihfihehiifdkaaIrA
namespace Go.Proofs.Ytihfihehiifdkaa
open Go.RowKit Go.Sort Go.BigFrame
theorem errT_nat (t : UInt8) : errT t = (decide (t.toNat = 3) || decide (t.toNat = 4) || decide (t.toNat = 5) || decide (t.toNat = 11) || decide (t.toNat = 12)) := by
  have e : ∀ k : UInt8, (t == k) = decide (t.toNat = k.toNat) := fun k => by rw [Bool.eq_iff_iff, beq_iff_eq, decide_eq_true_eq]; exact ⟨fun h => by rw [h], fun h => UInt8.toNat_inj.1 h⟩
  unfold errT
  rw [e, e, e, e, e]
  rfl
set_option maxHeartbeats 1000000 in
theorem icerr_any (m : Ic) (v : Value) (w : World) (_hv : v.oneCell' = true) :
    Calls Try.prog 28 #[icV m v] w fun e w' => e = .returned (.bool (errT m.ty)) ∧ Below w.heap.size w w' := by
  have hb0 : Below w.heap.size w (w.alloc (.cells (icC m v) 45)) := (Below.refl _ _).alloc (Nat.le_refl _) _
  have hk0 := Blk.new w 45 (icC m v)
  obtain ⟨W, hW⟩ : ∃ W, W = w.alloc (.cells (icC m v) 45) := ⟨_, rfl⟩
  rw [← hW] at hb0 hk0
  have he := errT_nat m.ty
  have k0 : W.cell? ⟨w.heap.size, 0, none⟩ = some (.int .u8 (m.ty.toNat : Int)) := hk0.cell 0
  obtain ⟨z, hz⟩ : ∃ z : Int, z = (m.ty.toNat : Int) := ⟨_, rfl⟩
  rw [← hz] at k0
  have he2 : errT m.ty = (decide (z = 3) || decide (z = 4) || decide (z = 5) || decide (z = 11) || decide (z = 12)) := by
    have hk : ∀ k : Nat, decide (m.ty.toNat = k) = decide (z = (k : Int)) := fun k => by rw [hz]; exact decide_eq_decide.2 (by omega)
    rw [he, hk, hk, hk, hk, hk]
    rfl
  obtain ⟨E, hE⟩ : ∃ E, E = errT m.ty := ⟨_, rfl⟩
  rw [← hE] at he2 ⊢
  have HB := Lib.hid hb0
  have HW := Lib.hid hW
  clear hb0 hk0 hz he hE hW
  unfold icV
  go_enter Try.func28, Try.ntmps28
  go_upto_region 1 with (fail)
  rw [← HW.out]
  by_cases h11 : z = 11
  · subst h11
    obtain rfl : E = true := by rw [he2]; rfl
    clear he2
    go_wp2_with fail
    go_ret
    exact ⟨rfl, HB.out⟩
  by_cases h12 : z = 12
  · subst h12
    obtain rfl : E = true := by rw [he2]; rfl
    clear he2
    go_wp2_with fail
    go_ret
    exact ⟨rfl, HB.out⟩
  by_cases h3 : z = 3
  · subst h3
    obtain rfl : E = true := by rw [he2]; rfl
    clear he2
    go_wp2_with fail
    go_ret
    exact ⟨rfl, HB.out⟩
  by_cases h4 : z = 4
  · subst h4
    obtain rfl : E = true := by rw [he2]; rfl
    clear he2
    go_wp2_with fail
    go_ret
    exact ⟨rfl, HB.out⟩
  by_cases h5 : z = 5
  · subst h5
    obtain rfl : E = true := by rw [he2]; rfl
    clear he2
    go_wp2_with fail
    go_ret
    exact ⟨rfl, HB.out⟩
  obtain rfl : E = false := by rw [he2]; simp [h11, h12, h3, h4, h5]
  clear he2
  have b11 : (z == 11) = false := beq_eq_false_iff_ne.2 h11
  have b12 : (z == 12) = false := beq_eq_false_iff_ne.2 h12
  have b3 : (z == 3) = false := beq_eq_false_iff_ne.2 h3
  have b4 : (z == 4) = false := beq_eq_false_iff_ne.2 h4
  have b5 : (z == 5) = false := beq_eq_false_iff_ne.2 h5
  clear h11 h12 h3 h4 h5
  go_wp2_with fail
  go_ret
  exact ⟨rfl, HB.out⟩
set_option maxHeartbeats 1000000 in
theorem ricerr_any (t : UInt8) (w : World) :
    Calls Try.prog 29 #[.int .u8 (t.toNat : Int)] w fun e w' => e = .returned (.bool (errT t)) ∧ w = w' := by
  have he := errT_nat t
  obtain ⟨z, hz⟩ : ∃ z : Int, z = (t.toNat : Int) := ⟨_, rfl⟩
  have he2 : errT t = (decide (z = 3) || decide (z = 4) || decide (z = 5) || decide (z = 11) || decide (z = 12)) := by
    have hk : ∀ k : Nat, decide (t.toNat = k) = decide (z = (k : Int)) := fun k => by rw [hz]; exact decide_eq_decide.2 (by omega)
    rw [he, hk, hk, hk, hk, hk]
    rfl
  obtain ⟨E, hE⟩ : ∃ E, E = errT t := ⟨_, rfl⟩
  rw [← hE] at he2 ⊢
  rw [← hz]
  clear hz he hE
  go_enter Try.func29, Try.ntmps29
  by_cases h3 : z = 3
  · subst h3
    obtain rfl : E = true := by rw [he2]; rfl
    clear he2
    go_wp2_with fail
    go_ret
    exact ⟨rfl, rfl⟩
  by_cases h4 : z = 4
  · subst h4
    obtain rfl : E = true := by rw [he2]; rfl
    clear he2
    go_wp2_with fail
    go_ret
    exact ⟨rfl, rfl⟩
  by_cases h5 : z = 5
  · subst h5
    obtain rfl : E = true := by rw [he2]; rfl
    clear he2
    go_wp2_with fail
    go_ret
    exact ⟨rfl, rfl⟩
  by_cases h11 : z = 11
  · subst h11
    obtain rfl : E = true := by rw [he2]; rfl
    clear he2
    go_wp2_with fail
    go_ret
    exact ⟨rfl, rfl⟩
  by_cases h12 : z = 12
  · subst h12
    obtain rfl : E = true := by rw [he2]; rfl
    clear he2
    go_wp2_with fail
    go_ret
    exact ⟨rfl, rfl⟩
  obtain rfl : E = false := by rw [he2]; simp [h11, h12, h3, h4, h5]
  clear he2
  have b11 : (z == 11) = false := beq_eq_false_iff_ne.2 h11
  have b12 : (z == 12) = false := beq_eq_false_iff_ne.2 h12
  have b3 : (z == 3) = false := beq_eq_false_iff_ne.2 h3
  have b4 : (z == 4) = false := beq_eq_false_iff_ne.2 h4
  have b5 : (z == 5) = false := beq_eq_false_iff_ne.2 h5
  clear h11 h12 h3 h4 h5
  go_wp2_with fail
  go_ret
  exact ⟨rfl, rfl⟩
end Go.Proofs.Ytihfihehiifdkaa
