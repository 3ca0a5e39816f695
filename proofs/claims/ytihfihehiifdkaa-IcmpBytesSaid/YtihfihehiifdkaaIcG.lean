/- Icmp: may, May, Quote, of both. -/
import Derived.Test.YtihfihehiifdkaaIcF
import Derived.Test.YtihfihehiifdkaaIrD
namespace Go.Proofs.Ytihfihehiifdkaa
open Go.RowKit Go.Sort Go.BigFrame
theorem emay1 {h : Hd} {p : By} (hh : h.off ≠ 0) : emayH h p = false := by unfold emayH; simp [hh]
theorem emay2 {h : Hd} {p : By} (hh : h.src = 0) : emayH h p = false := by unfold emayH; simp [hh]
theorem emay3 {h : Hd} {p : By} (hh : multiF h.src = true) : emayH h p = false := by unfold emayH; simp [hh]
theorem emay4 {h : Hd} {p : By} (hh : multiF h.dst = true) : emayH h p = false := by unfold emayH; simp [hh]
theorem emay5 {h : Hd} {p : By} (h1 : ¬ h.off ≠ 0) (h2 : ¬ h.src = 0) (h3 : multiF h.src = false) (h4 : multiF h.dst = false) : emayH h p = (decide (h.proto ≠ 1) || (decide (8 ≤ p.length) && !errT (p.getD 0 0))) := by
  unfold emayH
  simp [h1, h2, h3, h4]
theorem ic_build1 (w : World) (z : Int) : (Instr.build 45 #[(0, .int .u8 z)]).run Try.prog w = .ok (.agg #[.int .u8 z, .int .u8 0, .int .u8 0, .int .u8 0, .int .u8 0, .int .u8 0, .slice none 0 0]) w := by kernel_rfl
theorem emerr_any (t : UInt8) (w : World) : Calls Try.prog 28 #[.agg #[.int .u8 (t.toNat : Int), .int .u8 0, .int .u8 0, .int .u8 0, .int .u8 0, .int .u8 0, .slice none 0 0]] w fun e w' => e = .returned (.bool (errT t)) ∧ Below w.heap.size w w' :=
  icerr_any ⟨t, 0, 0, 0, 0, 0, []⟩ (.slice none 0 0) w rfl
attribute [-go_sem] Instr.storeAt in
set_option maxRecDepth 100000 in
set_option maxHeartbeats 4000000 in
theorem icmay_any (h : Hd) (A : Option Addr) (n c : Nat) (Ap : Option Addr) (q cp : Nat) (p : By) (I : Nat → Prop) (w : World) (hp : Reads w I 1 Ap q (bytesV p)) (hq : p.length = q) :
    Calls Try.prog 64 #[hdV h (.slice A n c), .slice Ap q cp] w fun e w' => e = .returned (.bool (emayH h p)) ∧ Below w.heap.size w w' := by
  have hb0 : Below w.heap.size w (w.alloc (.cells (hdC h (.slice A n c)) 32)) := (Below.refl _ _).alloc (Nat.le_refl _) _
  have hk0 := Blk.new w 32 (hdC h (.slice A n c))
  obtain ⟨W, hW⟩ : ∃ W, W = w.alloc (.cells (hdC h (.slice A n c)) 32) := ⟨_, rfl⟩
  rw [← hW] at hb0 hk0
  obtain ⟨of0, hof⟩ : ∃ z, z = h.off := ⟨_, rfl⟩
  obtain ⟨sr, hsr⟩ : ∃ z, z = h.src := ⟨_, rfl⟩
  obtain ⟨ds, hds⟩ : ∃ z, z = h.dst := ⟨_, rfl⟩
  obtain ⟨pr, hpr⟩ : ∃ z, z = h.proto := ⟨_, rfl⟩
  have k5 : W.cell? ⟨w.heap.size, 5, none⟩ = some (.int .i64 of0) := by rw [hof]; exact hk0.cell 5
  have k8 : W.cell? ⟨w.heap.size, 8, none⟩ = some (.int .u32 (sr : Int)) := by rw [hsr]; exact hk0.cell 8
  have k9 : W.cell? ⟨w.heap.size, 9, none⟩ = some (.int .u32 (ds : Int)) := by rw [hds]; exact hk0.cell 9
  have k7 : W.cell? ⟨w.heap.size, 7, none⟩ = some (.int .u8 (pr : Int)) := by rw [hpr]; exact hk0.cell 7
  have hm1 := multi_any sr W
  have hm2 := multi_any ds W
  have e5 := emay5 (h := h) (p := p)
  have e1 := emay1 (h := h) (p := p)
  have e2 := emay2 (h := h) (p := p)
  have e3 := emay3 (h := h) (p := p)
  have e4 := emay4 (h := h) (p := p)
  rw [← hof, ← hsr, ← hds, ← hpr] at e5
  rw [← hof] at e1
  rw [← hsr] at e2 e3
  rw [← hds] at e4
  obtain ⟨E, hE⟩ : ∃ E, E = emayH h p := ⟨_, rfl⟩
  rw [← hE] at e1 e2 e3 e4 e5 ⊢
  obtain ⟨m1, hm1'⟩ : ∃ b, b = multiF sr := ⟨_, rfl⟩
  obtain ⟨m2, hm2'⟩ : ∃ b, b = multiF ds := ⟨_, rfl⟩
  rw [← hm1'] at hm1 e3 e5
  rw [← hm2'] at hm2 e4 e5
  have HM1 := Lib.hid hm1
  have HM2 := Lib.hid hm2
  have HE1 := Lib.hid e1
  have HE2 := Lib.hid e2
  have HE3 := Lib.hid e3
  have HE4 := Lib.hid e4
  have HE5 := Lib.hid e5
  have HB := Lib.hid hb0
  have HW := Lib.hid hW
  have HRP := Lib.hid ((hp.lt).keep (Same.ofBelow hb0 fun k hk => hk.2))
  have HQ := Lib.hid hq
  have bd := ic_build1
  clear hb0 hk0 hof hsr hds hpr hm1 hm2 e1 e2 e3 e4 e5 hE hm1' hm2' hW hp hq
  unfold hdV
  go_enter Try.func64, Try.ntmps64
  go_upto_region 1 with (fail)
  have hW2 := HW.out
  unfold hdC at hW2
  rw [← hW2]
  clear hW2
  by_cases c1 : of0 ≠ 0
  · obtain rfl := HE1.out c1
    have b1 : (of0 != 0) = true := by rw [bne_iff_ne]; exact c1
    clear c1
    go_wp2_with fail
    go_ret
    exact ⟨rfl, HB.out⟩
  have b1 : (of0 != 0) = false := by rw [bne_eq_false_iff_eq]; omega
  by_cases c2 : sr = 0
  · obtain rfl := HE2.out c2
    have b2 : ((sr : Int) == 0) = true := by rw [beq_iff_eq]; omega
    clear c1 c2
    go_wp2_with fail
    go_ret
    exact ⟨rfl, HB.out⟩
  have b2 : ((sr : Int) == 0) = false := by rw [beq_eq_false_iff_ne]; omega
  cases m1 with
  | true =>
    obtain rfl := HE3.out rfl
    clear c1 c2
    go_wp2_with (refine HM1.out.mono ?_; rintro e w' ⟨rfl, rfl⟩)
    go_ret
    exact ⟨rfl, HB.out⟩
  | false =>
  cases m2 with
  | true =>
    obtain rfl := HE4.out rfl
    clear c1 c2
    go_wp2_with (go_at_call 93; first | (refine HM1.out.mono ?_; rintro e w' ⟨rfl, rfl⟩) | (refine HM2.out.mono ?_; rintro e w' ⟨rfl, rfl⟩))
    go_ret
    exact ⟨rfl, HB.out⟩
  | false =>
  have he := HE5.out c1 c2 rfl rfl
  clear c1 c2 HE1 HE2 HE3 HE4 HE5
  by_cases c3 : pr ≠ 1
  · obtain rfl : E = true := by rw [he, decide_eq_true c3]; rfl
    have b3 : ((pr : Int) != 1) = true := by rw [bne_iff_ne]; omega
    clear he c3
    go_wp2_with (go_at_call 93; first | (refine HM1.out.mono ?_; rintro e w' ⟨rfl, rfl⟩) | (refine HM2.out.mono ?_; rintro e w' ⟨rfl, rfl⟩))
    go_ret
    exact ⟨rfl, HB.out⟩
  have b3 : ((pr : Int) != 1) = false := by rw [bne_eq_false_iff_eq]; omega
  rw [decide_eq_false c3, Bool.false_or] at he
  clear c3
  by_cases c4 : 8 ≤ q
  · rw [decide_eq_true (show 8 ≤ p.length by rw [HQ.out]; exact c4), Bool.true_and] at he
    obtain ⟨ad, rfl, hc⟩ := head8 HRP.out HQ.out c4
    have h0 := hc 0 (by omega)
    rw [show ad.add 0 = ad by simp [Addr.add]] at h0
    obtain ⟨t, ht⟩ : ∃ t, t = p.getD 0 0 := ⟨_, rfl⟩
    rw [← ht] at he h0
    have HT := Lib.hid (emerr_any t W)
    obtain ⟨z, hz⟩ : ∃ z : Int, z = (t.toNat : Int) := ⟨_, rfl⟩
    rw [← hz] at HT h0
    have b4 : decide ((8 : Int) ≤ (q : Int)) = true := decide_eq_true (by omega)
    have b5 : decide (8 ≤ q) = true := decide_eq_true c4
    have hq0 : (0 : Int) < q := by omega
    obtain ⟨G, hG⟩ : ∃ G, G = errT t := ⟨_, rfl⟩
    rw [← hG] at HT he
    subst he
    clear hc ht hz hG c4
    go_wp2_with (first | (go_at_call 93; first | (refine HM1.out.mono ?_; rintro e w' ⟨rfl, rfl⟩) | (refine HM2.out.mono ?_; rintro e w' ⟨rfl, rfl⟩)) | (go_at_call 28; refine HT.out.mono ?_; rintro e w1 ⟨rfl, hb1⟩; have HB1 := Lib.hid (HB.out.trans (hb1.mono HB.out.size)); clear hb1))
    go_ret
    exact ⟨rfl, HB1.out⟩
  · rw [decide_eq_false (show ¬ 8 ≤ p.length by rw [HQ.out]; exact c4), Bool.false_and] at he
    subst he
    have b4 : decide ((8 : Int) ≤ (q : Int)) = false := decide_eq_false (by omega)
    have b5 : decide (8 ≤ q) = false := decide_eq_false c4
    clear c4
    go_wp2_with (go_at_call 93; first | (refine HM1.out.mono ?_; rintro e w' ⟨rfl, rfl⟩) | (refine HM2.out.mono ?_; rintro e w' ⟨rfl, rfl⟩))
    go_ret
    exact ⟨rfl, HB.out⟩
end Go.Proofs.Ytihfihehiifdkaa
