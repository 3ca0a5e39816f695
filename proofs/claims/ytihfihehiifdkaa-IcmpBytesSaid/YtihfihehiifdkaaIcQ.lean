/- Icmp: ref04.Echo. -/
import Derived.Test.YtihfihehiifdkaaIcO
namespace Go.Proofs.Ytihfihehiifdkaa
open Go.RowKit Go.Sort Go.BigFrame
attribute [-go_sem] Instr.storeAt Instr.loadAt in
set_option maxRecDepth 100000 in
set_option maxHeartbeats 8000000 in
theorem recho_any (A : Option Addr) (n c : Nat) (x : By) (I : Nat → Prop) (w : World) (h : Reads w I 1 A n (bytesV x)) (hn : x.length = n) (hc : n ≤ c) (hsm : n ≤ 1000000) :
    Calls Try.prog 32 #[.slice A n c] w fun e w' => e = .returned (.bool (echoF x)) ∧ Below w.heap.size w w' := by
  have hpa := rparse_any A n c x I w h hn hc hsm
  have hpl := prs_len x
  obtain ⟨E, hE⟩ : ∃ E, E = echoF x := ⟨_, rfl⟩
  rw [← hE]
  unfold echoF at hE
  rw [echo_steps] at hE
  obtain ⟨R, hR⟩ : ∃ R, R = prsF x := ⟨_, rfl⟩
  rw [← hR] at hpa hE hpl
  obtain ⟨g, y, f⟩ := R
  simp only at hE hpl
  have HPA := Lib.hid hpa
  obtain ⟨O, hO⟩ : ∃ O, O = icOf y := ⟨_, rfl⟩
  rw [← hO] at hE
  have HO := Lib.hid hO
  obtain ⟨q, hq⟩ : ∃ q, q = y.length := ⟨_, rfl⟩
  have HQ := Lib.hid hq
  have hqs : q ≤ 1000000 := by omega
  obtain ⟨fg, hfg⟩ : ∃ b, b = fragH g := ⟨_, rfl⟩
  obtain ⟨pr, hpr⟩ : ∃ z, z = g.proto := ⟨_, rfl⟩
  obtain ⟨ty, hty⟩ : ∃ z : Int, z = (O.1.ty.toNat : Int) := ⟨_, rfl⟩
  obtain ⟨co, hco⟩ : ∃ z : Int, z = (O.1.co.toNat : Int) := ⟨_, rfl⟩
  obtain ⟨er, her⟩ : ∃ z, z = O.2 := ⟨_, rfl⟩
  rw [← hfg, ← hpr, ← hty, ← hco, ← her] at hE
  have HE := Lib.hid hE
  have HFG := Lib.hid hfg
  have HPR := Lib.hid hpr
  have HTY := Lib.hid hty
  have HCO := Lib.hid hco
  have HER := Lib.hid her
  clear hpa hE hR h hn hc hsm hO hq hfg hpr hty hco her hpl
  go_enter Try.func32, Try.ntmps32
  go_upto_region 2 with
    (go_at_call 16
     refine HPA.out.mono ?_
     rintro e w1 ⟨vo, vq, rfl, ho, hq, hb⟩
     obtain ⟨Ao, co', rfl, _⟩ := ho
     obtain ⟨Aq, cq, rfl, hcq, hrq⟩ := hq
     rw [show (g, y, f).2.1.length = q from HQ.out.symm] at hcq hrq ⊢
     obtain ⟨w2, hst, hb2, hb12, hk2⟩ := hd_var hb hb.size g Ao g.opts.length co'
     have HB2 := Lib.hid hb2
     have HH2 := Lib.hid hk2
     have HRQ := Lib.hid ((hrq.lt).keep (Same.ofBelow hb12 fun j hj => hj.2))
     clear hrq hb hb2 hb12 hk2)
  obtain ⟨gh, hgh⟩ : ∃ z, z = w1.heap.size := ⟨_, rfl⟩
  rw [← hgh] at HH2 ⊢
  clear hgh hst
  have hld := hd_load HH2.out rfl
  have k7 := ld_u8s (show w2.cell? ⟨gh, 7, none⟩ = some (.int .u8 (pr : Int)) by rw [HPR.out]; exact HH2.out.cell 7)
  by_cases c1 : f = 0
  rotate_left
  · have hE := HE.out
    rw [decide_eq_false c1, Bool.false_and] at hE
    subst hE
    have b1 : ((f : Int) != 0) = true := by rw [bne_iff_ne]; omega
    clear c1
    go_wp2_with fail
    go_ret
    exact ⟨rfl, HB2.out⟩
  have b1 : ((f : Int) != 0) = false := by rw [bne_eq_false_iff_eq]; omega
  have hE := HE.out
  rw [decide_eq_true c1, Bool.true_and] at hE
  clear c1 HE
  have hfr := rfrag_any g Ao g.opts.length co' w2
  rw [← HFG.out] at hfr
  have HFR := Lib.hid hfr
  clear hfr
  cases fg with
  | true =>
    rw [Bool.not_true, Bool.false_and] at hE
    subst hE
    go_wp2_with (go_at_call 75; refine HFR.out.mono ?_; rintro e w5 ⟨rfl, hb5⟩; have HB5 := Lib.hid (HB2.out.trans (hb5.mono HB2.out.size)); clear hb5)
    go_ret
    exact ⟨rfl, HB5.out⟩
  | false =>
  rw [Bool.not_false, Bool.true_and] at hE
  by_cases c2 : pr = 1
  rotate_left
  · rw [decide_eq_false c2, Bool.false_and] at hE
    subst hE
    have b2 : ((pr : Int) != 1) = true := by rw [bne_iff_ne]; omega
    clear c2
    go_wp2_with (go_at_call 75; refine HFR.out.mono ?_; rintro e w5 ⟨rfl, hb5⟩; have HB5 := Lib.hid (HB2.out.trans (hb5.mono HB2.out.size)); have k7 := ld_u8s (show w5.cell? ⟨gh, 7, none⟩ = some (.int .u8 (pr : Int)) by rw [HPR.out]; exact (HH2.out.below hb5 HH2.out.lt).cell 7); clear hb5)
    go_ret
    exact ⟨rfl, HB5.out⟩
  rw [decide_eq_true c2, Bool.true_and] at hE
  have b2 : ((pr : Int) != 1) = false := by rw [bne_eq_false_iff_eq]; omega
  clear c2
  have HOF := Lib.hid (fun wx (hb : Below w2.heap.size w2 wx) => ricof_any Aq q cq y _ wx (HRQ.out.lt.keep (Same.ofBelow hb fun j hj => hj.2)) HQ.out.symm hcq hqs)
  rw [← HO.out] at HOF
  go_upto_region 5 with
    (first
      | (go_at_call 75; refine HFR.out.mono ?_; rintro e w5 ⟨rfl, hb5⟩; have HB5 := Lib.hid (HB2.out.trans (hb5.mono HB2.out.size)); have HB25 := Lib.hid hb5; have k7 := ld_u8s (show w5.cell? ⟨gh, 7, none⟩ = some (.int .u8 (pr : Int)) by rw [HPR.out]; exact (HH2.out.below hb5 HH2.out.lt).cell 7); clear hb5)
      | (go_at_call 23
         refine (HOF.out _ HB25.out).mono ?_
         rintro e w3 ⟨v3, rfl, h3, hb3⟩
         obtain ⟨A3, c3, rfl, _⟩ := h3
         have hb3' := HB5.out.trans (hb3.mono HB5.out.size)
         obtain ⟨w4, hst4, hb4, hb34, hk4⟩ := ic_var hb3' hb3'.size O.1 A3 O.1.body.length c3
         have HB4 := Lib.hid hb4
         have HK4 := Lib.hid hk4
         rw [← HER.out]
         unfold icV
         clear hb3 hb3' hb4 hb34 hk4))
  have t0 := ld_u8s (show w4.cell? ⟨w3.heap.size, 0, none⟩ = some (.int .u8 ty) by rw [HTY.out]; exact HK4.out.cell 0)
  have t1 := ld_u8s (show w4.cell? ⟨w3.heap.size, 1, none⟩ = some (.int .u8 co) by rw [HCO.out]; exact HK4.out.cell 1)
  obtain ⟨d3, hd3⟩ : ∃ d, d = decide (er = 0) := ⟨_, rfl⟩
  rw [← hd3] at hE ⊢
  clear hd3
  cases d3 with
  | false =>
    rw [Bool.false_and] at hE
    subst hE
    go_wp2_with fail
    go_ret
    exact ⟨rfl, HB4.out⟩
  | true =>
  rw [Bool.true_and] at hE
  by_cases c4 : ty = 8
  rotate_left
  · rw [decide_eq_false c4, Bool.false_and] at hE
    subst hE
    have b4 : (ty == 8) = false := beq_eq_false_iff_ne.2 c4
    clear c4
    go_wp2_with fail
    go_ret
    exact ⟨rfl, HB4.out⟩
  rw [decide_eq_true c4, Bool.true_and] at hE
  have b4 : (ty == 8) = true := beq_iff_eq.2 c4
  clear c4
  by_cases c5 : co = 0
  · rw [decide_eq_true c5] at hE
    subst hE
    have b5 : (co == 0) = true := beq_iff_eq.2 c5
    clear c5
    go_wp2_with fail
    go_ret
    exact ⟨rfl, HB4.out⟩
  · rw [decide_eq_false c5] at hE
    subst hE
    have b5 : (co == 0) = false := beq_eq_false_iff_ne.2 c5
    clear c5
    go_wp2_with fail
    go_ret
    exact ⟨rfl, HB4.out⟩
end Go.Proofs.Ytihfihehiifdkaa
