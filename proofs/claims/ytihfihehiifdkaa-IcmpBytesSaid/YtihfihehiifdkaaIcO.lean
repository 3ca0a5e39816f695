/- Icmp: Echo of both. -/
import Derived.Test.YtihfihehiifdkaaIcN
namespace Go.Proofs.Ytihfihehiifdkaa
open Go.RowKit Go.Sort Go.BigFrame
theorem u8_eq (t : UInt8) (k : UInt8) : (t == k) = decide ((t.toNat : Int) = (k.toNat : Int)) := by
  rw [Bool.eq_iff_iff, beq_iff_eq, decide_eq_true_eq]
  exact ⟨fun h => by rw [h], fun h => UInt8.toNat_inj.1 (by omega)⟩
theorem echo_steps (h : Hd) (p : By) : echoH h p = (!fragH h && (decide (h.proto = 1) && (decide ((icOf p).2 = 0) && (decide (((icOf p).1.ty.toNat : Int) = 8) && decide (((icOf p).1.co.toNat : Int) = 0))))) := by
  unfold echoH
  rw [u8_eq, u8_eq]
  simp [Bool.and_assoc]
attribute [-go_sem] Instr.storeAt Instr.loadAt in
set_option maxRecDepth 100000 in
set_option maxHeartbeats 8000000 in
theorem echo_any (A : Option Addr) (n c : Nat) (x : By) (I : Nat → Prop) (w : World) (h : Reads w I 1 A n (bytesV x)) (hn : x.length = n) (hc : n ≤ c) (hsm : n ≤ 1000000) :
    Calls Try.prog 31 #[.slice A n c] w fun e w' => e = .returned (.bool (echoF x)) ∧ Below w.heap.size w w' := by
  have hpa := parse_any A n c x I w h hn hc hsm
  have hpl := prs_len x
  obtain ⟨E, hE⟩ : ∃ E, E = echoF x := ⟨_, rfl⟩
  rw [← hE]
  unfold echoF at hE
  rw [echo_steps] at hE
  obtain ⟨R, hR⟩ : ∃ R, R = prsF x := ⟨_, rfl⟩
  rw [← hR] at hpa hE hpl
  obtain ⟨g, y, f⟩ := R
  simp only at hE hpl
  have HPA := Lib.hid hpa
  obtain ⟨O, hO⟩ : ∃ O, O = icOf y := ⟨_, rfl⟩
  rw [← hO] at hE
  have HO := Lib.hid hO
  obtain ⟨q, hq⟩ : ∃ q, q = y.length := ⟨_, rfl⟩
  have HQ := Lib.hid hq
  have hqs : q ≤ 1000000 := by omega
  obtain ⟨fg, hfg⟩ : ∃ b, b = fragH g := ⟨_, rfl⟩
  obtain ⟨pr, hpr⟩ : ∃ z, z = g.proto := ⟨_, rfl⟩
  obtain ⟨ty, hty⟩ : ∃ z : Int, z = (O.1.ty.toNat : Int) := ⟨_, rfl⟩
  obtain ⟨co, hco⟩ : ∃ z : Int, z = (O.1.co.toNat : Int) := ⟨_, rfl⟩
  obtain ⟨er, her⟩ : ∃ z, z = O.2 := ⟨_, rfl⟩
  rw [← hfg, ← hpr, ← hty, ← hco, ← her] at hE
  have HE := Lib.hid hE
  have HFG := Lib.hid hfg
  have HPR := Lib.hid hpr
  have HTY := Lib.hid hty
  have HCO := Lib.hid hco
  have HER := Lib.hid her
  clear hpa hE hR h hn hc hsm hO hq hfg hpr hty hco her hpl
  go_enter Try.func31, Try.ntmps31
  go_upto_region 2 with
    (go_at_call 34
     refine HPA.out.mono ?_
     rintro e w1 ⟨vo, vq, rfl, ho, hq, _, hb⟩
     obtain ⟨Ao, co', rfl, _⟩ := ho.form
     obtain ⟨Aq, cq, rfl, hcq⟩ := hq.form
     rw [show (g, y, f).2.1.length = q from HQ.out.symm] at hcq ⊢
     obtain ⟨w2, hst, hb2, hb12, hk2⟩ := hd_var hb hb.size g Ao g.opts.length co'
     have HB2 := Lib.hid hb2
     have HH2 := Lib.hid hk2
     have HQ2 := Lib.hid (hq.below hb12)
     clear ho hq hb hb2 hb12 hk2)
  have hq2 := HQ2.out.reads.2
  rw [show (g, y, f).2.1.length = q from HQ.out.symm] at hq2
  have hof := icof_any Aq q cq y _ w2 hq2 HQ.out.symm hcq hqs
  rw [← HO.out] at hof
  have HOF := Lib.hid hof
  clear hq2 hof hst
  obtain ⟨gh, hgh⟩ : ∃ z, z = w1.heap.size := ⟨_, rfl⟩
  rw [← hgh] at HH2 ⊢
  clear hgh
  go_upto_region 3 with
    (go_at_call 22
     refine HOF.out.mono ?_
     rintro e w3 ⟨v3, rfl, h3, hb3⟩
     obtain ⟨A3, c3, rfl, _⟩ := h3.form
     have hb3' := HB2.out.trans (hb3.mono HB2.out.size)
     have hh3 := HH2.out.below hb3 HH2.out.lt
     obtain ⟨w4, hst4, hb4, hb34, hk4⟩ := ic_var hb3' hb3'.size O.1 A3 O.1.body.length c3
     have HH4 := Lib.hid (hh3.below hb34 hh3.lt)
     have HB4 := Lib.hid hb4
     have HK4 := Lib.hid hk4
     rw [← HER.out]
     unfold icV
     clear h3 hb3 hb3' hh3 hb4 hb34 hk4)
  have hld := hd_load HH4.out rfl
  have k7 : w4.cell? ⟨gh, 7, none⟩ = some (.int .u8 (pr : Int)) := by rw [HPR.out]; exact HH4.out.cell 7
  have t0 : w4.cell? ⟨w3.heap.size, 0, none⟩ = some (.int .u8 ty) := by rw [HTY.out]; exact HK4.out.cell 0
  have t1 : w4.cell? ⟨w3.heap.size, 1, none⟩ = some (.int .u8 co) := by rw [HCO.out]; exact HK4.out.cell 1
  by_cases c1 : f = 0
  rotate_left
  · have hE := HE.out
    rw [decide_eq_false c1, Bool.false_and] at hE
    subst hE
    have b1 : ((f : Int) == 0) = false := beq_eq_false_iff_ne.2 (by omega)
    clear c1
    go_wp2_with fail
    go_ret
    exact ⟨rfl, HB4.out⟩
  have b1 : ((f : Int) == 0) = true := beq_iff_eq.2 (by omega)
  have hE := HE.out
  rw [decide_eq_true c1, Bool.true_and] at hE
  clear c1 HE
  have hfr := frag_any g Ao g.opts.length co' w4
  rw [← HFG.out] at hfr
  have HFR := Lib.hid hfr
  clear hfr
  have hl5 : ∀ w5, Below w4.heap.size w4 w5 → w5.cell? ⟨gh, 7, none⟩ = some (.int .u8 (pr : Int)) ∧ w5.cell? ⟨w3.heap.size, 0, none⟩ = some (.int .u8 ty) ∧ w5.cell? ⟨w3.heap.size, 1, none⟩ = some (.int .u8 co) := fun w5 hb => ⟨(hb.cell (block_lt_of_cell k7)).trans k7, (hb.cell (block_lt_of_cell t0)).trans t0, (hb.cell (block_lt_of_cell t1)).trans t1⟩
  have HL5 := Lib.hid hl5
  clear hl5 k7 t0 t1
  cases fg with
  | true =>
    rw [Bool.not_true, Bool.false_and] at hE
    subst hE
    go_wp2_with (go_at_call 74; refine HFR.out.mono ?_; rintro e w5 ⟨rfl, hb5⟩; have HB5 := Lib.hid (HB4.out.trans (hb5.mono HB4.out.size)); clear hb5)
    go_ret
    exact ⟨rfl, HB5.out⟩
  | false =>
  rw [Bool.not_false, Bool.true_and] at hE
  by_cases c2 : pr = 1
  rotate_left
  · rw [decide_eq_false c2, Bool.false_and] at hE
    subst hE
    have b2 : (((pr : Int)) == 1) = false := beq_eq_false_iff_ne.2 (by omega)
    clear c2
    go_wp2_with (go_at_call 74; refine HFR.out.mono ?_; rintro e w5 ⟨rfl, hb5⟩; have HB5 := Lib.hid (HB4.out.trans (hb5.mono HB4.out.size)); obtain ⟨k7, t0, t1⟩ := HL5.out _ hb5; have k7 := ld_u8s k7; have t0 := ld_u8s t0; have t1 := ld_u8s t1; clear hb5)
    go_ret
    exact ⟨rfl, HB5.out⟩
  rw [decide_eq_true c2, Bool.true_and] at hE
  have b2 : (((pr : Int)) == 1) = true := beq_iff_eq.2 (by omega)
  clear c2
  by_cases c3 : er = 0
  rotate_left
  · rw [decide_eq_false c3, Bool.false_and] at hE
    subst hE
    have b3 : (((er : Int)) == 0) = false := beq_eq_false_iff_ne.2 (by omega)
    clear c3
    go_wp2_with (go_at_call 74; refine HFR.out.mono ?_; rintro e w5 ⟨rfl, hb5⟩; have HB5 := Lib.hid (HB4.out.trans (hb5.mono HB4.out.size)); obtain ⟨k7, t0, t1⟩ := HL5.out _ hb5; have k7 := ld_u8s k7; have t0 := ld_u8s t0; have t1 := ld_u8s t1; clear hb5)
    go_ret
    exact ⟨rfl, HB5.out⟩
  rw [decide_eq_true c3, Bool.true_and] at hE
  have b3 : (((er : Int)) == 0) = true := beq_iff_eq.2 (by omega)
  clear c3
  by_cases c4 : ty = 8
  rotate_left
  · rw [decide_eq_false c4, Bool.false_and] at hE
    subst hE
    have b4 : ((ty) == 8) = false := beq_eq_false_iff_ne.2 (by omega)
    clear c4
    go_wp2_with (go_at_call 74; refine HFR.out.mono ?_; rintro e w5 ⟨rfl, hb5⟩; have HB5 := Lib.hid (HB4.out.trans (hb5.mono HB4.out.size)); obtain ⟨k7, t0, t1⟩ := HL5.out _ hb5; have k7 := ld_u8s k7; have t0 := ld_u8s t0; have t1 := ld_u8s t1; clear hb5)
    go_ret
    exact ⟨rfl, HB5.out⟩
  rw [decide_eq_true c4, Bool.true_and] at hE
  have b4 : ((ty) == 8) = true := beq_iff_eq.2 (by omega)
  clear c4
  by_cases c5 : co = 0
  rotate_left
  · rw [decide_eq_false c5] at hE
    subst hE
    have b5 : ((co) == 0) = false := beq_eq_false_iff_ne.2 (by omega)
    clear c5
    go_wp2_with (go_at_call 74; refine HFR.out.mono ?_; rintro e w5 ⟨rfl, hb5⟩; have HB5 := Lib.hid (HB4.out.trans (hb5.mono HB4.out.size)); obtain ⟨k7, t0, t1⟩ := HL5.out _ hb5; have k7 := ld_u8s k7; have t0 := ld_u8s t0; have t1 := ld_u8s t1; clear hb5)
    go_ret
    exact ⟨rfl, HB5.out⟩
  rw [decide_eq_true c5] at hE
  have b5 : ((co) == 0) = true := beq_iff_eq.2 (by omega)
  clear c5
  subst hE
  go_wp2_with (go_at_call 74; refine HFR.out.mono ?_; rintro e w5 ⟨rfl, hb5⟩; have HB5 := Lib.hid (HB4.out.trans (hb5.mono HB4.out.size)); obtain ⟨k7, t0, t1⟩ := HL5.out _ hb5; have k7 := ld_u8s k7; have t0 := ld_u8s t0; have t1 := ld_u8s t1; clear hb5)
  go_ret
  exact ⟨rfl, HB5.out⟩
end Go.Proofs.Ytihfihehiifdkaa
