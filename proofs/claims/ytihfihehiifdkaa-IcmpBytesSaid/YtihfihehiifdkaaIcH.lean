/- Icmp: May, Quote, of both. -/
import Derived.Test.YtihfihehiifdkaaIcG
namespace Go.Proofs.Ytihfihehiifdkaa
open Go.RowKit Go.Sort Go.BigFrame
attribute [-go_sem] Instr.storeAt Instr.loadAt in
set_option maxRecDepth 100000 in
set_option maxHeartbeats 4000000 in
theorem icmayp_any (A : Option Addr) (n c : Nat) (x : By) (I : Nat → Prop) (w : World) (h : Reads w I 1 A n (bytesV x)) (hn : x.length = n) (hc : n ≤ c) (hsm : n ≤ 1000000) :
    Calls Try.prog 18 #[.slice A n c] w fun e w' => e = .returned (.bool (emayF x)) ∧ Below w.heap.size w w' := by
  have hpa := parse_any A n c x I w h hn hc hsm
  obtain ⟨E, hE⟩ : ∃ E, E = emayF x := ⟨_, rfl⟩
  rw [← hE]
  unfold emayF at hE
  obtain ⟨R, hR⟩ : ∃ R, R = prsF x := ⟨_, rfl⟩
  rw [← hR] at hpa hE
  obtain ⟨g, y, f⟩ := R
  simp only at hE
  have HPA := Lib.hid hpa
  have HE := Lib.hid hE
  clear hpa hE hR h hn hc hsm
  go_enter Try.func18, Try.ntmps18
  go_upto_region 2 with
    (go_at_call 34
     refine HPA.out.mono ?_
     rintro e w1 ⟨vo, vq, rfl, ho, hq, _, hb⟩
     obtain ⟨Ao, co, rfl, _⟩ := ho.form
     obtain ⟨Aq, cq, rfl, _⟩ := hq.form
     obtain ⟨w2, hst, hb2, hb12, hk2⟩ := hd_var hb hb.size g Ao g.opts.length co
     have hld := hd_load hk2 rfl
     have hq2 := hq.below hb12
     have HM := Lib.hid (icmay_any g Ao g.opts.length co Aq y.length cq y _ w2 (hq2.reads.2) rfl)
     have HB2 := Lib.hid hb2
     clear ho hq hb hb2 hb12 hk2 hq2)
  by_cases hf : f = 0
  · subst hf
    have he := HE.out
    rw [decide_eq_true rfl, Bool.true_and] at he
    rw [← he] at HM
    clear he HE
    go_wp2_with (go_at_call 64; refine HM.out.mono ?_; rintro e w3 ⟨rfl, hb3⟩; have HB3 := Lib.hid (HB2.out.trans (hb3.mono HB2.out.size)); clear hb3)
    go_ret
    exact ⟨rfl, HB3.out⟩
  · have he := HE.out
    rw [decide_eq_false hf, Bool.false_and] at he
    subst he
    have b1 : ((f : Int) == 0) = false := by rw [beq_eq_false_iff_ne]; omega
    clear hf HE
    go_wp2_with fail
    go_ret
    exact ⟨rfl, HB2.out⟩
set_option maxRecDepth 100000 in
set_option maxHeartbeats 8000000 in
attribute [-go_sem] Instr.storeAt in
theorem ricmay_any (A : Option Addr) (n c : Nat) (x : By) (I : Nat → Prop) (w : World) (h : Reads w I 1 A n (bytesV x)) (hn : x.length = n) (hc : n ≤ c) (hsm : n ≤ 1000000) :
    Calls Try.prog 19 #[.slice A n c] w fun e w' => e = .returned (.bool (emayF x)) ∧ Below w.heap.size w w' := by
  have hpa := rparse_any A n c x I w h hn hc hsm
  have hok := prs_ok x
  obtain ⟨E, hE⟩ : ∃ E, E = emayF x := ⟨_, rfl⟩
  rw [← hE]
  unfold emayF at hE
  obtain ⟨R, hR⟩ : ∃ R, R = prsF x := ⟨_, rfl⟩
  rw [← hR] at hpa hE hok
  obtain ⟨g, p, f⟩ := R
  simp only at hE hok
  have HPA := Lib.hid hpa
  have HOK := Lib.hid hok
  have HE := Lib.hid hE
  have e5 := emay5 (h := g) (p := p)
  have e1 := emay1 (h := g) (p := p)
  have e2 := emay2 (h := g) (p := p)
  have e3 := emay3 (h := g) (p := p)
  have e4 := emay4 (h := g) (p := p)
  obtain ⟨E0, hE0⟩ : ∃ E, E = emayH g p := ⟨_, rfl⟩
  rw [← hE0] at e1 e2 e3 e4 e5 HE
  obtain ⟨of0, hof⟩ : ∃ z, z = g.off := ⟨_, rfl⟩
  obtain ⟨sr, hsr⟩ : ∃ z, z = g.src := ⟨_, rfl⟩
  obtain ⟨ds, hds⟩ : ∃ z, z = g.dst := ⟨_, rfl⟩
  obtain ⟨pr, hpr⟩ : ∃ z, z = g.proto := ⟨_, rfl⟩
  have HOF := Lib.hid hof
  have HSR := Lib.hid hsr
  have HDS := Lib.hid hds
  have HPR := Lib.hid hpr
  rw [← hof, ← hsr, ← hds, ← hpr] at e5
  rw [← hof] at e1
  rw [← hsr] at e2 e3
  rw [← hds] at e4
  obtain ⟨m1, hm1'⟩ : ∃ b, b = multiF sr := ⟨_, rfl⟩
  obtain ⟨m2, hm2'⟩ : ∃ b, b = multiF ds := ⟨_, rfl⟩
  have HM1 := Lib.hid (fun wx => rmulti_any sr wx (by rw [hsr]; exact hok.2.2.2.2.1))
  have HM2 := Lib.hid (fun wx => rmulti_any ds wx (by rw [hds]; exact hok.2.2.2.2.2))
  rw [← hm1'] at HM1 e3 e5
  rw [← hm2'] at HM2 e4 e5
  have HE1 := Lib.hid e1
  have HE2 := Lib.hid e2
  have HE3 := Lib.hid e3
  have HE4 := Lib.hid e4
  have HE5 := Lib.hid e5
  obtain ⟨q, hq0⟩ : ∃ q, q = p.length := ⟨_, rfl⟩
  have HQ := Lib.hid hq0.symm
  clear hpa hE hR h hn hc hsm hok e1 e2 e3 e4 e5 hE0 hof hsr hds hpr hm1' hm2' hq0
  go_enter Try.func19, Try.ntmps19
  go_upto_region 2 with
    (go_at_call 16
     refine HPA.out.mono ?_
     rintro e w1 ⟨vo, vq, rfl, ho, hq, hb⟩
     obtain ⟨Ao, co, rfl, _⟩ := ho
     obtain ⟨Aq, cq, rfl, _, hrq⟩ := hq
     obtain ⟨w2, hst, hb2, hb12, hk2⟩ := hd_var hb hb.size g Ao g.opts.length co
     have HRQ := Lib.hid ((hrq.lt).keep (Same.ofBelow hb12 fun k hk => hk.2))
     have HB2 := Lib.hid hb2
     have HK2 := Lib.hid hk2
     rw [show (g, p, f).2.1.length = q from HQ.out] at HRQ ⊢
     clear hrq hb hb2 hb12 hk2)
  have k5 : w2.cell? ⟨w1.heap.size, 5, none⟩ = some (.int .i64 of0) := by rw [HOF.out]; exact HK2.out.cell 5
  have k8 : w2.cell? ⟨w1.heap.size, 8, none⟩ = some (.int .u32 (sr : Int)) := by rw [HSR.out]; exact HK2.out.cell 8
  have k9 : w2.cell? ⟨w1.heap.size, 9, none⟩ = some (.int .u32 (ds : Int)) := by rw [HDS.out]; exact HK2.out.cell 9
  have k7 : w2.cell? ⟨w1.heap.size, 7, none⟩ = some (.int .u8 (pr : Int)) := by rw [HPR.out]; exact HK2.out.cell 7
  by_cases hf : f = 0
  rotate_left
  · have he := HE.out
    rw [decide_eq_false hf, Bool.false_and] at he
    subst he
    have b1 : ((f : Int) != 0) = true := by rw [bne_iff_ne]; omega
    clear hf HE
    go_wp2_with fail
    go_ret
    exact ⟨rfl, HB2.out⟩
  subst hf
  have he := HE.out
  rw [decide_eq_true rfl, Bool.true_and] at he
  subst he
  clear HE
  by_cases c1 : of0 ≠ 0
  · obtain rfl := HE1.out c1
    have b1 : (of0 != 0) = true := by rw [bne_iff_ne]; exact c1
    clear c1
    go_wp2_with fail
    go_ret
    exact ⟨rfl, HB2.out⟩
  have b1 : (of0 != 0) = false := by rw [bne_eq_false_iff_eq]; omega
  by_cases c2 : sr = 0
  · obtain rfl := HE2.out c2
    have b2 : ((sr : Int) == 0) = true := by rw [beq_iff_eq]; omega
    clear c1 c2
    go_wp2_with fail
    go_ret
    exact ⟨rfl, HB2.out⟩
  have b2 : ((sr : Int) == 0) = false := by rw [beq_eq_false_iff_ne]; omega
  cases m1 with
  | true =>
    obtain rfl := HE3.out rfl
    clear c1 c2
    go_wp2_with (refine (HM1.out _).mono ?_; rintro e w' ⟨rfl, rfl⟩)
    go_ret
    exact ⟨rfl, HB2.out⟩
  | false =>
  cases m2 with
  | true =>
    obtain rfl := HE4.out rfl
    clear c1 c2
    go_wp2_with (go_at_call 66; first | (refine (HM1.out _).mono ?_; rintro e w' ⟨rfl, rfl⟩) | (refine (HM2.out _).mono ?_; rintro e w' ⟨rfl, rfl⟩))
    go_ret
    exact ⟨rfl, HB2.out⟩
  | false =>
  have he := HE5.out c1 c2 rfl rfl
  clear c1 c2 HE1 HE2 HE3 HE4 HE5
  by_cases c3 : pr ≠ 1
  · obtain rfl : E = true := by rw [he, decide_eq_true c3]; rfl
    have b3 : ((pr : Int) == 1) = false := by rw [beq_eq_false_iff_ne]; omega
    clear he c3
    go_wp2_with (go_at_call 66; first | (refine (HM1.out _).mono ?_; rintro e w' ⟨rfl, rfl⟩) | (refine (HM2.out _).mono ?_; rintro e w' ⟨rfl, rfl⟩))
    go_ret
    exact ⟨rfl, HB2.out⟩
  have b3 : ((pr : Int) == 1) = true := by rw [beq_iff_eq]; omega
  rw [decide_eq_false c3, Bool.false_or] at he
  clear c3
  by_cases c4 : 8 ≤ q
  · rw [decide_eq_true (show 8 ≤ p.length by rw [HQ.out]; exact c4), Bool.true_and] at he
    obtain ⟨ad, rfl, hc⟩ := head8 HRQ.out HQ.out c4
    have h0 := hc 0 (by omega)
    rw [show ad.add 0 = ad by simp [Addr.add]] at h0
    obtain ⟨t, ht⟩ : ∃ t, t = p.getD 0 0 := ⟨_, rfl⟩
    rw [← ht] at he h0
    have HT := Lib.hid (ricerr_any t w2)
    obtain ⟨z, hz⟩ : ∃ z : Int, z = (t.toNat : Int) := ⟨_, rfl⟩
    rw [← hz] at HT h0
    have b4 : decide ((8 : Int) ≤ (q : Int)) = true := decide_eq_true (by omega)
    have b5 : decide (8 ≤ q) = true := decide_eq_true c4
    have hq0 : (0 : Int) < q := by omega
    obtain ⟨G, hG⟩ : ∃ G, G = errT t := ⟨_, rfl⟩
    rw [← hG] at HT he
    subst he
    clear hc ht hz hG c4
    go_wp2_with (first | (go_at_call 66; first | (refine (HM1.out _).mono ?_; rintro e w' ⟨rfl, rfl⟩) | (refine (HM2.out _).mono ?_; rintro e w' ⟨rfl, rfl⟩)) | (go_at_call 29; refine HT.out.mono ?_; rintro e w' ⟨rfl, rfl⟩))
    go_ret
    exact ⟨rfl, HB2.out⟩
  · rw [decide_eq_false (show ¬ 8 ≤ p.length by rw [HQ.out]; exact c4), Bool.false_and] at he
    subst he
    have b4 : decide ((8 : Int) ≤ (q : Int)) = false := decide_eq_false (by omega)
    have b5 : decide (8 ≤ q) = false := decide_eq_false c4
    clear c4
    go_wp2_with (go_at_call 66; first | (refine (HM1.out _).mono ?_; rintro e w' ⟨rfl, rfl⟩) | (refine (HM2.out _).mono ?_; rintro e w' ⟨rfl, rfl⟩))
    go_ret
    exact ⟨rfl, HB2.out⟩
end Go.Proofs.Ytihfihehiifdkaa
