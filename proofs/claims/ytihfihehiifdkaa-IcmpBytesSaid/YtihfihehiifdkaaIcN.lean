/- Icmp: ref04.Error. -/
import Derived.Test.YtihfihehiifdkaaIcM
import Derived.Test.YtihfihehiifdkaaIrC
namespace Go.Proofs.Ytihfihehiifdkaa
open Go.RowKit Go.Sort Go.BigFrame
theorem arr_build2 (w : World) (c2 c3 : Int) : (Instr.build 43 #[(0, .int .u8 0), (1, .int .u8 0), (2, .int .u8 c2), (3, .int .u8 c3)]).run Try.prog w = .ok (.agg #[.int .u8 0, .int .u8 0, .int .u8 c2, .int .u8 c3]) w := by kernel_rfl
theorem ic_build3 (w : World) (a c0 c1 c2 c3 : Int) (A : Option Addr) (n c : Nat) : (Instr.build 45 #[(0, .int .u8 a), (2, .agg #[.int .u8 c0, .int .u8 c1, .int .u8 c2, .int .u8 c3]), (3, .slice A n c)]).run Try.prog w = .ok (.agg #[.int .u8 a, .int .u8 0, .int .u8 c0, .int .u8 c1, .int .u8 c2, .int .u8 c3, .slice A n c]) w := by kernel_rfl
theorem hd_build4 (w : World) (s d : Int) : (Instr.build 32 #[(6, .int .u8 64), (7, .int .u8 1), (8, .int .u32 s), (9, .int .u32 d)]).run Try.prog w = .ok (.agg #[.int .u8 0, .int .u16 0, .bool false, .bool false, .bool false, .int .i64 0, .int .u8 64, .int .u8 1, .int .u32 s, .int .u32 d, .slice none 0 0]) w := by kernel_rfl
/-- What is there while the answer is made. -/
structure REr (w : World) (B gi gh : Nat) (C H : Array Value) (v : Value) (q : By) (wx : World) : Prop where
  ic : Blk wx gi 45 C
  hd : Blk wx gh 32 H
  sv : Sl8 wx (fun _ => True) v q
  below : Below w.heap.size w wx
  le : w.heap.size ≤ B
theorem REr.on {w wx wy : World} {B gi gh : Nat} {C H : Array Value} {v : Value} {q : By} (s : REr w B gi gh C H v q wx) (hb : Below wx.heap.size wx wy) : REr w B gi gh C H v q wy :=
  ⟨s.ic.below hb s.ic.lt, s.hd.below hb s.hd.lt, s.sv.below hb, s.below.trans (hb.mono s.below.size), s.le⟩
attribute [-go_sem] Instr.storeAt Instr.loadAt in
set_option maxRecDepth 100000 in
set_option maxHeartbeats 16000000 in
theorem rerror_any (k mtu : Int) (fr : Nat) (A : Option Addr) (n c : Nat) (x : By) (I : Nat → Prop) (w : World) (hfr : fr < 2 ^ 32) (h : Reads w I 1 A n (bytesV x)) (hn : x.length = n) (hc : n ≤ c) (hsm : n ≤ 1000000) :
    Calls Try.prog 21 #[.int .i64 k, .slice A n c, .int .u32 (fr : Int), .int .i64 mtu] w (BytPost w (errF k x fr mtu).1 ((errF k x fr mtu).2 : Int)) := by
  have hok := prs_ok x
  have hpl := prs_len x
  obtain ⟨E, hE⟩ : ∃ E, E = errF k x fr mtu := ⟨_, rfl⟩
  rw [← hE]
  unfold errF errArg at hE
  obtain ⟨R, hR⟩ : ∃ R, R = prsF x := ⟨_, rfl⟩
  rw [← hR] at hE hok hpl
  have HPA := Lib.hid (show Calls Try.prog 16 #[.slice A n c] w (RPrs w (fun k => I k ∧ k < w.heap.size) R) from hR ▸ rparse_any A n c x I w h hn hc hsm)
  have HMA := Lib.hid (fun wx (hb : Below w.heap.size w wx) => ricmay_any A n c x (fun j => I j ∧ j < w.heap.size) wx (h.lt.keep (Same.ofBelow hb fun j hj => hj.2)) hn hc hsm)
  have HQT := Lib.hid (fun wx (hb : Below w.heap.size w wx) (h0 : (prsF x).2.2 = 0) => rquote_any A n c x (fun j => I j ∧ j < w.heap.size) wx (h.lt.keep (Same.ofBelow hb fun j hj => hj.2)) hn hc hsm h0)
  have hfit := err_fits k x fr mtu.toNat
  have hqlen := quote_len x
  have hp0 : R.2.2 = 0 → (prsF x).2.2 = 0 := fun h => by rw [← hR]; exact h
  rw [← hR] at hfit
  obtain ⟨g, y, f⟩ := R
  simp only at hE hok hpl hfit hp0
  obtain ⟨mm, hmm⟩ : ∃ b, b = emayF x := ⟨_, rfl⟩
  rw [← hmm] at HMA hE
  have HE := Lib.hid hE
  have HOK := Lib.hid hok
  have HP0 := Lib.hid hp0
  have HFIT := Lib.hid hfit
  have HQLEN := Lib.hid hqlen
  clear hE hok hpl hR h hn hc hsm hfit hqlen hmm hp0
  go_enter Try.func21, Try.ntmps21
  by_cases a1 : k < 1
  · have d1 : decide (k < 1) = true := decide_eq_true a1
    have hE := HE.out
    rw [if_pos (by simp [a1])] at hE
    subst hE
    go_wp2_with fail
    go_ret2
    exact ⟨_, rfl, Row8.nil _ _, (Below.refl _ _)⟩
  have d1 : decide (k < 1) = false := decide_eq_false a1
  by_cases a2 : 3 < k
  · have d2 : decide (3 < k) = true := decide_eq_true a2
    have hE := HE.out
    rw [if_pos (by simp [a2])] at hE
    subst hE
    go_wp2_with fail
    go_ret2
    exact ⟨_, rfl, Row8.nil _ _, (Below.refl _ _)⟩
  have d2 : decide (3 < k) = false := decide_eq_false a2
  by_cases a3 : mtu < 0
  · have d3 : decide (mtu < 0) = true := decide_eq_true a3
    have hE := HE.out
    rw [if_pos (by simp [a3])] at hE
    subst hE
    go_wp2_with fail
    go_ret2
    exact ⟨_, rfl, Row8.nil _ _, (Below.refl _ _)⟩
  have d3 : decide (mtu < 0) = false := decide_eq_false a3
  by_cases a4 : 65535 < mtu
  · have d4 : decide (65535 < mtu) = true := decide_eq_true a4
    have hE := HE.out
    rw [if_pos (by simp [a4])] at hE
    subst hE
    go_wp2_with fail
    go_ret2
    exact ⟨_, rfl, Row8.nil _ _, (Below.refl _ _)⟩
  have d4 : decide (65535 < mtu) = false := decide_eq_false a4
  have HC := Lib.hid (show 0 ≤ mtu ∧ mtu ≤ 65535 by omega)
  by_cases c3 : k = 2
  · have b3 : (k != 2) = false := by rw [bne_eq_false_iff_eq]; exact c3
    have b4 : (k == 2) = true := beq_iff_eq.2 c3
    have hE := HE.out
    rw [if_neg (by simp [a3, a4, c3])] at hE
    have HC3 := Lib.hid c3
    have b5' : (k == 3) = false := beq_eq_false_iff_ne.2 (by omega)
    clear HE a1 a2 a3 a4 c3
    go_upto_region 4 with
      (go_at_call 16
       refine HPA.out.mono ?_
       rintro e w1 ⟨vo, vq, rfl, ho, hq, hb⟩
       obtain ⟨Ao, co, rfl, _⟩ := ho
       obtain ⟨Aq, cq, rfl, _⟩ := hq
       obtain ⟨w2, hst, hb2, hb12, hk2⟩ := hd_var hb hb.size g Ao g.opts.length co
       have HB2 := Lib.hid hb2
       have HH2 := Lib.hid hk2
       have HGE := Lib.hid hb.size
       clear hb hb2 hb12 hk2)
    by_cases c5 : f ≠ 0
    · have b5 : ((f : Int) != 0) = true := by rw [bne_iff_ne]; omega
      rw [if_pos c5] at hE
      subst hE
      clear c5
      go_wp2_with fail
      go_ret2
      exact ⟨_, rfl, Row8.nil _ _, HB2.out⟩
    have b5 : ((f : Int) != 0) = false := by rw [bne_eq_false_iff_eq]; omega
    rw [if_neg c5] at hE
    have hp0 := HP0.out (by omega)
    clear c5
    cases mm with
    | false =>
      rw [if_pos rfl] at hE
      subst hE
      go_wp2_with (go_at_call 19; refine (HMA.out _ HB2.out).mono ?_; rintro e w5 ⟨rfl, hb5⟩; have HB5 := Lib.hid (HB2.out.trans (hb5.mono HB2.out.size)); clear hb5)
      go_ret2
      exact ⟨_, rfl, Row8.nil _ _, HB5.out⟩
    | true =>
    rw [if_neg (by simp)] at hE
    have HE9 := Lib.hid hE
    clear hE
    obtain ⟨gh, hgh⟩ : ∃ z, z = w1.heap.size := ⟨_, rfl⟩
    rw [← hgh] at HH2 HGE ⊢
    clear hgh hst
    go_upto_region 8 with (go_at_call 19; refine (HMA.out _ HB2.out).mono ?_; rintro e w5 ⟨rfl, hb5⟩; have HB5 := Lib.hid (HB2.out.trans (hb5.mono HB2.out.size)); have HH5 := Lib.hid (HH2.out.below hb5 HH2.out.lt); clear hb5)
    have hmt := HC.out
    have hq2 : Int.tdiv mtu 256 = mtu / 256 := Int.tdiv_eq_ediv_of_nonneg hmt.1
    have hq3 : Int.tmod mtu 256 = mtu % 256 := Int.tmod_eq_emod_of_nonneg hmt.1
    have hw2 : IntKind.i64.wrap (mtu / 256) = mtu / 256 := IntWalk.i64_in _ (by omega)
    have hw3 : mtu % 256 % 256 = mtu % 256 := by omega
    have E2 := Lib.hid (show mtu / 256 % 256 = ((u8 (mtu.toNat / 256)).toNat : Int) by rw [u8_nat]; omega)
    have E3 := Lib.hid (show mtu % 256 = ((u8 mtu.toNat).toNat : Int) by rw [u8_nat]; omega)
    have hqt := HQT.out w5 HB5.out hp0
    obtain ⟨Q, hQ⟩ : ∃ Q, Q = (quoteF x).1 := ⟨_, rfl⟩
    have HQ := Lib.hid hQ
    have HL := Lib.hid (show Q.length ≤ 68 by rw [hQ]; exact HQLEN.out)
    rw [← hQ] at hqt
    have HQ8 := Lib.hid hqt
    clear hqt hQ hmt hp0
    go_wp2_with fail
    refine HQ8.out.mono ?_
    rintro e w6 ⟨v8, rfl, h8, hb6⟩
    have HB6 := Lib.hid (HB5.out.trans (hb6.mono HB5.out.size))
    have hh6 := HH5.out.below hb6 HH5.out.lt
    obtain ⟨A8, c8, rfl, _⟩ := id h8
    obtain ⟨w7, hst7, hb7, hb67, hk7⟩ := ic_var HB6.out HB6.out.size ⟨3, 0, 0, 0, u8 (mtu.toNat / 256), u8 mtu.toNat, Q⟩ A8 Q.length c8
    rw [show icC ⟨3, 0, 0, 0, u8 (mtu.toNat / 256), u8 mtu.toNat, Q⟩ (.slice A8 Q.length c8) = #[.int .u8 3, .int .u8 0, .int .u8 0, .int .u8 0, .int .u8 (mtu / 256 % 256), .int .u8 (mtu % 256), .slice A8 Q.length c8] from by rw [E2.out, E3.out]; rfl] at hst7
    have HH7 := Lib.hid (hh6.below hb67 hh6.lt)
    have HS7 := Lib.hid ((h8.mono (J := fun j => j < w.heap.size) fun j hj => hj.1.2).keep (Same.ofBelow hb67 fun j hj => Nat.lt_of_lt_of_le hj HB6.out.size))
    have HB7 := Lib.hid hb7
    have HK7 := Lib.hid hk7
    obtain ⟨gi, hgi⟩ : ∃ z, z = w6.heap.size := ⟨_, rfl⟩
    have HNE := Lib.hid (show gh ≠ gi by have := hh6.lt; omega)
    have HGI := Lib.hid (show w.heap.size ≤ gi by have := HB6.out.size; omega)
    clear h8 hb6 hh6 hb7 hb67 hk7
    go_upto_region 9 with (fail)
    clear hst7 hw2 hw3 hq2 hq3
    rw [← hgi] at HK7 ⊢
    clear hgi
    have hs7 := st8 (HK7.out.cell 1) (HK7.out.frozen 1) 4
    obtain ⟨W9, hW9⟩ : ∃ W, W = w7.setCell ⟨gi, 1, none⟩ (.int .u8 4) := ⟨_, rfl⟩
    have hu7 := upd_set w7 gi 1 (.int .u8 4)
    have K9 := Lib.hid (show Blk W9 gi 45 (icC (errM k mtu.toNat Q) (.slice A8 Q.length c8)) from by rw [hW9, HC3.out]; exact HK7.out.set_ 1 _)
    rw [← hW9] at hu7 hs7
    have HB9 := Lib.hid (HB7.out.trans (hu7.below (B := w.heap.size) (fun j (hj : j = gi) => by have := HGI.out; omega) HB7.out.size))
    have HH9 := Lib.hid (show Blk W9 gh 32 (hdC g (.slice Ao g.opts.length co)) from (hu7.block _ HH7.out.lt (fun (e : gh = gi) => HNE.out e)).trans HH7.out)
    have HS9 := Lib.hid ((HS7.out.keep (hu7.same fun j (hj : j = gi) hi => by have := HGI.out; omega)).mono (J := fun _ => True) fun _ _ => trivial)
    clear hu7 hW9
    go_upto_region 13 with (fail)
    clear hs7
    have S9 := Lib.hid (show REr w w.heap.size gi gh (icC (errM k mtu.toNat Q) (.slice A8 Q.length c8)) (hdC g (.slice Ao g.opts.length co)) (.slice A8 Q.length c8) Q W9 from ⟨K9.out, HH9.out, HS9.out, HB9.out, Nat.le_refl _⟩)
    have HCC := Lib.hid (fun (a b : World) (ha : REr w w.heap.size gi gh (icC (errM k mtu.toNat Q) (.slice A8 Q.length c8)) (hdC g (.slice Ao g.opts.length co)) (.slice A8 Q.length c8) Q a) (hb : Below a.heap.size a b) => ha.on hb)
    obtain ⟨sr, hsr⟩ : ∃ z, z = g.src := ⟨_, rfl⟩
    have bd := fun wx => hd_build4 wx (fr : Int) (sr : Int)
    have HSR := Lib.hid hsr
    clear hsr
    refine wp_region_mix [(true, 5), (false, 4)] 1 (by kernel_rfl) (fun a => REr w w.heap.size gi gh (icC (errM k mtu.toNat Q) (.slice A8 Q.length c8)) (hdC g (.slice Ao g.opts.length co)) (.slice A8 Q.length c8) Q a) HCC.out (by kernel_rfl) S9.out (a' := ?_) (fun wz hz => ?_) fun wz hz => ?_
    rotate_left
    · have x1 := fun (dd : Nat) (os : Array Obj) => ld_u32s (z := (sr : Int)) (by rw [HSR.out]; exact (hz.on (below_regrown wz dd os)).hd.cell 8)
      have x2 := fun (dd : Nat) (os : Array Obj) => ic_load (hz.on (below_regrown wz dd os)).ic rfl
      clear hz
      simp only [pick_nil, pick_tt, pick_ft, List.take_succ_cons, List.take_zero, List.drop_succ_cons, List.drop_zero, List.append_nil]
      repeat (go_big_quiet_step (fail))
      refine wpQuiet_nil ?_
      rfl
    · simp only [pick_nil, pick_ff, pick_tf, List.take_succ_cons, List.take_zero, List.drop_succ_cons, List.drop_zero, List.append_nil]
      have T0 := Lib.hid (S9.out.on hz)
      clear hz
      refine wpMix_step T0.out fun wa ha => ?_
      have T1 := Lib.hid (T0.out.on ha)
      have hby : Calls Try.prog 26 #[.agg (icC (errM k mtu.toNat Q) (.slice A8 Q.length c8))] wa (IcBPost wa (icB (errM k mtu.toNat Q))) := ricbytes_any (errM k mtu.toNat Q) (.slice A8 Q.length c8) _ wa T1.out.sv (by show Q.length ≤ 900000; have := HL.out; omega)
      have HBY := Lib.hid hby
      clear ha hby
      go_wp2_with fail
      refine HBY.out.mono ?_
      rintro e wb ⟨vb, rfl, hvb, hbb⟩
      have T2 := Lib.hid (T1.out.on hbb)
      obtain ⟨Ab, cb, rfl, _⟩ := hvb.form
      have HVB := Lib.hid (row_sl hvb)
      clear hvb hbb
      go_wp2_with fail
      refine wpMix_step T2.out fun wd hd => ?_
      have T3 := Lib.hid (T2.out.on hd)
      have hrb : Calls Try.prog 38 #[.agg #[.int .u8 0, .int .u16 0, .bool false, .bool false, .bool false, .int .i64 0, .int .u8 64, .int .u8 1, .int .u32 (fr : Int), .int .u32 (sr : Int), .slice none 0 0], .slice Ab (icB (errM k mtu.toNat Q)).length cb] wd fun e w' => ∃ v, e = .returned v ∧ Row8 wd.heap.size w' v (bytesF (errH fr sr) (icB (errM k mtu.toNat Q))) ∧ Below wd.heap.size wd w' := rbytes_any (errH fr sr) (.slice none 0 0) (.slice Ab (icB (errM k mtu.toNat Q)).length cb) (icB (errM k mtu.toNat Q)) (fun _ => True) wd (sl_nil _ _) (HVB.out.below hd) (errH_ok hfr (by rw [HSR.out]; exact HOK.out.2.2.2.2.1)) (by
        have := HFIT.out
        rw [HQ.out, HSR.out]
        exact this)
      have HRB := Lib.hid hrb
      clear hd hrb
      go_wp2_with fail
      refine HRB.out.mono ?_
      rintro e we ⟨ve, rfl, hve, hbe⟩
      have HBE := Lib.hid (T3.out.below.trans (hbe.mono T3.out.below.size))
      obtain ⟨Ae, ce, rfl, _⟩ := hve.form
      have HVE := Lib.hid (own_base hve T3.out.below.size)
      clear hve hbe
      go_wp2_with fail
      refine wpMix_plain ?_
      go_wp2_with fail
      go_ret2
      rw [HE9.out]
      refine ⟨_, rfl, ?_, HBE.out⟩
      simp only
      rw [← HQ.out, ← HSR.out]
      exact HVE.out
  have b3 : (k != 2) = true := by rw [bne_iff_ne]; exact c3
  by_cases c4 : mtu = 0
  · have b4 : (mtu != 0) = false := by rw [bne_eq_false_iff_eq]; exact c4
    have hE := HE.out
    rw [if_neg (by simp [a1, a2, c4])] at hE
    have b6 : (k == 2) = false := beq_eq_false_iff_ne.2 c3
    by_cases c7 : k = 3
    · have HC3 := Lib.hid c7
      have b7 : (k == 3) = true := beq_iff_eq.2 c7
      clear HE a1 a2 a3 a4 c3 c4 c7
      go_upto_region 4 with
        (go_at_call 16
         refine HPA.out.mono ?_
         rintro e w1 ⟨vo, vq, rfl, ho, hq, hb⟩
         obtain ⟨Ao, co, rfl, _⟩ := ho
         obtain ⟨Aq, cq, rfl, _⟩ := hq
         obtain ⟨w2, hst, hb2, hb12, hk2⟩ := hd_var hb hb.size g Ao g.opts.length co
         have HB2 := Lib.hid hb2
         have HH2 := Lib.hid hk2
         have HGE := Lib.hid hb.size
         clear hb hb2 hb12 hk2)
      by_cases c5 : f ≠ 0
      · have b5 : ((f : Int) != 0) = true := by rw [bne_iff_ne]; omega
        rw [if_pos c5] at hE
        subst hE
        clear c5
        go_wp2_with fail
        go_ret2
        exact ⟨_, rfl, Row8.nil _ _, HB2.out⟩
      have b5 : ((f : Int) != 0) = false := by rw [bne_eq_false_iff_eq]; omega
      rw [if_neg c5] at hE
      have hp0 := HP0.out (by omega)
      clear c5
      cases mm with
      | false =>
        rw [if_pos rfl] at hE
        subst hE
        go_wp2_with (go_at_call 19; refine (HMA.out _ HB2.out).mono ?_; rintro e w5 ⟨rfl, hb5⟩; have HB5 := Lib.hid (HB2.out.trans (hb5.mono HB2.out.size)); clear hb5)
        go_ret2
        exact ⟨_, rfl, Row8.nil _ _, HB5.out⟩
      | true =>
      rw [if_neg (by simp)] at hE
      have HE9 := Lib.hid hE
      clear hE
      obtain ⟨gh, hgh⟩ : ∃ z, z = w1.heap.size := ⟨_, rfl⟩
      rw [← hgh] at HH2 HGE ⊢
      clear hgh hst
      go_upto_region 8 with (go_at_call 19; refine (HMA.out _ HB2.out).mono ?_; rintro e w5 ⟨rfl, hb5⟩; have HB5 := Lib.hid (HB2.out.trans (hb5.mono HB2.out.size)); have HH5 := Lib.hid (HH2.out.below hb5 HH2.out.lt); clear hb5)
      have hmt := HC.out
      have hq2 : Int.tdiv mtu 256 = mtu / 256 := Int.tdiv_eq_ediv_of_nonneg hmt.1
      have hq3 : Int.tmod mtu 256 = mtu % 256 := Int.tmod_eq_emod_of_nonneg hmt.1
      have hw2 : IntKind.i64.wrap (mtu / 256) = mtu / 256 := IntWalk.i64_in _ (by omega)
      have hw3 : mtu % 256 % 256 = mtu % 256 := by omega
      have E2 := Lib.hid (show mtu / 256 % 256 = ((u8 (mtu.toNat / 256)).toNat : Int) by rw [u8_nat]; omega)
      have E3 := Lib.hid (show mtu % 256 = ((u8 mtu.toNat).toNat : Int) by rw [u8_nat]; omega)
      have hqt := HQT.out w5 HB5.out hp0
      obtain ⟨Q, hQ⟩ : ∃ Q, Q = (quoteF x).1 := ⟨_, rfl⟩
      have HQ := Lib.hid hQ
      have HL := Lib.hid (show Q.length ≤ 68 by rw [hQ]; exact HQLEN.out)
      rw [← hQ] at hqt
      have HQ8 := Lib.hid hqt
      clear hqt hQ hmt hp0
      go_wp2_with fail
      refine HQ8.out.mono ?_
      rintro e w6 ⟨v8, rfl, h8, hb6⟩
      have HB6 := Lib.hid (HB5.out.trans (hb6.mono HB5.out.size))
      have hh6 := HH5.out.below hb6 HH5.out.lt
      obtain ⟨A8, c8, rfl, _⟩ := id h8
      obtain ⟨w7, hst7, hb7, hb67, hk7⟩ := ic_var HB6.out HB6.out.size ⟨3, 0, 0, 0, u8 (mtu.toNat / 256), u8 mtu.toNat, Q⟩ A8 Q.length c8
      rw [show icC ⟨3, 0, 0, 0, u8 (mtu.toNat / 256), u8 mtu.toNat, Q⟩ (.slice A8 Q.length c8) = #[.int .u8 3, .int .u8 0, .int .u8 0, .int .u8 0, .int .u8 (mtu / 256 % 256), .int .u8 (mtu % 256), .slice A8 Q.length c8] from by rw [E2.out, E3.out]; rfl] at hst7
      have HH7 := Lib.hid (hh6.below hb67 hh6.lt)
      have HS7 := Lib.hid ((h8.mono (J := fun j => j < w.heap.size) fun j hj => hj.1.2).keep (Same.ofBelow hb67 fun j hj => Nat.lt_of_lt_of_le hj HB6.out.size))
      have HB7 := Lib.hid hb7
      have HK7 := Lib.hid hk7
      obtain ⟨gi, hgi⟩ : ∃ z, z = w6.heap.size := ⟨_, rfl⟩
      have HNE := Lib.hid (show gh ≠ gi by have := hh6.lt; omega)
      have HGI := Lib.hid (show w.heap.size ≤ gi by have := HB6.out.size; omega)
      clear h8 hb6 hh6 hb7 hb67 hk7
      go_upto_region 9 with (fail)
      clear hst7 hw2 hw3 hq2 hq3
      rw [← hgi] at HK7 ⊢
      clear hgi
      have hs7 := st8 (HK7.out.cell 0) (HK7.out.frozen 0) 11
      obtain ⟨W9, hW9⟩ : ∃ W, W = w7.setCell ⟨gi, 0, none⟩ (.int .u8 11) := ⟨_, rfl⟩
      have hu7 := upd_set w7 gi 0 (.int .u8 11)
      have K9 := Lib.hid (show Blk W9 gi 45 (icC (errM k mtu.toNat Q) (.slice A8 Q.length c8)) from by rw [hW9, HC3.out]; exact HK7.out.set_ 0 _)
      rw [← hW9] at hu7 hs7
      have HB9 := Lib.hid (HB7.out.trans (hu7.below (B := w.heap.size) (fun j (hj : j = gi) => by have := HGI.out; omega) HB7.out.size))
      have HH9 := Lib.hid (show Blk W9 gh 32 (hdC g (.slice Ao g.opts.length co)) from (hu7.block _ HH7.out.lt (fun (e : gh = gi) => HNE.out e)).trans HH7.out)
      have HS9 := Lib.hid ((HS7.out.keep (hu7.same fun j (hj : j = gi) hi => by have := HGI.out; omega)).mono (J := fun _ => True) fun _ _ => trivial)
      clear hu7 hW9
      go_upto_region 13 with (fail)
      clear hs7
      have S9 := Lib.hid (show REr w w.heap.size gi gh (icC (errM k mtu.toNat Q) (.slice A8 Q.length c8)) (hdC g (.slice Ao g.opts.length co)) (.slice A8 Q.length c8) Q W9 from ⟨K9.out, HH9.out, HS9.out, HB9.out, Nat.le_refl _⟩)
      have HCC := Lib.hid (fun (a b : World) (ha : REr w w.heap.size gi gh (icC (errM k mtu.toNat Q) (.slice A8 Q.length c8)) (hdC g (.slice Ao g.opts.length co)) (.slice A8 Q.length c8) Q a) (hb : Below a.heap.size a b) => ha.on hb)
      obtain ⟨sr, hsr⟩ : ∃ z, z = g.src := ⟨_, rfl⟩
      have bd := fun wx => hd_build4 wx (fr : Int) (sr : Int)
      have HSR := Lib.hid hsr
      clear hsr
      refine wp_region_mix [(true, 5), (false, 4)] 1 (by kernel_rfl) (fun a => REr w w.heap.size gi gh (icC (errM k mtu.toNat Q) (.slice A8 Q.length c8)) (hdC g (.slice Ao g.opts.length co)) (.slice A8 Q.length c8) Q a) HCC.out (by kernel_rfl) S9.out (a' := ?_) (fun wz hz => ?_) fun wz hz => ?_
      rotate_left
      · have x1 := fun (dd : Nat) (os : Array Obj) => ld_u32s (z := (sr : Int)) (by rw [HSR.out]; exact (hz.on (below_regrown wz dd os)).hd.cell 8)
        have x2 := fun (dd : Nat) (os : Array Obj) => ic_load (hz.on (below_regrown wz dd os)).ic rfl
        clear hz
        simp only [pick_nil, pick_tt, pick_ft, List.take_succ_cons, List.take_zero, List.drop_succ_cons, List.drop_zero, List.append_nil]
        repeat (go_big_quiet_step (fail))
        refine wpQuiet_nil ?_
        rfl
      · simp only [pick_nil, pick_ff, pick_tf, List.take_succ_cons, List.take_zero, List.drop_succ_cons, List.drop_zero, List.append_nil]
        have T0 := Lib.hid (S9.out.on hz)
        clear hz
        refine wpMix_step T0.out fun wa ha => ?_
        have T1 := Lib.hid (T0.out.on ha)
        have hby : Calls Try.prog 26 #[.agg (icC (errM k mtu.toNat Q) (.slice A8 Q.length c8))] wa (IcBPost wa (icB (errM k mtu.toNat Q))) := ricbytes_any (errM k mtu.toNat Q) (.slice A8 Q.length c8) _ wa T1.out.sv (by show Q.length ≤ 900000; have := HL.out; omega)
        have HBY := Lib.hid hby
        clear ha hby
        go_wp2_with fail
        refine HBY.out.mono ?_
        rintro e wb ⟨vb, rfl, hvb, hbb⟩
        have T2 := Lib.hid (T1.out.on hbb)
        obtain ⟨Ab, cb, rfl, _⟩ := hvb.form
        have HVB := Lib.hid (row_sl hvb)
        clear hvb hbb
        go_wp2_with fail
        refine wpMix_step T2.out fun wd hd => ?_
        have T3 := Lib.hid (T2.out.on hd)
        have hrb : Calls Try.prog 38 #[.agg #[.int .u8 0, .int .u16 0, .bool false, .bool false, .bool false, .int .i64 0, .int .u8 64, .int .u8 1, .int .u32 (fr : Int), .int .u32 (sr : Int), .slice none 0 0], .slice Ab (icB (errM k mtu.toNat Q)).length cb] wd fun e w' => ∃ v, e = .returned v ∧ Row8 wd.heap.size w' v (bytesF (errH fr sr) (icB (errM k mtu.toNat Q))) ∧ Below wd.heap.size wd w' := rbytes_any (errH fr sr) (.slice none 0 0) (.slice Ab (icB (errM k mtu.toNat Q)).length cb) (icB (errM k mtu.toNat Q)) (fun _ => True) wd (sl_nil _ _) (HVB.out.below hd) (errH_ok hfr (by rw [HSR.out]; exact HOK.out.2.2.2.2.1)) (by
          have := HFIT.out
          rw [HQ.out, HSR.out]
          exact this)
        have HRB := Lib.hid hrb
        clear hd hrb
        go_wp2_with fail
        refine HRB.out.mono ?_
        rintro e we ⟨ve, rfl, hve, hbe⟩
        have HBE := Lib.hid (T3.out.below.trans (hbe.mono T3.out.below.size))
        obtain ⟨Ae, ce, rfl, _⟩ := hve.form
        have HVE := Lib.hid (own_base hve T3.out.below.size)
        clear hve hbe
        go_wp2_with fail
        refine wpMix_plain ?_
        go_wp2_with fail
        go_ret2
        rw [HE9.out]
        refine ⟨_, rfl, ?_, HBE.out⟩
        simp only
        rw [← HQ.out, ← HSR.out]
        exact HVE.out
    · have HC3 := Lib.hid (show k = 1 by omega)
      have b7 : (k == 3) = false := beq_eq_false_iff_ne.2 c7
      clear HE a1 a2 a3 a4 c3 c4 c7
      go_upto_region 4 with
        (go_at_call 16
         refine HPA.out.mono ?_
         rintro e w1 ⟨vo, vq, rfl, ho, hq, hb⟩
         obtain ⟨Ao, co, rfl, _⟩ := ho
         obtain ⟨Aq, cq, rfl, _⟩ := hq
         obtain ⟨w2, hst, hb2, hb12, hk2⟩ := hd_var hb hb.size g Ao g.opts.length co
         have HB2 := Lib.hid hb2
         have HH2 := Lib.hid hk2
         have HGE := Lib.hid hb.size
         clear hb hb2 hb12 hk2)
      by_cases c5 : f ≠ 0
      · have b5 : ((f : Int) != 0) = true := by rw [bne_iff_ne]; omega
        rw [if_pos c5] at hE
        subst hE
        clear c5
        go_wp2_with fail
        go_ret2
        exact ⟨_, rfl, Row8.nil _ _, HB2.out⟩
      have b5 : ((f : Int) != 0) = false := by rw [bne_eq_false_iff_eq]; omega
      rw [if_neg c5] at hE
      have hp0 := HP0.out (by omega)
      clear c5
      cases mm with
      | false =>
        rw [if_pos rfl] at hE
        subst hE
        go_wp2_with (go_at_call 19; refine (HMA.out _ HB2.out).mono ?_; rintro e w5 ⟨rfl, hb5⟩; have HB5 := Lib.hid (HB2.out.trans (hb5.mono HB2.out.size)); clear hb5)
        go_ret2
        exact ⟨_, rfl, Row8.nil _ _, HB5.out⟩
      | true =>
      rw [if_neg (by simp)] at hE
      have HE9 := Lib.hid hE
      clear hE
      obtain ⟨gh, hgh⟩ : ∃ z, z = w1.heap.size := ⟨_, rfl⟩
      rw [← hgh] at HH2 HGE ⊢
      clear hgh hst
      go_upto_region 8 with (go_at_call 19; refine (HMA.out _ HB2.out).mono ?_; rintro e w5 ⟨rfl, hb5⟩; have HB5 := Lib.hid (HB2.out.trans (hb5.mono HB2.out.size)); have HH5 := Lib.hid (HH2.out.below hb5 HH2.out.lt); clear hb5)
      have hmt := HC.out
      have hq2 : Int.tdiv mtu 256 = mtu / 256 := Int.tdiv_eq_ediv_of_nonneg hmt.1
      have hq3 : Int.tmod mtu 256 = mtu % 256 := Int.tmod_eq_emod_of_nonneg hmt.1
      have hw2 : IntKind.i64.wrap (mtu / 256) = mtu / 256 := IntWalk.i64_in _ (by omega)
      have hw3 : mtu % 256 % 256 = mtu % 256 := by omega
      have E2 := Lib.hid (show mtu / 256 % 256 = ((u8 (mtu.toNat / 256)).toNat : Int) by rw [u8_nat]; omega)
      have E3 := Lib.hid (show mtu % 256 = ((u8 mtu.toNat).toNat : Int) by rw [u8_nat]; omega)
      have hqt := HQT.out w5 HB5.out hp0
      obtain ⟨Q, hQ⟩ : ∃ Q, Q = (quoteF x).1 := ⟨_, rfl⟩
      have HQ := Lib.hid hQ
      have HL := Lib.hid (show Q.length ≤ 68 by rw [hQ]; exact HQLEN.out)
      rw [← hQ] at hqt
      have HQ8 := Lib.hid hqt
      clear hqt hQ hmt hp0
      go_wp2_with fail
      refine HQ8.out.mono ?_
      rintro e w6 ⟨v8, rfl, h8, hb6⟩
      have HB6 := Lib.hid (HB5.out.trans (hb6.mono HB5.out.size))
      have hh6 := HH5.out.below hb6 HH5.out.lt
      obtain ⟨A8, c8, rfl, _⟩ := id h8
      obtain ⟨w7, hst7, hb7, hb67, hk7⟩ := ic_var HB6.out HB6.out.size ⟨3, 0, 0, 0, u8 (mtu.toNat / 256), u8 mtu.toNat, Q⟩ A8 Q.length c8
      rw [show icC ⟨3, 0, 0, 0, u8 (mtu.toNat / 256), u8 mtu.toNat, Q⟩ (.slice A8 Q.length c8) = #[.int .u8 3, .int .u8 0, .int .u8 0, .int .u8 0, .int .u8 (mtu / 256 % 256), .int .u8 (mtu % 256), .slice A8 Q.length c8] from by rw [E2.out, E3.out]; rfl] at hst7
      have HH7 := Lib.hid (hh6.below hb67 hh6.lt)
      have HS7 := Lib.hid ((h8.mono (J := fun j => j < w.heap.size) fun j hj => hj.1.2).keep (Same.ofBelow hb67 fun j hj => Nat.lt_of_lt_of_le hj HB6.out.size))
      have HB7 := Lib.hid hb7
      have HK7 := Lib.hid hk7
      obtain ⟨gi, hgi⟩ : ∃ z, z = w6.heap.size := ⟨_, rfl⟩
      have HNE := Lib.hid (show gh ≠ gi by have := hh6.lt; omega)
      have HGI := Lib.hid (show w.heap.size ≤ gi by have := HB6.out.size; omega)
      clear h8 hb6 hh6 hb7 hb67 hk7
      go_upto_region 9 with (fail)
      clear hst7 hw2 hw3 hq2 hq3
      rw [← hgi] at HK7 ⊢
      clear hgi
      obtain ⟨W9, rfl⟩ : ∃ W, W = w7 := ⟨_, rfl⟩
      have K9 := Lib.hid (show Blk W9 gi 45 (icC (errM k mtu.toNat Q) (.slice A8 Q.length c8)) from by rw [HC3.out]; exact HK7.out)
      have HB9 := HB7
      have HH9 := HH7
      have HS9 := Lib.hid (HS7.out.mono (J := fun _ => True) fun _ _ => trivial)
      go_upto_region 13 with (fail)
      have S9 := Lib.hid (show REr w w.heap.size gi gh (icC (errM k mtu.toNat Q) (.slice A8 Q.length c8)) (hdC g (.slice Ao g.opts.length co)) (.slice A8 Q.length c8) Q W9 from ⟨K9.out, HH9.out, HS9.out, HB9.out, Nat.le_refl _⟩)
      have HCC := Lib.hid (fun (a b : World) (ha : REr w w.heap.size gi gh (icC (errM k mtu.toNat Q) (.slice A8 Q.length c8)) (hdC g (.slice Ao g.opts.length co)) (.slice A8 Q.length c8) Q a) (hb : Below a.heap.size a b) => ha.on hb)
      obtain ⟨sr, hsr⟩ : ∃ z, z = g.src := ⟨_, rfl⟩
      have bd := fun wx => hd_build4 wx (fr : Int) (sr : Int)
      have HSR := Lib.hid hsr
      clear hsr
      refine wp_region_mix [(true, 5), (false, 4)] 1 (by kernel_rfl) (fun a => REr w w.heap.size gi gh (icC (errM k mtu.toNat Q) (.slice A8 Q.length c8)) (hdC g (.slice Ao g.opts.length co)) (.slice A8 Q.length c8) Q a) HCC.out (by kernel_rfl) S9.out (a' := ?_) (fun wz hz => ?_) fun wz hz => ?_
      rotate_left
      · have x1 := fun (dd : Nat) (os : Array Obj) => ld_u32s (z := (sr : Int)) (by rw [HSR.out]; exact (hz.on (below_regrown wz dd os)).hd.cell 8)
        have x2 := fun (dd : Nat) (os : Array Obj) => ic_load (hz.on (below_regrown wz dd os)).ic rfl
        clear hz
        simp only [pick_nil, pick_tt, pick_ft, List.take_succ_cons, List.take_zero, List.drop_succ_cons, List.drop_zero, List.append_nil]
        repeat (go_big_quiet_step (fail))
        refine wpQuiet_nil ?_
        rfl
      · simp only [pick_nil, pick_ff, pick_tf, List.take_succ_cons, List.take_zero, List.drop_succ_cons, List.drop_zero, List.append_nil]
        have T0 := Lib.hid (S9.out.on hz)
        clear hz
        refine wpMix_step T0.out fun wa ha => ?_
        have T1 := Lib.hid (T0.out.on ha)
        have hby : Calls Try.prog 26 #[.agg (icC (errM k mtu.toNat Q) (.slice A8 Q.length c8))] wa (IcBPost wa (icB (errM k mtu.toNat Q))) := ricbytes_any (errM k mtu.toNat Q) (.slice A8 Q.length c8) _ wa T1.out.sv (by show Q.length ≤ 900000; have := HL.out; omega)
        have HBY := Lib.hid hby
        clear ha hby
        go_wp2_with fail
        refine HBY.out.mono ?_
        rintro e wb ⟨vb, rfl, hvb, hbb⟩
        have T2 := Lib.hid (T1.out.on hbb)
        obtain ⟨Ab, cb, rfl, _⟩ := hvb.form
        have HVB := Lib.hid (row_sl hvb)
        clear hvb hbb
        go_wp2_with fail
        refine wpMix_step T2.out fun wd hd => ?_
        have T3 := Lib.hid (T2.out.on hd)
        have hrb : Calls Try.prog 38 #[.agg #[.int .u8 0, .int .u16 0, .bool false, .bool false, .bool false, .int .i64 0, .int .u8 64, .int .u8 1, .int .u32 (fr : Int), .int .u32 (sr : Int), .slice none 0 0], .slice Ab (icB (errM k mtu.toNat Q)).length cb] wd fun e w' => ∃ v, e = .returned v ∧ Row8 wd.heap.size w' v (bytesF (errH fr sr) (icB (errM k mtu.toNat Q))) ∧ Below wd.heap.size wd w' := rbytes_any (errH fr sr) (.slice none 0 0) (.slice Ab (icB (errM k mtu.toNat Q)).length cb) (icB (errM k mtu.toNat Q)) (fun _ => True) wd (sl_nil _ _) (HVB.out.below hd) (errH_ok hfr (by rw [HSR.out]; exact HOK.out.2.2.2.2.1)) (by
          have := HFIT.out
          rw [HQ.out, HSR.out]
          exact this)
        have HRB := Lib.hid hrb
        clear hd hrb
        go_wp2_with fail
        refine HRB.out.mono ?_
        rintro e we ⟨ve, rfl, hve, hbe⟩
        have HBE := Lib.hid (T3.out.below.trans (hbe.mono T3.out.below.size))
        obtain ⟨Ae, ce, rfl, _⟩ := hve.form
        have HVE := Lib.hid (own_base hve T3.out.below.size)
        clear hve hbe
        go_wp2_with fail
        refine wpMix_plain ?_
        go_wp2_with fail
        go_ret2
        rw [HE9.out]
        refine ⟨_, rfl, ?_, HBE.out⟩
        simp only
        rw [← HQ.out, ← HSR.out]
        exact HVE.out
  · have b4 : (mtu != 0) = true := by rw [bne_iff_ne]; exact c4
    have hE := HE.out
    rw [if_pos (by simp [c3, c4])] at hE
    subst hE
    go_wp2_with fail
    go_ret2
    exact ⟨_, rfl, Row8.nil _ _, (Below.refl _ _)⟩
end Go.Proofs.Ytihfihehiifdkaa
