/- Icmp: ref04.Reply. -/
import Derived.Test.YtihfihehiifdkaaIcR
namespace Go.Proofs.Ytihfihehiifdkaa
open Go.RowKit Go.Sort Go.BigFrame
theorem hd_build7 (w : World) (t i s d : Int) (b : Bool) : (Instr.build 32 #[(0, .int .u8 t), (1, .int .u16 i), (3, .bool b), (6, .int .u8 64), (7, .int .u8 1), (8, .int .u32 s), (9, .int .u32 d)]).run Try.prog w = .ok (.agg #[.int .u8 t, .int .u16 i, .bool false, .bool b, .bool false, .int .i64 0, .int .u8 64, .int .u8 1, .int .u32 s, .int .u32 d, .slice none 0 0]) w := by kernel_rfl
attribute [-go_sem] Instr.storeAt Instr.loadAt in
set_option maxRecDepth 100000 in
set_option maxHeartbeats 8000000 in
theorem rreply_any (A : Option Addr) (n c : Nat) (x : By) (I : Nat → Prop) (w : World) (h : Reads w I 1 A n (bytesV x)) (hn : x.length = n) (hc : n ≤ c) (hsm : n ≤ 1000000) (hec : echoF x = true) :
    Calls Try.prog 33 #[.slice A n c] w fun e w' => ∃ v, e = .returned v ∧ Row8 w.heap.size w' v (replyF x).1 ∧ Below w.heap.size w w' := by
  have hpa := rparse_any A n c x I w h hn hc hsm
  have hok := prs_ok x
  have hpl := prs_len x
  have hfit : fitsH (replyH (prsF x).1) (icB { (icOf (prsF x).2.1).1 with ty := 0 }) = true := replyH_fits _ (by rw [icB_len]; exact reply_len hec)
  have hbl : (icOf (prsF x).2.1).1.body.length ≤ 65535 := by have := reply_len hec; omega
  obtain ⟨E, hE⟩ : ∃ E, E = replyF x := ⟨_, rfl⟩
  rw [← hE]
  unfold replyF at hE
  have hf0 := (echo_of hec).1
  rw [if_neg (by omega), if_neg (by rw [hec]; simp)] at hE
  obtain ⟨R, hR⟩ : ∃ R, R = prsF x := ⟨_, rfl⟩
  rw [← hR] at hpa hE hok hpl hfit hbl hf0
  obtain ⟨g, y, f⟩ := R
  simp only at hE hok hpl hfit hbl hf0
  obtain ⟨O, hO⟩ : ∃ O, O = icOf y := ⟨_, rfl⟩
  rw [← hO] at hE hfit hbl
  have HO := Lib.hid hO
  have HPA := Lib.hid hpa
  have HE := Lib.hid hE
  have HOK := Lib.hid hok
  have HFIT := Lib.hid hfit
  have HBL := Lib.hid hbl
  obtain ⟨q, hq⟩ : ∃ q, q = y.length := ⟨_, rfl⟩
  have HQ := Lib.hid hq
  have hqs : q ≤ 1000000 := by omega
  subst hf0
  clear hpa hE hR h hn hc hsm hO hq hpl hok hfit hbl hec
  go_enter Try.func33, Try.ntmps33
  go_upto_region 2 with
    (go_at_call 16
     refine HPA.out.mono ?_
     rintro e w1 ⟨vo, vq, rfl, ho, hq, hb⟩
     obtain ⟨Ao, co, rfl, _⟩ := ho
     obtain ⟨Aq, cq, rfl, hcq, hrq⟩ := hq
     rw [show (g, y, 0).2.1.length = q from HQ.out.symm] at hcq hrq ⊢
     obtain ⟨w2, hst, hb2, hb12, hk2⟩ := hd_var hb hb.size g Ao g.opts.length co
     have HB2 := Lib.hid hb2
     have HH2 := Lib.hid hk2
     have HRQ := Lib.hid ((hrq.lt).keep (Same.ofBelow hb12 fun j hj => hj.2))
     clear hrq hb hb2 hb12 hk2)
  obtain ⟨gh, hgh⟩ : ∃ z, z = w1.heap.size := ⟨_, rfl⟩
  have HG0 := Lib.hid (show w1.heap.size ≤ w2.heap.size from Nat.le_of_lt HH2.out.lt)
  rw [← hgh] at HH2 ⊢
  clear hgh hst
  have hof := ricof_any Aq q cq y _ w2 HRQ.out HQ.out.symm hcq hqs
  rw [← HO.out] at hof
  have HOF := Lib.hid hof
  clear hof
  go_upto_region 3 with
    (go_at_call 23
     refine HOF.out.mono ?_
     rintro e w4 ⟨v4, rfl, h4, hb4⟩
     obtain ⟨A4, c4, rfl, _⟩ := id h4
     have hb4' := HB2.out.trans (hb4.mono HB2.out.size)
     have hh4 := HH2.out.below hb4 HH2.out.lt
     obtain ⟨w5, hst5, hb5, hb45, hk5⟩ := ic_var hb4' hb4'.size O.1 A4 O.1.body.length c4
     have HH5 := Lib.hid (hh4.below hb45 hh4.lt)
     have HB5 := Lib.hid hb5
     have HK5 := Lib.hid hk5
     have HS5 := Lib.hid (show Sl8 w5 (fun k => k < w4.heap.size) (.slice A4 O.1.body.length c4) O.1.body from (h4.mono (J := fun k => k < w4.heap.size) fun k hk => Nat.lt_of_lt_of_le hk.2 hb4.size).keep (Same.ofBelow hb45 fun k hk => hk))
     have HNE := Lib.hid (show gh ≠ w4.heap.size by have := hh4.lt; omega)
     have HGI := Lib.hid hb4'.size
     unfold icV
     clear h4 hb4 hb4' hh4 hb5 hb45 hk5)
  obtain ⟨gi, hgi⟩ : ∃ z, z = w4.heap.size := ⟨_, rfl⟩
  rw [← hgi] at HK5 HNE HGI HS5 ⊢
  clear hgi hst5
  have hs6 := st8 (HK5.out.cell 0) (HK5.out.frozen 0) 0
  obtain ⟨W6, hW6⟩ : ∃ W, W = w5.setCell ⟨gi, 0, none⟩ (.int .u8 0) := ⟨_, rfl⟩
  have hu6 := upd_set w5 gi 0 (.int .u8 0)
  obtain ⟨N, hN⟩ : ∃ N : Ic, N = { O.1 with ty := 0 } := ⟨_, rfl⟩
  have hnb : N.body = O.1.body := by rw [hN]
  obtain ⟨bl, hbl⟩ : ∃ z, z = O.1.body.length := ⟨_, rfl⟩
  have K6 : Blk W6 gi 45 (icC N (.slice A4 bl c4)) := by rw [hW6, hN, hbl]; exact HK5.out.set_ 0 _
  rw [← hW6] at hu6 hs6
  have HB6 := HB5.out.trans (hu6.below (B := w.heap.size) (fun j (hj : j = gi) => by have := HGI.out; omega) HB5.out.size)
  have HH6 : Blk W6 gh 32 (hdC g (.slice Ao g.opts.length co)) := (hu6.block _ HH5.out.lt (fun (e : gh = gi) => HNE.out e)).trans HH5.out
  have HS6 : Sl8 W6 (fun _ => True) (.slice A4 bl c4) N.body := by
    rw [hnb, hbl]
    exact (HS5.out.keep (hu6.same fun j (hj : j = gi) hi => by omega)).mono fun _ _ => trivial
  have S9 := Lib.hid (show REr w w.heap.size gi gh (icC N (.slice A4 bl c4)) (hdC g (.slice Ao g.opts.length co)) (.slice A4 bl c4) N.body W6 from ⟨K6, HH6, HS6, HB6, Nat.le_refl _⟩)
  have HN := Lib.hid hN
  have HNB := Lib.hid (show N.body.length ≤ 900000 by rw [hnb]; have := HBL.out; omega)
  rw [← hbl]
  clear hu6 hW6 hN K6 HB6 HH6 HS6 hnb hbl
  go_upto_region 4 with (fail)
  clear hs6
  obtain ⟨tos, hto⟩ : ∃ z : Int, z = (g.tos : Int) := ⟨_, rfl⟩
  obtain ⟨idn, hid⟩ : ∃ z : Int, z = (g.id : Int) := ⟨_, rfl⟩
  obtain ⟨dfb, hdf⟩ : ∃ z, z = g.df := ⟨_, rfl⟩
  obtain ⟨sr, hsr⟩ : ∃ z : Int, z = (g.src : Int) := ⟨_, rfl⟩
  obtain ⟨ds, hds⟩ : ∃ z : Int, z = (g.dst : Int) := ⟨_, rfl⟩
  have H1 := Lib.hid hto
  have H2 := Lib.hid hid
  have H3 := Lib.hid hdf
  have H4 := Lib.hid hsr
  have H5 := Lib.hid hds
  clear hto hid hdf hsr hds
  have bd := fun wx => hd_build7 wx tos idn ds sr dfb
  have HCC := Lib.hid (fun (a b : World) (ha : REr w w.heap.size gi gh (icC N (.slice A4 bl c4)) (hdC g (.slice Ao g.opts.length co)) (.slice A4 bl c4) N.body a) (hb : Below a.heap.size a b) => ha.on hb)
  refine wp_region_mix [(true, 12), (false, 3)] 1 (by kernel_rfl) (fun a => REr w w.heap.size gi gh (icC N (.slice A4 bl c4)) (hdC g (.slice Ao g.opts.length co)) (.slice A4 bl c4) N.body a) HCC.out (by kernel_rfl) S9.out (a' := ?_) (fun wz hz => ?_) fun wz hz => ?_
  rotate_left
  · have x1 := fun (dd : Nat) (os : Array Obj) => ld_u8s (z := tos) (by rw [H1.out]; exact (hz.on (below_regrown wz dd os)).hd.cell 0)
    have x2 := fun (dd : Nat) (os : Array Obj) => ld_u16s (z := idn) (by rw [H2.out]; exact (hz.on (below_regrown wz dd os)).hd.cell 1)
    have x3 := fun (dd : Nat) (os : Array Obj) => ld_bool (b := dfb) (by rw [H3.out]; exact (hz.on (below_regrown wz dd os)).hd.cell 3)
    have x4 := fun (dd : Nat) (os : Array Obj) => ld_u32s (z := ds) (by rw [H5.out]; exact (hz.on (below_regrown wz dd os)).hd.cell 9)
    have x5 := fun (dd : Nat) (os : Array Obj) => ld_u32s (z := sr) (by rw [H4.out]; exact (hz.on (below_regrown wz dd os)).hd.cell 8)
    have x6 := fun (dd : Nat) (os : Array Obj) => ic_load (hz.on (below_regrown wz dd os)).ic rfl
    clear hz
    simp only [pick_nil, pick_tt, pick_ft, List.take_succ_cons, List.take_zero, List.drop_succ_cons, List.drop_zero, List.append_nil]
    repeat (go_big_quiet_step (fail))
    refine wpQuiet_nil ?_
    rfl
  · simp only [pick_nil, pick_ff, pick_tf, List.take_succ_cons, List.take_zero, List.drop_succ_cons, List.drop_zero, List.append_nil]
    have T0 := Lib.hid (S9.out.on hz)
    clear hz
    refine wpMix_step T0.out fun wa ha => ?_
    have T1 := Lib.hid (T0.out.on ha)
    have hby : Calls Try.prog 26 #[.agg (icC N (.slice A4 bl c4))] wa (IcBPost wa (icB N)) := ricbytes_any N (.slice A4 bl c4) _ wa T1.out.sv HNB.out
    have HBY := Lib.hid hby
    clear ha hby
    go_wp2_with fail
    refine HBY.out.mono ?_
    rintro e wb ⟨vb, rfl, hvb, hbb⟩
    have T2 := Lib.hid (T1.out.on hbb)
    obtain ⟨Ab, cb, rfl, _⟩ := hvb.form
    have HVB := Lib.hid (row_sl hvb)
    clear hvb hbb
    go_wp2_with fail
    refine wpMix_step T2.out fun wd hd => ?_
    have T3 := Lib.hid (T2.out.on hd)
    have hrb : Calls Try.prog 38 #[.agg #[.int .u8 tos, .int .u16 idn, .bool false, .bool dfb, .bool false, .int .i64 0, .int .u8 64, .int .u8 1, .int .u32 ds, .int .u32 sr, .slice none 0 0], .slice Ab (icB N).length cb] wd fun e w' => ∃ v, e = .returned v ∧ Row8 wd.heap.size w' v (bytesF (replyH g) (icB N)) ∧ Below wd.heap.size wd w' := by
      rw [H1.out, H2.out, H3.out, H4.out, H5.out]
      exact rbytes_any (replyH g) (.slice none 0 0) (.slice Ab (icB N).length cb) (icB N) (fun _ => True) wd (sl_nil _ _) (HVB.out.below hd) (replyH_ok HOK.out) (by rw [HN.out]; exact HFIT.out)
    have HRB := Lib.hid hrb
    clear hd hrb
    go_wp2_with fail
    refine HRB.out.mono ?_
    rintro e we ⟨ve, rfl, hve, hbe⟩
    have HBE := Lib.hid (T3.out.below.trans (hbe.mono T3.out.below.size))
    obtain ⟨Ae, ce, rfl, _⟩ := hve.form
    have HVE := Lib.hid (own_base hve T3.out.below.size)
    clear hve hbe
    go_wp2_with fail
    refine wpMix_plain ?_
    go_wp2_with fail
    go_ret
    rw [HE.out]
    refine ⟨_, rfl, ?_, HBE.out⟩
    simp only
    rw [← HN.out]
    exact HVE.out
end Go.Proofs.Ytihfihehiifdkaa
