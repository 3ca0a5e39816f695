/- Icmp: Reply of both. -/
import Derived.Test.YtihfihehiifdkaaIcQ
namespace Go.Proofs.Ytihfihehiifdkaa
open Go.RowKit Go.Sort Go.BigFrame
theorem ld_u16s {w : World} {a : Addr} {z : Int} (hu : w.cell? a = some (.int .u16 z)) : (Instr.loadAt 30 (.pointer (some a))).run Try.prog w = .ok (.int .u16 z) w := by
  simp [go_sem, hu]
theorem hd_build5 (w : World) (t i s d : Int) (b : Bool) : (Instr.build 32 #[(0, .int .u8 t), (1, .int .u16 i), (3, .bool b), (8, .int .u32 s), (9, .int .u32 d)]).run Try.prog w = .ok (.agg #[.int .u8 t, .int .u16 i, .bool false, .bool b, .bool false, .int .i64 0, .int .u8 0, .int .u8 0, .int .u32 s, .int .u32 d, .slice none 0 0]) w := by kernel_rfl
attribute [-go_sem] Instr.storeAt Instr.loadAt in
set_option maxRecDepth 100000 in
set_option maxHeartbeats 8000000 in
theorem reply_any (A : Option Addr) (n c : Nat) (x : By) (I : Nat → Prop) (w : World) (h : Reads w I 1 A n (bytesV x)) (hn : x.length = n) (hc : n ≤ c) (hsm : n ≤ 1000000) :
    Calls Try.prog 30 #[.slice A n c] w (BytPost w (replyF x).1 ((replyF x).2 : Int)) := by
  have hpa := parse_any A n c x I w h hn hc hsm
  have hok := prs_ok x
  have hpl := prs_len x
  have hfit : echoF x = true → fitsH (replyH (prsF x).1) (icB { (icOf (prsF x).2.1).1 with ty := 0 }) = true := fun he => replyH_fits _ (by rw [icB_len]; exact reply_len he)
  have hbl : echoF x = true → (icOf (prsF x).2.1).1.body.length ≤ 65535 := fun he => by have := reply_len he; omega
  have HEC := Lib.hid (fun wx (hb : Below w.heap.size w wx) => echo_any A n c x (fun j => I j ∧ j < w.heap.size) wx (h.lt.keep (Same.ofBelow hb fun j hj => hj.2)) hn hc hsm)
  obtain ⟨E, hE⟩ : ∃ E, E = replyF x := ⟨_, rfl⟩
  rw [← hE]
  unfold replyF at hE
  obtain ⟨ec, hec⟩ : ∃ b, b = echoF x := ⟨_, rfl⟩
  rw [← hec] at HEC hE hfit hbl
  obtain ⟨R, hR⟩ : ∃ R, R = prsF x := ⟨_, rfl⟩
  rw [← hR] at hpa hE hok hpl hfit hbl
  obtain ⟨g, y, f⟩ := R
  simp only at hE hok hpl hfit hbl
  obtain ⟨O, hO⟩ : ∃ O, O = icOf y := ⟨_, rfl⟩
  rw [← hO] at hE hfit hbl
  have HO := Lib.hid hO
  have HPA := Lib.hid hpa
  have HE := Lib.hid hE
  have HOK := Lib.hid hok
  have HFIT := Lib.hid hfit
  have HBL := Lib.hid hbl
  obtain ⟨q, hq⟩ : ∃ q, q = y.length := ⟨_, rfl⟩
  have HQ := Lib.hid hq
  have hqs : q ≤ 1000000 := by omega
  clear hpa hE hR h hn hc hsm hO hq hpl hok hfit hbl hec
  go_enter Try.func30, Try.ntmps30
  go_upto_region 2 with
    (go_at_call 34
     refine HPA.out.mono ?_
     rintro e w1 ⟨vo, vq, rfl, ho, hq, _, hb⟩
     obtain ⟨Ao, co, rfl, _⟩ := ho.form
     obtain ⟨Aq, cq, rfl, hcq⟩ := hq.form
     rw [show (g, y, f).2.1.length = q from HQ.out.symm] at hcq ⊢
     obtain ⟨w2, hst, hb2, hb12, hk2⟩ := hd_var hb hb.size g Ao g.opts.length co
     have HB2 := Lib.hid hb2
     have HH2 := Lib.hid hk2
     have HQ2 := Lib.hid ((hq.below hb12).reads.2)
     clear ho hq hb hb2 hb12 hk2)
  rw [show (g, y, f).2.1.length = q from HQ.out.symm] at HQ2
  by_cases c1 : f ≠ 0
  · have hE := HE.out
    rw [if_pos c1] at hE
    subst hE
    have b1 : ((f : Int) != 0) = true := by rw [bne_iff_ne]; omega
    clear c1
    go_wp2_with fail
    go_ret2
    exact ⟨_, rfl, Row8.nil _ _, HB2.out⟩
  have b1 : ((f : Int) != 0) = false := by rw [bne_eq_false_iff_eq]; omega
  have hE := HE.out
  rw [if_neg c1] at hE
  clear c1 HE
  obtain ⟨gh, hgh⟩ : ∃ z, z = w1.heap.size := ⟨_, rfl⟩
  rw [← hgh] at HH2 ⊢
  clear hgh hst
  cases ec with
  | false =>
    rw [if_pos rfl] at hE
    subst hE
    go_wp2_with (go_at_call 31; refine (HEC.out _ HB2.out).mono ?_; rintro e w3 ⟨rfl, hb3⟩; have HB3 := Lib.hid (HB2.out.trans (hb3.mono HB2.out.size)); clear hb3)
    go_ret2
    exact ⟨_, rfl, Row8.nil _ _, HB3.out⟩
  | true =>
  rw [if_neg (by simp)] at hE
  have HE := Lib.hid hE
  clear hE
  have HOF := Lib.hid (fun wx (hb : Below w2.heap.size w2 wx) => icof_any Aq q cq y _ wx (HQ2.out.lt.keep (Same.ofBelow hb fun j hj => hj.2)) HQ.out.symm hcq hqs)
  rw [← HO.out] at HOF
  obtain ⟨er, her⟩ : ∃ z, z = O.2 := ⟨_, rfl⟩
  rw [← her] at *
  go_upto_region 7 with
    (first
      | (go_at_call 31; refine (HEC.out _ HB2.out).mono ?_; rintro e w3 ⟨rfl, hb3⟩; have HB3 := Lib.hid (HB2.out.trans (hb3.mono HB2.out.size)); have HB23 := Lib.hid hb3; clear hb3)
      | (go_at_call 22
         refine (HOF.out _ HB23.out).mono ?_
         rintro e w4 ⟨v4, rfl, h4, hb4⟩
         obtain ⟨A4, c4, rfl, _⟩ := h4.form
         have hb4' := HB3.out.trans (hb4.mono HB3.out.size)
         have hh4 := HH2.out.below (HB23.out.trans (hb4.mono HB23.out.size)) HH2.out.lt
         obtain ⟨w5, hst5, hb5, hb45, hk5⟩ := ic_var hb4' hb4'.size O.1 A4 O.1.body.length c4
         have HH5 := Lib.hid (hh4.below hb45 hh4.lt)
         have HB5 := Lib.hid hb5
         have HK5 := Lib.hid hk5
         have HS5 := Lib.hid (show Sl8 w5 (fun k => k < w4.heap.size) (.slice A4 O.1.body.length c4) O.1.body from (h4.sl.mono fun k hk => hk.2).keep (Same.ofBelow hb45 fun k hk => hk))
         have HNE := Lib.hid (show gh ≠ w4.heap.size by have := hh4.lt; omega)
         have HGI := Lib.hid hb4'.size
         unfold icV
         clear h4 hb4 hb4' hh4 hb5 hb45 hk5))
  obtain ⟨gi, hgi⟩ : ∃ z, z = w4.heap.size := ⟨_, rfl⟩
  rw [← hgi] at HK5 HNE HGI HS5 ⊢
  clear hgi hst5
  have hs6 := st8 (HK5.out.cell 0) (HK5.out.frozen 0) 0
  obtain ⟨W6, hW6⟩ : ∃ W, W = w5.setCell ⟨gi, 0, none⟩ (.int .u8 0) := ⟨_, rfl⟩
  have hu6 := upd_set w5 gi 0 (.int .u8 0)
  obtain ⟨N, hN⟩ : ∃ N : Ic, N = { O.1 with ty := 0 } := ⟨_, rfl⟩
  have hnb : N.body = O.1.body := by rw [hN]
  have K6 := Lib.hid (show Blk W6 gi 45 (icC N (.slice A4 O.1.body.length c4)) from by rw [hW6, hN]; exact HK5.out.set_ 0 _)
  rw [← hW6] at hu6 hs6
  have HB6 := Lib.hid (HB5.out.trans (hu6.below (B := w.heap.size) (fun j (hj : j = gi) => by have := HGI.out; omega) HB5.out.size))
  have HH6 := Lib.hid (show Blk W6 gh 32 (hdC g (.slice Ao g.opts.length co)) from (hu6.block _ HH5.out.lt (fun (e : gh = gi) => HNE.out e)).trans HH5.out)
  obtain ⟨bl, hbl⟩ : ∃ z, z = O.1.body.length := ⟨_, rfl⟩
  have HOB := Lib.hid hbl
  have HS6 := Lib.hid (show Sl8 W6 (fun _ => True) (.slice A4 O.1.body.length c4) N.body from by
    rw [hnb]
    exact (HS5.out.keep (hu6.same fun j (hj : j = gi) hi => by omega)).mono fun _ _ => trivial)
  have HN := Lib.hid hN
  clear hu6 hW6 hN
  go_upto_region 8 with (fail)
  clear hs6
  have l1 := ic_load K6.out rfl
  obtain ⟨tos, hto⟩ : ∃ z : Int, z = (g.tos : Int) := ⟨_, rfl⟩
  obtain ⟨idn, hid⟩ : ∃ z : Int, z = (g.id : Int) := ⟨_, rfl⟩
  obtain ⟨dfb, hdf⟩ : ∃ z, z = g.df := ⟨_, rfl⟩
  obtain ⟨sr, hsr⟩ : ∃ z : Int, z = (g.src : Int) := ⟨_, rfl⟩
  obtain ⟨ds, hds⟩ : ∃ z : Int, z = (g.dst : Int) := ⟨_, rfl⟩
  have l2 := ld_u8s (show W6.cell? ⟨gh, 0, none⟩ = some (.int .u8 tos) by rw [hto]; exact HH6.out.cell 0)
  have l3 := ld_u16s (show W6.cell? ⟨gh, 1, none⟩ = some (.int .u16 idn) by rw [hid]; exact HH6.out.cell 1)
  have l4 := ld_bool (show W6.cell? ⟨gh, 3, none⟩ = some (.bool dfb) by rw [hdf]; exact HH6.out.cell 3)
  have l5 := ld_u32s (show W6.cell? ⟨gh, 9, none⟩ = some (.int .u32 ds) by rw [hds]; exact HH6.out.cell 9)
  have l6 := ld_u32s (show W6.cell? ⟨gh, 8, none⟩ = some (.int .u32 sr) by rw [hsr]; exact HH6.out.cell 8)
  have bd := fun wx => hd_build5 wx tos idn ds sr dfb
  have hsn : Calls Try.prog 65 #[.agg (icC N (.slice A4 O.1.body.length c4)), .agg #[.int .u8 tos, .int .u16 idn, .bool false, .bool dfb, .bool false, .int .i64 0, .int .u8 0, .int .u8 0, .int .u32 ds, .int .u32 sr, .slice none 0 0]] W6 (BytPost W6 (bytesF (replyH g) (icB N)) 0) := by
    rw [hto, hid, hdf, hsr, hds]
    exact send_any N (.slice A4 O.1.body.length c4) { hd0 with tos := g.tos, id := g.id, df := g.df, src := g.dst, dst := g.src } (.slice none 0 0) (fun _ => True) W6 HS6.out (sl_nil _ _) (by rw [hnb]; have := HBL.out (by trivial); omega) (replyH_ok HOK.out) (by
      have := HFIT.out (by trivial)
      rw [HN.out]
      exact this)
  have HSN := Lib.hid hsn
  clear hsn hto hid hdf hsr hds hnb
  go_wp2_with fail
  refine HSN.out.mono ?_
  rintro e w9 ⟨v9, rfl, h9, hb9⟩
  obtain ⟨A9, c9, rfl, _⟩ := h9.form
  have H9 := Lib.hid (own_base h9 HB6.out.size)
  have HB9 := Lib.hid (HB6.out.trans (hb9.mono HB6.out.size))
  clear h9 hb9
  go_wp2_with fail
  go_ret2
  rw [HE.out]
  refine ⟨_, rfl, ?_, HB9.out⟩
  simp only
  rw [← HN.out]
  exact H9.out
end Go.Proofs.Ytihfihehiifdkaa
