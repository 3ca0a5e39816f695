/- Reass: Table.Take. -/
import Derived.Test.YtihfihehiifdkaaRtE
namespace Go.Proofs.Ytihfihehiifdkaa
open Go.RowKit Go.Sort
theorem size_h {h : Hd} (hm : mayH h = true) : sizeH h = 20 + h.opts.length := by unfold sizeH; rw [if_pos hm]
set_option maxRecDepth 100000 in
set_option maxHeartbeats 16000000 in
attribute [-go_sem] Instr.storeAt Instr.loadAt in
theorem rtake_any (tb mb : Nat) (G : List GF) (A : Option Addr) (n q : Nat) (x : By) (I : Nat → Prop) (w : World) (h : TbM w tb mb G) (hx : Reads w I 1 A n (bytesV x)) (hn : x.length = n) (hc : n ≤ q) (hsm : n ≤ 1000000) :
    Calls Try.prog 41 #[.pointer (some ⟨tb, 0, none⟩), .slice A n q] w (TkPost w tb mb G (takeF (G.map GF.f) x)) := by
  have HT := Lib.hid (fun wx (hb : Below w.heap.size w wx) => h.below hb)
  have HX := Lib.hid (fun wx (hb : Below w.heap.size w wx) => hx.lt.keep (Same.ofBelow hb fun k hk => hk.2))
  have hpa := parse_any A n q x I w hx hn hc hsm
  have hth := there_any tb mb w h.blk
  have HNL := Lib.hid h.nlt
  have hpl := prs_len x
  have hok := prs_ok x
  have hmay := prs_may (x := x)
  have hwh := prs_whole (x := x)
  have htk : takeF (G.map GF.f) x = takeF (G.map GF.f) x := rfl
  conv at htk => rhs; unfold takeF
  obtain ⟨R, hR⟩ : ∃ R, R = prsF x := ⟨_, rfl⟩
  rw [← hR] at hpa hpl hok hmay hwh htk
  obtain ⟨g, y, fl⟩ := R
  simp only at hpl hok hmay hwh htk
  have HTK := Lib.hid htk
  have HPA := Lib.hid hpa
  have HTH := Lib.hid hth
  have HOK := Lib.hid hok
  have HMAY := Lib.hid hmay
  have HWH := Lib.hid hwh
  have HPL := Lib.hid hpl
  have HXN := Lib.hid hn
  have hlen := h.len
  clear h hx hn hR hpa hth hpl hok hmay hwh htk
  go_enter Try.func41, Try.ntmps41
  go_upto_region 4 with (first
    | (go_at_call 82; refine HTH.out.mono ?_; rintro e w' ⟨rfl, rfl⟩)
    | (go_at_call 34
       refine HPA.out.mono ?_
       rintro e w1 ⟨vo, vq, rfl, hro, hry, _, hb1⟩
       obtain ⟨Ao, co, rfl, _⟩ := hro.form
       obtain ⟨Aq, cq, rfl, hcq⟩ := hry.form
       obtain ⟨w2, hst, hb2, hb12, hk2⟩ := hd_var hb1 hb1.size g Ao g.opts.length co
       have HB2 := Lib.hid hb2
       have HK2 := Lib.hid hk2
       have HRO2 := Lib.hid (hro.below hb12)
       have HRY2 := Lib.hid (hry.below hb12)
       have HCQ := Lib.hid hcq
       have HB1 := Lib.hid hb1.size
       clear hro hry hb1 hb2 hb12 hk2 hcq))
  clear hst
  obtain ⟨gh, hgh⟩ : ∃ z, z = w1.heap.size := ⟨_, rfl⟩
  rw [← hgh] at HK2 ⊢
  have HGH := Lib.hid (show w.heap.size ≤ gh by rw [hgh]; exact HB1.out)
  clear hgh
  obtain ⟨Ln, hLn⟩ : ∃ z, z = y.length := ⟨_, rfl⟩
  rw [← hLn]
  have HLN := Lib.hid hLn
  clear hLn
  have hl1 : Ln ≤ 1000000 := by have := HPL.out.1; have := HXN.out; have := HLN.out; omega
  by_cases h0 : fl = 0
  rotate_left
  · have b1 : ((fl : Int) != 0) = true := by rw [bne_iff_ne]; omega
    have hfin : takeF (G.map GF.f) x = (G.map GF.f, [], 4) := by rw [HTK.out, if_pos h0]
    have HFIN := Lib.hid hfin
    clear h0 hfin
    go_wp2_with fail
    go_ret2
    rw [HFIN.out]
    exact tk_same (HT.out w (Below.refl _ _)) HB2.out (Row8.nil _ _)
  subst h0
  have hmy := (HMAY.out rfl).1
  have hw0 := HWH.out rfl
  have HMY := Lib.hid hmy
  have ht1 : takeF (G.map GF.f) x = _ := HTK.out
  rw [if_neg (by omega)] at ht1
  have HT1 := Lib.hid ht1
  have rl2 := hd_load HK2.out rfl
  have HFR := Lib.hid (frag_any g Ao g.opts.length co w2)
  rw [hdV_eq] at HFR
  clear hmy ht1
  by_cases hfr : fragH g = false
  · rw [hfr] at HFR
    have hfin : takeF (G.map GF.f) x = (G.map GF.f, x.take (20 + g.opts.length + y.length), 0) := by rw [HT1.out, if_pos hfr]
    have HFIN := Lib.hid hfin
    have HSZ := Lib.hid (fun wx (hb : Below w2.heap.size w2 wx) => size_any g (.slice Ao g.opts.length co) (fun _ => True) wx (row_sl (HRO2.out.below hb)) (by have := HPL.out; have := HXN.out; omega))
    rw [size_h HMY.out, hdV_eq] at HSZ
    obtain ⟨t, ht⟩ : ∃ t, t = 20 + g.opts.length + y.length := ⟨_, rfl⟩
    rw [← ht] at HFIN
    have htn : t ≤ n := by rw [ht]; have := HXN.out; omega
    have hcut := fun wx => sl_hi A n q wx t (by omega)
    have e1 : ((20 + g.opts.length : Nat) : Int) + (Ln : Int) = (t : Int) := by rw [HLN.out]; omega
    have hlt : (x.take t).length = t := by rw [List.length_take, HXN.out]; omega
    have HCL := Lib.hid (fun wx (hb : Below w.heap.size w wx) => clone8_any A t q (bytesV (x.take t)) (fun k => I k ∧ k < w.heap.size) wx (by have h3 := (cut_hi (cap := q) (k := t) (by rw [HXN.out]; exact HX.out wx hb) (by rw [HXN.out]; exact htn) (by omega)).len.2.2; rw [hlt] at h3; exact h3) (bytesV_one _) (by omega))
    have HLT := Lib.hid hlt
    obtain ⟨s, hs⟩ : ∃ s, s = 20 + g.opts.length := ⟨_, rfl⟩
    rw [← hs] at HSZ e1
    have HRL := Lib.hid (fun wx (hb : Below w2.heap.size w2 wx) => hd_load (HK2.out.below hb HK2.out.lt) rfl)
    have hs2 : (s : Int) ≤ 1000000 := by have := HPL.out; have := HXN.out; omega
    clear hfin hfr ht hs hlt
    go_upto_region 7 with (go_at_call 74; refine HFR.out.mono ?_; rintro e w3 ⟨rfl, hb3⟩; have HB23 := Lib.hid hb3; have HB3 := Lib.hid (HB2.out.trans (hb3.mono HB2.out.size)); clear hb3)
    clear rl2
    have rl3 := HRL.out w3 HB23.out
    go_wp2_with (first
      | (go_at_call 58; refine (HSZ.out w3 HB23.out).mono ?_; rintro e w4 ⟨rfl, hb4⟩; have HB4 := Lib.hid (HB3.out.trans (hb4.mono HB3.out.size)); clear hb4)
      | (go_at_call 59; refine (HCL.out w4 HB4.out).mono ?_; rintro e w5 ⟨v5, rfl, h5, hb5⟩; obtain ⟨A5, c5, rfl, _⟩ := own_form h5; have H5 := Lib.hid h5; have HB5 := Lib.hid (HB4.out.trans (hb5.mono HB4.out.size)); clear h5 hb5))
    go_ret2
    rw [HFIN.out]
    refine tk_same (n := 0) (HT.out w (Below.refl _ _)) HB5.out ?_
    unfold Row8
    rw [HLT.out]
    exact own_base H5.out HB4.out.size
  have hfr' : fragH g = true := by cases hf : fragH g with | true => rfl | false => exact absurd hf hfr
  rw [hfr'] at HFR
  have ht2 : takeF (G.map GF.f) x = _ := HT1.out
  rw [if_neg hfr] at ht2
  have HT2 := Lib.hid ht2
  clear hfr hfr' ht2
  go_upto_region 8 with (go_at_call 74; refine HFR.out.mono ?_; rintro e w3 ⟨rfl, hb3⟩; have HB3 := Lib.hid (HB2.out.trans (hb3.mono HB2.out.size)); have HK3 := Lib.hid (HK2.out.below hb3 HK2.out.lt); have HRO3 := Lib.hid (HRO2.out.below hb3); have HRY3 := Lib.hid (HRY2.out.below hb3); clear hb3)
  clear rl2
  have r4 := ld_bool (HK3.out.cell 4)
  have r5 := ld_int (HK3.out.cell 5)
  obtain ⟨hg0, hg40, _, ho0, ho1⟩ := may_opts HMY.out
  obtain ⟨off, hoff⟩ : ∃ o : Nat, g.off = (o : Int) := ⟨g.off.toNat, by omega⟩
  have r5' : (Instr.loadAt 3 (.pointer (some ⟨gh, 5, none⟩))).run Try.prog w3 = .ok (.int .i64 (off : Int)) w3 := by rw [← hoff]; exact r5
  have HOFF := Lib.hid hoff
  have ho8 : (off : Int) ≤ 8191 := by omega
  have HG40 := Lib.hid hg40
  clear r5 hg0 ho0 ho1 hoff hg40
  by_cases c1 : Ln = 0
  · have d1 : ((Ln : Int) == 0) = true := by rw [beq_iff_eq]; omega
    have hfin : takeF (G.map GF.f) x = (G.map GF.f, [], 7) := by rw [HT2.out, if_pos (by left; rw [← HLN.out]; exact c1)]
    have HFIN := Lib.hid hfin
    clear hfin
    go_wp2_with fail
    go_ret2
    rw [HFIN.out]
    exact tk_same (HT.out w (Below.refl _ _)) HB3.out (Row8.nil _ _)
  have d1 : ((Ln : Int) == 0) = false := by rw [beq_eq_false_iff_ne]; omega
  have hLp : 0 < Ln := by omega
  cases hmf : g.mf with
  | true =>
    rw [hmf] at r4
    have HMF := Lib.hid hmf
    clear hmf
    by_cases c2 : Ln % 8 = 0
    rotate_left
    · have d2 : ((Ln : Int) % 8 != 0) = true := by rw [bne_iff_ne]; omega
      have hfin : takeF (G.map GF.f) x = (G.map GF.f, [], 7) := by rw [HT2.out, if_pos (by right; left; rw [← HLN.out]; exact ⟨HMF.out, c2⟩)]
      have HFIN := Lib.hid hfin
      clear hfin
      go_wp2_with fail
      go_ret2
      rw [HFIN.out]
      exact tk_same (HT.out w (Below.refl _ _)) HB3.out (Row8.nil _ _)
    have d2 : ((Ln : Int) % 8 != 0) = false := by rw [bne_eq_false_iff_eq]; omega
    by_cases c3 : 65535 < 8 * off + Ln
    · have d3 : (65535 : Int) < 8 * (off : Int) + (Ln : Int) := by omega
      have hfin : takeF (G.map GF.f) x = (G.map GF.f, [], 7) := by rw [HT2.out, if_pos (by right; right; rw [← HLN.out, HOFF.out]; simpa using c3)]
      have HFIN := Lib.hid hfin
      clear hfin
      go_wp2_with fail
      go_ret2
      rw [HFIN.out]
      exact tk_same (HT.out w (Below.refl _ _)) HB3.out (Row8.nil _ _)
    have d3 : ¬ ((65535 : Int) < 8 * (off : Int) + (Ln : Int)) := by omega
    have hgood : ¬ (y.length = 0 ∨ (g.mf = true ∧ y.length % 8 ≠ 0) ∨ 65535 < 8 * g.off.toNat + y.length) := by rw [← HLN.out, HOFF.out]; simp; omega
    obtain ⟨hg1, hg2, hg3⟩ : y.length ≠ 0 ∧ (g.mf = true → y.length % 8 = 0) ∧ 8 * g.off.toNat + y.length ≤ 65535 := ⟨fun e => hgood (.inl e), fun hm => Classical.byContradiction fun e => hgood (.inr (.inl ⟨hm, e⟩)), by have := fun e => hgood (.inr (.inr e)); omega⟩
    have HPK := Lib.hid (show PieceOk g y from ⟨HOK.out, HMY.out, by omega, hg2, hg3⟩)
    clear hg1 hg2 hg3
    have ht3 : takeF (G.map GF.f) x = _ := HT2.out
    rw [if_neg hgood] at ht3
    have HT3A := Lib.hid ht3
    clear hgood ht3
    go_upto_region 10 with (fail)
    clear r4 r5'
    have rl3 := hd_load HK3.out rfl
    have hky := key_any g (.slice Ao g.opts.length co) w3
    rw [hdV_eq] at hky
    have HKY := Lib.hid hky
    clear hky
    go_upto_region 11 with (go_at_call 44; refine HKY.out.mono ?_; rintro e w4 ⟨rfl, hb4⟩; obtain ⟨w5, hst5, hb5, hb45, hk5⟩ := pc_var (HB3.out.trans (hb4.mono HB3.out.size)) (Nat.le_trans HB3.out.size hb4.size) (keyF g); have hb35 := hb4.trans (hb45.mono hb4.size); have HB5 := Lib.hid hb5; have HK5 := Lib.hid (HK3.out.below hb35 HK3.out.lt); have HRO5 := Lib.hid (HRO3.out.below hb35); have HRY5 := Lib.hid (HRY3.out.below hb35); have HGP5 := Lib.hid hk5; have HGP4 := Lib.hid (Nat.le_trans HB3.out.size hb4.size); unfold pcV; clear hb4 hb5 hb45 hk5 hb35)
    clear rl3 hst5
    obtain ⟨gp, hgp⟩ : ∃ z, z = w4.heap.size := ⟨_, rfl⟩
    rw [← hgp] at HGP5 HGP4 ⊢
    clear hgp
    have hT5 := HT.out w5 HB5.out
    obtain ⟨F5, hF5⟩ := hT5.map
    have r0 := fun n => ld_mapt (w := w5.drewN n) (hT5.blk.cell 0)
    have r1 := fun n => pc_load (w := w5.drewN n) HGP5.out rfl
    have r2 := fun n => TbF.look (hF5.below (below_drewN w5 n)) (key_ok HOK.out)
    have HTB5 := Lib.hid hT5
    unfold pcV at r2
    clear hT5 hF5
    cases hfg : findG G (keyF g) with
    | some g0 =>
      obtain ⟨i, hfk, hgi⟩ := findK_some hfg
      have HKEY := Lib.hid (findG_some hfg).2
      have HGI := Lib.hid hgi
      have HT3 := Lib.hid (show takeF (G.map GF.f) x = stepF (G.map GF.f) i (layF g0.f g y) by rw [HT3A.out, hfk]; simp only; rw [List.getD_eq_getElem?_getD, List.getElem?_map, hgi]; rfl)
      rw [hfg] at r2
      simp only [ptrV] at r2
      clear hfk hgi hfg
      go_quiet (fail)
      clear r0 r1 r2
      obtain ⟨w6, hw6⟩ : ∃ W', W' = w5.drewN nq := ⟨_, rfl⟩
      have hb56 : Below w5.heap.size w5 w6 := by rw [hw6]; exact below_drewN w5 nq
      rw [← hw6]
      clear hw6
      have HBW := Lib.hid (HB5.out.trans (hb56.mono HB5.out.size))
      have HTW := Lib.hid (HTB5.out.below hb56)
      have HKW := Lib.hid (HK5.out.below hb56 HK5.out.lt)
      have HROW := Lib.hid ((own_base (HRO5.out.below hb56) (Nat.zero_le _) : Row8 0 w6 _ _))
      have HROB := Lib.hid (HRO5.out.below hb56)
      have HRYW := Lib.hid (show Row8 0 w6 (.slice Aq Ln cq) y by rw [HLN.out]; exact own_base (HRY5.out.below hb56) (Nat.zero_le _))
      have HGPW := Lib.hid (HGP5.out.below hb56 HGP5.out.lt)
      clear hb56
      go_upto_region 17 with (fail)
      -- lay
      obtain ⟨hflW, hokW, _⟩ := HTW.out.fl g0 (List.mem_of_getElem? HGI.out)
      have rlw := hd_load HKW.out rfl
      have hlay := lay_any g0.N g0.fb g0.ab g0.f g (.slice Ao g.opts.length co) Aq Ln cq y w6 hflW hokW HPK.out HROW.out HRYW.out
      rw [hdV_eq] at hlay
      have HLAY := Lib.hid hlay
      have HFLW := Lib.hid hflW
      have hokl := lay_ok hokW HPK.out
      have HOKL := Lib.hid hokl.1
      obtain ⟨ff, hff⟩ : ∃ f, f = layF g0.f g y := ⟨_, rfl⟩
      rw [← hff] at HLAY HOKL
      have HFF := Lib.hid hff
      clear hflW hokW hlay hokl hff
      go_upto_region 18 with (go_at_call 83; refine HLAY.out.mono ?_; rintro e wl ⟨rfl, hfl, hul⟩; have HFLL := Lib.hid hfl.lt; have HUL := Lib.hid hul; clear hfl hul)
      clear rlw
      obtain ⟨NN, hflN, hNN⟩ : ∃ NN : Nat → Prop, FlM wl NN g0.fb g0.ab ff ∧ ∀ b, NN b → (g0.N b ∨ w6.heap.size ≤ b ∨ (Value.slice Ao g.opts.length co).ownBlock = some b) ∧ b < wl.heap.size := ⟨_, HFLL.out, fun b hb => hb⟩
      have HFLN := Lib.hid hflN
      have HNN := Lib.hid hNN
      clear hflN hNN HFLL
      have htl := HTW.out.set HGI.out HFLN.out (by rw [HFF.out]; rfl) HOKL.out HUL.out (fun b hb => (HNN.out b hb).2)
      have HTL := Lib.hid htl
      have hgpl := HGPW.out.upd HUL.out (fun e => by
        rcases e with e | e
        · obtain ⟨vi, b1, _⟩ := HFLW.out.blk
          have h1 := HGPW.out
          unfold Blk at h1 b1
          rw [e, b1] at h1
          injection h1 with h1
          injection h1 with _ h1
          exact absurd h1 (by decide)
        · obtain ⟨Fi, b4, _⟩ := HFLW.out.map
          exact b4.ne_blk HGPW.out e)
      have HGPL := Lib.hid hgpl
      have HWHO := Lib.hid (whole_any NN g0.fb g0.ab ff wl HFLN.out HOKL.out)
      have hup1 : Upd (TbMut tb mb G) w wl := (Upd.ofBelow HBW.out (TbMut tb mb G)).trans_ (HUL.out.mono fun b e => .inl (.inr (.inr ⟨_, List.mem_of_getElem? HGI.out, e⟩)))
      have HUP1 := Lib.hid hup1
      clear htl hgpl hup1
      by_cases hwf : wholeF' ff = true
      · rw [if_pos hwf, if_pos hwf, hwf] at HWHO
        have HWF := Lib.hid hwf
        clear hwf
        obtain ⟨z, hz⟩ : ∃ z, z = outF ff := ⟨_, rfl⟩
        rw [← hz] at HWHO
        have HZO := Lib.hid hz
        obtain ⟨zb, ze⟩ := z
        simp only at HWHO
        clear hz
        go_upto_region 20 with (go_at_call 84; refine HWHO.out.mono ?_; rintro e ww ⟨vv, rfl, hvv, hbw, _⟩; obtain ⟨Av, cv, rfl, _⟩ := hvv.form; have HVV := Lib.hid hvv; have HBLW := Lib.hid hbw; clear hvv hbw)
        have htw := HTL.out.below HBLW.out
        obtain ⟨Fw, hFw⟩ := htw.map
        have HTWW := Lib.hid htw
        have HFW := Lib.hid hFw
        have HGPV := Lib.hid (HGPL.out.below HBLW.out HGPL.out.lt)
        have hkff : ff.key = keyF g := by rw [HFF.out]; exact HKEY.out
        have hfind := find_key (G := G.set i ⟨ff, g0.fb, g0.ab, NN⟩) (g := ⟨ff, g0.fb, g0.ab, NN⟩) (i := i) (List.getElem?_set_self (List.getElem?_eq_some_iff.1 HGI.out).1) (k := keyF g) hkff
        obtain ⟨gq, hgq⟩ := hfind
        have HDR := Lib.hid (fun wx (hb : Below ww.heap.size ww wx) ty => TbF.drop (hFw.below hb) htw.nd (fun g hg => (htw.fl g hg).2.2) (key_ok HOK.out) hgq ty)
        have HR0 := Lib.hid (fun wx (hb : Below ww.heap.size ww wx) => ld_mapt ((htw.below hb).blk.cell 0))
        have HR1 := Lib.hid (fun wx (hb : Below ww.heap.size ww wx) => pc_load (HGPV.out.below hb HGPV.out.lt) rfl)
        have HKFF := Lib.hid hkff
        clear htw hFw hgq hkff
        refine wp_region_mix [(true, 5), (false, 1)] 0 (by kernel_rfl) (fun wx => Below ww.heap.size ww wx) (fun _ _ h k => h.trans (k.mono h.size)) (by kernel_rfl) (Below.refl _ _) (a' := ?_) (fun wz hz => ?_) fun wz hz => ?_
        rotate_left
        · have r0 := fun (d : Nat) (os : Array Obj) => HR0.out (grow (redrawn wz d) os) (hz.trans ((below_regrown wz d os).mono hz.size))
          have r1 := fun (d : Nat) (os : Array Obj) => HR1.out (grow (redrawn wz d) os) (hz.trans ((below_regrown wz d os).mono hz.size))
          clear hz
          simp only [pick_nil, pick_tt, pick_ft, List.take_succ_cons, List.take_zero, List.drop_succ_cons, List.drop_zero, List.append_nil]
          repeat (go_big_quiet_step (fail))
          refine wpQuiet_nil ?_
          rfl
        · simp only [pick_nil, pick_ff, pick_tf, List.take_succ_cons, List.take_zero, List.drop_succ_cons, List.drop_zero, List.append_nil]
          have HZ := Lib.hid hz
          clear hz
          refine wpMix_step HZ.out fun wa ha => ?_
          have HA := Lib.hid (HZ.out.trans (ha.mono HZ.out.size))
          clear ha
          obtain ⟨wd, hrd, hFd, hud, hsd⟩ := HDR.out wa HA.out 0
          unfold pcV at hrd
          have HFD := Lib.hid hFd
          have HUD := Lib.hid hud
          have htd := (HTWW.out.below HA.out).dropped hFd hud
          have HTD := Lib.hid htd
          have hvd : Row8 wl.heap.size wd (.slice Av zb.length cv) zb := own_keep (HVV.out.below HA.out) (hud.same (I := fun b => (Value.slice Av zb.length cv).ownBlock = some b) fun b hb hI => by
            obtain ⟨Fq, hFq⟩ := (HTWW.out.below HA.out).map
            exact hFq.map.ne_row (HVV.out.below HA.out) (by rw [hI, show b = mb from hb])) fun _ e => e
          have HVD := Lib.hid hvd
          have HUPD := Lib.hid (((HUP1.out.trans_ (Upd.ofBelow HBLW.out _)).trans_ (Upd.ofBelow HA.out _)).trans_ (hud.mono fun b e => .inl (.inr (.inl e))))
          clear hFd hud hsd htd hvd
          go_wp2_with fail
          refine wpMix_plain ?_
          go_wp2_with fail
          go_ret2
          have hfin : takeF (G.map GF.f) x = ((G.map GF.f).eraseIdx i, zb, ze) := by
            rw [HT3.out]
            unfold stepF
            rw [← HFF.out, if_pos HWF.out, ← HZO.out]
          rw [hfin]
          exact tk_whole (f' := ff) (g := g0) (fun g' hg' b hb => HNL.out g' ((List.eraseIdx_sublist G i).subset hg') b hb) HGI.out (HKFF.out.trans HKEY.out.symm) (by rw [HKEY.out]; exact HTD.out) HTL.out.nd (own_base HVD.out (Nat.le_trans HBW.out.size HUL.out.size)) HUPD.out
      · have hwf' : wholeF' ff = false := by simpa using hwf
        rw [if_neg hwf, if_neg hwf, hwf'] at HWHO
        have HWF := Lib.hid hwf
        clear hwf hwf'
        go_wp2_with (go_at_call 84; refine HWHO.out.mono ?_; rintro e ww ⟨vv, rfl, hvv, hbw, hvn⟩; obtain rfl := hvn rfl; have HBLW := Lib.hid hbw; clear hvv hbw hvn)
        go_ret2
        have hfin : takeF (G.map GF.f) x = ((G.map GF.f).set i ff, [], 0) := by
          rw [HT3.out]
          unfold stepF
          rw [← HFF.out, if_neg HWF.out]
        rw [hfin]
        refine tk_part (f' := ff) (g := g0) HGI.out (HTL.out.below HBLW.out) ?_ (HUP1.out.trans_ (Upd.ofBelow HBLW.out _)) 
        intro b hb0
        rcases (HNN.out b hb0).1 with hb | hb | hb
        · exact .inl hb
        · exact .inr (Nat.le_trans HBW.out.size hb)
        · exact .inr (own_lt HROB.out hb).1
    | none =>
      have hfkn := findK_none hfg
      have ht4 : takeF (G.map GF.f) x = _ := HT3A.out
      rw [hfkn] at ht4
      simp only [List.length_map] at ht4
      have HT4 := Lib.hid ht4
      have HFG := Lib.hid hfg
      rw [hfg] at r2
      simp only at r2
      clear hfkn ht4 hfg
      go_quiet (fail)
      clear r0 r1 r2
      obtain ⟨w6, hw6⟩ : ∃ W', W' = w5.drewN nq := ⟨_, rfl⟩
      have hb56 : Below w5.heap.size w5 w6 := by rw [hw6]; exact below_drewN w5 nq
      rw [← hw6]
      clear hw6
      have HB6 := Lib.hid (HB5.out.trans (hb56.mono HB5.out.size))
      have hT6 := HTB5.out.below hb56
      obtain ⟨F6, hF6⟩ := hT6.map
      have HTB6 := Lib.hid hT6
      have r0 := ld_mapt (hT6.blk.cell 0)
      have rln := hF6.map.len Try.underlying86
      clear hT6 hF6
      by_cases hfull : 64 ≤ G.length
      · have hfin : takeF (G.map GF.f) x = (G.map GF.f, [], 5) := by rw [HT4.out, if_pos hfull]
        have HFIN := Lib.hid hfin
        clear hfin
        go_wp2_with fail
        go_ret2
        rw [HFIN.out]
        exact tk_same (HT.out w (Below.refl _ _)) HB6.out (Row8.nil _ _)
      have HT3 := Lib.hid (show takeF (G.map GF.f) x = _ from HT4.out.trans (if_neg hfull))
      have hfull2 : (G.length : Int) < 64 := by omega
      have hmm := @run_makeMap Try.prog
      have hbd := fun w a => fl_build w a
      have hnew := fl0_new w6 (keyF g)
      have hb68 : Below w6.heap.size w6 ((w6.alloc (.map #[] 0)).alloc (.cells (flC w6.heap.size hd0 (.slice none 0 0) false (-1)) 115)) := ((Below.refl _ _).alloc (Nat.le_refl _) _).alloc (by simp) _
      rw [flC_lit] at hnew hb68
      obtain ⟨ab, hab⟩ : ∃ b, b = w6.heap.size := ⟨_, rfl⟩
      obtain ⟨fb, hfb⟩ : ∃ b, b = w6.heap.size + 1 := ⟨_, rfl⟩
      go_upto_region 16 with (fail)
      clear r0 rln hmm hbd
      obtain ⟨w8, hw8⟩ : ∃ W', W' = (w6.alloc (.map #[] 0)).alloc (.cells #[.map (some w6.heap.size), .int .u8 0, .int .u16 0, .bool false, .bool false, .bool false, .int .i64 0, .int .u8 0, .int .u8 0, .int .u32 0, .int .u32 0, .slice none 0 0, .bool false, .int .i64 (-1)] 115) := ⟨_, rfl⟩
      rw [← hw8] at hnew hb68 ⊢
      rw [← hfb, ← hab] at hnew
      rw [← hfb]
      have HB8 := Lib.hid (HB6.out.trans (hb68.mono HB6.out.size))
      have hT8 := HTB6.out.below hb68
      have hlt6 := HTB6.out.mlt
      have HABN := Lib.hid (show w.heap.size ≤ ab by rw [hab]; exact HB6.out.size)
      have HFBN := Lib.hid (show w.heap.size ≤ fb by rw [hfb]; exact Nat.le_succ_of_le HB6.out.size)
      have HADD := Lib.hid (fun wx (hb : Below w8.heap.size w8 wx) => (hT8.below hb).add (by omega) (key_ok HOK.out) HFG.out (hnew.below hb) rfl (fl0_ok _) (fun g' hg' e => by have := hlt6 g'.fb (.inr (.inr ⟨g', hg', .inl rfl⟩)); omega) (fun g' hg' e => by have := hlt6 g'.ab (.inr (.inr ⟨g', hg', .inr rfl⟩)); omega) (fun e => by have := hlt6 mb (.inr (.inl rfl)); omega) (fun b hb => hb.elim))
      have HK8 := Lib.hid (HK5.out.below (hb56.trans (hb68.mono hb56.size)) HK5.out.lt)
      have HRO8 := Lib.hid (HRO5.out.below (hb56.trans (hb68.mono hb56.size)))
      have HRY8 := Lib.hid (HRY5.out.below (hb56.trans (hb68.mono hb56.size)))
      have HGP8 := Lib.hid (HGP5.out.below (hb56.trans (hb68.mono hb56.size)) HGP5.out.lt)
      have HR0 := Lib.hid (fun wx (hb : Below w8.heap.size w8 wx) => ld_mapt ((hT8.below hb).blk.cell 0))
      have HR1 := Lib.hid (fun wx (hb : Below w8.heap.size w8 wx) => pc_load (HGP8.out.below hb HGP8.out.lt) rfl)
      have HTB8 := Lib.hid hT8
      clear hnew hb68 hT8 hlt6 hb56 hw8 hab hfb
      refine wp_region_mix [(true, 6), (false, 1)] 0 (by kernel_rfl) (fun wx => Below w8.heap.size w8 wx) (fun _ _ h k => h.trans (k.mono h.size)) (by kernel_rfl) (Below.refl _ _) (a' := ?_) (fun wz hz => ?_) fun wz hz => ?_
      rotate_left
      · have r0 := fun (d : Nat) (os : Array Obj) => HR0.out (grow (redrawn wz d) os) (hz.trans ((below_regrown wz d os).mono hz.size))
        have r1 := fun (d : Nat) (os : Array Obj) => HR1.out (grow (redrawn wz d) os) (hz.trans ((below_regrown wz d os).mono hz.size))
        clear hz
        simp only [pick_nil, pick_tt, pick_ft, List.take_succ_cons, List.take_zero, List.drop_succ_cons, List.drop_zero, List.append_nil]
        repeat (go_big_quiet_step (fail))
        refine wpQuiet_nil ?_
        rfl
      simp only [pick_nil, pick_ff, pick_tf, List.take_succ_cons, List.take_zero, List.drop_succ_cons, List.drop_zero, List.append_nil]
      have HZ8 := Lib.hid hz
      clear hz
      refine wpMix_step HZ8.out fun wa ha => ?_
      have HA8 := Lib.hid (HZ8.out.trans (ha.mono HZ8.out.size))
      clear ha
      obtain ⟨w9, hrup, htb9, hu9⟩ := HADD.out wa HA8.out
      unfold pcV ptrV at hrup
      have HTW := Lib.hid htb9
      obtain ⟨Fa, hFa⟩ := (HTB8.out.below HA8.out).map
      have hkeep : ∀ u (x : By), Row8 w.heap.size wa u x → Row8 w.heap.size w9 u x := fun u x hx => own_keep hx (hu9.same (I := fun b => u.ownBlock = some b) fun b hb hI => hFa.map.ne_row hx (by rw [hI, show b = mb from hb])) fun _ e => e
      have hk9 := HK8.out.below HA8.out HK8.out.lt
      have hp9 := HGP8.out.below HA8.out HGP8.out.lt
      have HKW := Lib.hid (hk9.upd hu9 (hFa.map.ne_blk hk9))
      have HGPW := Lib.hid (hp9.upd hu9 (hFa.map.ne_blk hp9))
      have HROB := Lib.hid (hkeep _ _ (HRO8.out.below HA8.out))
      have HROW := Lib.hid ((own_base HROB.out (Nat.zero_le _) : Row8 0 w9 _ _))
      have HRYW := Lib.hid (show Row8 0 w9 (.slice Aq Ln cq) y by rw [HLN.out]; exact own_base (hkeep _ _ (HRY8.out.below HA8.out)) (Nat.zero_le _))
      have HUPW := Lib.hid (((Upd.ofBelow (HB8.out.trans (HA8.out.mono HB8.out.size)) (TbMut tb mb (G ++ [⟨fl0 (keyF g), fb, ab, fun _ => False⟩]))).trans_ (hu9.mono fun b e => .inl (.inr (.inl e)))))
      have HBW := Lib.hid HUPW.out
      have HGI := Lib.hid (show (G ++ [(⟨fl0 (keyF g), fb, ab, fun _ => False⟩ : GF)])[G.length]? = some ⟨fl0 (keyF g), fb, ab, fun _ => False⟩ by simp)
      have HKEY := Lib.hid (show (fl0 (keyF g)).key = keyF g from rfl)
      clear htb9 hu9 hFa hkeep hk9 hp9
      go_wp2_with fail
      refine wpMix_plain ?_
      go_upto_region 17 with (fail)
      clear hrup
      -- lay
      obtain ⟨hflW, hokW, _⟩ := HTW.out.fl (⟨fl0 (keyF g), fb, ab, fun _ => False⟩ : GF) (List.mem_of_getElem? HGI.out)
      have rlw := hd_load HKW.out rfl
      have hlay := lay_any (⟨fl0 (keyF g), fb, ab, fun _ => False⟩ : GF).N fb ab (fl0 (keyF g)) g (.slice Ao g.opts.length co) Aq Ln cq y w9 hflW hokW HPK.out HROW.out HRYW.out
      rw [hdV_eq] at hlay
      have HLAY := Lib.hid hlay
      have HFLW := Lib.hid hflW
      have hokl := lay_ok hokW HPK.out
      have HOKL := Lib.hid hokl.1
      obtain ⟨ff, hff⟩ : ∃ f, f = layF (fl0 (keyF g)) g y := ⟨_, rfl⟩
      rw [← hff] at HLAY HOKL
      have HFF := Lib.hid hff
      clear hflW hokW hlay hokl hff
      go_upto_region 18 with (go_at_call 83; refine HLAY.out.mono ?_; rintro e wl ⟨rfl, hfl, hul⟩; have HFLL := Lib.hid hfl.lt; have HUL := Lib.hid hul; clear hfl hul)
      clear rlw
      obtain ⟨NN, hflN, hNN⟩ : ∃ NN : Nat → Prop, FlM wl NN fb ab ff ∧ ∀ b, NN b → ((⟨fl0 (keyF g), fb, ab, fun _ => False⟩ : GF).N b ∨ w9.heap.size ≤ b ∨ (Value.slice Ao g.opts.length co).ownBlock = some b) ∧ b < wl.heap.size := ⟨_, HFLL.out, fun b hb => hb⟩
      have HFLN := Lib.hid hflN
      have HNN := Lib.hid hNN
      clear hflN hNN HFLL
      have htl := HTW.out.set HGI.out HFLN.out (by rw [HFF.out]; rfl) HOKL.out HUL.out (fun b hb => (HNN.out b hb).2)
      have HTL := Lib.hid htl
      have hgpl := HGPW.out.upd HUL.out (fun e => by
        rcases e with e | e
        · obtain ⟨vi, b1, _⟩ := HFLW.out.blk
          have h1 := HGPW.out
          unfold Blk at h1 b1
          rw [e, b1] at h1
          injection h1 with h1
          injection h1 with _ h1
          exact absurd h1 (by decide)
        · obtain ⟨Fi, b4, _⟩ := HFLW.out.map
          exact b4.ne_blk HGPW.out e)
      have HGPL := Lib.hid hgpl
      have HWHO := Lib.hid (whole_any NN fb ab ff wl HFLN.out HOKL.out)
      have hup1 : Upd (TbMut tb mb (G ++ [(⟨fl0 (keyF g), fb, ab, fun _ => False⟩ : GF)])) w wl := HUPW.out.trans_ (HUL.out.mono fun b e => .inl (.inr (.inr ⟨_, List.mem_of_getElem? HGI.out, e⟩)))
      have HUP1 := Lib.hid hup1
      clear htl hgpl hup1
      by_cases hwf : wholeF' ff = true
      · rw [if_pos hwf, if_pos hwf, hwf] at HWHO
        have HWF := Lib.hid hwf
        clear hwf
        obtain ⟨z, hz⟩ : ∃ z, z = outF ff := ⟨_, rfl⟩
        rw [← hz] at HWHO
        have HZO := Lib.hid hz
        obtain ⟨zb, ze⟩ := z
        simp only at HWHO
        clear hz
        go_upto_region 20 with (go_at_call 84; refine HWHO.out.mono ?_; rintro e ww ⟨vv, rfl, hvv, hbw, _⟩; obtain ⟨Av, cv, rfl, _⟩ := hvv.form; have HVV := Lib.hid hvv; have HBLW := Lib.hid hbw; clear hvv hbw)
        have htw := HTL.out.below HBLW.out
        obtain ⟨Fw, hFw⟩ := htw.map
        have HTWW := Lib.hid htw
        have HFW := Lib.hid hFw
        have HGPV := Lib.hid (HGPL.out.below HBLW.out HGPL.out.lt)
        have hkff : ff.key = keyF g := by rw [HFF.out]; exact HKEY.out
        have hfind := find_key (G := (G ++ [(⟨fl0 (keyF g), fb, ab, fun _ => False⟩ : GF)]).set G.length ⟨ff, fb, ab, NN⟩) (g := ⟨ff, fb, ab, NN⟩) (i := G.length) (List.getElem?_set_self (List.getElem?_eq_some_iff.1 HGI.out).1) (k := keyF g) hkff
        obtain ⟨gq, hgq⟩ := hfind
        have HDR := Lib.hid (fun wx (hb : Below ww.heap.size ww wx) ty => TbF.drop (hFw.below hb) htw.nd (fun g hg => (htw.fl g hg).2.2) (key_ok HOK.out) hgq ty)
        have HR0 := Lib.hid (fun wx (hb : Below ww.heap.size ww wx) => ld_mapt ((htw.below hb).blk.cell 0))
        have HR1 := Lib.hid (fun wx (hb : Below ww.heap.size ww wx) => pc_load (HGPV.out.below hb HGPV.out.lt) rfl)
        have HKFF := Lib.hid hkff
        clear htw hFw hgq hkff
        refine wp_region_mix [(true, 5), (false, 1)] 0 (by kernel_rfl) (fun wx => Below ww.heap.size ww wx) (fun _ _ h k => h.trans (k.mono h.size)) (by kernel_rfl) (Below.refl _ _) (a' := ?_) (fun wz hz => ?_) fun wz hz => ?_
        rotate_left
        · have r0 := fun (d : Nat) (os : Array Obj) => HR0.out (grow (redrawn wz d) os) (hz.trans ((below_regrown wz d os).mono hz.size))
          have r1 := fun (d : Nat) (os : Array Obj) => HR1.out (grow (redrawn wz d) os) (hz.trans ((below_regrown wz d os).mono hz.size))
          clear hz
          simp only [pick_nil, pick_tt, pick_ft, List.take_succ_cons, List.take_zero, List.drop_succ_cons, List.drop_zero, List.append_nil]
          repeat (go_big_quiet_step (fail))
          refine wpQuiet_nil ?_
          rfl
        · simp only [pick_nil, pick_ff, pick_tf, List.take_succ_cons, List.take_zero, List.drop_succ_cons, List.drop_zero, List.append_nil]
          have HZ := Lib.hid hz
          clear hz
          refine wpMix_step HZ.out fun wa ha => ?_
          have HA := Lib.hid (HZ.out.trans (ha.mono HZ.out.size))
          clear ha
          obtain ⟨wd, hrd, hFd, hud, hsd⟩ := HDR.out wa HA.out 0
          unfold pcV at hrd
          have HFD := Lib.hid hFd
          have HUD := Lib.hid hud
          have htd := (HTWW.out.below HA.out).dropped hFd hud
          have HTD := Lib.hid htd
          have hvd : Row8 wl.heap.size wd (.slice Av zb.length cv) zb := own_keep (HVV.out.below HA.out) (hud.same (I := fun b => (Value.slice Av zb.length cv).ownBlock = some b) fun b hb hI => by
            obtain ⟨Fq, hFq⟩ := (HTWW.out.below HA.out).map
            exact hFq.map.ne_row (HVV.out.below HA.out) (by rw [hI, show b = mb from hb])) fun _ e => e
          have HVD := Lib.hid hvd
          have HUPD := Lib.hid (((HUP1.out.trans_ (Upd.ofBelow HBLW.out _)).trans_ (Upd.ofBelow HA.out _)).trans_ (hud.mono fun b e => .inl (.inr (.inl e))))
          clear hFd hud hsd htd hvd
          go_wp2_with fail
          refine wpMix_plain ?_
          go_wp2_with fail
          go_ret2
          have hfin : takeF (G.map GF.f) x = (((G ++ [(⟨fl0 (keyF g), fb, ab, fun _ => False⟩ : GF)]).map GF.f).eraseIdx G.length, zb, ze) := by
            rw [HT3.out]
            unfold stepF
            rw [← HFF.out, if_pos HWF.out, ← HZO.out, List.map_append]
            rfl
          rw [hfin]
          refine TkPost.new (tk_whole (f' := ff) (g := (⟨fl0 (keyF g), fb, ab, fun _ => False⟩ : GF)) ?_ HGI.out HKFF.out (by have := HTD.out; exact this) HTL.out.nd (own_base HVD.out (Nat.le_trans HBW.out.size HUL.out.size)) HUPD.out) HFBN.out HABN.out
          intro g' hg' b hb
          rw [List.eraseIdx_append_of_length_le (Nat.le_refl _)] at hg'
          have hgG : g' ∈ G := by simpa using hg'
          exact HNL.out g' hgG b hb
      · have hwf' : wholeF' ff = false := by simpa using hwf
        rw [if_neg hwf, if_neg hwf, hwf'] at HWHO
        have HWF := Lib.hid hwf
        clear hwf hwf'
        go_wp2_with (go_at_call 84; refine HWHO.out.mono ?_; rintro e ww ⟨vv, rfl, hvv, hbw, hvn⟩; obtain rfl := hvn rfl; have HBLW := Lib.hid hbw; clear hvv hbw hvn)
        go_ret2
        have hfin : takeF (G.map GF.f) x = (((G ++ [(⟨fl0 (keyF g), fb, ab, fun _ => False⟩ : GF)]).map GF.f).set G.length ff, [], 0) := by
          rw [HT3.out]
          unfold stepF
          rw [← HFF.out, if_neg HWF.out, List.map_append]
          rfl
        rw [hfin]
        refine TkPost.new (tk_part (f' := ff) (g := (⟨fl0 (keyF g), fb, ab, fun _ => False⟩ : GF)) HGI.out (HTL.out.below HBLW.out) ?_ (HUP1.out.trans_ (Upd.ofBelow HBLW.out _)) ) HFBN.out HABN.out
        intro b hb0
        rcases (HNN.out b hb0).1 with hb | hb | hb
        · exact .inl hb
        · exact .inr (Nat.le_trans HBW.out.size hb)
        · exact .inr (own_lt HROB.out hb).1
  | false =>
    rw [hmf] at r4
    have HMF := Lib.hid hmf
    clear hmf
    by_cases c3 : 65535 < 8 * off + Ln
    · have d3 : (65535 : Int) < 8 * (off : Int) + (Ln : Int) := by omega
      have hfin : takeF (G.map GF.f) x = (G.map GF.f, [], 7) := by rw [HT2.out, if_pos (by right; right; rw [← HLN.out, HOFF.out]; simpa using c3)]
      have HFIN := Lib.hid hfin
      clear hfin
      go_wp2_with fail
      go_ret2
      rw [HFIN.out]
      exact tk_same (HT.out w (Below.refl _ _)) HB3.out (Row8.nil _ _)
    have d3 : ¬ ((65535 : Int) < 8 * (off : Int) + (Ln : Int)) := by omega
    have hgood : ¬ (y.length = 0 ∨ (g.mf = true ∧ y.length % 8 ≠ 0) ∨ 65535 < 8 * g.off.toNat + y.length) := by rw [← HLN.out, HOFF.out, HMF.out]; simp; omega
    obtain ⟨hg1, hg2, hg3⟩ : y.length ≠ 0 ∧ (g.mf = true → y.length % 8 = 0) ∧ 8 * g.off.toNat + y.length ≤ 65535 := ⟨fun e => hgood (.inl e), fun hm => Classical.byContradiction fun e => hgood (.inr (.inl ⟨hm, e⟩)), by have := fun e => hgood (.inr (.inr e)); omega⟩
    have HPK := Lib.hid (show PieceOk g y from ⟨HOK.out, HMY.out, by omega, hg2, hg3⟩)
    clear hg1 hg2 hg3
    have ht3 : takeF (G.map GF.f) x = _ := HT2.out
    rw [if_neg hgood] at ht3
    have HT3A := Lib.hid ht3
    clear hgood ht3
    go_upto_region 10 with (fail)
    clear r4 r5'
    have rl3 := hd_load HK3.out rfl
    have hky := key_any g (.slice Ao g.opts.length co) w3
    rw [hdV_eq] at hky
    have HKY := Lib.hid hky
    clear hky
    go_upto_region 11 with (go_at_call 44; refine HKY.out.mono ?_; rintro e w4 ⟨rfl, hb4⟩; obtain ⟨w5, hst5, hb5, hb45, hk5⟩ := pc_var (HB3.out.trans (hb4.mono HB3.out.size)) (Nat.le_trans HB3.out.size hb4.size) (keyF g); have hb35 := hb4.trans (hb45.mono hb4.size); have HB5 := Lib.hid hb5; have HK5 := Lib.hid (HK3.out.below hb35 HK3.out.lt); have HRO5 := Lib.hid (HRO3.out.below hb35); have HRY5 := Lib.hid (HRY3.out.below hb35); have HGP5 := Lib.hid hk5; have HGP4 := Lib.hid (Nat.le_trans HB3.out.size hb4.size); unfold pcV; clear hb4 hb5 hb45 hk5 hb35)
    clear rl3 hst5
    obtain ⟨gp, hgp⟩ : ∃ z, z = w4.heap.size := ⟨_, rfl⟩
    rw [← hgp] at HGP5 HGP4 ⊢
    clear hgp
    have hT5 := HT.out w5 HB5.out
    obtain ⟨F5, hF5⟩ := hT5.map
    have r0 := fun n => ld_mapt (w := w5.drewN n) (hT5.blk.cell 0)
    have r1 := fun n => pc_load (w := w5.drewN n) HGP5.out rfl
    have r2 := fun n => TbF.look (hF5.below (below_drewN w5 n)) (key_ok HOK.out)
    have HTB5 := Lib.hid hT5
    unfold pcV at r2
    clear hT5 hF5
    cases hfg : findG G (keyF g) with
    | some g0 =>
      obtain ⟨i, hfk, hgi⟩ := findK_some hfg
      have HKEY := Lib.hid (findG_some hfg).2
      have HGI := Lib.hid hgi
      have HT3 := Lib.hid (show takeF (G.map GF.f) x = stepF (G.map GF.f) i (layF g0.f g y) by rw [HT3A.out, hfk]; simp only; rw [List.getD_eq_getElem?_getD, List.getElem?_map, hgi]; rfl)
      rw [hfg] at r2
      simp only [ptrV] at r2
      clear hfk hgi hfg
      go_quiet (fail)
      clear r0 r1 r2
      obtain ⟨w6, hw6⟩ : ∃ W', W' = w5.drewN nq := ⟨_, rfl⟩
      have hb56 : Below w5.heap.size w5 w6 := by rw [hw6]; exact below_drewN w5 nq
      rw [← hw6]
      clear hw6
      have HBW := Lib.hid (HB5.out.trans (hb56.mono HB5.out.size))
      have HTW := Lib.hid (HTB5.out.below hb56)
      have HKW := Lib.hid (HK5.out.below hb56 HK5.out.lt)
      have HROW := Lib.hid ((own_base (HRO5.out.below hb56) (Nat.zero_le _) : Row8 0 w6 _ _))
      have HROB := Lib.hid (HRO5.out.below hb56)
      have HRYW := Lib.hid (show Row8 0 w6 (.slice Aq Ln cq) y by rw [HLN.out]; exact own_base (HRY5.out.below hb56) (Nat.zero_le _))
      have HGPW := Lib.hid (HGP5.out.below hb56 HGP5.out.lt)
      clear hb56
      go_upto_region 17 with (fail)
      -- lay
      obtain ⟨hflW, hokW, _⟩ := HTW.out.fl g0 (List.mem_of_getElem? HGI.out)
      have rlw := hd_load HKW.out rfl
      have hlay := lay_any g0.N g0.fb g0.ab g0.f g (.slice Ao g.opts.length co) Aq Ln cq y w6 hflW hokW HPK.out HROW.out HRYW.out
      rw [hdV_eq] at hlay
      have HLAY := Lib.hid hlay
      have HFLW := Lib.hid hflW
      have hokl := lay_ok hokW HPK.out
      have HOKL := Lib.hid hokl.1
      obtain ⟨ff, hff⟩ : ∃ f, f = layF g0.f g y := ⟨_, rfl⟩
      rw [← hff] at HLAY HOKL
      have HFF := Lib.hid hff
      clear hflW hokW hlay hokl hff
      go_upto_region 18 with (go_at_call 83; refine HLAY.out.mono ?_; rintro e wl ⟨rfl, hfl, hul⟩; have HFLL := Lib.hid hfl.lt; have HUL := Lib.hid hul; clear hfl hul)
      clear rlw
      obtain ⟨NN, hflN, hNN⟩ : ∃ NN : Nat → Prop, FlM wl NN g0.fb g0.ab ff ∧ ∀ b, NN b → (g0.N b ∨ w6.heap.size ≤ b ∨ (Value.slice Ao g.opts.length co).ownBlock = some b) ∧ b < wl.heap.size := ⟨_, HFLL.out, fun b hb => hb⟩
      have HFLN := Lib.hid hflN
      have HNN := Lib.hid hNN
      clear hflN hNN HFLL
      have htl := HTW.out.set HGI.out HFLN.out (by rw [HFF.out]; rfl) HOKL.out HUL.out (fun b hb => (HNN.out b hb).2)
      have HTL := Lib.hid htl
      have hgpl := HGPW.out.upd HUL.out (fun e => by
        rcases e with e | e
        · obtain ⟨vi, b1, _⟩ := HFLW.out.blk
          have h1 := HGPW.out
          unfold Blk at h1 b1
          rw [e, b1] at h1
          injection h1 with h1
          injection h1 with _ h1
          exact absurd h1 (by decide)
        · obtain ⟨Fi, b4, _⟩ := HFLW.out.map
          exact b4.ne_blk HGPW.out e)
      have HGPL := Lib.hid hgpl
      have HWHO := Lib.hid (whole_any NN g0.fb g0.ab ff wl HFLN.out HOKL.out)
      have hup1 : Upd (TbMut tb mb G) w wl := (Upd.ofBelow HBW.out (TbMut tb mb G)).trans_ (HUL.out.mono fun b e => .inl (.inr (.inr ⟨_, List.mem_of_getElem? HGI.out, e⟩)))
      have HUP1 := Lib.hid hup1
      clear htl hgpl hup1
      by_cases hwf : wholeF' ff = true
      · rw [if_pos hwf, if_pos hwf, hwf] at HWHO
        have HWF := Lib.hid hwf
        clear hwf
        obtain ⟨z, hz⟩ : ∃ z, z = outF ff := ⟨_, rfl⟩
        rw [← hz] at HWHO
        have HZO := Lib.hid hz
        obtain ⟨zb, ze⟩ := z
        simp only at HWHO
        clear hz
        go_upto_region 20 with (go_at_call 84; refine HWHO.out.mono ?_; rintro e ww ⟨vv, rfl, hvv, hbw, _⟩; obtain ⟨Av, cv, rfl, _⟩ := hvv.form; have HVV := Lib.hid hvv; have HBLW := Lib.hid hbw; clear hvv hbw)
        have htw := HTL.out.below HBLW.out
        obtain ⟨Fw, hFw⟩ := htw.map
        have HTWW := Lib.hid htw
        have HFW := Lib.hid hFw
        have HGPV := Lib.hid (HGPL.out.below HBLW.out HGPL.out.lt)
        have hkff : ff.key = keyF g := by rw [HFF.out]; exact HKEY.out
        have hfind := find_key (G := G.set i ⟨ff, g0.fb, g0.ab, NN⟩) (g := ⟨ff, g0.fb, g0.ab, NN⟩) (i := i) (List.getElem?_set_self (List.getElem?_eq_some_iff.1 HGI.out).1) (k := keyF g) hkff
        obtain ⟨gq, hgq⟩ := hfind
        have HDR := Lib.hid (fun wx (hb : Below ww.heap.size ww wx) ty => TbF.drop (hFw.below hb) htw.nd (fun g hg => (htw.fl g hg).2.2) (key_ok HOK.out) hgq ty)
        have HR0 := Lib.hid (fun wx (hb : Below ww.heap.size ww wx) => ld_mapt ((htw.below hb).blk.cell 0))
        have HR1 := Lib.hid (fun wx (hb : Below ww.heap.size ww wx) => pc_load (HGPV.out.below hb HGPV.out.lt) rfl)
        have HKFF := Lib.hid hkff
        clear htw hFw hgq hkff
        refine wp_region_mix [(true, 5), (false, 1)] 0 (by kernel_rfl) (fun wx => Below ww.heap.size ww wx) (fun _ _ h k => h.trans (k.mono h.size)) (by kernel_rfl) (Below.refl _ _) (a' := ?_) (fun wz hz => ?_) fun wz hz => ?_
        rotate_left
        · have r0 := fun (d : Nat) (os : Array Obj) => HR0.out (grow (redrawn wz d) os) (hz.trans ((below_regrown wz d os).mono hz.size))
          have r1 := fun (d : Nat) (os : Array Obj) => HR1.out (grow (redrawn wz d) os) (hz.trans ((below_regrown wz d os).mono hz.size))
          clear hz
          simp only [pick_nil, pick_tt, pick_ft, List.take_succ_cons, List.take_zero, List.drop_succ_cons, List.drop_zero, List.append_nil]
          repeat (go_big_quiet_step (fail))
          refine wpQuiet_nil ?_
          rfl
        · simp only [pick_nil, pick_ff, pick_tf, List.take_succ_cons, List.take_zero, List.drop_succ_cons, List.drop_zero, List.append_nil]
          have HZ := Lib.hid hz
          clear hz
          refine wpMix_step HZ.out fun wa ha => ?_
          have HA := Lib.hid (HZ.out.trans (ha.mono HZ.out.size))
          clear ha
          obtain ⟨wd, hrd, hFd, hud, hsd⟩ := HDR.out wa HA.out 0
          unfold pcV at hrd
          have HFD := Lib.hid hFd
          have HUD := Lib.hid hud
          have htd := (HTWW.out.below HA.out).dropped hFd hud
          have HTD := Lib.hid htd
          have hvd : Row8 wl.heap.size wd (.slice Av zb.length cv) zb := own_keep (HVV.out.below HA.out) (hud.same (I := fun b => (Value.slice Av zb.length cv).ownBlock = some b) fun b hb hI => by
            obtain ⟨Fq, hFq⟩ := (HTWW.out.below HA.out).map
            exact hFq.map.ne_row (HVV.out.below HA.out) (by rw [hI, show b = mb from hb])) fun _ e => e
          have HVD := Lib.hid hvd
          have HUPD := Lib.hid (((HUP1.out.trans_ (Upd.ofBelow HBLW.out _)).trans_ (Upd.ofBelow HA.out _)).trans_ (hud.mono fun b e => .inl (.inr (.inl e))))
          clear hFd hud hsd htd hvd
          go_wp2_with fail
          refine wpMix_plain ?_
          go_wp2_with fail
          go_ret2
          have hfin : takeF (G.map GF.f) x = ((G.map GF.f).eraseIdx i, zb, ze) := by
            rw [HT3.out]
            unfold stepF
            rw [← HFF.out, if_pos HWF.out, ← HZO.out]
          rw [hfin]
          exact tk_whole (f' := ff) (g := g0) (fun g' hg' b hb => HNL.out g' ((List.eraseIdx_sublist G i).subset hg') b hb) HGI.out (HKFF.out.trans HKEY.out.symm) (by rw [HKEY.out]; exact HTD.out) HTL.out.nd (own_base HVD.out (Nat.le_trans HBW.out.size HUL.out.size)) HUPD.out
      · have hwf' : wholeF' ff = false := by simpa using hwf
        rw [if_neg hwf, if_neg hwf, hwf'] at HWHO
        have HWF := Lib.hid hwf
        clear hwf hwf'
        go_wp2_with (go_at_call 84; refine HWHO.out.mono ?_; rintro e ww ⟨vv, rfl, hvv, hbw, hvn⟩; obtain rfl := hvn rfl; have HBLW := Lib.hid hbw; clear hvv hbw hvn)
        go_ret2
        have hfin : takeF (G.map GF.f) x = ((G.map GF.f).set i ff, [], 0) := by
          rw [HT3.out]
          unfold stepF
          rw [← HFF.out, if_neg HWF.out]
        rw [hfin]
        refine tk_part (f' := ff) (g := g0) HGI.out (HTL.out.below HBLW.out) ?_ (HUP1.out.trans_ (Upd.ofBelow HBLW.out _)) 
        intro b hb0
        rcases (HNN.out b hb0).1 with hb | hb | hb
        · exact .inl hb
        · exact .inr (Nat.le_trans HBW.out.size hb)
        · exact .inr (own_lt HROB.out hb).1
    | none =>
      have hfkn := findK_none hfg
      have ht4 : takeF (G.map GF.f) x = _ := HT3A.out
      rw [hfkn] at ht4
      simp only [List.length_map] at ht4
      have HT4 := Lib.hid ht4
      have HFG := Lib.hid hfg
      rw [hfg] at r2
      simp only at r2
      clear hfkn ht4 hfg
      go_quiet (fail)
      clear r0 r1 r2
      obtain ⟨w6, hw6⟩ : ∃ W', W' = w5.drewN nq := ⟨_, rfl⟩
      have hb56 : Below w5.heap.size w5 w6 := by rw [hw6]; exact below_drewN w5 nq
      rw [← hw6]
      clear hw6
      have HB6 := Lib.hid (HB5.out.trans (hb56.mono HB5.out.size))
      have hT6 := HTB5.out.below hb56
      obtain ⟨F6, hF6⟩ := hT6.map
      have HTB6 := Lib.hid hT6
      have r0 := ld_mapt (hT6.blk.cell 0)
      have rln := hF6.map.len Try.underlying86
      clear hT6 hF6
      by_cases hfull : 64 ≤ G.length
      · have hfin : takeF (G.map GF.f) x = (G.map GF.f, [], 5) := by rw [HT4.out, if_pos hfull]
        have HFIN := Lib.hid hfin
        clear hfin
        go_wp2_with fail
        go_ret2
        rw [HFIN.out]
        exact tk_same (HT.out w (Below.refl _ _)) HB6.out (Row8.nil _ _)
      have HT3 := Lib.hid (show takeF (G.map GF.f) x = _ from HT4.out.trans (if_neg hfull))
      have hfull2 : (G.length : Int) < 64 := by omega
      have hmm := @run_makeMap Try.prog
      have hbd := fun w a => fl_build w a
      have hnew := fl0_new w6 (keyF g)
      have hb68 : Below w6.heap.size w6 ((w6.alloc (.map #[] 0)).alloc (.cells (flC w6.heap.size hd0 (.slice none 0 0) false (-1)) 115)) := ((Below.refl _ _).alloc (Nat.le_refl _) _).alloc (by simp) _
      rw [flC_lit] at hnew hb68
      obtain ⟨ab, hab⟩ : ∃ b, b = w6.heap.size := ⟨_, rfl⟩
      obtain ⟨fb, hfb⟩ : ∃ b, b = w6.heap.size + 1 := ⟨_, rfl⟩
      go_upto_region 16 with (fail)
      clear r0 rln hmm hbd
      obtain ⟨w8, hw8⟩ : ∃ W', W' = (w6.alloc (.map #[] 0)).alloc (.cells #[.map (some w6.heap.size), .int .u8 0, .int .u16 0, .bool false, .bool false, .bool false, .int .i64 0, .int .u8 0, .int .u8 0, .int .u32 0, .int .u32 0, .slice none 0 0, .bool false, .int .i64 (-1)] 115) := ⟨_, rfl⟩
      rw [← hw8] at hnew hb68 ⊢
      rw [← hfb, ← hab] at hnew
      rw [← hfb]
      have HB8 := Lib.hid (HB6.out.trans (hb68.mono HB6.out.size))
      have hT8 := HTB6.out.below hb68
      have hlt6 := HTB6.out.mlt
      have HABN := Lib.hid (show w.heap.size ≤ ab by rw [hab]; exact HB6.out.size)
      have HFBN := Lib.hid (show w.heap.size ≤ fb by rw [hfb]; exact Nat.le_succ_of_le HB6.out.size)
      have HADD := Lib.hid (fun wx (hb : Below w8.heap.size w8 wx) => (hT8.below hb).add (by omega) (key_ok HOK.out) HFG.out (hnew.below hb) rfl (fl0_ok _) (fun g' hg' e => by have := hlt6 g'.fb (.inr (.inr ⟨g', hg', .inl rfl⟩)); omega) (fun g' hg' e => by have := hlt6 g'.ab (.inr (.inr ⟨g', hg', .inr rfl⟩)); omega) (fun e => by have := hlt6 mb (.inr (.inl rfl)); omega) (fun b hb => hb.elim))
      have HK8 := Lib.hid (HK5.out.below (hb56.trans (hb68.mono hb56.size)) HK5.out.lt)
      have HRO8 := Lib.hid (HRO5.out.below (hb56.trans (hb68.mono hb56.size)))
      have HRY8 := Lib.hid (HRY5.out.below (hb56.trans (hb68.mono hb56.size)))
      have HGP8 := Lib.hid (HGP5.out.below (hb56.trans (hb68.mono hb56.size)) HGP5.out.lt)
      have HR0 := Lib.hid (fun wx (hb : Below w8.heap.size w8 wx) => ld_mapt ((hT8.below hb).blk.cell 0))
      have HR1 := Lib.hid (fun wx (hb : Below w8.heap.size w8 wx) => pc_load (HGP8.out.below hb HGP8.out.lt) rfl)
      have HTB8 := Lib.hid hT8
      clear hnew hb68 hT8 hlt6 hb56 hw8 hab hfb
      refine wp_region_mix [(true, 6), (false, 1)] 0 (by kernel_rfl) (fun wx => Below w8.heap.size w8 wx) (fun _ _ h k => h.trans (k.mono h.size)) (by kernel_rfl) (Below.refl _ _) (a' := ?_) (fun wz hz => ?_) fun wz hz => ?_
      rotate_left
      · have r0 := fun (d : Nat) (os : Array Obj) => HR0.out (grow (redrawn wz d) os) (hz.trans ((below_regrown wz d os).mono hz.size))
        have r1 := fun (d : Nat) (os : Array Obj) => HR1.out (grow (redrawn wz d) os) (hz.trans ((below_regrown wz d os).mono hz.size))
        clear hz
        simp only [pick_nil, pick_tt, pick_ft, List.take_succ_cons, List.take_zero, List.drop_succ_cons, List.drop_zero, List.append_nil]
        repeat (go_big_quiet_step (fail))
        refine wpQuiet_nil ?_
        rfl
      simp only [pick_nil, pick_ff, pick_tf, List.take_succ_cons, List.take_zero, List.drop_succ_cons, List.drop_zero, List.append_nil]
      have HZ8 := Lib.hid hz
      clear hz
      refine wpMix_step HZ8.out fun wa ha => ?_
      have HA8 := Lib.hid (HZ8.out.trans (ha.mono HZ8.out.size))
      clear ha
      obtain ⟨w9, hrup, htb9, hu9⟩ := HADD.out wa HA8.out
      unfold pcV ptrV at hrup
      have HTW := Lib.hid htb9
      obtain ⟨Fa, hFa⟩ := (HTB8.out.below HA8.out).map
      have hkeep : ∀ u (x : By), Row8 w.heap.size wa u x → Row8 w.heap.size w9 u x := fun u x hx => own_keep hx (hu9.same (I := fun b => u.ownBlock = some b) fun b hb hI => hFa.map.ne_row hx (by rw [hI, show b = mb from hb])) fun _ e => e
      have hk9 := HK8.out.below HA8.out HK8.out.lt
      have hp9 := HGP8.out.below HA8.out HGP8.out.lt
      have HKW := Lib.hid (hk9.upd hu9 (hFa.map.ne_blk hk9))
      have HGPW := Lib.hid (hp9.upd hu9 (hFa.map.ne_blk hp9))
      have HROB := Lib.hid (hkeep _ _ (HRO8.out.below HA8.out))
      have HROW := Lib.hid ((own_base HROB.out (Nat.zero_le _) : Row8 0 w9 _ _))
      have HRYW := Lib.hid (show Row8 0 w9 (.slice Aq Ln cq) y by rw [HLN.out]; exact own_base (hkeep _ _ (HRY8.out.below HA8.out)) (Nat.zero_le _))
      have HUPW := Lib.hid (((Upd.ofBelow (HB8.out.trans (HA8.out.mono HB8.out.size)) (TbMut tb mb (G ++ [⟨fl0 (keyF g), fb, ab, fun _ => False⟩]))).trans_ (hu9.mono fun b e => .inl (.inr (.inl e)))))
      have HBW := Lib.hid HUPW.out
      have HGI := Lib.hid (show (G ++ [(⟨fl0 (keyF g), fb, ab, fun _ => False⟩ : GF)])[G.length]? = some ⟨fl0 (keyF g), fb, ab, fun _ => False⟩ by simp)
      have HKEY := Lib.hid (show (fl0 (keyF g)).key = keyF g from rfl)
      clear htb9 hu9 hFa hkeep hk9 hp9
      go_wp2_with fail
      refine wpMix_plain ?_
      go_upto_region 17 with (fail)
      clear hrup
      -- lay
      obtain ⟨hflW, hokW, _⟩ := HTW.out.fl (⟨fl0 (keyF g), fb, ab, fun _ => False⟩ : GF) (List.mem_of_getElem? HGI.out)
      have rlw := hd_load HKW.out rfl
      have hlay := lay_any (⟨fl0 (keyF g), fb, ab, fun _ => False⟩ : GF).N fb ab (fl0 (keyF g)) g (.slice Ao g.opts.length co) Aq Ln cq y w9 hflW hokW HPK.out HROW.out HRYW.out
      rw [hdV_eq] at hlay
      have HLAY := Lib.hid hlay
      have HFLW := Lib.hid hflW
      have hokl := lay_ok hokW HPK.out
      have HOKL := Lib.hid hokl.1
      obtain ⟨ff, hff⟩ : ∃ f, f = layF (fl0 (keyF g)) g y := ⟨_, rfl⟩
      rw [← hff] at HLAY HOKL
      have HFF := Lib.hid hff
      clear hflW hokW hlay hokl hff
      go_upto_region 18 with (go_at_call 83; refine HLAY.out.mono ?_; rintro e wl ⟨rfl, hfl, hul⟩; have HFLL := Lib.hid hfl.lt; have HUL := Lib.hid hul; clear hfl hul)
      clear rlw
      obtain ⟨NN, hflN, hNN⟩ : ∃ NN : Nat → Prop, FlM wl NN fb ab ff ∧ ∀ b, NN b → ((⟨fl0 (keyF g), fb, ab, fun _ => False⟩ : GF).N b ∨ w9.heap.size ≤ b ∨ (Value.slice Ao g.opts.length co).ownBlock = some b) ∧ b < wl.heap.size := ⟨_, HFLL.out, fun b hb => hb⟩
      have HFLN := Lib.hid hflN
      have HNN := Lib.hid hNN
      clear hflN hNN HFLL
      have htl := HTW.out.set HGI.out HFLN.out (by rw [HFF.out]; rfl) HOKL.out HUL.out (fun b hb => (HNN.out b hb).2)
      have HTL := Lib.hid htl
      have hgpl := HGPW.out.upd HUL.out (fun e => by
        rcases e with e | e
        · obtain ⟨vi, b1, _⟩ := HFLW.out.blk
          have h1 := HGPW.out
          unfold Blk at h1 b1
          rw [e, b1] at h1
          injection h1 with h1
          injection h1 with _ h1
          exact absurd h1 (by decide)
        · obtain ⟨Fi, b4, _⟩ := HFLW.out.map
          exact b4.ne_blk HGPW.out e)
      have HGPL := Lib.hid hgpl
      have HWHO := Lib.hid (whole_any NN fb ab ff wl HFLN.out HOKL.out)
      have hup1 : Upd (TbMut tb mb (G ++ [(⟨fl0 (keyF g), fb, ab, fun _ => False⟩ : GF)])) w wl := HUPW.out.trans_ (HUL.out.mono fun b e => .inl (.inr (.inr ⟨_, List.mem_of_getElem? HGI.out, e⟩)))
      have HUP1 := Lib.hid hup1
      clear htl hgpl hup1
      by_cases hwf : wholeF' ff = true
      · rw [if_pos hwf, if_pos hwf, hwf] at HWHO
        have HWF := Lib.hid hwf
        clear hwf
        obtain ⟨z, hz⟩ : ∃ z, z = outF ff := ⟨_, rfl⟩
        rw [← hz] at HWHO
        have HZO := Lib.hid hz
        obtain ⟨zb, ze⟩ := z
        simp only at HWHO
        clear hz
        go_upto_region 20 with (go_at_call 84; refine HWHO.out.mono ?_; rintro e ww ⟨vv, rfl, hvv, hbw, _⟩; obtain ⟨Av, cv, rfl, _⟩ := hvv.form; have HVV := Lib.hid hvv; have HBLW := Lib.hid hbw; clear hvv hbw)
        have htw := HTL.out.below HBLW.out
        obtain ⟨Fw, hFw⟩ := htw.map
        have HTWW := Lib.hid htw
        have HFW := Lib.hid hFw
        have HGPV := Lib.hid (HGPL.out.below HBLW.out HGPL.out.lt)
        have hkff : ff.key = keyF g := by rw [HFF.out]; exact HKEY.out
        have hfind := find_key (G := (G ++ [(⟨fl0 (keyF g), fb, ab, fun _ => False⟩ : GF)]).set G.length ⟨ff, fb, ab, NN⟩) (g := ⟨ff, fb, ab, NN⟩) (i := G.length) (List.getElem?_set_self (List.getElem?_eq_some_iff.1 HGI.out).1) (k := keyF g) hkff
        obtain ⟨gq, hgq⟩ := hfind
        have HDR := Lib.hid (fun wx (hb : Below ww.heap.size ww wx) ty => TbF.drop (hFw.below hb) htw.nd (fun g hg => (htw.fl g hg).2.2) (key_ok HOK.out) hgq ty)
        have HR0 := Lib.hid (fun wx (hb : Below ww.heap.size ww wx) => ld_mapt ((htw.below hb).blk.cell 0))
        have HR1 := Lib.hid (fun wx (hb : Below ww.heap.size ww wx) => pc_load (HGPV.out.below hb HGPV.out.lt) rfl)
        have HKFF := Lib.hid hkff
        clear htw hFw hgq hkff
        refine wp_region_mix [(true, 5), (false, 1)] 0 (by kernel_rfl) (fun wx => Below ww.heap.size ww wx) (fun _ _ h k => h.trans (k.mono h.size)) (by kernel_rfl) (Below.refl _ _) (a' := ?_) (fun wz hz => ?_) fun wz hz => ?_
        rotate_left
        · have r0 := fun (d : Nat) (os : Array Obj) => HR0.out (grow (redrawn wz d) os) (hz.trans ((below_regrown wz d os).mono hz.size))
          have r1 := fun (d : Nat) (os : Array Obj) => HR1.out (grow (redrawn wz d) os) (hz.trans ((below_regrown wz d os).mono hz.size))
          clear hz
          simp only [pick_nil, pick_tt, pick_ft, List.take_succ_cons, List.take_zero, List.drop_succ_cons, List.drop_zero, List.append_nil]
          repeat (go_big_quiet_step (fail))
          refine wpQuiet_nil ?_
          rfl
        · simp only [pick_nil, pick_ff, pick_tf, List.take_succ_cons, List.take_zero, List.drop_succ_cons, List.drop_zero, List.append_nil]
          have HZ := Lib.hid hz
          clear hz
          refine wpMix_step HZ.out fun wa ha => ?_
          have HA := Lib.hid (HZ.out.trans (ha.mono HZ.out.size))
          clear ha
          obtain ⟨wd, hrd, hFd, hud, hsd⟩ := HDR.out wa HA.out 0
          unfold pcV at hrd
          have HFD := Lib.hid hFd
          have HUD := Lib.hid hud
          have htd := (HTWW.out.below HA.out).dropped hFd hud
          have HTD := Lib.hid htd
          have hvd : Row8 wl.heap.size wd (.slice Av zb.length cv) zb := own_keep (HVV.out.below HA.out) (hud.same (I := fun b => (Value.slice Av zb.length cv).ownBlock = some b) fun b hb hI => by
            obtain ⟨Fq, hFq⟩ := (HTWW.out.below HA.out).map
            exact hFq.map.ne_row (HVV.out.below HA.out) (by rw [hI, show b = mb from hb])) fun _ e => e
          have HVD := Lib.hid hvd
          have HUPD := Lib.hid (((HUP1.out.trans_ (Upd.ofBelow HBLW.out _)).trans_ (Upd.ofBelow HA.out _)).trans_ (hud.mono fun b e => .inl (.inr (.inl e))))
          clear hFd hud hsd htd hvd
          go_wp2_with fail
          refine wpMix_plain ?_
          go_wp2_with fail
          go_ret2
          have hfin : takeF (G.map GF.f) x = (((G ++ [(⟨fl0 (keyF g), fb, ab, fun _ => False⟩ : GF)]).map GF.f).eraseIdx G.length, zb, ze) := by
            rw [HT3.out]
            unfold stepF
            rw [← HFF.out, if_pos HWF.out, ← HZO.out, List.map_append]
            rfl
          rw [hfin]
          refine TkPost.new (tk_whole (f' := ff) (g := (⟨fl0 (keyF g), fb, ab, fun _ => False⟩ : GF)) ?_ HGI.out HKFF.out (by have := HTD.out; exact this) HTL.out.nd (own_base HVD.out (Nat.le_trans HBW.out.size HUL.out.size)) HUPD.out) HFBN.out HABN.out
          intro g' hg' b hb
          rw [List.eraseIdx_append_of_length_le (Nat.le_refl _)] at hg'
          have hgG : g' ∈ G := by simpa using hg'
          exact HNL.out g' hgG b hb
      · have hwf' : wholeF' ff = false := by simpa using hwf
        rw [if_neg hwf, if_neg hwf, hwf'] at HWHO
        have HWF := Lib.hid hwf
        clear hwf hwf'
        go_wp2_with (go_at_call 84; refine HWHO.out.mono ?_; rintro e ww ⟨vv, rfl, hvv, hbw, hvn⟩; obtain rfl := hvn rfl; have HBLW := Lib.hid hbw; clear hvv hbw hvn)
        go_ret2
        have hfin : takeF (G.map GF.f) x = (((G ++ [(⟨fl0 (keyF g), fb, ab, fun _ => False⟩ : GF)]).map GF.f).set G.length ff, [], 0) := by
          rw [HT3.out]
          unfold stepF
          rw [← HFF.out, if_neg HWF.out, List.map_append]
          rfl
        rw [hfin]
        refine TkPost.new (tk_part (f' := ff) (g := (⟨fl0 (keyF g), fb, ab, fun _ => False⟩ : GF)) HGI.out (HTL.out.below HBLW.out) ?_ (HUP1.out.trans_ (Upd.ofBelow HBLW.out _)) ) HFBN.out HABN.out
        intro b hb0
        rcases (HNN.out b hb0).1 with hb | hb | hb
        · exact .inl hb
        · exact .inr (Nat.le_trans HBW.out.size hb)
        · exact .inr (own_lt HROB.out hb).1
end Go.Proofs.Ytihfihehiifdkaa
