/- ReassMissing's walk. -/
import Derived.Test.YtihfihehiifdkaaRuA
namespace Go.Proofs.Ytihfihehiifdkaa
open Go.RowKit Go.Sort
def clnH (h : Hd) : Hd := { h with df := false, mf := false, off := 0 }
set_option maxRecDepth 100000 in
set_option maxHeartbeats 16000000 in
attribute [-go_sem] Instr.storeAt Instr.loadAt in
theorem reassmissing_any (h : Hd) (vo : Value) (Ap : Option Addr) (np cp : Nat) (p : By) (m but : Int) (w : World) (hvo : Sl8 w (fun k => k < w.heap.size) vo h.opts) (hok : h.ok)
    (hp : Reads w (fun k => k < w.heap.size) 1 Ap np (bytesV p)) (hpn : p.length = np) (hpc : np ≤ cp) :
    Calls Try.prog 10 #[hdV h vo, .slice Ap np cp, .int .i64 m, .int .i64 but] w fun e w' => e = .returned (.bool true) ∧ Below w.heap.size w w' := by
  obtain ⟨Ao, co, rfl, hoc, hro⟩ := hvo
  obtain ⟨W, hW⟩ : ∃ W, W = w.alloc (.cells (hdC h (.slice Ao h.opts.length co)) 32) := ⟨_, rfl⟩
  have hb0 : Below w.heap.size w W := by rw [hW]; exact (Below.refl _ _).alloc (Nat.le_refl _) _
  have hk0 : Blk W w.heap.size 32 (hdC h (.slice Ao h.opts.length co)) := by rw [hW]; exact Blk.new _ _ _
  have HSO := Lib.hid (show ∀ wx, Below w.heap.size w wx → Sl8 wx (fun k => k < w.heap.size) (.slice Ao h.opts.length co) h.opts from fun wx hb => ⟨Ao, co, rfl, hoc, hro.keep (Same.ofBelow hb fun k hk => hk)⟩)
  have HP := Lib.hid (show ∀ wx, Below w.heap.size w wx → Reads wx (fun k => k < w.heap.size) 1 Ap np (bytesV p) from fun wx hb => hp.keep (Same.ofBelow hb fun k hk => hk))
  have HPN := Lib.hid hpn
  have HPC := Lib.hid hpc
  have HOK := Lib.hid hok
  have HB0 := Lib.hid hb0
  have HK0 := Lib.hid hk0
  have HW := Lib.hid hW
  have HKN := Lib.hid (fun wx => known16_any wx)
  have HNM := Lib.hid (fun n wx => num16_any n wx)
  unfold hdC at HW
  clear hoc hro hb0 hk0 hW hp hpn hpc hok
  unfold hdV
  go_enter Try.func10, Try.ntmps10
  go_upto_region 1 with (fail)
  rw [← HW.out]
  have HB1 := HB0
  have HK1 := HK0
  have s3 := st_boolv (HK1.out.cell 3) (HK1.out.frozen 3) false
  obtain ⟨W2, hW2⟩ : ∃ Z, Z = W.setCell ⟨w.heap.size, 3, none⟩ (.bool false) := ⟨_, rfl⟩
  have hk2 : Blk W2 w.heap.size 32 (hdC { h with df := false } (.slice Ao h.opts.length co)) := by rw [hW2]; exact HK1.out.set_ 3 _
  have s4 := st_boolv (hk2.cell 4) (hk2.frozen 4) false
  obtain ⟨W3, hW3⟩ : ∃ W, W = W2.setCell ⟨w.heap.size, 4, none⟩ (.bool false) := ⟨_, rfl⟩
  have hk3 : Blk W3 w.heap.size 32 (hdC { h with df := false, mf := false } (.slice Ao h.opts.length co)) := by rw [hW3]; exact hk2.set_ 4 _
  have s5 := st_int (hk3.cell 5) (hk3.frozen 5) 0
  obtain ⟨W4, hW4⟩ : ∃ W, W = W3.setCell ⟨w.heap.size, 5, none⟩ (.int .i64 0) := ⟨_, rfl⟩
  have hk4 : Blk W4 w.heap.size 32 (hdC (clnH h) (.slice Ao h.opts.length co)) := by rw [hW4]; exact hk3.set_ 5 _
  have hu : Upd (only w.heap.size) W W4 := by rw [hW4, hW3, hW2]; exact (((Upd.refl _ _).set_ 3 _).set_ 4 _).set_ 5 _
  have hb4 : Below w.heap.size w W4 := HB1.out.trans (hu.below (fun k (hk : k = _) => by omega) HB1.out.size)
  rw [← hW2] at s3
  rw [← hW3] at s4
  rw [← hW4] at s5
  have HB4 := Lib.hid hb4
  have HK4 := Lib.hid hk4
  clear hW2 hW3 hW4 hk2 hk3 hk4 hu hb4
  go_upto_region 2 with (fail)
  clear s3 s4 s5
  obtain ⟨g, hg⟩ : ∃ g, g = clnH h := ⟨_, rfl⟩
  have hgo : g.opts = h.opts := by rw [hg]; rfl
  have hgok : g.ok := by rw [hg]; exact HOK.out
  have hg0 : g.off = 0 ∧ g.mf = false := by rw [hg]; exact ⟨rfl, rfl⟩
  rw [← hg] at HK4
  have hso4 := HSO.out W4 HB4.out
  rw [← hgo] at hso4 HK4 ⊢
  have HSG := Lib.hid (show ∀ wx, Below w.heap.size w wx → Sl8 wx (fun k => k < w.heap.size) (.slice Ao g.opts.length co) g.opts from fun wx hb => by rw [hgo]; exact HSO.out wx hb)
  have HGOK := Lib.hid hgok
  have HG0 := Lib.hid hg0
  have l10 := ld8s (HK4.out.cell 10)
  have rl4 := hd_load HK4.out rfl
  clear hg hgo hgok hg0 hso4
  by_cases c1 : 300 < g.opts.length
  · have d1 : decide ((300 : Int) < (g.opts.length : Int)) = true := decide_eq_true (by omega)
    have HBZ := HB4
    go_wp2_with (go_at_call 36; refine (HKN.out _).mono ?_; rintro e wk ⟨rfl, hbk⟩; have HBK := Lib.hid (HBZ.out.trans (hbk.mono HBZ.out.size)); clear hbk)
    go_ret
    exact ⟨rfl, HBK.out⟩
  have d1 : decide ((300 : Int) < (g.opts.length : Int)) = false := decide_eq_false (by omega)
  by_cases c2 : 3000 < np
  · have d2 : decide ((3000 : Int) < (np : Int)) = true := decide_eq_true (by omega)
    have HBZ := HB4
    go_wp2_with (go_at_call 36; refine (HKN.out _).mono ?_; rintro e wk ⟨rfl, hbk⟩; have HBK := Lib.hid (HBZ.out.trans (hbk.mono HBZ.out.size)); clear hbk)
    go_ret
    exact ⟨rfl, HBK.out⟩
  have d2 : decide ((3000 : Int) < (np : Int)) = false := decide_eq_false (by omega)
  have hma := rmay_any g (.slice Ao g.opts.length co) (fun k => k < w.heap.size) W4 (HSG.out W4 HB4.out) (by omega)
  rw [hdV_eq] at hma
  have HMA := Lib.hid hma
  clear hma
  by_cases hmay : mayH g = true
  rotate_left
  · have hm2 : mayH g = false := by simpa using hmay
    rw [hm2] at HMA
    clear hm2 hmay
    go_wp2_with (first | (go_at_call 37; refine HMA.out.mono ?_; rintro e w5 ⟨rfl, hb5⟩; have HB5 := Lib.hid (HB4.out.trans (hb5.mono HB4.out.size)); clear hb5) | (go_at_call 36; refine (HKN.out _).mono ?_; rintro e wk ⟨rfl, hbk⟩; have HBK := Lib.hid (HB5.out.trans (hbk.mono HB5.out.size)); clear hbk))
    go_ret
    exact ⟨rfl, HBK.out⟩
  rw [hmay] at HMA
  have HMAY := Lib.hid hmay
  have hfit := fits_of (p := p) hmay (by have := HPN.out; omega)
  have HFIT := Lib.hid hfit
  have hpl := HPN.out
  clear hmay hfit
  go_upto_region 4 with (go_at_call 37; refine HMA.out.mono ?_; rintro e w5 ⟨rfl, hb5⟩; have HB5 := Lib.hid (HB4.out.trans (hb5.mono HB4.out.size)); have HK5 := Lib.hid (HK4.out.below hb5 HK4.out.lt); clear hb5)
  clear rl4 l10 d1 d2 c1
  have rl5 := hd_load HK5.out rfl
  have hby := rbytes_any g (.slice Ao g.opts.length co) (.slice Ap np cp) p (fun k => k < w.heap.size) w5 (HSG.out w5 HB5.out) ⟨Ap, cp, by rw [HPN.out], by rw [HPN.out]; exact HPC.out, by rw [HPN.out]; exact HP.out w5 HB5.out⟩ HGOK.out HFIT.out
  rw [hdV_eq] at hby
  have HBY := Lib.hid hby
  clear hby
  have hbl : (bytesF g p).length ≤ 7000 := by rw [bytesF_len]; have := (may_opts HMAY.out).2.1; omega
  obtain ⟨b, hb⟩ : ∃ b, b = bytesF g p := ⟨_, rfl⟩
  rw [← hb] at HBY hbl
  have HBE := Lib.hid hb
  have HBL := Lib.hid hbl
  clear hb hbl
  go_upto_region 5 with (go_at_call 38; refine HBY.out.mono ?_; rintro e w6 ⟨v6, rfl, h6, hb6⟩; obtain ⟨A6, c6, rfl, hc6⟩ := h6.form; have HR6 := Lib.hid h6; have HC6 := Lib.hid hc6; have HB56 := Lib.hid hb6; have HB6 := Lib.hid (HB5.out.trans (hb6.mono HB5.out.size)); clear h6 hb6 hc6)
  clear rl5
  have hcu := rcut_any A6 b.length c6 b m _ w6 HR6.out.reads.2 rfl HC6.out (by have := HBL.out; omega)
  have HCU := Lib.hid hcu
  clear hcu
  obtain ⟨ce, hce⟩ : ∃ z, z = (cutF b m).2 := ⟨_, rfl⟩
  unfold RcPost at HCU
  rw [← hce] at HCU
  have HCE := Lib.hid hce
  clear hce
  go_upto_region 7 with (first
    | (go_at_call 39
       refine HCU.out.mono ?_
       rintro e w7 ⟨A7, c7, us, rfl, hl7, hb7⟩
       have HL7 := Lib.hid hl7
       have HB67 := Lib.hid hb7
       have HB7 := Lib.hid (HB6.out.trans (hb7.mono HB6.out.size))
       clear hl7 hb7)
    | (go_at_call 40
       refine (tnew_any w7).mono ?_
       rintro e w8 ⟨tb, mb, rfl, ht8, hb81, hb82, hbl8⟩
       have HTT := Lib.hid ht8
       have HTB := Lib.hid hb81
       have HMB := Lib.hid hb82
       have HB78 := Lib.hid hbl8
       have HB8 := Lib.hid (HB7.out.trans (hbl8.mono HB7.out.size))
       unfold ptrV
       clear ht8 hb81 hb82 hbl8))
  have HCL7 := Lib.hid (show w5.heap.size ≤ w7.heap.size from Nat.le_trans (by have := HB67.out.size; exact Nat.le_trans HB56.out.size this) (Nat.le_refl _))
  obtain ⟨nl, hnl⟩ : ∃ z, z = (cutF b m).1.length := ⟨_, rfl⟩
  rw [← hnl]
  have HNL := Lib.hid hnl
  clear hnl
  have HBZ := HB8
  by_cases hc0 : ce = 0
  rotate_left
  · have b1 : ((ce : Int) != 0) = true := by rw [bne_iff_ne]; omega
    clear hc0
    go_wp2_with (go_at_call 36; refine (HKN.out _).mono ?_; rintro e wk ⟨rfl, hbk⟩; have HBK := Lib.hid (HBZ.out.trans (hbk.mono HBZ.out.size)); clear hbk)
    go_ret
    exact ⟨rfl, HBK.out⟩
  have b1 : ((ce : Int) != 0) = false := by rw [bne_eq_false_iff_eq]; omega
  by_cases c2 : nl < 2
  · have d2 : decide ((nl : Int) < 2) = true := decide_eq_true (by omega)
    clear hc0
    go_wp2_with (go_at_call 36; refine (HKN.out _).mono ?_; rintro e wk ⟨rfl, hbk⟩; have HBK := Lib.hid (HBZ.out.trans (hbk.mono HBZ.out.size)); clear hbk)
    go_ret
    exact ⟨rfl, HBK.out⟩
  have d2 : decide ((nl : Int) < 2) = false := decide_eq_false (by omega)
  by_cases c3 : but < 0
  · have d3 : decide (but < 0) = true := decide_eq_true c3
    clear hc0
    go_wp2_with (go_at_call 36; refine (HKN.out _).mono ?_; rintro e wk ⟨rfl, hbk⟩; have HBK := Lib.hid (HBZ.out.trans (hbk.mono HBZ.out.size)); clear hbk)
    go_ret
    exact ⟨rfl, HBK.out⟩
  have d3 : decide (but < 0) = false := decide_eq_false c3
  by_cases c4 : (nl : Int) ≤ but
  · have d4 : decide ((nl : Int) ≤ but) = true := decide_eq_true c4
    clear hc0
    go_wp2_with (go_at_call 36; refine (HKN.out _).mono ?_; rintro e wk ⟨rfl, hbk⟩; have HBK := Lib.hid (HBZ.out.trans (hbk.mono HBZ.out.size)); clear hbk)
    go_ret
    exact ⟨rfl, HBK.out⟩
  have d4 : decide ((nl : Int) ≤ but) = false := decide_eq_false c4
  obtain ⟨bu, rfl⟩ : ∃ k : Nat, but = (k : Int) := ⟨but.toNat, by omega⟩
  have hcut := HCE.out
  rw [hc0, HBE.out] at hcut
  have hlen0 := HNL.out
  rw [HBE.out] at hlen0
  obtain ⟨N, X, g2, y, St, hcl, BT, hxl, hyl⟩ := cut_bt HGOK.out HFIT.out HG0.out.1 HG0.out.2 hcut.symm (by omega) (b := bu) (by omega)
  have hN : nl = N := by rw [hlen0, hcl]; simp
  have hN7 : nl ≤ 7001 := by
    have h1 := cut_len b m
    have h2 := HBL.out
    have h3 := HNL.out
    omega
  rw [hN] at HNL c2 d2 c4 d4 hN7 ⊢
  have hbN : bu < N := by omega
  clear hN hlen0
  have hJ : ∀ k, (((w5.heap.size ≤ k ∧ k < w6.heap.size) ∧ k < w6.heap.size) ∨ (w6.heap.size ≤ k ∧ k < w7.heap.size)) → k ≠ tb ∧ k ≠ mb := fun k hk => by
    have h1 := HTB.out
    have h2 := HMB.out
    have h3 := HB67.out.size
    omega
  have hI : ∀ k, k < w5.heap.size → k ≠ tb ∧ k ≠ mb := fun k hk => by
    have h1 := HTB.out
    have h2 := HMB.out
    have h3 := HCL7.out
    omega
  have hmu8 : ∀ x, TbMut tb mb [] x → x = tb ∨ x = mb ∨ w8.heap.size ≤ x := fun x hx => by
    rcases hx with hx | hx | ⟨q, hq, _⟩
    · exact .inl hx
    · exact .inr (.inl hx)
    · cases hq
  have hS8 : TkS w w8 tb mb [] w8 := ⟨HTT.out, hmu8, ⟨Nat.le_refl _, fun _ _ _ => rfl⟩, Nat.le_trans HB7.out.size HTB.out, Nat.le_trans HB7.out.size HMB.out, HB8.out⟩
  have hl8 := HL7.out.keep (Same.ofBelow HB78.out fun k hk => by rcases hk with hk | hk; exact Nat.lt_of_lt_of_le hk.2 HB67.out.size; exact hk.2)
  rw [show (cutF b m).1 = (List.range N).map X by rw [HBE.out, hcl]] at hl8
  have hlen : ((List.range N).map X).length = N := by simp
  rw [hlen] at hl8
  have HEL := Lib.hid (show ∀ k, k < N → ∃ ad Ax cx, A7 = some ad ∧ w8.cell? (ad.add k) = some (.slice Ax (X k).length cx) ∧ (X k).length ≤ cx ∧ Reads w8 _ 1 Ax (X k).length (bytesV (X k)) ∧ ad.block ≠ tb ∧ ad.block ≠ mb from fun k hk => by
    obtain ⟨hr, _, he⟩ := hl8
    obtain ⟨Ax, cx, h1, h2, h3⟩ := he k (X k) (by simp [hk])
    obtain ⟨ad, e, h4, _, h5⟩ := hr.2 (by omega)
    exact ⟨ad, Ax, cx, e, h5 k _ h1, h2, h3, (hJ _ h4).1, (hJ _ h4).2⟩)
  have HJ := Lib.hid hJ
  have HI := Lib.hid hI
  have HS8 := Lib.hid hS8
  have HD8 := Lib.hid HB8.out.size
  have HK8 := Lib.hid ((HK5.out.below (HB56.out.trans (HB67.out.mono HB56.out.size)) HK5.out.lt).below HB78.out (Nat.lt_of_lt_of_le HK5.out.lt HCL7.out))
  have HK5L := Lib.hid (hI _ HK5.out.lt)
  have HRB8 := Lib.hid (show Reads w8 (fun k => w5.heap.size ≤ k ∧ k < w6.heap.size) 1 A6 b.length (bytesV b) from (HR6.out.reads.2).keep (Same.ofBelow (HB67.out.trans (HB78.out.mono HB67.out.size)) fun k hk => hk.2))
  have HJB := Lib.hid (show ∀ k, (w5.heap.size ≤ k ∧ k < w6.heap.size) → k ≠ tb ∧ k ≠ mb from fun k hk => hJ k (.inl ⟨hk, hk.2⟩))
  have HXL := Lib.hid hxl
  have HYL := Lib.hid hyl
  have HBT := Lib.hid BT
  rw [← HBE.out] at HBT
  clear hJ hI hmu8 hS8 hl8 hlen hcut hcl hxl hyl BT hc0 HL7 hpl HBZ
  go_wp2_with fail
  clear b1 d2 d3 d4 c3 c4
  go_loopw [13] (fun s13 wr => ∃ (j : Nat) (G : List GF), s13 = .int .i64 (j : Int) ∧ j ≤ N ∧ TkS w w8 tb mb G wr ∧ St j (G.map GF.f)) (fun s13 _ => N - (intOf s13).toNat)
  case atStart => exact ⟨0, [], rfl, Nat.zero_le _, HS8.out, HBT.out.init⟩
  case round =>
    obtain ⟨j, G, rfl, hj, hS, hSt⟩ := hrel
    have HS := Lib.hid hS
    have HST := Lib.hid hSt
    clear hS hSt
    by_cases hlt : j < N
    · by_cases hjb : j = bu
      · subst hjb
        have i1' : (j : Int) < N := by omega
        go_wp2_with fail
        go_roundw
        case rel => exact ⟨j + 1, G, by go_num, by omega, HS.out, HBT.out.skip _ HST.out⟩
        case measure => simp [intOf]; omega
      · obtain ⟨ad, Ax, cx, e7, hcell, hxc, hrx, hn1, hn2⟩ := HEL.out j hlt
        subst e7
        have ck := HS.out.cell hcell (by rw [block_of_add]; exact hn1) (by rw [block_of_add]; exact hn2)
        have HTAKE := Lib.hid (rtake_any tb mb G Ax (X j).length cx (X j) _ wr HS.out.tbm (HS.out.reads hrx HJ.out) rfl hxc (by have := HXL.out j hlt; omega))
        obtain ⟨f1, pt, pf⟩ := HBT.out.take j _ hlt hjb HST.out
        have HPT := Lib.hid pt
        have HPF := Lib.hid pf
        have k0' : (0 : Int) ≤ (j : Int) := by omega
        have k1' : (j : Int) < (N : Int) := by omega
        have k2' : ¬ ((j : Int) = (bu : Int)) := by omega
        have k3' : ((j : Int) == (bu : Int)) = false := by rw [beq_eq_false_iff_ne]; exact k2'
        have rk := ld8a ck
        clear hrx hcell hxc hn1 hn2 pt pf ck
        go_wp2_with (first
          | (go_at_call 41
             refine HTAKE.out.mono ?_
             intro e w9 hp9
             obtain ⟨v9, G9, he9, hv9, hg9, hs9, _, _⟩ := HS.out.take HD8.out hp9
             subst he9
             rw [HPT.out] at hv9 hg9 ⊢
             obtain ⟨A9, c9, rfl, _⟩ := hv9.form
             have HG9 := Lib.hid hg9
             have HS9 := Lib.hid hs9
             clear hp9 hv9 hg9 hs9)
          | (go_at_call 43; refine (HNM.out _ _).mono ?_; rintro e w' ⟨rfl, rfl⟩))
        go_roundw
        case rel => exact ⟨j + 1, G9, by go_num, by omega, HS9.out, by rw [HG9.out]; exact HPF.out⟩
        case measure => simp [intOf]; omega
    · have hjn : ¬ ((j : Int) < (N : Int)) := by omega
      obtain rfl : j = N := by omega
      obtain ⟨f1, hf1, hky, hms, hlast⟩ := HBT.out.fin _ HST.out
      have hmg := missG_one hf1 hky
      rw [hms] at hmg
      obtain ⟨ad, Ax, cx, e7, hcell, hxc, hrx, hn1, hn2⟩ := HEL.out bu hbN
      subst e7
      have ck := HS.out.cell hcell (by rw [block_of_add]; exact hn1) (by rw [block_of_add]; exact hn2)
      have HRX := Lib.hid hrx
      have HXC := Lib.hid hxc
      have k0' : (0 : Int) ≤ (bu : Int) := by omega
      have k1' : (bu : Int) < (j : Int) := by omega
      have rk := ld8a ck
      have hpa := rparse_any Ax (X bu).length cx (X bu) _ wr (HS.out.reads hrx HJ.out) rfl hxc (by have := HXL.out bu hbN; omega)
      rw [HBT.out.prs] at hpa
      have HPA := Lib.hid hpa
      have HMG := Lib.hid hmg
      have HF1 := Lib.hid hf1
      have HLA := Lib.hid hlast
      clear hpa hmg hf1 hlast hms hky hrx hxc
      go_upto_region 17 with
        (go_at_call 16
         refine HPA.out.mono ?_
         rintro e w2 ⟨vo2, vp2, rfl, ho2, hp2, hb2⟩
         obtain ⟨Ao2, co2, rfl, hco2, hro2⟩ := ho2
         obtain ⟨Ap2, cp2, rfl, hcp2, hrp2⟩ := hp2
         obtain ⟨w4, hs4, hb4, hb24, hkh⟩ := hd_var hb2 hb2.size g2 Ao2 g2.opts.length co2
         have HS4 := Lib.hid (HS.out.keep hb4)
         have HKH := Lib.hid hkh
         clear hco2 hro2 hcp2 hrp2 hb2 hb4 hb24 hkh)
      clear hs4 rk ck
      have hkb : Blk w4 w.heap.size 32 (hdC g (.slice Ao g.opts.length co)) := (HS4.out.sm.2 _ HK5L.out HK8.out.lt).trans HK8.out
      have HKB := Lib.hid hkb
      have rl4 := hd_load hkb rfl
      have hky := fun wx => key_any g (.slice Ao g.opts.length co) wx
      rw [hdV_eq] at hky
      have HKY := Lib.hid hky
      obtain ⟨L, hL⟩ : ∃ L, L = missG G (keyF g) := ⟨_, rfl⟩
      have HMI := Lib.hid (fun wx (hb : Below w4.heap.size w4 wx) => tmiss_any tb mb G (keyF g) wx (HS4.out.tbm.below hb) (key_ok HGOK.out))
      rw [← hL] at HMI HMG
      obtain ⟨hln, hgt⟩ := miss_at HMG.out
      obtain ⟨nM, hnM⟩ : ∃ z, z = L.length := ⟨_, rfl⟩
      rw [← hnM] at hln hgt
      have HGT := Lib.hid hgt
      have HLN := Lib.hid hnM
      clear hkb hky hL HMG hnM hgt
      go_upto_region 18 with (first
        | (go_at_call 44
           refine (HKY.out _).mono ?_
           rintro e w5k ⟨rfl, hb5k⟩
           have HB5K := Lib.hid hb5k
           clear hb5k)
        | (go_at_call 48
           refine (HMI.out _ HB5K.out).mono ?_
           rintro e w6m ⟨vm, rfl, hrm, hbm⟩
           obtain ⟨Am, cm, rfl, hcm⟩ := own_form hrm
           have HRM := Lib.hid hrm
           have HS6 := Lib.hid ((HS4.out.keep HB5K.out).keep hbm)
           have HKH6 := Lib.hid ((HKH.out.below HB5K.out HKH.out.lt).below hbm (Nat.lt_of_lt_of_le HKH.out.lt HB5K.out.size))
           clear hrm hbm hcm))
      clear rl4
      rw [← HLN.out]
      by_cases hl1 : bu + 1 = j
      · rw [if_pos hl1] at hln
        have hd5 : ((bu : Int) == (j : Int) - 1) = true := by rw [beq_iff_eq]; omega
        go_wp2_with fail
        clear HKY hd5
        go_loopw [21] (fun s21 wq => ∃ k : Nat, s21 = .int .i64 (k : Int) ∧ k ≤ nM ∧ Below w6m.heap.size w6m wq) (fun s21 _ => nM - (intOf s21).toNat)
        case atStart => exact ⟨0, rfl, Nat.zero_le _, Below.refl _ _⟩
        case round =>
          obtain ⟨k, rfl, hkM, hbq⟩ := hrel
          have HBQ := Lib.hid hbq
          clear hbq
          by_cases hkm : k < nM
          · exact absurd hln (by omega)
          · have hkn : ¬ ((k : Int) < (nM : Int)) := by omega
            have HSQ := Lib.hid (HS6.out.keep HBQ.out)
            have ckq := HSQ.out.cell hcell (by rw [block_of_add]; exact hn1) (by rw [block_of_add]; exact hn2)
            have rk := ld8a ckq
            have HTK := Lib.hid (rtake_any tb mb G Ax (X bu).length cx (X bu) _ wr HSQ.out.tbm (HSQ.out.reads HRX.out HJ.out) rfl HXC.out (by have := HXL.out bu hbN; omega))
            clear ckq hcell hn1 hn2 hln hkM
            go_upto_region 29 with
              (go_at_call 41
               refine HTK.out.mono ?_
               intro e w9 hp9
               obtain ⟨v9, G9, he9, hv9, hg9, hs9, _, _⟩ := HSQ.out.take HD8.out hp9
               subst he9
               rw [HLA.out] at hv9 hg9 ⊢
               obtain rfl : G9 = [] := by simpa using hg9
               obtain ⟨A9, c9, rfl, _⟩ := hv9.form
               have HV9 := Lib.hid hv9
               have HS9 := Lib.hid hs9
               clear hp9 hv9 hg9 hs9)
            clear rk
            have s1 := run_str w9 _ A9 b c9 HV9.out.reads.2
            have s2 := run_str w9 _ A6 b c6 (HS9.out.reads HRB8.out HJB.out)
            have t1 : ((⟨b.toArray⟩ : ByteArray) == ⟨b.toArray⟩) = true := by have := bytes_beq b b; simp only [this]; simp
            go_wp2_with (first
              | (go_at_call 43; refine (HNM.out _ _).mono ?_; rintro e w' ⟨rfl, rfl⟩)
              | (go_at_call 46; refine (tlen_any tb mb [] _ HS9.out.tbm).mono ?_; rintro e w' ⟨rfl, rfl⟩)
              | (go_at_call 36; refine (HKN.out _).mono ?_; rintro e wk ⟨rfl, hbk⟩; have HBK := Lib.hid (HS9.out.below.trans (hbk.mono HS9.out.below.size)); clear hbk))
            go_ret
            exact ⟨rfl, HBK.out⟩
      · rw [if_neg hl1] at hln
        have hd5 : ((bu : Int) == (j : Int) - 1) = false := by rw [beq_eq_false_iff_ne]; omega
        have hd6 : ((y.length : Int) + 7) / 8 = (nM : Int) := by omega
        have HLN2 := Lib.hid hln
        have hyb := HYL.out
        have hnM9 : nM ≤ 9000 := by omega
        clear hln
        go_wp2_with fail
        clear HKY hd5 hd6 HLN2 hyb
        go_loopw [21] (fun s21 wq => ∃ k : Nat, s21 = .int .i64 (k : Int) ∧ k ≤ nM ∧ Below w6m.heap.size w6m wq) (fun s21 _ => nM - (intOf s21).toNat)
        case atStart => exact ⟨0, rfl, Nat.zero_le _, Below.refl _ _⟩
        case round =>
          obtain ⟨k, rfl, hkM, hbq⟩ := hrel
          have HBQ := Lib.hid hbq
          clear hbq
          by_cases hkm : k < nM
          · have hro := own_below HRM.out HBQ.out
            unfold RowN at hro
            obtain ⟨gm, cm', e8, _⟩ := own_form1 hro (by have := HLN.out; omega)
            have e9 : Am = some ⟨gm, 0, none⟩ := by cases e8; rfl
            subst e9
            have c1 := hro.cellAt k (by have := HLN.out; omega)
            have ho1 := HBT.out.off
            have e10 : ((g2.off.toNat + k : Nat) : Int) = g2.off + (k : Int) := by omega
            rw [natV_get (by have := HLN.out; omega), HGT.out k hkm, e10] at c1
            have e11 : wrap64 (g2.off + (k : Int)) = g2.off + (k : Int) := IntWalk.wrap64_in _ ⟨by omega, by omega⟩
            have hkq := HKH6.out.below HBQ.out HKH6.out.lt
            have r0 := fun n => ld_int (w := wr.drewN n) (a := ⟨gm, k, none⟩) (z := g2.off + (k : Int)) c1
            have r1 := fun n => ld_int (w := wr.drewN n) (hkq.cell 5)
            have q0' : (0 : Int) ≤ (k : Int) := by omega
            have q1' : (k : Int) < (nM : Int) := by omega
            clear hro e8 e10 c1 hkq ho1
            go_upto_region 26 with fail
            go_quiet (fail)
            go_wp2_with fail
            go_roundw
            case rel => exact ⟨k + 1, by go_num, by omega, HBQ.out.trans (below_drewN wr nq |>.mono HBQ.out.size)⟩
            case measure => simp [intOf]; omega
          · have hkn : ¬ ((k : Int) < (nM : Int)) := by omega
            have HSQ := Lib.hid (HS6.out.keep HBQ.out)
            have ckq := HSQ.out.cell hcell (by rw [block_of_add]; exact hn1) (by rw [block_of_add]; exact hn2)
            have rk := ld8a ckq
            have HTK := Lib.hid (rtake_any tb mb G Ax (X bu).length cx (X bu) _ wr HSQ.out.tbm (HSQ.out.reads HRX.out HJ.out) rfl HXC.out (by have := HXL.out bu hbN; omega))
            clear ckq hcell hn1 hn2 hkM
            go_upto_region 29 with
              (go_at_call 41
               refine HTK.out.mono ?_
               intro e w9 hp9
               obtain ⟨v9, G9, he9, hv9, hg9, hs9, _, _⟩ := HSQ.out.take HD8.out hp9
               subst he9
               rw [HLA.out] at hv9 hg9 ⊢
               obtain rfl : G9 = [] := by simpa using hg9
               obtain ⟨A9, c9, rfl, _⟩ := hv9.form
               have HV9 := Lib.hid hv9
               have HS9 := Lib.hid hs9
               clear hp9 hv9 hg9 hs9)
            clear rk
            have s1 := run_str w9 _ A9 b c9 HV9.out.reads.2
            have s2 := run_str w9 _ A6 b c6 (HS9.out.reads HRB8.out HJB.out)
            have t1 : ((⟨b.toArray⟩ : ByteArray) == ⟨b.toArray⟩) = true := by have := bytes_beq b b; simp only [this]; simp
            go_wp2_with (first
              | (go_at_call 43; refine (HNM.out _ _).mono ?_; rintro e w' ⟨rfl, rfl⟩)
              | (go_at_call 46; refine (tlen_any tb mb [] _ HS9.out.tbm).mono ?_; rintro e w' ⟨rfl, rfl⟩)
              | (go_at_call 36; refine (HKN.out _).mono ?_; rintro e wk ⟨rfl, hbk⟩; have HBK := Lib.hid (HS9.out.below.trans (hbk.mono HS9.out.below.size)); clear hbk))
            go_ret
            exact ⟨rfl, HBK.out⟩
end Go.Proofs.Ytihfihehiifdkaa
