/- ReassMeans' walk. -/
import Derived.Test.YtihfihehiifdkaaRtJ
namespace Go.Proofs.Ytihfihehiifdkaa
open Go.RowKit Go.Sort
def cleanH (h : Hd) : Hd := { h with df := false, mf := false, off := 0 }
set_option maxRecDepth 100000 in
set_option maxHeartbeats 16000000 in
attribute [-go_sem] Instr.storeAt Instr.loadAt in
theorem reassmeans_any (h : Hd) (vo : Value) (Ap : Option Addr) (np cp : Nat) (p : By) (m : Int) (Aq : Option Addr) (nq cq : Nat) (l : List Int) (w : World) (hvo : Sl8 w (fun k => k < w.heap.size) vo h.opts) (hok : h.ok)
    (hp : Reads w (fun k => k < w.heap.size) 1 Ap np (bytesV p)) (hpn : p.length = np) (hpc : np ≤ cp) (hl : Reads w (fun k => k < w.heap.size) 1 Aq nq (intV l)) (hln : l.length = nq) (hlc : nq ≤ cq) :
    Calls Try.prog 8 #[hdV h vo, .slice Ap np cp, .int .i64 m, .slice Aq nq cq] w fun e w' => e = .returned (.bool true) ∧ Below w.heap.size w w' := by
  obtain ⟨Ao, co, rfl, hoc, hro⟩ := hvo
  obtain ⟨W, hW⟩ : ∃ W, W = w.alloc (.cells (hdC h (.slice Ao h.opts.length co)) 32) := ⟨_, rfl⟩
  have hb0 : Below w.heap.size w W := by rw [hW]; exact (Below.refl _ _).alloc (Nat.le_refl _) _
  have hk0 : Blk W w.heap.size 32 (hdC h (.slice Ao h.opts.length co)) := by rw [hW]; exact Blk.new _ _ _
  have HSO := Lib.hid (show ∀ wx, Below w.heap.size w wx → Sl8 wx (fun k => k < w.heap.size) (.slice Ao h.opts.length co) h.opts from fun wx hb => ⟨Ao, co, rfl, hoc, hro.keep (Same.ofBelow hb fun k hk => hk)⟩)
  have HP := Lib.hid (show ∀ wx, Below w.heap.size w wx → Reads wx (fun k => k < w.heap.size) 1 Ap np (bytesV p) from fun wx hb => hp.keep (Same.ofBelow hb fun k hk => hk))
  have HL := Lib.hid (show ∀ wx, Below w.heap.size w wx → Reads wx (fun k => k < w.heap.size) 1 Aq nq (intV l) from fun wx hb => hl.keep (Same.ofBelow hb fun k hk => hk))
  have HPN := Lib.hid hpn
  have HPC := Lib.hid hpc
  have HLN := Lib.hid hln
  have HLC := Lib.hid hlc
  have HOK := Lib.hid hok
  have HB0 := Lib.hid hb0
  have HK0 := Lib.hid hk0
  have HW := Lib.hid hW
  have HKN := Lib.hid (fun wx => known16_any wx)
  have HNM := Lib.hid (fun n wx => num16_any n wx)
  unfold hdC at HW
  clear hoc hro hb0 hk0 hW hp hpn hpc hl hln hlc hok
  unfold hdV
  go_enter Try.func8, Try.ntmps8
  go_upto_region 1 with (fail)
  rw [← HW.out]
  go_upto_region 3 with (go_at_call 36; refine (HKN.out _).mono ?_; rintro e w1 ⟨rfl, hb1⟩; have HB1 := Lib.hid (HB0.out.trans (hb1.mono HB0.out.size)); have HK1 := Lib.hid (HK0.out.below hb1 HK0.out.lt); clear hb1)
  have s3 := st_boolv (HK1.out.cell 3) (HK1.out.frozen 3) false
  obtain ⟨W2, hW2⟩ : ∃ W, W = w1.setCell ⟨w.heap.size, 3, none⟩ (.bool false) := ⟨_, rfl⟩
  have hk2 : Blk W2 w.heap.size 32 (hdC { h with df := false } (.slice Ao h.opts.length co)) := by rw [hW2]; exact HK1.out.set_ 3 _
  have s4 := st_boolv (hk2.cell 4) (hk2.frozen 4) false
  obtain ⟨W3, hW3⟩ : ∃ W, W = W2.setCell ⟨w.heap.size, 4, none⟩ (.bool false) := ⟨_, rfl⟩
  have hk3 : Blk W3 w.heap.size 32 (hdC { h with df := false, mf := false } (.slice Ao h.opts.length co)) := by rw [hW3]; exact hk2.set_ 4 _
  have s5 := st_int (hk3.cell 5) (hk3.frozen 5) 0
  obtain ⟨W4, hW4⟩ : ∃ W, W = W3.setCell ⟨w.heap.size, 5, none⟩ (.int .i64 0) := ⟨_, rfl⟩
  have hk4 : Blk W4 w.heap.size 32 (hdC (cleanH h) (.slice Ao h.opts.length co)) := by rw [hW4]; exact hk3.set_ 5 _
  have hu : Upd (only w.heap.size) w1 W4 := by rw [hW4, hW3, hW2]; exact (((Upd.refl _ _).set_ 3 _).set_ 4 _).set_ 5 _
  have hb4 : Below w.heap.size w W4 := HB1.out.trans (hu.below (fun k (hk : k = _) => by omega) HB1.out.size)
  rw [← hW2] at s3
  rw [← hW3] at s4
  rw [← hW4] at s5
  have HB4 := Lib.hid hb4
  have HK4 := Lib.hid hk4
  clear hW2 hW3 hW4 hk2 hk3 hk4 hu hb4
  go_upto_region 4 with (fail)
  clear s3 s4 s5
  obtain ⟨g, hg⟩ : ∃ g, g = cleanH h := ⟨_, rfl⟩
  have hgo : g.opts = h.opts := by rw [hg]; rfl
  have hgok : g.ok := by rw [hg]; exact HOK.out
  have hg0 : g.off = 0 ∧ g.mf = false := by rw [hg]; exact ⟨rfl, rfl⟩
  rw [← hg] at HK4
  have hso4 := HSO.out W4 HB4.out
  rw [← hgo] at hso4 HK4 ⊢
  have HSG := Lib.hid (show ∀ wx, Below w.heap.size w wx → Sl8 wx (fun k => k < w.heap.size) (.slice Ao g.opts.length co) g.opts from fun wx hb => by rw [hgo]; exact HSO.out wx hb)
  have HGOK := Lib.hid hgok
  have HG0 := Lib.hid hg0
  have l10 := ld8s (HK4.out.cell 10)
  have rl4 := hd_load HK4.out rfl
  clear hg hgo hgok hg0 hso4
  by_cases c1 : 300 < g.opts.length
  · have d1 : decide ((300 : Int) < (g.opts.length : Int)) = true := decide_eq_true (by omega)
    go_wp2_with fail
    go_ret
    exact ⟨rfl, HB4.out⟩
  have d1 : decide ((300 : Int) < (g.opts.length : Int)) = false := decide_eq_false (by omega)
  by_cases c2 : 6000 < np
  · have d2 : decide ((6000 : Int) < (np : Int)) = true := decide_eq_true (by omega)
    go_wp2_with fail
    go_ret
    exact ⟨rfl, HB4.out⟩
  have d2 : decide ((6000 : Int) < (np : Int)) = false := decide_eq_false (by omega)
  by_cases c3 : 200 < nq
  · have d3 : decide ((200 : Int) < (nq : Int)) = true := decide_eq_true (by omega)
    go_wp2_with fail
    go_ret
    exact ⟨rfl, HB4.out⟩
  have d3 : decide ((200 : Int) < (nq : Int)) = false := decide_eq_false (by omega)
  have hma := rmay_any g (.slice Ao g.opts.length co) (fun k => k < w.heap.size) W4 (HSG.out W4 HB4.out) (by omega)
  rw [hdV_eq] at hma
  have HMA := Lib.hid hma
  clear hma
  by_cases hmay : mayH g = true
  rotate_left
  · have hm2 : mayH g = false := by simpa using hmay
    rw [hm2] at HMA
    clear hm2 hmay
    go_wp2_with (go_at_call 37; refine HMA.out.mono ?_; rintro e w5 ⟨rfl, hb5⟩; have HB5 := Lib.hid (HB4.out.trans (hb5.mono HB4.out.size)); clear hb5)
    go_ret
    exact ⟨rfl, HB5.out⟩
  rw [hmay] at HMA
  have HMAY := Lib.hid hmay
  have hfit := fits_of (p := p) hmay (by have := HPN.out; omega)
  have HFIT := Lib.hid hfit
  have hpl := HPN.out
  clear hmay hfit
  go_upto_region 6 with (go_at_call 37; refine HMA.out.mono ?_; rintro e w5 ⟨rfl, hb5⟩; have HB5 := Lib.hid (HB4.out.trans (hb5.mono HB4.out.size)); have HK5 := Lib.hid (HK4.out.below hb5 HK4.out.lt); clear hb5)
  clear rl4 l10 d1 d2 d3 c1
  have rl5 := hd_load HK5.out rfl
  have hby := rbytes_any g (.slice Ao g.opts.length co) (.slice Ap np cp) p (fun k => k < w.heap.size) w5 (HSG.out w5 HB5.out) ⟨Ap, cp, by rw [HPN.out], by rw [HPN.out]; exact HPC.out, by rw [HPN.out]; exact HP.out w5 HB5.out⟩ HGOK.out HFIT.out
  rw [hdV_eq] at hby
  have HBY := Lib.hid hby
  clear hby
  have hbl : (bytesF g p).length ≤ 7000 := by rw [bytesF_len]; have := (may_opts HMAY.out).2.1; omega
  obtain ⟨b, hb⟩ : ∃ b, b = bytesF g p := ⟨_, rfl⟩
  rw [← hb] at HBY hbl
  have HBE := Lib.hid hb
  have HBL := Lib.hid hbl
  clear hb hbl
  go_upto_region 7 with (go_at_call 38; refine HBY.out.mono ?_; rintro e w6 ⟨v6, rfl, h6, hb6⟩; obtain ⟨A6, c6, rfl, hc6⟩ := h6.form; have HR6 := Lib.hid h6; have HC6 := Lib.hid hc6; have HB6 := Lib.hid (HB5.out.trans (hb6.mono HB5.out.size)); clear h6 hb6 hc6)
  clear rl5
  have hcu := rcut_any A6 b.length c6 b m _ w6 HR6.out.reads.2 rfl HC6.out (by have := HBL.out; omega)
  have HCU := Lib.hid hcu
  clear hcu
  obtain ⟨ce, hce⟩ : ∃ z, z = (cutF b m).2 := ⟨_, rfl⟩
  unfold RcPost at HCU
  rw [← hce] at HCU
  have HCE := Lib.hid hce
  clear hce
  go_upto_region 9 with (first
    | (go_at_call 39
       refine HCU.out.mono ?_
       rintro e w7 ⟨A7, c7, us, rfl, hl7, hb7⟩
       have HL7 := Lib.hid hl7
       have HB67 := Lib.hid hb7
       have HB7 := Lib.hid (HB6.out.trans (hb7.mono HB6.out.size))
       clear hl7 hb7)
    | (go_at_call 40
       refine (tnew_any w7).mono ?_
       rintro e w8 ⟨tb, mb, rfl, ht8, hb81, hb82, hbl8⟩
       have HTT := Lib.hid ht8
       have HTB := Lib.hid hb81
       have HMB := Lib.hid hb82
       have HB78 := Lib.hid hbl8
       have HB8 := Lib.hid (HB7.out.trans (hbl8.mono HB7.out.size))
       unfold ptrV
       clear ht8 hb81 hb82 hbl8))
  by_cases hc0 : ce = 0
  rotate_left
  · have b1 : ((ce : Int) != 0) = true := by rw [bne_iff_ne]; omega
    clear hc0
    go_wp2_with fail
    go_ret
    exact ⟨rfl, HB8.out⟩
  have b1 : ((ce : Int) != 0) = false := by rw [bne_eq_false_iff_eq]; omega
  have hcut := HCE.out
  rw [hc0, HBE.out] at hcut
  obtain ⟨N, X, St, PC, hcl, hxl⟩ := cut_pcs HGOK.out HFIT.out HG0.out.1 HG0.out.2 hcut.symm
  have hN : (cutF b m).1.length = N := by rw [HBE.out, hcl]; simp
  have hN7 : N ≤ 7001 := by have := cut_len b m; rw [hN] at this; have := HBL.out; omega
  have hJ : ∀ k, (((w5.heap.size ≤ k ∧ k < w6.heap.size) ∧ k < w6.heap.size) ∨ (w6.heap.size ≤ k ∧ k < w7.heap.size)) → k ≠ tb ∧ k ≠ mb := fun k hk => by
    have h1 := HTB.out
    have h2 := HMB.out
    have h3 := HB67.out.size
    omega
  have hI : ∀ k, k < w.heap.size → k ≠ tb ∧ k ≠ mb := fun k hk => by
    have h1 := HTB.out
    have h2 := HMB.out
    have h3 := HB7.out.size
    omega
  have hmu8 : ∀ x, TbMut tb mb [] x → x = tb ∨ x = mb ∨ w8.heap.size ≤ x := fun x hx => by
    rcases hx with hx | hx | ⟨q, hq, _⟩
    · exact .inl hx
    · exact .inr (.inl hx)
    · cases hq
  have hS8 : TkS w w8 tb mb [] w8 := ⟨HTT.out, hmu8, ⟨Nat.le_refl _, fun _ _ _ => rfl⟩, Nat.le_trans HB7.out.size HTB.out, Nat.le_trans HB7.out.size HMB.out, HB8.out⟩
  have hl8 := HL7.out.keep (Same.ofBelow HB78.out fun k hk => by rcases hk with hk | hk; exact Nat.lt_of_lt_of_le hk.2 HB67.out.size; exact hk.2)
  rw [show (cutF b m).1 = (List.range N).map X by rw [HBE.out, hcl]] at hl8
  have hlen : ((List.range N).map X).length = N := by simp
  rw [hlen] at hl8
  have HEL := Lib.hid (show ∀ k, k < N → ∃ ad Ax cx, A7 = some ad ∧ w8.cell? (ad.add k) = some (.slice Ax (X k).length cx) ∧ (X k).length ≤ cx ∧ Reads w8 _ 1 Ax (X k).length (bytesV (X k)) ∧ ad.block ≠ tb ∧ ad.block ≠ mb from fun k hk => by
    obtain ⟨hr, _, he⟩ := hl8
    obtain ⟨Ax, cx, h1, h2, h3⟩ := he k (X k) (by simp [hk])
    obtain ⟨ad, e, h4, _, h5⟩ := hr.2 (by omega)
    exact ⟨ad, Ax, cx, e, h5 k _ h1, h2, h3, (hJ _ h4).1, (hJ _ h4).2⟩)
  have HJ := Lib.hid hJ
  have HI := Lib.hid hI
  have HS8 := Lib.hid hS8
  have HD8 := Lib.hid HB8.out.size
  have HL8 := Lib.hid (HL.out w8 HB8.out)
  have HRB8 := Lib.hid (show Reads w8 (fun k => w5.heap.size ≤ k ∧ k < w6.heap.size) 1 A6 b.length (bytesV b) from (HR6.out.reads.2).keep (Same.ofBelow (HB67.out.trans (HB78.out.mono HB67.out.size)) fun k hk => hk.2))
  have HJB := Lib.hid (show ∀ k, (w5.heap.size ≤ k ∧ k < w6.heap.size) → k ≠ tb ∧ k ≠ mb from fun k hk => hJ k (.inl ⟨hk, hk.2⟩))
  have HXL := Lib.hid hxl
  have HPCS := Lib.hid PC
  rw [← HBE.out] at HPCS
  rw [hN]
  clear hJ hI hmu8 hS8 hl8 hlen hcut hcl hxl PC hc0 HL7 hN hpl
  go_wp2_with fail
  clear b1
  go_loopw [13, 14] (fun s13 s14 wr => ∃ (j s : Nat) (G : List GF), s13 = .int .i64 (s : Int) ∧ s14 = .int .i64 (j : Int) ∧ s ≤ j ∧ j ≤ nq ∧ TkS w w8 tb mb G wr ∧ St ((l.take j).drop s) (G.map GF.f)) (fun _ s14 _ => nq - (intOf s14).toNat)
  case atStart => exact ⟨0, 0, [], rfl, rfl, Nat.le_refl _, Nat.zero_le _, HS8.out, HPCS.out.init⟩
  case round =>
    obtain ⟨j, s, G, rfl, rfl, hsj, hj, hS, hSt⟩ := hrel
    have HS := Lib.hid hS
    have HST := Lib.hid hSt
    clear hS hSt
    by_cases hlt : j < nq
    · obtain ⟨z, hz⟩ : ∃ z, l[j]? = some z := ⟨_, List.getElem?_eq_getElem (by have := HLN.out; omega)⟩
      have hrl := HS.out.reads HL8.out HI.out
      obtain ⟨ado, hado, _, _, hco⟩ := hrl.2 (by omega)
      subst hado
      have cz := hco j _ (intV_get hz)
      have rz := ld_int cz
      have htk : (l.take (j + 1)).drop s = (l.take j).drop s ++ [z] := by
        rw [List.take_add_one, hz, List.drop_append_of_le_length (by rw [List.length_take]; have := HLN.out; omega)]
        rfl
      have HTK := Lib.hid htk
      have i0' : (0 : Int) ≤ j := by omega
      have i1' : (j : Int) < nq := by omega
      clear hco htk hz
      by_cases hz0 : z < 0
      · have HSK := Lib.hid (HPCS.out.skip _ _ z HST.out (.inl hz0))
        clear hrl
        go_wp2_with fail
        go_roundw
        case rel => exact ⟨j + 1, s, G, rfl, by go_num, by omega, by omega, HS.out, by rw [HTK.out]; exact HSK.out⟩
        case measure => simp [intOf]; omega
      by_cases hzN : (N : Int) ≤ z
      · have HSK := Lib.hid (HPCS.out.skip _ _ z HST.out (.inr hzN))
        have hz1 : ¬ z < 0 := hz0
        clear hrl
        go_wp2_with fail
        go_roundw
        case rel => exact ⟨j + 1, s, G, rfl, by go_num, by omega, by omega, HS.out, by rw [HTK.out]; exact HSK.out⟩
        case measure => simp [intOf]; omega
      obtain ⟨k, rfl⟩ : ∃ k : Nat, z = (k : Int) := ⟨z.toNat, by omega⟩
      have hkN : k < N := by omega
      obtain ⟨ad, Ax, cx, e7, hcell, hxc, hrx, hn1, hn2⟩ := HEL.out k hkN
      subst e7
      have ck := HS.out.cell hcell (by rw [block_of_add]; exact hn1) (by rw [block_of_add]; exact hn2)
      have HTAKE := Lib.hid (rtake_any tb mb G Ax (X k).length cx (X k) _ wr HS.out.tbm (HS.out.reads hrx HJ.out) rfl hxc (by have := HXL.out k hkN; omega))
      obtain ⟨pt, pf⟩ := HPCS.out.take _ _ k HST.out hkN
      have HPT := Lib.hid pt
      have HPF := Lib.hid pf
      have hsl := fun wx => sli_lohi (some ado) nq cq wx s (j + 1) (by omega) (by have := HLC.out; omega)
      have e8 : ((j + 1 : Nat) : Int) = (j : Int) + 1 := by omega
      rw [e8] at hsl
      have k0' : (0 : Int) ≤ (k : Int) := by omega
      have k1' : (k : Int) < (N : Int) := by omega
      have rk := ld8a ck
      obtain ⟨At, hAt⟩ : ∃ x, x = (if cq = s then some ado else (some ado).map (·.add s)) := ⟨_, rfl⟩
      obtain ⟨ct, hct⟩ : ∃ x, x = cq - s := ⟨_, rfl⟩
      obtain ⟨nt, hnt⟩ : ∃ x, x = j + 1 - s := ⟨_, rfl⟩
      rw [← hAt, ← hct, ← hnt] at hsl
      have HIN := Lib.hid (fun wx (hr : Reads wx (fun k => k < w.heap.size) 1 (some ado) nq (intV l)) => in_any At nt ct N ((l.take (j + 1)).drop s) _ wx (by rw [hAt, hnt]; exact cuti_lohi (by rw [HLN.out]; exact hr) (by omega) (by have := HLN.out; omega) (by have := HLN.out; have := HLC.out; omega)) (by rw [hnt, List.length_drop, List.length_take]; have := HLN.out; omega) (by omega) (by omega))
      rw [HTK.out] at HIN
      clear hAt hct hnt hrl hrx hcell hxc hn1 hn2 pt pf e8 hz0 hzN cz ck
      cases hin : inF ((l.take j).drop s ++ [(k : Int)]) N with
      | true =>
        rw [hin] at HIN
        obtain ⟨T', htf, hst⟩ := HPT.out hin
        have HTF := Lib.hid htf
        have HST' := Lib.hid hst
        clear hin htf hst
        go_upto_region 17 with
          (go_at_call 41
           refine HTAKE.out.mono ?_
           intro e w9 hp9
           obtain ⟨v9, G9, he9, hv9, hg9, hs9, _, _⟩ := HS.out.take HD8.out hp9
           subst he9
           rw [HTF.out] at hv9 hg9 ⊢
           obtain ⟨A9, c9, rfl, _⟩ := hv9.form
           have HV9 := Lib.hid hv9
           have HG9 := Lib.hid hg9
           have HS9 := Lib.hid hs9
           clear hp9 hv9 hg9 hs9)
        clear rz rk
        go_upto_region 18 with
          (go_at_call 42
           refine (HIN.out w9 (HS9.out.reads HL8.out HI.out)).mono ?_
           rintro e w10 ⟨rfl, hb10⟩
           have HS10 := Lib.hid (HS9.out.keep hb10)
           have HV10 := Lib.hid (HV9.out.below hb10)
           clear hb10)
        have s1 := run_str w10 _ A9 b c9 HV10.out.reads.2
        have s2 := run_str w10 _ A6 b c6 (HS10.out.reads HRB8.out HJB.out)
        have t1 : ((⟨b.toArray⟩ : ByteArray) != ⟨b.toArray⟩) = false := by have := bytes_beq b b; simp only [bne, this]; simp
        go_wp2_with (go_at_call 43; refine (HNM.out _ _).mono ?_; rintro e w' ⟨rfl, rfl⟩)
        go_roundw
        case rel => exact ⟨j + 1, j + 1, G9, by go_num, by go_num, Nat.le_refl _, by omega, HS10.out, by rw [HG9.out, List.drop_of_length_le (by rw [List.length_take]; omega)]; exact HST'.out⟩
        case measure => simp [intOf]; omega
      | false =>
        rw [hin] at HIN
        obtain ⟨T', htf, hst⟩ := HPF.out hin
        have HTF := Lib.hid htf
        have HST' := Lib.hid hst
        clear hin htf hst
        go_upto_region 17 with
          (go_at_call 41
           refine HTAKE.out.mono ?_
           intro e w9 hp9
           obtain ⟨v9, G9, he9, hv9, hg9, hs9, _, _⟩ := HS.out.take HD8.out hp9
           subst he9
           rw [HTF.out] at hv9 hg9 ⊢
           obtain ⟨A9, c9, rfl, _⟩ := hv9.form
           have HV9 := Lib.hid hv9
           have HG9 := Lib.hid hg9
           have HS9 := Lib.hid hs9
           clear hp9 hv9 hg9 hs9)
        clear rz rk
        go_upto_region 18 with
          (go_at_call 42
           refine (HIN.out w9 (HS9.out.reads HL8.out HI.out)).mono ?_
           rintro e w10 ⟨rfl, hb10⟩
           have HS10 := Lib.hid (HS9.out.keep hb10)
           have HV10 := Lib.hid (HV9.out.below hb10)
           clear hb10)
        go_wp2_with (go_at_call 43; refine (HNM.out _ _).mono ?_; rintro e w' ⟨rfl, rfl⟩)
        go_roundw
        case rel => exact ⟨j + 1, s, G9, rfl, by go_num, by omega, by omega, HS10.out, by rw [HG9.out, HTK.out]; exact HST'.out⟩
        case measure => simp [intOf]; omega
    · have hjn : ¬ ((j : Int) < (nq : Int)) := by omega
      go_wp2_with fail
      go_ret
      exact ⟨rfl, HS.out.below⟩
end Go.Proofs.Ytihfihehiifdkaa
