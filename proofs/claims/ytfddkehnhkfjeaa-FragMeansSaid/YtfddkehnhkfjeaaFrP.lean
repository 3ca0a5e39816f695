/- Frag: FragMeans' walk. -/
import Derived.Test.YtfddkehnhkfjeaaFrK
import Derived.Test.YtfddkehnhkfjeaaFrM
import Derived.Test.YtfddkehnhkfjeaaIpG
import Derived.Deep.QuietTactic
import Derived.BigQuiet
namespace Go.Proofs.Ytfddkehnhkfjeaa
open Go.RowKit Go.Sort Go.BigFrame
set_option maxRecDepth 100000 in
set_option maxHeartbeats 16000000 in
attribute [-go_sem] Instr.storeAt Instr.loadAt in
theorem fragmeans_any (h : Hd) (v vp : Value) (p : By) (m : Int) (w : World) (hv : Sl8 w (fun k => k < w.heap.size) v h.opts) (hp : Sl8 w (fun k => k < w.heap.size) vp p) (hok : h.ok) :
    Calls Try.prog 12 #[hdV h v, vp, .int .i64 m] w fun e w' => e = .returned (.bool true) ∧ Below w.heap.size w w' := by
  have HK := Lib.hid (fun wx => known15_any wx)
  have HNM := Lib.hid (fun z wx => num15_any z wx)
  have HV := Lib.hid (show ∀ wx, Below w.heap.size w wx → Sl8 wx (fun k => k < w.heap.size) v h.opts from fun wx hb => hv.keep (Same.ofBelow hb fun k hk => hk))
  have HP := Lib.hid (show ∀ wx, Below w.heap.size w wx → Sl8 wx (fun k => k < w.heap.size) vp p from fun wx hb => hp.keep (Same.ofBelow hb fun k hk => hk))
  have HOK := Lib.hid hok
  obtain ⟨A1, c1, rfl, _, _⟩ := hv
  obtain ⟨A2, c2, rfl, _, _⟩ := hp
  obtain ⟨n1, hn1⟩ : ∃ n, n = h.opts.length := ⟨_, rfl⟩
  obtain ⟨n2, hn2⟩ : ∃ n, n = p.length := ⟨_, rfl⟩
  rw [← hn1] at HV ⊢
  rw [← hn2] at HP ⊢
  have HN1 := Lib.hid hn1
  have HN2 := Lib.hid hn2
  obtain ⟨W, hW⟩ : ∃ W, W = w.alloc (.cells (hdC h (.slice A1 n1 c1)) 28) := ⟨_, rfl⟩
  have hbA : Below w.heap.size w W := by rw [hW]; exact (Below.refl _ _).alloc (Nat.le_refl _) _
  have HX := Lib.hid (show Blk W w.heap.size 28 (hdC h (.slice A1 n1 c1)) from by rw [hW]; exact Blk.new w 28 (hdC h (.slice A1 n1 c1)))
  have HB := Lib.hid hbA
  have HW := Lib.hid hW
  unfold hdC at HW
  clear hW hbA hn1 hn2 hok
  unfold hdV
  go_enter Try.func12, Try.ntmps12
  go_upto_region 1 with (fail)
  rw [← HW.out]
  go_wp2_with fail
  refine (HK.out W).mono ?_
  rintro e w1 ⟨rfl, hb1⟩
  have HX1 := Lib.hid (HX.out.below hb1 HX.out.lt)
  have HB1 := Lib.hid (HB.out.trans (hb1.mono HB.out.size))
  clear hb1
  have hl1 := ld8s (HX1.out.cell 10)
  have hld := hd_load HX1.out rfl
  by_cases hbig : 300 < n1 ∨ 9000 < n2
  · by_cases b1 : 300 < n1
    · have d1 : decide ((300 : Int) < (n1 : Int)) = true := decide_eq_true (by omega)
      clear b1 hbig
      go_wp2_with fail
      go_ret
      exact ⟨rfl, HB1.out⟩
    · have d1 : decide ((300 : Int) < (n1 : Int)) = false := decide_eq_false (by omega)
      have d2 : decide ((9000 : Int) < (n2 : Int)) = true := decide_eq_true (by omega)
      clear b1 hbig
      go_wp2_with fail
      go_ret
      exact ⟨rfl, HB1.out⟩
  have d1 : decide ((300 : Int) < (n1 : Int)) = false := decide_eq_false (by omega)
  have d2 : decide ((9000 : Int) < (n2 : Int)) = false := decide_eq_false (by omega)
  have HS1 := Lib.hid (show n1 ≤ 300 ∧ n2 ≤ 9000 by omega)
  have hmy := rmay_any h (.slice A1 n1 c1) _ w1 (HV.out w1 HB1.out) (by have := HN1.out; omega)
  obtain ⟨my, hmy0⟩ : ∃ b, b = mayH h := ⟨_, rfl⟩
  rw [← hmy0] at hmy
  have HMY := Lib.hid hmy
  have HM0 := Lib.hid hmy0
  clear hmy hmy0 hbig
  cases my with
  | false =>
      go_wp2_with fail
      refine HMY.out.mono ?_
      rintro e w2 ⟨rfl, hb2⟩
      have HB2 := Lib.hid (HB1.out.trans (hb2.mono HB1.out.size))
      clear hb2
      go_wp2_with fail
      go_ret
      exact ⟨rfl, HB2.out⟩
  | true =>
    go_wp2_with fail
    refine HMY.out.mono ?_
    rintro e w2 ⟨rfl, hb2⟩
    have hf : fitsH h p = true := by
      unfold fitsH
      rw [← HM0.out]
      have h40 := (may_opts HM0.out.symm).2.1
      have := HN2.out
      have := HS1.out
      simp only [Bool.true_and, decide_eq_true_eq]
      omega
    have hb02 := HB1.out.trans (hb2.mono HB1.out.size)
    have hby := rbytes_any h (.slice A1 n1 c1) (.slice A2 n2 c2) p _ w2 (HV.out w2 hb02) (HP.out w2 hb02) HOK.out hf
    have hk2 := HX1.out.below hb2 HX1.out.lt
    have hld2 := hd_load hk2 rfl
    have hlen := bytesF_len h p
    have hlaw := cut_bytes HOK.out hf m
    obtain ⟨b, hb⟩ : ∃ b, b = bytesF h p := ⟨_, rfl⟩
    rw [← hb] at hby hlen hlaw
    have HBY := Lib.hid hby
    have HB2 := Lib.hid hb02
    have HX2 := Lib.hid hk2
    have HLAW := Lib.hid hlaw
    have HLEN := Lib.hid hlen
    have HBB := Lib.hid hb
    have hbl : b.length ≤ 1000000 := by
      have := HN1.out
      have := HN2.out
      have := HS1.out
      omega
    clear hb hby hb2 hb02 hf hlen hlaw hld hk2
    go_wp2_with fail
    refine HBY.out.mono ?_
    rintro e w3 ⟨v3, rfl, hr3, hb3⟩
    obtain ⟨A3, c3, rfl, hc3⟩ := hr3.form
    obtain ⟨n3, hn3⟩ : ∃ n, n = b.length := ⟨_, rfl⟩
    have hrd := hr3.reads.2
    rw [← hn3] at hrd hc3 hbl ⊢
    have HB3 := Lib.hid (HB2.out.trans (hb3.mono HB2.out.size))
    have HX3 := Lib.hid (HX2.out.below hb3 HX2.out.lt)
    have HRD := Lib.hid hrd.lt
    have HC := Lib.hid hc3
    have HN3 := Lib.hid hn3.symm
    have hcu := fcut_any A3 n3 c3 b m _ w3 HRD.out HN3.out HC.out hbl
    have HCU := Lib.hid hcu
    clear hr3 hb3 hrd hc3 hn3 hcu hld2 hl1
    rcases HLAW.out with ⟨h0, h68, hm2, hl, hoff⟩ | ⟨hnil, herr⟩
    · obtain ⟨R, hR⟩ : ∃ R, R = cutF b m := ⟨_, rfl⟩
      rw [← hR] at HCU h0 hl
      obtain ⟨Ls, en⟩ := R
      simp only at h0 hl
      subst h0
      obtain ⟨m', hm'⟩ : ∃ m' : Nat, m' = m.toNat := ⟨_, rfl⟩
      have hmm : (m' : Int) = m := by omega
      have h68' : 68 ≤ m' := by omega
      have hm2' : m' ≤ 65535 := by omega
      rw [← hm'] at hl hoff
      have hne := cut_ne (L := p.length) h68' HM0.out.symm
      have htwo := cut_two (L := p.length) HM0.out.symm h68'
      have hend := cut_end (L := p.length) HM0.out.symm h68'
      have hck := fun k hk => cut_k HOK.out HM0.out.symm h68' hm2' hoff (k := k) hk
      have hone : 20 + h.opts.length + p.length ≤ m' → Ls = [b] := fun hh => by
        rw [hl, HBB.out]
        unfold cutP
        rw [if_pos hh]
        simp [pbF, partF]
      have hLl : Ls.length = (cutP h p.length m').length := by rw [hl, List.length_map]
      have HL := Lib.hid hl
      have HONE := Lib.hid hone
      have HTWO := Lib.hid htwo
      have HEND := Lib.hid hend
      have HCK := Lib.hid hck
      obtain ⟨N, hN⟩ : ∃ N, N = Ls.length := ⟨_, rfl⟩
      have hN0 : 0 < N := by omega
      have HNQ := Lib.hid (hN.trans hLl)
      have hNb : N ≤ 9001 := by
        have := cutP_len h p.length m'
        have := HN2.out
        have := HS1.out
        omega
      have HN := Lib.hid hN
      clear hl hone htwo hend hck hLl hne hR hm' hoff hN
      go_wp2_with fail
      refine HCU.out.mono ?_
      rintro e w4 ⟨v4, rfl, hr4, hb4⟩
      obtain ⟨g4, c4, rfl, hcl4⟩ : ∃ g4 c4, v4 = .slice (some ⟨g4, 0, none⟩) N c4 ∧ N ≤ c4 := by
        obtain ⟨us, ho, _⟩ := hr4
        simp only at ho
        rw [← HN.out] at ho
        exact own_form1 ho hN0
      obtain ⟨ad, had⟩ : ∃ ad : Addr, ad = ⟨g4, 0, none⟩ := ⟨_, rfl⟩
      rw [← had] at hr4 ⊢
      have HR4 := Lib.hid hr4
      have HB4 := Lib.hid (HB3.out.trans (hb4.mono HB3.out.size))
      have HB34 := Lib.hid hb4
      have HX4 := Lib.hid (HX3.out.below hb4 HX3.out.lt)
      have HS3 := Lib.hid (show w.heap.size < w3.heap.size from HX3.out.lt)
      clear hr4 hb4 had hcl4
      by_cases hfit : (n3 : Int) ≤ m
      · have hd : decide ((n3 : Int) ≤ m) = true := decide_eq_true hfit
        have h1 := HONE.out (by have := HN3.out; have := HLEN.out; omega)
        obtain rfl : N = 1 := by rw [HN.out, h1]; rfl
        obtain ⟨A5, c5, hc0, _, hr5⟩ := HR4.out.read (Below.refl _ _) (k := 0) (x := b) (by simp only; rw [h1]; rfl)
        rw [HN3.out] at hc0 hr5
        have ha0 : ad.add 0 = ad := by simp [Addr.add]
        rw [ha0] at hc0
        have hl5 := fun (nd : Nat) => ld8a (w := w4.drewN nd) (show (w4.drewN nd).cell? ad = _ from hc0)
        have s1 := fun wx (e : wx.heap = w4.heap) => run_str wx _ A5 b c5 ((show Reads w4 _ 1 A5 b.length (bytesV b) by rw [HN3.out]; exact hr5).keep (Same.ofHeap _ e))
        have s2 := fun wx (e : wx.heap = w4.heap) => run_str wx _ A3 b c3 ((show Reads w4 _ 1 A3 b.length (bytesV b) by rw [HN3.out]; exact HRD.out.keep (Same.ofBelow HB34.out fun k hk => hk.2)).keep (Same.ofHeap _ e))
        rw [HN3.out] at s1 s2
        have HA0 := Lib.hid ha0
        clear h1 hr5 hfit hc0 ha0
        go_upto_region 10 with (go_at_call 43; refine (HNM.out _ _).mono ?_; rintro e w' ⟨rfl, rfl⟩)
        go_quiet (first | (rw [s1 (w4.drewN _) rfl]; exact ⟨rfl, rfl⟩) | (rw [s2 (w4.drewN _) rfl]; exact ⟨rfl, rfl⟩))
        go_wp2_with fail
        go_ret
        exact ⟨rfl, HB4.out.trans ⟨rfl, rfl, rfl, Nat.le_refl _, fun _ _ => rfl⟩⟩
      · have hd : decide ((n3 : Int) ≤ m) = false := decide_eq_false hfit
        have hN1 : 1 < N := by
          have := HTWO.out (by have := HN3.out; have := HLEN.out; omega)
          have := HNQ.out
          omega
        clear hfit
        go_wp2_with (go_at_call 43; refine (HNM.out _ _).mono ?_; rintro e w' ⟨rfl, rfl⟩)
        go_loopw [10, 11] (fun s10 i wr => ∃ k : Nat, i = .int .i64 (k : Int) ∧ k ≤ N ∧ Below w4.heap.size w4 wr ∧ Row8 w4.heap.size wr s10 (p.take (posF (cutP h p.length m') k))) (fun _ i _ => N - (intOf i).toNat)
        case atStart => exact ⟨0, rfl, Nat.zero_le _, Below.refl _ _, Row8.nil _ _⟩
        case round =>
          obtain ⟨k, rfl, hkN, hbr, hrow⟩ := hrel
          have hi0 : (0 : Int) ≤ k := by omega
          by_cases hlt : k < N
          · obtain ⟨x, g, y, hx, K, hps⟩ := HCK.out k (by rw [← HNQ.out]; exact hlt)
            rw [← HL.out] at hx
            rw [← HNQ.out] at K
            obtain ⟨a, ha⟩ : ∃ a, a = posF (cutP h p.length m') k := ⟨_, rfl⟩
            rw [← ha] at K hps hrow
            have hle := K.le
            have hla : (p.take a).length = a := by rw [List.length_take]; omega
            obtain ⟨A5, c5, hc5, hcc5, hr5⟩ := HR4.out.read hbr hx
            obtain ⟨nx, hnx⟩ : ∃ nx, nx = x.length := ⟨_, rfl⟩
            have hxl := K.len
            rw [← hnx] at hc5 hcc5 hr5 hxl
            obtain ⟨Aa, ca, rfl, _⟩ := hrow.form
            rw [hla] at hrow ⊢
            obtain ⟨ny, hny⟩ : ∃ ny, ny = y.length := ⟨_, rfl⟩
            have hi1 : (k : Int) < N := by omega
            have lx := ld8a hc5
            have hfi := ffits_any A5 nx c5 x m _ wr hr5 hnx.symm hcc5 (by omega)
            have hkf := K.fit
            rw [hmm] at hkf
            rw [hkf] at hfi
            have HFI := Lib.hid hfi
            have HR5 := Lib.hid hr5
            have HC5 := Lib.hid hc5
            have HCC5 := Lib.hid hcc5
            have HNX := Lib.hid hnx
            have HNY := Lib.hid hny
            have HKK := Lib.hid K
            have HPS := Lib.hid hps
            have HBR := Lib.hid hbr
            have HROW := Lib.hid hrow
            have HLA := Lib.hid hla
            have HA := Lib.hid ha
            have han : a ≤ 9000 := by have := HN2.out; have := HS1.out; omega
            have hyn : ny ≤ 9000 := by have := HN2.out; have := HS1.out; omega
            have hap : 0 < ny := by rw [hny]; exact K.pos hN1
            have hap0 : ((ny : Int) == 0) = false := by rw [beq_eq_false_iff_ne]; omega
            have HAP := Lib.hid hap
            clear hap
            clear hfi hkf hr5 hc5 hcc5 hnx hny K hps hbr hrow hla ha hle
            go_upto_region 19 with (first
              | (go_at_call 43; refine (HNM.out _ _).mono ?_; rintro e w' ⟨rfl, rfl⟩)
              | (go_at_call 44
                 refine HFI.out.mono ?_
                 rintro e w5 ⟨rfl, hb5⟩
                 have HB5 := Lib.hid hb5
                 have lx5 := ld8a ((hb5.cell (block_lt_of_cell HC5.out)).trans HC5.out)
                 have hpa := parse_any A5 nx c5 x _ w5 ((HR5.out.lt).keep (Same.ofBelow hb5 fun j hj => hj.2)) HNX.out.symm HCC5.out (by omega)
                 rw [HKK.out.prs] at hpa
                 have HPA := Lib.hid hpa
                 clear hb5 hpa)
              | (go_at_call 16
                 refine HPA.out.mono ?_
                 rintro e w6 ⟨vo, vq, rfl, ho, hq, _, hb6⟩
                 obtain ⟨Ao, co, rfl, _⟩ := ho.form
                 obtain ⟨Aq, cq, rfl, _⟩ := hq.form
                 rw [show (g, y, 0).2.1.length = ny from HNY.out.symm]
                 obtain ⟨w7, hst7, hb7, hb67, hk7⟩ := hd_var hb6 hb6.size g Ao g.opts.length co
                 have hb57 := HB5.out.trans (hb7.mono HB5.out.size)
                 have HB7 := Lib.hid hb57
                 have HK7 := Lib.hid hk7
                 have HO7 := Lib.hid (ho.below hb67)
                 have HQ7 := Lib.hid (show Row8 w5.heap.size w7 (.slice Aq ny cq) y by rw [HNY.out]; exact hq.below hb67)
                 have HX7 := Lib.hid ((HX4.out.below HBR.out HX4.out.lt).below hb57 (Nat.lt_of_lt_of_le HX4.out.lt HBR.out.size))
                 clear ho hq hb6 hb7 hb67 hk7 hb57))
            rename_i KA hKA
            have HKA := Lib.hid hKA
            clear hKA
            have hld7 := hd_load HX7.out rfl
            obtain ⟨w8, hst8', hb8, hb78, hk8⟩ := hd_var HB7.out HB7.out.size h A1 n1 c1
            have hst8 : (Instr.storeAt 28 (.pointer (some ⟨w7.heap.size, 0, none⟩)) (.agg (hdC h (.slice A1 n1 c1)))).run Try.prog (w7.alloc (.cells #[.int .u8 0, .int .u16 0, .bool false, .bool false, .bool false, .int .i64 0, .int .u8 0, .int .u8 0, .int .u32 0, .int .u32 0, .slice none 0 0] 28)) = .ok () w8 := hst8'
            have hx8 := HX7.out.below hb78 HX7.out.lt
            have hbw8 := HB4.out.trans ((HBR.out.trans (hb8.mono HBR.out.size)).mono HB4.out.size)
            have hwz : w.heap.size < w7.heap.size := HX7.out.lt
            have hwz2 : w.heap.size ≠ w7.heap.size := Nat.ne_of_lt hwz
            have hopt8 : Sl8 w8 (fun j => j ≠ w7.heap.size ∧ j < w8.heap.size) (.slice A1 n1 c1) h.opts := (HV.out w8 hbw8).mono fun j hj => ⟨by omega, Nat.lt_of_lt_of_le hj hbw8.size⟩
            have hrc8 : RcS w7 w8 w7.heap.size h (.slice A1 n1 c1) := ⟨hb78, hk8, Nat.le_refl _, hopt8⟩
            have HRC8 := Lib.hid hrc8
            have HX8 := Lib.hid hx8
            have HBW8 := Lib.hid hbw8
            have HB7w := Lib.hid (HB4.out.trans ((HBR.out.trans (HB7.out.mono HBR.out.size)).mono HB4.out.size))
            have HWZ := Lib.hid hwz
            clear hst8' hb8 hb78 hk8 hx8 hbw8 hopt8 hrc8
            go_wp2_with fail
            refine HKA.out _ _ ?_
            clear hld7 hst8
            obtain ⟨mfl, hmf⟩ : ∃ b, b = h.mf := ⟨_, rfl⟩
            obtain ⟨of0, hof⟩ : ∃ z, z = h.off := ⟨_, rfl⟩
            obtain ⟨_, h40, h44, ho0, ho1⟩ := may_opts HM0.out.symm
            rw [← hof] at ho0 ho1
            have lo := ld_int (show w8.cell? ⟨w.heap.size, 5, none⟩ = some (.int .i64 of0) by rw [hof]; exact HX8.out.cell 5)
            have lm := ld_bool (show w8.cell? ⟨w.heap.size, 4, none⟩ = some (.bool mfl) by rw [hmf]; exact HX8.out.cell 4)
            have HMF := Lib.hid hmf
            have HOF := Lib.hid hof
            clear hmf hof
            have hwz3 : w.heap.size ≠ w7.heap.size := by have := HWZ.out; omega
            refine wp_join (fun _ w' => RcS w7 w' w7.heap.size { h with off := of0 + (a : Int) / 8, mf := mfl || decide (k + 1 < N) } (.slice A1 n1 c1)) [106, 107, 108, 109, 110, 111, 112, 113, 114, 115, 116, 117, 118, 119, 120, 121, 122] ?_ ?_
            · intro K2 hK2
              have HJ := Lib.hid hK2
              clear hK2
              have s5 := st_int (HRC8.out.var.cell 5) (HRC8.out.var.frozen 5) (of0 + (a : Int) / 8)
              obtain ⟨W9, hW9⟩ : ∃ W9, W9 = w8.setCell ⟨w7.heap.size, 5, none⟩ (.int .i64 (of0 + (a : Int) / 8)) := ⟨_, rfl⟩
              rw [← hW9] at s5
              have hrc9 : RcS w7 W9 w7.heap.size { h with off := of0 + (a : Int) / 8 } (.slice A1 n1 c1) := by rw [hW9]; exact HRC8.out.set 5 _ rfl rfl
              have s4 := fun b => st_boolv (hrc9.var.cell 4) (hrc9.var.frozen 4) b
              have HRC9 := Lib.hid hrc9
              clear hW9 hrc9
              cases mfl with
              | true =>
                go_wp2_with fail
                refine join_ap HJ.out (by kernel_rfl) ?_
                exact HRC9.out.set 4 _ rfl rfl
              | false =>
                by_cases hkl : k + 1 < N
                · have e1 : decide ((k : Int) < (N : Int) - 1) = true := decide_eq_true (by omega)
                  have HKL := Lib.hid (decide_eq_true hkl)
                  clear hkl
                  go_wp2_with fail
                  refine join_ap HJ.out (by kernel_rfl) ?_
                  rw [HKL.out]
                  exact HRC9.out.set 4 _ rfl rfl
                · have e1 : decide ((k : Int) < (N : Int) - 1) = false := decide_eq_false (by omega)
                  have HKL := Lib.hid (decide_eq_false hkl)
                  clear hkl
                  go_wp2_with fail
                  refine join_ap HJ.out (by kernel_rfl) ?_
                  rw [HKL.out]
                  exact HRC9.out.set 4 _ rfl rfl
            · intro s9 w9 hrc9
              simp only [List.foldl_cons, List.foldl_nil, List.setIfInBounds_toArray, List.set_cons_zero, List.set_cons_succ]
              clear lo lm
              obtain ⟨o, ho⟩ : ∃ o, o = if 0 < k then copF h.opts else h.opts := ⟨_, rfl⟩
              have HO := Lib.hid ho
              have hge : g = { h with off := of0 + (a : Int) / 8, opts := o, mf := mfl || decide (k + 1 < N) } := by rw [HKK.out.hd, ho, HMF.out, HOF.out]
              have HGE := Lib.hid hge
              have hgo : g.opts = o := by rw [hge]
              have HGO := Lib.hid hgo
              have HRC9 := Lib.hid hrc9
              have HX9 := Lib.hid (HX7.out.below hrc9.below HX7.out.lt)
              clear ho hge hgo hrc9
              refine wp_join (fun _ w' => ∃ A6 c6, RcS w7 w' w7.heap.size g (.slice A6 o.length c6)) [123, 124, 125, 126, 127, 128] ?_ ?_
              · intro K2 hK2
                have HJ := Lib.hid hK2
                clear hK2
                by_cases hk0 : 0 < k
                · have hk1 : (0 : Int) < k := by omega
                  have l10 := ld8s (HX9.out.cell 10)
                  have hw89 : Below w.heap.size w w9 := HB7w.out.trans (HRC9.out.below.mono HB7w.out.size)
                  have hcp := copied_any (.slice A1 n1 c1) h.opts _ w9 (HV.out w9 hw89) (by have := HN1.out; omega)
                  unfold CopPost at hcp
                  rw [show copF h.opts = o by rw [HO.out, if_pos hk0]] at hcp
                  have HCP := Lib.hid hcp
                  clear hcp hw89
                  go_wp2_with
                    (refine HCP.out.mono ?_
                     rintro e w5' ⟨v5, rfl, hr5, hb5⟩
                     obtain ⟨A6, c6, rfl, _⟩ := hr5.form
                     have hrc5 := HRC9.out.keep hb5
                     have s5 := st_8s (hrc5.var.cell 10) (hrc5.var.frozen 10) A6 o.length c6
                     have HRC5 := Lib.hid (hrc5.setOpts (hr5.sl.mono fun k hk => ⟨by have := HRC9.out.var.lt; omega, hk.2⟩))
                     clear hr5 hb5 hrc5)
                  refine join_ap HJ.out (by kernel_rfl) ?_
                  rw [HGE.out]
                  exact ⟨_, _, HRC5.out⟩
                · obtain rfl : k = 0 := by omega
                  have ho : o = h.opts := by rw [HO.out, if_neg hk0]
                  have HO2 := Lib.hid ho
                  clear ho
                  go_wp2_with fail
                  refine join_ap HJ.out (by kernel_rfl) ?_
                  rw [HGE.out, HO2.out, ← HN1.out]
                  exact ⟨A1, c1, HRC9.out⟩
              · rintro s10 w10 ⟨A6, c6, hrcA⟩
                simp only [List.foldl_cons, List.foldl_nil, List.setIfInBounds_toArray, List.set_cons_zero, List.set_cons_succ]
                have HRCA := Lib.hid hrcA
                have hnl : y.length = ny := HNY.out.symm
                have lt17 := hd_load hrcA.var rfl
                have hx14 := HK7.out.below hrcA.below HK7.out.lt
                have lt14 := hd_load hx14 rfl
                have hgl : g.opts.length ≤ 1000000 := by
                  have h1 := (may_opts HM0.out.symm).2.1
                  have h2 := (cop_le (may_opts HM0.out.symm).2.2.1).1
                  rw [HGO.out, HO.out]
                  split <;> omega
                have hsm := same_any g g (.slice Ao g.opts.length co) (.slice A6 o.length c6) _ _ w10 ((HO7.out.sl).keep (Same.ofBelow hrcA.below fun j hj => hj.2)) hrcA.opts hgl
                rw [(sameH_iff g g).2 rfl] at hsm
                have HSM := Lib.hid hsm
                have h8 := HKK.out.n8
                rw [hnl] at h8
                have H8 := Lib.hid h8
                clear hrcA hsm hx14 hnl h8 hgl
                refine wp_join (fun _ w' => Below w10.heap.size w10 w') [129, 130, 131, 132, 133, 134, 135, 136, 137, 138, 139, 140, 141, 142, 143, 144, 145] ?_ ?_
                · intro K2 hK2
                  have HJ := Lib.hid hK2
                  clear hK2
                  by_cases hkl : k + 1 < N
                  · have e1 : decide ((k : Int) < (N : Int) - 1) = true := decide_eq_true (by omega)
                    have e8 : (ny : Int) % 8 = 0 := by have := H8.out hkl; omega
                    have HKL := Lib.hid hkl
                    clear hkl
                    go_wp2_with (refine HSM.out.mono ?_; rintro e w11 ⟨rfl, hb11⟩; have HB11 := Lib.hid hb11; clear hb11)
                    refine join_ap HJ.out (by kernel_rfl) ?_
                    exact HB11.out
                  · have e1 : decide ((k : Int) < (N : Int) - 1) = false := decide_eq_false (by omega)
                    have HKL := Lib.hid hkl
                    clear hkl
                    go_wp2_with (refine HSM.out.mono ?_; rintro e w11 ⟨rfl, hb11⟩; have HB11 := Lib.hid hb11; clear hb11)
                    refine join_ap HJ.out (by kernel_rfl) ?_
                    exact HB11.out
                · intro s11 w11 hb11
                  simp only [List.foldl_cons, List.foldl_nil, List.setIfInBounds_toArray, List.set_cons_zero, List.set_cons_succ]
                  clear lt17 lt14
                  have hb7b := HRCA.out.below.trans (hb11.mono HRCA.out.below.size)
                  have hbrb := HB7.out.trans (hb7b.mono HB7.out.size)
                  have HQ11 := Lib.hid (HQ7.out.below hb7b)
                  have HROW11 := Lib.hid (HROW.out.below hbrb)
                  have HB411 := Lib.hid (HBR.out.trans (hbrb.mono HBR.out.size))
                  clear hb7b hbrb hb11
                  have hm63 : (p.take a).length + ny ≤ 140737488355328 := by rw [HLA.out]; omega
                  have hyr := HQ11.out.reads.2
                  have HYR := Lib.hid hyr
                  clear hyr
                  go_wp2_with
                    (at_builtin
                     refine wpList_app8 w11 rfl (.tmp 146) (.tmp 147) rfl rfl w4.heap.size _ (p.take a) rfl HROW11.out _ Aq ny cq y rfl HNY.out.symm HYR.out hm63 HB411.out.size ?_
                     intro v12 w12 h12 hg12 hz12
                     clear hz12
                     have HB12 := Lib.hid (HB411.out.grown hg12 HB411.out.size fun j e => (HROW11.out.lt e).1)
                     have H12 := Lib.hid h12
                     clear h12 hg12)
                  go_roundw
                  case rel =>
                    refine ⟨k + 1, by simp, by omega, HB12.out, ?_⟩
                    rw [HPS.out, ← HKK.out.app]
                    exact H12.out
                  case measure => simp [intOf]; omega
          · obtain rfl : k = N := by omega
            have HROW := Lib.hid hrow
            have HBR := Lib.hid hbr
            clear hrow hbr
            have hrw := HROW.out
            rw [HNQ.out, HEND.out, List.take_length] at hrw
            obtain ⟨Aa, ca, rfl, _⟩ := hrw.form
            have hbw := HB4.out.trans (HBR.out.mono HB4.out.size)
            have s1 := run_str wr _ Aa p ca hrw.reads.2
            obtain ⟨A', c', e', _, hrp⟩ := HP.out wr hbw
            injection e' with e1 e2 e3
            subst e1 e3
            have s2 := run_str wr _ A2 p c2 hrp
            rw [← e2] at s1 s2 ⊢
            have hd1 : decide ((1 : Int) < (k : Int)) = true := decide_eq_true (by omega)
            have HBW := Lib.hid hbw
            clear hrw hbw hrp e2
            go_wp2_with fail
            go_ret
            exact ⟨rfl, HBW.out⟩
    · obtain ⟨R, hR⟩ : ∃ R, R = cutF b m := ⟨_, rfl⟩
      rw [← hR] at HCU hnil herr
      obtain ⟨Ls, en⟩ := R
      simp only at hnil herr
      subst hnil
      have hen : ((en : Int) != 0) = true := by rw [bne_iff_ne]; omega
      clear herr hR
      go_wp2_with fail
      refine HCU.out.mono ?_
      rintro e w4 ⟨v4, rfl, hr4, hb4⟩
      obtain ⟨A4, c4, rfl, _⟩ := hr4.form
      have HB4 := Lib.hid (HB3.out.trans (hb4.mono HB3.out.size))
      clear hr4 hb4
      go_wp2_with (go_at_call 43; refine (HNM.out _ _).mono ?_; rintro e w' ⟨rfl, rfl⟩)
      go_ret
      exact ⟨rfl, HB4.out⟩
end Go.Proofs.Ytfddkehnhkfjeaa
