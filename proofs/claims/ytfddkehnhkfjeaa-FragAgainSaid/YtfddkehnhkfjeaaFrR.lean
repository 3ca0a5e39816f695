/- Frag: FragAgain's walk. -/
import Derived.Test.YtfddkehnhkfjeaaFrK
import Derived.Test.YtfddkehnhkfjeaaFrM
import Derived.Deep.QuietTactic
import Derived.BigQuiet
namespace Go.Proofs.Ytfddkehnhkfjeaa
open Go.RowKit Go.Sort Go.BigFrame
theorem take_more {p y : By} {a i : Nat} (h : p.take a ++ y = p.take (a + y.length)) (hl : a + y.length ≤ p.length) (hi : i ≤ y.length) : p.take (a + i) = p.take a ++ y.take i := by
  have hla : (p.take a).length = a := by rw [List.length_take]; omega
  have e := congrArg (List.take (a + i)) h
  rw [List.take_take, Nat.min_eq_left (by omega), List.take_append, hla, List.take_of_length_le (by rw [hla]; omega), show a + i - a = i by omega] at e
  exact e.symm
theorem take_two {p y y2 : By} {a b : Nat} (h : p.take a ++ y = p.take (a + y.length)) (hl : a + y.length ≤ p.length) (h2 : y.take b ++ y2 = y.take (b + y2.length)) (hl2 : b + y2.length ≤ y.length) : p.take (a + b) ++ y2 = p.take (a + (b + y2.length)) := by
  rw [take_more h hl (by omega), take_more h hl hl2, List.append_assoc, h2]
set_option maxRecDepth 100000 in
set_option maxHeartbeats 16000000 in
attribute [-go_sem] Instr.storeAt Instr.loadAt in
theorem fragagain_any (h : Hd) (v vp : Value) (p : By) (m l : Int) (w : World) (hv : Sl8 w (fun k => k < w.heap.size) v h.opts) (hp : Sl8 w (fun k => k < w.heap.size) vp p) (hok : h.ok) :
    Calls Try.prog 9 #[hdV h v, vp, .int .i64 m, .int .i64 l] w fun e w' => e = .returned (.bool true) ∧ Below w.heap.size w w' := by
  have HK := Lib.hid (fun wx => known15_any wx)
  have HNM := Lib.hid (fun z wx => num15_any z wx)
  have HV := Lib.hid (show ∀ wx, Below w.heap.size w wx → Sl8 wx (fun k => k < w.heap.size) v h.opts from fun wx hb => hv.keep (Same.ofBelow hb fun k hk => hk))
  have HP := Lib.hid (show ∀ wx, Below w.heap.size w wx → Sl8 wx (fun k => k < w.heap.size) vp p from fun wx hb => hp.keep (Same.ofBelow hb fun k hk => hk))
  have HOK := Lib.hid hok
  obtain ⟨A1, c1, rfl, _, _⟩ := hv
  obtain ⟨A2, c2, rfl, _, _⟩ := hp
  obtain ⟨n1, hn1⟩ : ∃ n, n = h.opts.length := ⟨_, rfl⟩
  obtain ⟨n2, hn2⟩ : ∃ n, n = p.length := ⟨_, rfl⟩
  rw [← hn1] at HV ⊢
  rw [← hn2] at HP ⊢
  have HN1 := Lib.hid hn1
  have HN2 := Lib.hid hn2
  obtain ⟨W, hW⟩ : ∃ W, W = w.alloc (.cells (hdC h (.slice A1 n1 c1)) 28) := ⟨_, rfl⟩
  have hbA : Below w.heap.size w W := by rw [hW]; exact (Below.refl _ _).alloc (Nat.le_refl _) _
  have HX := Lib.hid (show Blk W w.heap.size 28 (hdC h (.slice A1 n1 c1)) from by rw [hW]; exact Blk.new w 28 (hdC h (.slice A1 n1 c1)))
  have HB := Lib.hid hbA
  have HW := Lib.hid hW
  unfold hdC at HW
  clear hW hbA hn1 hn2 hok
  unfold hdV
  go_enter Try.func9, Try.ntmps9
  go_upto_region 1 with (fail)
  rw [← HW.out]
  have hl1 := ld8s (HX.out.cell 10)
  have hld := hd_load HX.out rfl
  by_cases hbig : 300 < n1 ∨ 9000 < n2
  · by_cases b1 : 300 < n1
    · have d1 : decide ((300 : Int) < (n1 : Int)) = true := decide_eq_true (by omega)
      clear b1 hbig
      go_wp2_with fail
      refine (HK.out _).mono ?_
      rintro e w2 ⟨rfl, hb2⟩
      have HB2 := Lib.hid (HB.out.trans (hb2.mono HB.out.size))
      clear hb2
      go_wp2_with fail
      go_ret
      exact ⟨rfl, HB2.out⟩
    · have d1 : decide ((300 : Int) < (n1 : Int)) = false := decide_eq_false (by omega)
      have d2 : decide ((9000 : Int) < (n2 : Int)) = true := decide_eq_true (by omega)
      clear b1 hbig
      go_wp2_with fail
      refine (HK.out _).mono ?_
      rintro e w2 ⟨rfl, hb2⟩
      have HB2 := Lib.hid (HB.out.trans (hb2.mono HB.out.size))
      clear hb2
      go_wp2_with fail
      go_ret
      exact ⟨rfl, HB2.out⟩
  have d1 : decide ((300 : Int) < (n1 : Int)) = false := decide_eq_false (by omega)
  have d2 : decide ((9000 : Int) < (n2 : Int)) = false := decide_eq_false (by omega)
  have HS1 := Lib.hid (show n1 ≤ 300 ∧ n2 ≤ 9000 by omega)
  have hmy := rmay_any h (.slice A1 n1 c1) _ W (HV.out W HB.out) (by have := HN1.out; omega)
  obtain ⟨my, hmy0⟩ : ∃ b, b = mayH h := ⟨_, rfl⟩
  rw [← hmy0] at hmy
  have HMY := Lib.hid hmy
  have HM0 := Lib.hid hmy0
  clear hmy hmy0 hbig
  cases my with
  | false =>
      go_wp2_with fail
      refine HMY.out.mono ?_
      rintro e w1 ⟨rfl, hb1⟩
      have HB1 := Lib.hid (HB.out.trans (hb1.mono HB.out.size))
      clear hb1
      go_wp2_with fail
      refine (HK.out _).mono ?_
      rintro e w2 ⟨rfl, hb2⟩
      have HB2 := Lib.hid (HB1.out.trans (hb2.mono HB1.out.size))
      clear hb2
      go_wp2_with fail
      go_ret
      exact ⟨rfl, HB2.out⟩
  | true =>
    go_wp2_with fail
    refine HMY.out.mono ?_
    rintro e w1 ⟨rfl, hb1⟩
    have hf : fitsH h p = true := by
      unfold fitsH
      rw [← HM0.out]
      have h40 := (may_opts HM0.out.symm).2.1
      have := HN2.out
      have := HS1.out
      simp only [Bool.true_and, decide_eq_true_eq]
      omega
    have hb01 := HB.out.trans (hb1.mono HB.out.size)
    have hk1 := HX.out.below hb1 HX.out.lt
    have hby := rbytes_any h (.slice A1 n1 c1) (.slice A2 n2 c2) p _ w1 (HV.out w1 hb01) (HP.out w1 hb01) HOK.out hf
    have hld1 := hd_load hk1 rfl
    have hlen := bytesF_len h p
    have hlaw := cut_bytes HOK.out hf m
    obtain ⟨dfl, hdf⟩ : ∃ b, b = h.df := ⟨_, rfl⟩
    have ldf := ld_bool (show w1.cell? ⟨w.heap.size, 3, none⟩ = some (.bool dfl) by rw [hdf]; exact hk1.cell 3)
    obtain ⟨b, hb⟩ : ∃ b, b = bytesF h p := ⟨_, rfl⟩
    rw [← hb] at hby hlen hlaw
    have HDF := Lib.hid hdf
    have HBY := Lib.hid hby
    have HB1 := Lib.hid hb01
    have HX1 := Lib.hid hk1
    have HLAW := Lib.hid hlaw
    have HLEN := Lib.hid hlen
    have HBB := Lib.hid hb
    have hbl : b.length ≤ 1000000 := by
      have := HN1.out
      have := HN2.out
      have := HS1.out
      omega
    clear hb hby hb1 hb01 hf hlen hlaw hld hk1 hdf
    cases dfl with
    | true =>
      go_wp2_with fail
      refine (HK.out _).mono ?_
      rintro e w2 ⟨rfl, hb2⟩
      have HB2 := Lib.hid (HB1.out.trans (hb2.mono HB1.out.size))
      clear hb2
      go_wp2_with fail
      go_ret
      exact ⟨rfl, HB2.out⟩
    | false =>
    go_wp2_with fail
    refine HBY.out.mono ?_
    rintro e w3 ⟨v3, rfl, hr3, hb3⟩
    obtain ⟨A3, c3, rfl, hc3⟩ := hr3.form
    obtain ⟨n3, hn3⟩ : ∃ n, n = b.length := ⟨_, rfl⟩
    have hrd := hr3.reads.2
    rw [← hn3] at hrd hc3 hbl ⊢
    have HB3 := Lib.hid (HB1.out.trans (hb3.mono HB1.out.size))
    have HX3 := Lib.hid (HX1.out.below hb3 HX1.out.lt)
    have HRD := Lib.hid hrd.lt
    have HC := Lib.hid hc3
    have HN3 := Lib.hid hn3.symm
    have hcu := fcut_any A3 n3 c3 b m _ w3 HRD.out HN3.out HC.out hbl
    have HCU := Lib.hid hcu
    clear hr3 hb3 hrd hc3 hn3 hcu hld1 hl1 ldf
    rcases HLAW.out with ⟨h0, h68, hm2, hl, hoff⟩ | ⟨hnil, herr⟩
    · obtain ⟨R, hR⟩ : ∃ R, R = cutF b m := ⟨_, rfl⟩
      rw [← hR] at HCU h0 hl
      obtain ⟨Ls, en⟩ := R
      simp only at h0 hl
      subst h0
      obtain ⟨m', hm'⟩ : ∃ m' : Nat, m' = m.toNat := ⟨_, rfl⟩
      have hmm : (m' : Int) = m := by omega
      have h68' : 68 ≤ m' := by omega
      have hm2' : m' ≤ 65535 := by omega
      rw [← hm'] at hl hoff
      have hne := cut_ne (L := p.length) h68' HM0.out.symm
      have hend := cut_end (L := p.length) HM0.out.symm h68'
      have hck := fun k hk => cut_k HOK.out HM0.out.symm h68' hm2' hoff (k := k) hk
      have hLl : Ls.length = (cutP h p.length m').length := by rw [hl, List.length_map]
      have HL := Lib.hid hl
      have HEND := Lib.hid hend
      have HCK := Lib.hid hck
      obtain ⟨N, hN⟩ : ∃ N, N = Ls.length := ⟨_, rfl⟩
      have hN0 : 0 < N := by omega
      have HNQ := Lib.hid (hN.trans hLl)
      have hNb : N ≤ 9001 := by
        have := cutP_len h p.length m'
        have := HN2.out
        have := HS1.out
        omega
      have HN := Lib.hid hN
      have HM := Lib.hid hmm
      clear hl hend hck hLl hne hR hm' hoff hN hmm
      go_wp2_with fail
      refine HCU.out.mono ?_
      rintro e w4 ⟨v4, rfl, hr4, hb4⟩
      obtain ⟨g4, c4, rfl, hcl4⟩ : ∃ g4 c4, v4 = .slice (some ⟨g4, 0, none⟩) N c4 ∧ N ≤ c4 := by
        obtain ⟨us, ho, _⟩ := hr4
        simp only at ho
        rw [← HN.out] at ho
        exact own_form1 ho hN0
      obtain ⟨ad, had⟩ : ∃ ad : Addr, ad = ⟨g4, 0, none⟩ := ⟨_, rfl⟩
      rw [← had] at hr4 ⊢
      have HR4 := Lib.hid hr4
      have HB4 := Lib.hid (HB3.out.trans (hb4.mono HB3.out.size))
      have HX4 := Lib.hid (HX3.out.below hb4 HX3.out.lt)
      have HS3 := Lib.hid (show w.heap.size < w3.heap.size from HX3.out.lt)
      clear hr4 hb4 had hcl4
      go_wp2_with (go_at_call 43; refine (HNM.out _ _).mono ?_; rintro e w' ⟨rfl, rfl⟩)
      go_loopw [11, 12] (fun s11 i wr => ∃ k : Nat, i = .int .i64 (k : Int) ∧ k ≤ N ∧ Below w4.heap.size w4 wr ∧ Row8 w4.heap.size wr s11 (p.take (posF (cutP h p.length m') k))) (fun _ i _ => N - (intOf i).toNat)
      case atStart => exact ⟨0, rfl, Nat.zero_le _, Below.refl _ _, Row8.nil _ _⟩
      case round =>
        obtain ⟨wo, rfl⟩ : ∃ wo : World, wo = wr := ⟨_, rfl⟩
        obtain ⟨k, rfl, hkN, hbr, hrow⟩ := hrel
        have hi0 : (0 : Int) ≤ k := by omega
        by_cases hlt : k < N
        · obtain ⟨x, g, y, hx, K, hps⟩ := HCK.out k (by rw [← HNQ.out]; exact hlt)
          rw [← HL.out] at hx
          rw [← HNQ.out] at K
          obtain ⟨a, ha⟩ : ∃ a, a = posF (cutP h p.length m') k := ⟨_, rfl⟩
          rw [← ha] at K hps hrow
          have hle := K.le
          have hla : (p.take a).length = a := by rw [List.length_take]; omega
          obtain ⟨A5, c5, hc5, hcc5, hr5⟩ := HR4.out.read hbr hx
          obtain ⟨nx, hnx⟩ : ∃ nx, nx = x.length := ⟨_, rfl⟩
          have hxl := K.len
          rw [← hnx] at hc5 hcc5 hr5 hxl
          obtain ⟨Aa, ca, rfl, _⟩ := hrow.form
          rw [hla] at hrow ⊢
          have hi1 : (k : Int) < N := by omega
          have lx := ld8a hc5
          have hcu2 := fcut_any A5 nx c5 x l _ wo hr5 hnx.symm hcc5 (by omega)
          have hgm : mayH g = true := by have := K.fts; unfold fitsH at this; simp only [Bool.and_eq_true] at this; exact this.1
          have hgd : g.df = false := by rw [K.hd]; exact HDF.out.symm
          have hlaw2 := cut_bytes K.gok K.fts l
          rw [← K.bts] at hlaw2
          obtain ⟨R2, hR2⟩ : ∃ R2, R2 = cutF x l := ⟨_, rfl⟩
          rw [← hR2] at hcu2 hlaw2
          obtain ⟨L2, en2⟩ := R2
          simp only at hlaw2
          have HCU2 := Lib.hid hcu2
          have HLAW2 := Lib.hid hlaw2
          have HKK := Lib.hid K
          have HGM := Lib.hid hgm
          have HGD := Lib.hid hgd
          have HPS := Lib.hid hps
          have HBR := Lib.hid hbr
          have HROW := Lib.hid hrow
          have HLA := Lib.hid hla
          have HA := Lib.hid ha
          have han : a ≤ 9000 := by have := HN2.out; have := HS1.out; omega
          clear hcu2 hlaw2 hgm hgd hr5 hc5 hcc5 hnx K hps hbr hrow hla ha hle hR2 hxl hx
          rcases HLAW2.out with ⟨h0', h68l, hl2, hL2, hoff2⟩ | ⟨hnil2, herr2⟩
          · subst h0'
            obtain ⟨l', hl'⟩ : ∃ l' : Nat, l' = l.toNat := ⟨_, rfl⟩
            have h68l' : 68 ≤ l' := by omega
            have hl2' : l' ≤ 65535 := by omega
            rw [← hl'] at hL2 hoff2
            have hck2 := fun k hk => cut_k HKK.out.gok HGM.out h68l' hl2' hoff2 (k := k) hk
            have hne2 := cut_ne (L := y.length) h68l' HGM.out
            have hend2 := cut_end (L := y.length) HGM.out h68l'
            have hLl2 : L2.length = (cutP g y.length l').length := by rw [hL2, List.length_map]
            have HL2 := Lib.hid hL2
            have HEND2 := Lib.hid hend2
            have HCK2 := Lib.hid hck2
            obtain ⟨N2, hN2⟩ : ∃ N2, N2 = L2.length := ⟨_, rfl⟩
            have hN20 : 0 < N2 := by omega
            have HNQ2 := Lib.hid (hN2.trans hLl2)
            have hyn : y.length ≤ 9000 := by have := HKK.out.le; have := HN2.out; have := HS1.out; omega
            have hNb2 : N2 ≤ 9001 := by
              have := cutP_len g y.length l'
              omega
            have HYN := Lib.hid hyn
            have HN_2 := Lib.hid hN2
            clear hL2 hoff2 hck2 hne2 hend2 hLl2 hN2 hl' h68l hl2 hyn
            go_wp2_with fail
            refine HCU2.out.mono ?_
            rintro e w6 ⟨v6, rfl, hr6, hb6⟩
            obtain ⟨g6, c6, rfl, hcl6⟩ : ∃ g6 c6, v6 = .slice (some ⟨g6, 0, none⟩) N2 c6 ∧ N2 ≤ c6 := by
              obtain ⟨us, ho, _⟩ := hr6
              simp only at ho
              rw [← HN_2.out] at ho
              exact own_form1 ho hN20
            obtain ⟨ad6, had6⟩ : ∃ ad6 : Addr, ad6 = ⟨g6, 0, none⟩ := ⟨_, rfl⟩
            rw [← had6] at hr6 ⊢
            have hrow6 := HROW.out.below hb6
            have hob6 : ∀ q, (Value.slice Aa a ca).ownBlock = some q → q < wo.heap.size ∨ w6.heap.size ≤ q := fun q hq => .inl ((HROW.out.lt hq).2)
            have HR6 := Lib.hid hr6
            have HB6 := Lib.hid (HBR.out.trans (hb6.mono HBR.out.size))
            have HZ6 := Lib.hid hb6.size
            have HROW6 := Lib.hid hrow6
            have HOB6 := Lib.hid hob6
            clear hr6 hb6 had6 hcl6 hrow6 hob6 lx
            go_wp2_with (go_at_call 43; refine (HNM.out _ _).mono ?_; rintro e w' ⟨rfl, rfl⟩)
            go_loopw [11, 15] (fun s11 i wr => ∃ j : Nat, i = .int .i64 (j : Int) ∧ j ≤ N2 ∧ Below w4.heap.size w4 wr ∧ w6.heap.size ≤ wr.heap.size ∧ Same (fun q => wo.heap.size ≤ q ∧ q < w6.heap.size) w6 wr ∧ (∀ q, s11.ownBlock = some q → q < wo.heap.size ∨ w6.heap.size ≤ q) ∧ Row8 w4.heap.size wr s11 (p.take (a + posF (cutP g y.length l') j))) (fun _ i _ => N2 - (intOf i).toNat)
            case atStart => exact ⟨0, rfl, Nat.zero_le _, HB6.out, Nat.le_refl _, Same.refl _ _, HOB6.out, HROW6.out⟩
            case round =>
              obtain ⟨j, rfl, hjN, hbr2, hz2, hsm2, hob2, hrow2⟩ := hrel
              have hj0 : (0 : Int) ≤ j := by omega
              by_cases hlt2 : j < N2
              · obtain ⟨x2, g2, y2, hx2, K2, hps2⟩ := HCK2.out j (by rw [← HNQ2.out]; exact hlt2)
                rw [← HL2.out] at hx2
                rw [← HNQ2.out] at K2
                obtain ⟨a2, ha2⟩ : ∃ a2, a2 = posF (cutP g y.length l') j := ⟨_, rfl⟩
                rw [← ha2] at K2 hps2 hrow2
                have hle2 := K2.le
                obtain ⟨ab, hab⟩ : ∃ ab, ab = a + a2 := ⟨_, rfl⟩
                rw [← hab] at hrow2
                have hla2 : (p.take ab).length = ab := by rw [List.length_take]; have := HKK.out.le; omega
                obtain ⟨A7, c7, hc7, hcc7, hr7⟩ := HR6.out.readS hsm2 hx2
                obtain ⟨nx2, hnx2⟩ : ∃ nx2, nx2 = x2.length := ⟨_, rfl⟩
                have hxl2 := K2.len
                rw [← hnx2] at hc7 hcc7 hr7 hxl2
                obtain ⟨Ab, cb, rfl, _⟩ := hrow2.form
                rw [hla2] at hrow2 hob2 ⊢
                obtain ⟨ny2, hny2⟩ : ∃ ny2, ny2 = y2.length := ⟨_, rfl⟩
                have hj1 : (j : Int) < N2 := by omega
                have lx2 := ld8a hc7
                have hpa := parse_any A7 nx2 c7 x2 _ wr hr7.lt hnx2.symm hcc7 (by omega)
                rw [K2.prs] at hpa
                have HPA := Lib.hid hpa
                have HKK2 := Lib.hid K2
                have HPS2 := Lib.hid hps2
                have HBR2 := Lib.hid hbr2
                have HZ2 := Lib.hid hz2
                have HSM2 := Lib.hid hsm2
                have HOB2 := Lib.hid hob2
                have HROW2 := Lib.hid hrow2
                have HLA2 := Lib.hid hla2
                have HNY2 := Lib.hid hny2
                have HAB := Lib.hid hab
                have HA2 := Lib.hid ha2
                have habn : ab ≤ 9000 := by have := HKK.out.le; have := HN2.out; have := HS1.out; omega
                have hyn2 : ny2 ≤ 9000 := by have := HYN.out; omega
                clear hpa hr7 hc7 hcc7 hnx2 K2 hps2 hbr2 hz2 hsm2 hob2 hrow2 hla2 hny2 hab ha2 hle2 hxl2 hx2
                go_upto_region 17 with
                  (go_at_call 16
                   refine HPA.out.mono ?_
                   rintro e w7 ⟨vo, vq, rfl, ho, hq, _, hb7⟩
                   obtain ⟨Ao, co, rfl, _⟩ := ho.form
                   obtain ⟨Aq, cq, rfl, _⟩ := hq.form
                   rw [show (g2, y2, 0).2.1.length = ny2 from HNY2.out.symm]
                   obtain ⟨w8, hst8, hb8, hb78, hk8⟩ := hd_var hb7 hb7.size g2 Ao g2.opts.length co
                   have HB8 := Lib.hid hb8
                   have HK8 := Lib.hid hk8
                   have HQ8 := Lib.hid (show Row8 wr.heap.size w8 (.slice Aq ny2 cq) y2 by rw [HNY2.out]; exact hq.below hb78)
                   have HX8 := Lib.hid ((HX4.out.below HBR2.out HX4.out.lt).below hb8 (Nat.lt_of_lt_of_le HX4.out.lt HBR2.out.size))
                   clear ho hq hb7 hb8 hb78 hk8)
                obtain ⟨b1, hb1⟩ : ∃ b1, b1 = decide (k + 1 = N) := ⟨_, rfl⟩
                obtain ⟨b2, hb2⟩ : ∃ b2, b2 = decide (j + 1 = N2) := ⟨_, rfl⟩
                have e1 : ((k : Int) == (N : Int) - 1) = b1 := by
                  rw [hb1, Bool.eq_iff_iff, beq_iff_eq, decide_eq_true_iff]; omega
                have e2 : ((j : Int) == (N2 : Int) - 1) = b2 := by
                  rw [hb2, Bool.eq_iff_iff, beq_iff_eq, decide_eq_true_iff]; omega
                obtain ⟨mfl, hmf⟩ : ∃ b, b = h.mf := ⟨_, rfl⟩
                obtain ⟨of0, hof⟩ : ∃ z, z = h.off := ⟨_, rfl⟩
                obtain ⟨_, h40, h44, ho0, ho1⟩ := may_opts HM0.out.symm
                rw [← hof] at ho0 ho1
                have ego : g2.off = of0 + (ab : Int) / 8 := by
                  rw [HKK2.out.hd, HKK.out.hd, hof]
                  have := HKK.out.m8
                  have := HAB.out
                  simp only
                  omega
                have egm : g2.mf = (!(b1 && b2) || mfl) := by
                  rw [HKK2.out.hd, HKK.out.hd, hmf, hb1, hb2]
                  simp only
                  by_cases q1 : k + 1 = N
                  · by_cases q2 : j + 1 = N2
                    · simp [q1, q2]
                    · have : j + 1 < N2 := by omega
                      simp [q1, q2, this]
                  · have : k + 1 < N := by omega
                    simp [q1, this]
                have h8 : (b1 && b2) = false → (ny2 : Int) % 8 = 0 := by
                  intro hh
                  have hny := HNY2.out
                  by_cases q2 : j + 1 < N2
                  · have := HKK2.out.n8 q2
                    omega
                  · have q2' : j + 1 = N2 := by omega
                    have q1 : k + 1 < N := by
                      rw [hb1, hb2, decide_eq_true q2', Bool.and_true, decide_eq_false_iff_not] at hh
                      omega
                    have e8 := HKK.out.n8 q1
                    have m8 := HKK2.out.m8
                    have he := HEND2.out
                    have hp2 := HPS2.out
                    rw [← HNQ2.out, ← q2'] at he
                    omega
                have lo4 := ld_int (show w8.cell? ⟨w.heap.size, 5, none⟩ = some (.int .i64 of0) by rw [hof]; exact HX8.out.cell 5)
                have lm4 := ld_bool (show w8.cell? ⟨w.heap.size, 4, none⟩ = some (.bool mfl) by rw [hmf]; exact HX8.out.cell 4)
                have lo16 := ld_int (show w8.cell? ⟨w7.heap.size, 5, none⟩ = some (.int .i64 (of0 + (ab : Int) / 8)) by rw [← ego]; exact HK8.out.cell 5)
                have lm16 := ld_bool (show w8.cell? ⟨w7.heap.size, 4, none⟩ = some (.bool (!(b1 && b2) || mfl)) by rw [← egm]; exact HK8.out.cell 4)
                have hm63 : (p.take ab).length + ny2 ≤ 140737488355328 := by rw [HLA2.out]; omega
                have HYR := Lib.hid HQ8.out.reads.2
                have hb48 := HBR2.out.trans (HB8.out.mono HBR2.out.size)
                have HB48 := Lib.hid hb48
                have HROW8 := Lib.hid (HROW2.out.below HB8.out)
                have H8 := Lib.hid h8
                clear hb1 hb2 hmf hof ego egm h8 hb48
                cases b1 <;> cases b2
                all_goals
                  simp only [Bool.and_self, Bool.and_true, Bool.and_false, Bool.not_true, Bool.not_false, Bool.true_or, Bool.false_or] at lm16
                  first | have e8 := H8.out rfl | skip
                  go_wp2_with
                    (at_builtin
                     refine wpList_app8 w8 rfl (.tmp 141) (.tmp 142) rfl rfl w4.heap.size _ (p.take ab) rfl HROW8.out _ Aq ny2 cq y2 rfl HNY2.out.symm HYR.out hm63 HB48.out.size ?_
                     intro v12 w12 h12 hg12 hz12
                     have HB12 := Lib.hid (HB48.out.grown hg12 HB48.out.size fun q e => (HROW8.out.lt e).1)
                     have HG12 := Lib.hid (show w8.grownBy w12 (Value.slice Ab ab cb).ownBlock from hg12)
                     have HZ12 := Lib.hid (show v12.ownBlock = (Value.slice Ab ab cb).ownBlock ∨ v12.ownBlock = some w8.heap.size from hz12)
                     have H12 := Lib.hid h12
                     clear h12 hg12 hz12)
                  go_roundw
                  case rel =>
                    have hz68 := Nat.le_trans HZ2.out HB8.out.size
                    refine ⟨j + 1, by simp, by omega, HB12.out, Nat.le_trans hz68 HG12.out.size, (HSM2.out.trans (Same.ofBelow HB8.out fun q hq => Nat.lt_of_lt_of_le hq.2 HZ2.out)).trans ⟨HG12.out.size, fun q hq hl => HG12.out.block q hl fun e => ?_⟩, fun q hq => ?_, ?_⟩
                    · have := HOB2.out q e.symm
                      omega
                    · rcases HZ12.out with e | e
                      · exact HOB2.out q (e.symm.trans hq)
                      · rw [e] at hq
                        injection hq with hq
                        exact .inr (by omega)
                    · have e := take_two HKK.out.app HKK.out.le HKK2.out.app HKK2.out.le
                      rw [HPS2.out, ← e, ← HAB.out]
                      exact H12.out
                  case measure => simp [intOf]; omega
              · obtain rfl : j = N2 := by omega
                have HB2 := Lib.hid hbr2
                have e : posF (cutP g y.length l') j = y.length := by have := HEND2.out; rw [← HNQ2.out] at this; exact this
                rw [e, ← HPS.out] at hrow2
                have HROW2 := Lib.hid hrow2
                clear hbr2 hz2 hsm2 hob2 hrow2 e
                go_wp2_with fail
                go_roundw
                case rel => exact ⟨k + 1, by simp, by omega, HB2.out, HROW2.out⟩
                case measure => simp [intOf]; omega
          · subst hnil2
            go_wp2_with fail
            refine HCU2.out.mono ?_
            rintro e w6 ⟨v6, rfl, hr6, hb6⟩
            obtain ⟨A6, c6, rfl, _⟩ := hr6.form
            have HB6 := Lib.hid (HB4.out.trans ((HBR.out.trans (hb6.mono HBR.out.size)).mono HB4.out.size))
            clear hr6 hb6 lx
            rcases herr2 with rfl | rfl | ⟨_, hd7⟩
            · go_wp2_with (first | (go_at_call 43; refine (HNM.out _ _).mono ?_; rintro e w' ⟨rfl, rfl⟩) | (refine (HK.out _).mono ?_; rintro e w7 ⟨rfl, hb7⟩; have HB7 := Lib.hid (HB6.out.trans (hb7.mono HB6.out.size)); clear hb7))
              go_ret
              exact ⟨rfl, HB7.out⟩
            · go_wp2_with (first | (go_at_call 43; refine (HNM.out _ _).mono ?_; rintro e w' ⟨rfl, rfl⟩) | (refine (HK.out _).mono ?_; rintro e w7 ⟨rfl, hb7⟩; have HB7 := Lib.hid (HB6.out.trans (hb7.mono HB6.out.size)); clear hb7))
              go_ret
              exact ⟨rfl, HB7.out⟩
            · rw [HGD.out] at hd7
              cases hd7
        · obtain rfl : k = N := by omega
          have HROW := Lib.hid hrow
          have HBR := Lib.hid hbr
          clear hrow hbr
          have hrw := HROW.out
          rw [HNQ.out, HEND.out, List.take_length] at hrw
          obtain ⟨Aa, ca, rfl, _⟩ := hrw.form
          have hbw := HB4.out.trans (HBR.out.mono HB4.out.size)
          have s1 := run_str wo _ Aa p ca hrw.reads.2
          obtain ⟨A', c', e', _, hrp⟩ := HP.out wo hbw
          injection e' with e1 e2 e3
          subst e1 e3
          have s2 := run_str wo _ A2 p c2 hrp
          rw [← e2] at s1 s2 ⊢
          have HBW := Lib.hid hbw
          clear hrw hbw hrp e2
          go_wp2_with (refine (HK.out _).mono ?_; rintro e w7 ⟨rfl, hb7⟩; have HB7 := Lib.hid (HBW.out.trans (hb7.mono HBW.out.size)); clear hb7)
          go_ret
          exact ⟨rfl, HB7.out⟩
    · obtain ⟨R, hR⟩ : ∃ R, R = cutF b m := ⟨_, rfl⟩
      rw [← hR] at HCU hnil herr
      obtain ⟨Ls, en⟩ := R
      simp only at hnil herr
      subst hnil
      have hen : ((en : Int) != 0) = true := by rw [bne_iff_ne]; omega
      clear herr hR
      go_wp2_with fail
      refine HCU.out.mono ?_
      rintro e w4 ⟨v4, rfl, hr4, hb4⟩
      obtain ⟨A4, c4, rfl, _⟩ := hr4.form
      have HB4 := Lib.hid (HB3.out.trans (hb4.mono HB3.out.size))
      clear hr4 hb4
      go_wp2_with (first | (go_at_call 43; refine (HNM.out _ _).mono ?_; rintro e w' ⟨rfl, rfl⟩) | (refine (HK.out _).mono ?_; rintro e w7 ⟨rfl, hb7⟩; have HB7 := Lib.hid (HB4.out.trans (hb7.mono HB4.out.size)); clear hb7))
      go_ret
      exact ⟨rfl, HB7.out⟩
end Go.Proofs.Ytfddkehnhkfjeaa
