/- IpBytes' walk. -/
import Derived.Test.YtfddkehnhkfjeaaIlD
namespace Go.Proofs.Ytfddkehnhkfjeaa
open Go.RowKit Go.Sort Go.BigFrame
theorem ld_u32 {w : World} {g i : Nat} {z : Int} (hu : w.cell? ⟨g, i, none⟩ = some (.int .u32 z)) : (Instr.loadAt 26 (.pointer (some ⟨g, i, none⟩))).run Try.prog w = .ok (.int .u32 z) w := by
  simp [go_sem, hu]
/-- What the law holds: two headers' variables. -/
structure HdW (w : World) (g1 g2 : Nat) (C1 C2 : Array Value) (wx : World) : Prop where
  k1 : Blk wx g1 28 C1
  k2 : Blk wx g2 28 C2
  b : Below w.heap.size w wx
theorem HdW.later {w : World} {g1 g2 : Nat} {C1 C2 : Array Value} {wx wy : World} (h : HdW w g1 g2 C1 C2 wx) (hb : Below wx.heap.size wx wy) : HdW w g1 g2 C1 C2 wy := ⟨h.k1.below hb h.k1.lt, h.k2.below hb h.k2.lt, h.b.trans (hb.mono h.b.size)⟩
attribute [-go_sem] Instr.loadAt in
set_option maxRecDepth 100000 in
set_option maxHeartbeats 8000000 in
theorem ipbytes_any (h o : Hd) (v u vp : Value) (p : By) (w : World) (hv : Sl8 w (fun k => k < w.heap.size) v h.opts) (hu : Sl8 w (fun k => k < w.heap.size) u o.opts) (hp : Sl8 w (fun k => k < w.heap.size) vp p) (hok : h.ok) :
    Calls Try.prog 8 #[hdV h v, hdV o u, vp] w fun e w' => e = .returned (.bool true) ∧ Below w.heap.size w w' := by
  have HK := Lib.hid (fun wx => known_any wx)
  have HNM := Lib.hid (fun z wx => num_any z wx)
  have HV := Lib.hid (show ∀ wx, Below w.heap.size w wx → Sl8 wx (fun k => k < w.heap.size) v h.opts from fun wx hb => hv.keep (Same.ofBelow hb fun k hk => hk))
  have HU := Lib.hid (show ∀ wx, Below w.heap.size w wx → Sl8 wx (fun k => k < w.heap.size) u o.opts from fun wx hb => hu.keep (Same.ofBelow hb fun k hk => hk))
  have HP := Lib.hid (show ∀ wx, Below w.heap.size w wx → Sl8 wx (fun k => k < w.heap.size) vp p from fun wx hb => hp.keep (Same.ofBelow hb fun k hk => hk))
  have HOK := Lib.hid hok
  obtain ⟨A1, c1, rfl, _, _⟩ := hv
  obtain ⟨A2, c2, rfl, _, _⟩ := hu
  obtain ⟨A3, c3, rfl, _, _⟩ := hp
  obtain ⟨n1, hn1⟩ : ∃ n, n = h.opts.length := ⟨_, rfl⟩
  obtain ⟨n2, hn2⟩ : ∃ n, n = o.opts.length := ⟨_, rfl⟩
  obtain ⟨n3, hn3⟩ : ∃ n, n = p.length := ⟨_, rfl⟩
  rw [← hn1] at HV ⊢
  rw [← hn2] at HU ⊢
  rw [← hn3] at HP ⊢
  have HN1 := Lib.hid hn1
  have HN2 := Lib.hid hn2
  have HN3 := Lib.hid hn3
  obtain ⟨W, hW⟩ : ∃ W, W = (w.alloc (.cells (hdC h (.slice A1 n1 c1)) 28)).alloc (.cells (hdC o (.slice A2 n2 c2)) 28) := ⟨_, rfl⟩
  have hbA : Below w.heap.size w (w.alloc (.cells (hdC h (.slice A1 n1 c1)) 28)) := (Below.refl _ _).alloc (Nat.le_refl _) _
  have hz : (w.alloc (.cells (hdC h (.slice A1 n1 c1)) 28)).heap.size = w.heap.size + 1 := by simp
  have HX := Lib.hid (show HdW w w.heap.size (w.heap.size + 1) (hdC h (.slice A1 n1 c1)) (hdC o (.slice A2 n2 c2)) W from by
    rw [hW]
    have k0 := Blk.new w 28 (hdC h (.slice A1 n1 c1))
    have k2 := Blk.new (w.alloc (.cells (hdC h (.slice A1 n1 c1)) 28)) 28 (hdC o (.slice A2 n2 c2))
    rw [hz] at k2
    exact ⟨k0.below ((Below.refl _ _).alloc (Nat.le_refl _) _) k0.lt, k2, hbA.alloc hbA.size _⟩)
  have HW := Lib.hid hW
  have hl1 := ld8s (HX.out.k1.cell 10)
  have hl2 := ld8s (HX.out.k2.cell 10)
  unfold hdC at HW
  clear hW hbA hz hn1 hn2 hn3 hok
  unfold hdV
  go_enter Try.func8, Try.ntmps8
  go_upto_region 1 with (fail)
  rw [← HW.out]
  by_cases hbig : 300 < n1 ∨ 300 < n2 ∨ 70000 < n3
  · have HB0 := Lib.hid HX.out.b
    have hfin : Calls Try.prog 15 #[] W fun e w' => e = .returned (.bool true) ∧ Below W.heap.size W w' := HK.out W
    have HF := Lib.hid hfin
    clear hfin
    by_cases b1 : 300 < n1
    · have d1 : decide ((300 : Int) < (n1 : Int)) = true := decide_eq_true (by omega)
      clear b1 hbig
      go_wp2_with fail
      refine HF.out.mono ?_
      rintro e w1 ⟨rfl, hb⟩
      have HB := Lib.hid (HB0.out.trans (hb.mono HB0.out.size))
      clear hb
      go_wp2_with fail
      go_ret
      exact ⟨rfl, HB.out⟩
    have d1 : decide ((300 : Int) < (n1 : Int)) = false := decide_eq_false (by omega)
    by_cases b2 : 300 < n2
    · have d2 : decide ((300 : Int) < (n2 : Int)) = true := decide_eq_true (by omega)
      clear b1 b2 hbig
      go_wp2_with fail
      refine HF.out.mono ?_
      rintro e w1 ⟨rfl, hb⟩
      have HB := Lib.hid (HB0.out.trans (hb.mono HB0.out.size))
      clear hb
      go_wp2_with fail
      go_ret
      exact ⟨rfl, HB.out⟩
    have d2 : decide ((300 : Int) < (n2 : Int)) = false := decide_eq_false (by omega)
    have d3 : decide ((70000 : Int) < (n3 : Int)) = true := decide_eq_true (by omega)
    clear b1 b2 hbig
    go_wp2_with fail
    refine HF.out.mono ?_
    rintro e w1 ⟨rfl, hb⟩
    have HB := Lib.hid (HB0.out.trans (hb.mono HB0.out.size))
    clear hb
    go_wp2_with fail
    go_ret
    exact ⟨rfl, HB.out⟩
  have d1 : decide ((300 : Int) < (n1 : Int)) = false := decide_eq_false (by omega)
  have d2 : decide ((300 : Int) < (n2 : Int)) = false := decide_eq_false (by omega)
  have d3 : decide ((70000 : Int) < (n3 : Int)) = false := decide_eq_false (by omega)
  have HS1 := Lib.hid (show h.opts.length ≤ 1000000 by have := HN1.out; omega)
  have HS2 := Lib.hid (show o.opts.length ≤ 1000000 by have := HN2.out; omega)
  have HS3 := Lib.hid (show p.length ≤ 1000000 by have := HN3.out; omega)
  have HS4 := Lib.hid (show n1 ≤ 300 by omega)
  have hld := hd_load HX.out.k1 rfl
  clear hbig
  obtain ⟨mb, hmb⟩ : ∃ b, b = mayH h := ⟨_, rfl⟩
  have HMB := Lib.hid hmb
  have hrm := rmay_any h (.slice A1 n1 c1) _ W (HV.out W HX.out.b) HS1.out
  rw [← hmb] at hrm
  have HRM := Lib.hid hrm
  clear hmb hrm
  go_wp2_with fail
  refine HRM.out.mono ?_
  rintro e w1 ⟨rfl, hb1⟩
  have HX1 := Lib.hid (HX.out.later hb1)
  have hl3 := ld8s (HX1.out.k1.cell 10)
  clear hb1 hl1 hl2 hld
  obtain ⟨fr, hfr⟩ : ∃ k, k = fragH h := ⟨_, rfl⟩
  have HFR := Lib.hid hfr
  obtain ⟨mu, hmu⟩ : ∃ k, k = multiF h.src := ⟨_, rfl⟩
  have HMU := Lib.hid hmu
  obtain ⟨sm, hsm⟩ : ∃ k, k = sameH h o := ⟨_, rfl⟩
  have HSM := Lib.hid hsm
  clear hfr hmu hsm
  obtain ⟨sz, hsz⟩ : ∃ k, k = sizeH h := ⟨_, rfl⟩
  have HSZ := Lib.hid hsz
  unfold sizeH at hsz
  cases mb with
  | true =>
    have h20 : IntKind.i64.wrap ((20 : Int) + (n1 : Int)) = (sz : Int) := by rw [hsz, if_pos HMB.out.symm, ← HN1.out]; have := HS4.out; simp [IntKind.wrap, IntKind.bits, IntKind.signed]; omega
    clear hsz
    go_wp2_with fail
    clear hl3
    have x1 := fun (d : Nat) (os : Array Obj) => hd_load ((HX1.out.later (below_regrown w1 d os)).k1) rfl
    have x2 := fun (d : Nat) (os : Array Obj) => hd_load ((HX1.out.later (below_regrown w1 d os)).k2) rfl
    have x3 := fun (d : Nat) (os : Array Obj) => ld_u32 ((HX1.out.later (below_regrown w1 d os)).k1.cell 8)
    have HBG := Lib.hid (fun (d : Nat) (os : Array Obj) => (HX1.out.later (below_regrown w1 d os)).b)
    have qA : ∀ wx, Below w.heap.size w wx → Calls Try.prog 33 #[.agg (hdC h (.slice A1 n1 c1))] wx fun e w' => e = .returned (.bool true) ∧ Below wx.heap.size wx w' := fun wx hb => by have := may_any h _ _ wx (HV.out wx hb) HS1.out; rw [← HMB.out] at this; exact this
    have qB : ∀ wx, Below w.heap.size w wx → Calls Try.prog 32 #[.agg (hdC h (.slice A1 n1 c1))] wx fun e w' => e = .returned (.bool true) ∧ Below wx.heap.size wx w' := fun wx hb => by have := rmay_any h _ _ wx (HV.out wx hb) HS1.out; rw [← HMB.out] at this; exact this
    have qC : ∀ wx, Below w.heap.size w wx → Calls Try.prog 31 #[.agg (hdC h (.slice A1 n1 c1))] wx fun e w' => e = .returned (.int .i64 (sz : Int)) ∧ Below wx.heap.size wx w' := fun wx hb => by have := size_any h _ _ wx (HV.out wx hb) HS1.out; rw [← HSZ.out] at this; exact this
    have qD : ∀ wx, Below w.heap.size w wx → Calls Try.prog 34 #[.agg (hdC h (.slice A1 n1 c1))] wx fun e w' => e = .returned (.bool fr) ∧ Below wx.heap.size wx w' := fun wx _ => by rw [HFR.out]; exact frag_any h A1 n1 c1 wx
    have qE : ∀ wx, Below w.heap.size w wx → Calls Try.prog 35 #[.agg (hdC h (.slice A1 n1 c1))] wx fun e w' => e = .returned (.bool fr) ∧ Below wx.heap.size wx w' := fun wx _ => by rw [HFR.out]; exact rfrag_any h A1 n1 c1 wx
    have qF : ∀ wx, Below w.heap.size w wx → Calls Try.prog 36 #[.int .u32 (h.src : Int)] wx fun e w' => e = .returned (.bool mu) ∧ Below wx.heap.size wx w' := fun wx _ => by rw [HMU.out]; exact (multi_any h.src wx).mono fun r w' e => ⟨e.1, e.2 ▸ Below.refl _ _⟩
    have qG : ∀ wx, Below w.heap.size w wx → Calls Try.prog 37 #[.int .u32 (h.src : Int)] wx fun e w' => e = .returned (.bool mu) ∧ Below wx.heap.size wx w' := fun wx _ => by rw [HMU.out]; exact (rmulti_any h.src wx HOK.out.2.2.2.2.1).mono fun r w' e => ⟨e.1, e.2 ▸ Below.refl _ _⟩
    have qH : ∀ wx, Below w.heap.size w wx → Calls Try.prog 38 #[.agg (hdC h (.slice A1 n1 c1)), .agg (hdC o (.slice A2 n2 c2))] wx fun e w' => e = .returned (.bool sm) ∧ Below wx.heap.size wx w' := fun wx hb => by rw [HSM.out]; exact same_any h o _ _ _ _ wx (HV.out wx hb) (HU.out wx hb) HS1.out
    have qI : ∀ wx, Below w.heap.size w wx → Calls Try.prog 18 #[.agg (hdC h (.slice A1 n1 c1)), .agg (hdC o (.slice A2 n2 c2))] wx fun e w' => e = .returned (.bool sm) ∧ Below wx.heap.size wx w' := fun wx hb => by rw [HSM.out]; exact rsame_any h o _ _ _ _ wx (HV.out wx hb) (HU.out wx hb)
    have qJ : ∀ wx, Below w.heap.size w wx → Calls Try.prog 38 #[.agg (hdC h (.slice A1 n1 c1)), .agg (hdC h (.slice A1 n1 c1))] wx fun e w' => e = .returned (.bool true) ∧ Below wx.heap.size wx w' := fun wx hb => by have := same_any h h _ _ _ _ wx (HV.out wx hb) (HV.out wx hb) HS1.out; rw [(sameH_iff h h).2 rfl] at this; exact this
    have cA := fun (d : Nat) (os : Array Obj) => Calls.regrown_of (qA (grow (redrawn w1 d) os) (HBG.out d os))
    have cB := fun (d : Nat) (os : Array Obj) => Calls.regrown_of (qB (grow (redrawn w1 d) os) (HBG.out d os))
    have cC := fun (d : Nat) (os : Array Obj) => Calls.regrown_of (qC (grow (redrawn w1 d) os) (HBG.out d os))
    have cD := fun (d : Nat) (os : Array Obj) => Calls.regrown_of (qD (grow (redrawn w1 d) os) (HBG.out d os))
    have cE := fun (d : Nat) (os : Array Obj) => Calls.regrown_of (qE (grow (redrawn w1 d) os) (HBG.out d os))
    have cF := fun (d : Nat) (os : Array Obj) => Calls.regrown_of (qF (grow (redrawn w1 d) os) (HBG.out d os))
    have cG := fun (d : Nat) (os : Array Obj) => Calls.regrown_of (qG (grow (redrawn w1 d) os) (HBG.out d os))
    have cH := fun (d : Nat) (os : Array Obj) => Calls.regrown_of (qH (grow (redrawn w1 d) os) (HBG.out d os))
    have cI := fun (d : Nat) (os : Array Obj) => Calls.regrown_of (qI (grow (redrawn w1 d) os) (HBG.out d os))
    have cJ := fun (d : Nat) (os : Array Obj) => Calls.regrown_of (qJ (grow (redrawn w1 d) os) (HBG.out d os))
    clear qA qB qC qD qE qF qG qH qI qJ
    have e1 : (fr != fr) = false := bne_self_eq_false fr
    have e2 : (mu != mu) = false := bne_self_eq_false mu
    have e3 : (sm != sm) = false := bne_self_eq_false sm
    have e4 : ((sz : Int) != (sz : Int)) = false := bne_self_eq_false _
    refine wp_region_quiet_below (by kernel_rfl) (by kernel_rfl) ?_
    repeat (go_big_quiet_step (first | with_reducible exact cA _ _ | with_reducible exact cB _ _ | with_reducible exact cC _ _ | with_reducible exact cD _ _ | with_reducible exact cE _ _ | with_reducible exact cF _ _ | with_reducible exact cG _ _ | with_reducible exact cH _ _ | with_reducible exact cI _ _ | with_reducible exact cJ _ _))
    refine wpQuiet_nil ?_
    intro _ hw'
    obtain ⟨⟨dq, osq⟩, hw''⟩ := hw'
    subst hw''
    have hbq := below_regrown w1 dq osq
    have hx2 := HX1.out.later hbq
    generalize grow (redrawn w1 dq) osq = wq at hx2 hbq
    have HX2 := Lib.hid hx2
    obtain ⟨ft, hft⟩ : ∃ b, b = fitsH h p := ⟨_, rfl⟩
    have HFT := Lib.hid hft
    have hby := bytes_any h (.slice A1 n1 c1) (.slice A3 n3 c3) p _ wq (HV.out wq HX2.out.b) (HP.out wq HX2.out.b) HOK.out HS1.out HS3.out
    rw [← hft] at hby
    have HBY := Lib.hid hby
    have hld := hd_load HX2.out.k1 rfl
    clear hx2 hbq hft hby x1 x2 x3 cA cB cC cD cE cF cG cH cI cJ e1 e2 e3 e4
    cases ft with
    | false =>
      rw [if_neg (by decide), if_neg (by decide)] at HBY
      go_wp2_with fail
      refine HBY.out.mono ?_
      rintro e w2 ⟨v2, rfl, h2, hb2⟩
      have HX3 := Lib.hid (HX2.out.later hb2)
      obtain ⟨A4, c4, rfl, _⟩ := h2.form
      have hft := fits_any h (.slice A1 n1 c1) (.slice A3 n3 c3) p _ w2 (HV.out w2 HX3.out.b) (HP.out w2 HX3.out.b) HS1.out
      rw [← HFT.out] at hft
      have HF := Lib.hid hft
      have hld2 := hd_load HX3.out.k1 rfl
      simp only [List.length_nil]
      clear h2 hb2 hft hld
      go_wp2_with fail
      refine HF.out.mono ?_
      rintro e w3 ⟨rfl, hb3⟩
      have HX4 := Lib.hid (HX3.out.later hb3)
      clear hb3 hld2
      go_wp2_with fail
      refine (HNM.out _ _).mono ?_
      rintro e w4 ⟨rfl, rfl⟩
      go_wp2_with fail
      refine (HK.out _).mono ?_
      rintro e w5 ⟨rfl, hb5⟩
      have HB5 := Lib.hid (HX4.out.b.trans (hb5.mono HX4.out.b.size))
      clear hb5
      go_wp2_with fail
      go_ret
      exact ⟨rfl, HB5.out⟩
    | true =>
      rw [if_pos rfl, if_pos rfl] at HBY
      go_wp2_with fail
      refine HBY.out.mono ?_
      rintro e w2 ⟨v2, rfl, h2, hb2⟩
      have HX3 := Lib.hid (HX2.out.later hb2)
      obtain ⟨A4, c4, rfl, _⟩ := h2.form
      have hft := fits_any h (.slice A1 n1 c1) (.slice A3 n3 c3) p _ w2 (HV.out w2 HX3.out.b) (HP.out w2 HX3.out.b) HS1.out
      rw [← HFT.out] at hft
      have HF := Lib.hid hft
      have hld2 := hd_load HX3.out.k1 rfl
      obtain ⟨z, hz⟩ : ∃ z, z = bytesF h p := ⟨_, rfl⟩
      have HZ := Lib.hid hz
      rw [← hz] at h2 ⊢
      have H2 := Lib.hid h2
      clear h2 hb2 hft hld hz
      go_wp2_with fail
      refine HF.out.mono ?_
      rintro e w3 ⟨rfl, hb3⟩
      have HX4 := Lib.hid (HX3.out.later hb3)
      have H3 := Lib.hid (H2.out.below hb3)
      clear hb3 hld2
      go_wp2_with fail
      have x1 := fun (wz : World) (hz : HdW w w.heap.size (w.heap.size + 1) (hdC h (.slice A1 n1 c1)) (hdC o (.slice A2 n2 c2)) wz) (d : Nat) (os : Array Obj) => hd_load ((hz.later (below_regrown wz d os)).k1) rfl
      have HCC := Lib.hid (fun (a b : World) (ha : HdW w w.heap.size (w.heap.size + 1) (hdC h (.slice A1 n1 c1)) (hdC o (.slice A2 n2 c2)) a ∧ Row8 wq.heap.size a (.slice A4 z.length c4) z) (hb : Below a.heap.size a b) => (⟨ha.1.later hb, ha.2.below hb⟩ : HdW w w.heap.size (w.heap.size + 1) (hdC h (.slice A1 n1 c1)) (hdC o (.slice A2 n2 c2)) b ∧ Row8 wq.heap.size b (.slice A4 z.length c4) z))
      have X1 := Lib.hid x1
      clear x1
      refine wp_region_mix [(true, 4), (false, 12)] 2 (by kernel_rfl) (fun wx => HdW w w.heap.size (w.heap.size + 1) (hdC h (.slice A1 n1 c1)) (hdC o (.slice A2 n2 c2)) wx ∧ Row8 wq.heap.size wx (.slice A4 z.length c4) z) HCC.out (by kernel_rfl) ⟨HX4.out, H3.out⟩ (a' := ?_) (fun wz hz => ?_) fun wz hz => ?_
      rotate_left
      · have x2 := X1.out wz hz.1
        have x3 := fun (d : Nat) (os : Array Obj) => run_str (grow (redrawn wz d) os) _ A4 z c4 (row_reads (hz.2.below (below_regrown wz d os)))
        simp only [pick_nil, pick_tt, pick_ft, List.take_succ_cons, List.take_zero, List.drop_succ_cons, List.drop_zero, List.append_nil]
        repeat (go_big_quiet_step (fail))
        refine wpQuiet_nil ?_
        rfl
      · simp only [pick_nil, pick_ff, pick_tf, List.take_succ_cons, List.take_zero, List.drop_succ_cons, List.drop_zero, List.append_nil]
        have S0 := Lib.hid (HCC.out _ _ ⟨HX4.out, H3.out⟩ hz)
        clear hz
        refine wpMix_step S0.out fun wa ha => ?_
        have S1 := Lib.hid (HCC.out _ _ S0.out ha)
        have hrb := rbytes_any h (.slice A1 n1 c1) (.slice A3 n3 c3) p _ wa (HV.out wa S1.out.1.b) (HP.out wa S1.out.1.b) HOK.out HFT.out.symm
        rw [← HZ.out] at hrb
        have HRB := Lib.hid hrb
        clear ha hrb
        go_wp2_with fail
        refine HRB.out.mono ?_
        rintro e wb ⟨vb, rfl, hvb, hbb⟩
        obtain ⟨A5, c5, rfl, _⟩ := hvb.form
        have S2 := Lib.hid (HCC.out _ _ S1.out hbb)
        have HVB := Lib.hid hvb
        clear hvb hbb
        go_wp2_with fail
        refine wpMix_step S2.out fun wc hc => ?_
        have S3 := Lib.hid (HCC.out _ _ S2.out hc)
        have s5 := run_str wc _ A5 z c5 (row_reads (HVB.out.below hc))
        clear hc
        go_wp2_with fail
        clear s5
        refine wpMix_step S3.out fun wd hd => ?_
        have S4 := Lib.hid (HCC.out _ _ S3.out hd)
        clear hd
        go_wp2_with fail
        refine wpMix_plain ?_
        go_wp2_with fail
        refine (HNM.out _ _).mono ?_
        rintro e w4 ⟨rfl, rfl⟩
        go_wp2_with fail
        refine (HK.out _).mono ?_
        rintro e w5 ⟨rfl, hb5⟩
        have HB5 := Lib.hid (S4.out.1.b.trans (hb5.mono S4.out.1.b.size))
        clear hb5
        go_wp2_with fail
        go_ret
        exact ⟨rfl, HB5.out⟩
  | false =>
    have h20 : sz = 0 := by rw [hsz, if_neg (by rw [← HMB.out]; decide)]
    clear hsz
    subst h20
    go_wp2_with fail
    clear hl3
    have x1 := fun (d : Nat) (os : Array Obj) => hd_load ((HX1.out.later (below_regrown w1 d os)).k1) rfl
    have x2 := fun (d : Nat) (os : Array Obj) => hd_load ((HX1.out.later (below_regrown w1 d os)).k2) rfl
    have x3 := fun (d : Nat) (os : Array Obj) => ld_u32 ((HX1.out.later (below_regrown w1 d os)).k1.cell 8)
    have HBG := Lib.hid (fun (d : Nat) (os : Array Obj) => (HX1.out.later (below_regrown w1 d os)).b)
    have qA : ∀ wx, Below w.heap.size w wx → Calls Try.prog 33 #[.agg (hdC h (.slice A1 n1 c1))] wx fun e w' => e = .returned (.bool false) ∧ Below wx.heap.size wx w' := fun wx hb => by have := may_any h _ _ wx (HV.out wx hb) HS1.out; rw [← HMB.out] at this; exact this
    have qB : ∀ wx, Below w.heap.size w wx → Calls Try.prog 32 #[.agg (hdC h (.slice A1 n1 c1))] wx fun e w' => e = .returned (.bool false) ∧ Below wx.heap.size wx w' := fun wx hb => by have := rmay_any h _ _ wx (HV.out wx hb) HS1.out; rw [← HMB.out] at this; exact this
    have qC : ∀ wx, Below w.heap.size w wx → Calls Try.prog 31 #[.agg (hdC h (.slice A1 n1 c1))] wx fun e w' => e = .returned (.int .i64 0) ∧ Below wx.heap.size wx w' := fun wx hb => by have := size_any h _ _ wx (HV.out wx hb) HS1.out; rw [← HSZ.out] at this; exact this
    have qD : ∀ wx, Below w.heap.size w wx → Calls Try.prog 34 #[.agg (hdC h (.slice A1 n1 c1))] wx fun e w' => e = .returned (.bool fr) ∧ Below wx.heap.size wx w' := fun wx _ => by rw [HFR.out]; exact frag_any h A1 n1 c1 wx
    have qE : ∀ wx, Below w.heap.size w wx → Calls Try.prog 35 #[.agg (hdC h (.slice A1 n1 c1))] wx fun e w' => e = .returned (.bool fr) ∧ Below wx.heap.size wx w' := fun wx _ => by rw [HFR.out]; exact rfrag_any h A1 n1 c1 wx
    have qF : ∀ wx, Below w.heap.size w wx → Calls Try.prog 36 #[.int .u32 (h.src : Int)] wx fun e w' => e = .returned (.bool mu) ∧ Below wx.heap.size wx w' := fun wx _ => by rw [HMU.out]; exact (multi_any h.src wx).mono fun r w' e => ⟨e.1, e.2 ▸ Below.refl _ _⟩
    have qG : ∀ wx, Below w.heap.size w wx → Calls Try.prog 37 #[.int .u32 (h.src : Int)] wx fun e w' => e = .returned (.bool mu) ∧ Below wx.heap.size wx w' := fun wx _ => by rw [HMU.out]; exact (rmulti_any h.src wx HOK.out.2.2.2.2.1).mono fun r w' e => ⟨e.1, e.2 ▸ Below.refl _ _⟩
    have qH : ∀ wx, Below w.heap.size w wx → Calls Try.prog 38 #[.agg (hdC h (.slice A1 n1 c1)), .agg (hdC o (.slice A2 n2 c2))] wx fun e w' => e = .returned (.bool sm) ∧ Below wx.heap.size wx w' := fun wx hb => by rw [HSM.out]; exact same_any h o _ _ _ _ wx (HV.out wx hb) (HU.out wx hb) HS1.out
    have qI : ∀ wx, Below w.heap.size w wx → Calls Try.prog 18 #[.agg (hdC h (.slice A1 n1 c1)), .agg (hdC o (.slice A2 n2 c2))] wx fun e w' => e = .returned (.bool sm) ∧ Below wx.heap.size wx w' := fun wx hb => by rw [HSM.out]; exact rsame_any h o _ _ _ _ wx (HV.out wx hb) (HU.out wx hb)
    have qJ : ∀ wx, Below w.heap.size w wx → Calls Try.prog 38 #[.agg (hdC h (.slice A1 n1 c1)), .agg (hdC h (.slice A1 n1 c1))] wx fun e w' => e = .returned (.bool true) ∧ Below wx.heap.size wx w' := fun wx hb => by have := same_any h h _ _ _ _ wx (HV.out wx hb) (HV.out wx hb) HS1.out; rw [(sameH_iff h h).2 rfl] at this; exact this
    have cA := fun (d : Nat) (os : Array Obj) => Calls.regrown_of (qA (grow (redrawn w1 d) os) (HBG.out d os))
    have cB := fun (d : Nat) (os : Array Obj) => Calls.regrown_of (qB (grow (redrawn w1 d) os) (HBG.out d os))
    have cC := fun (d : Nat) (os : Array Obj) => Calls.regrown_of (qC (grow (redrawn w1 d) os) (HBG.out d os))
    have cD := fun (d : Nat) (os : Array Obj) => Calls.regrown_of (qD (grow (redrawn w1 d) os) (HBG.out d os))
    have cE := fun (d : Nat) (os : Array Obj) => Calls.regrown_of (qE (grow (redrawn w1 d) os) (HBG.out d os))
    have cF := fun (d : Nat) (os : Array Obj) => Calls.regrown_of (qF (grow (redrawn w1 d) os) (HBG.out d os))
    have cG := fun (d : Nat) (os : Array Obj) => Calls.regrown_of (qG (grow (redrawn w1 d) os) (HBG.out d os))
    have cH := fun (d : Nat) (os : Array Obj) => Calls.regrown_of (qH (grow (redrawn w1 d) os) (HBG.out d os))
    have cI := fun (d : Nat) (os : Array Obj) => Calls.regrown_of (qI (grow (redrawn w1 d) os) (HBG.out d os))
    have cJ := fun (d : Nat) (os : Array Obj) => Calls.regrown_of (qJ (grow (redrawn w1 d) os) (HBG.out d os))
    clear qA qB qC qD qE qF qG qH qI qJ
    have e1 : (fr != fr) = false := bne_self_eq_false fr
    have e2 : (mu != mu) = false := bne_self_eq_false mu
    have e3 : (sm != sm) = false := bne_self_eq_false sm
    have e4 : True := trivial
    refine wp_region_quiet_below (by kernel_rfl) (by kernel_rfl) ?_
    repeat (go_big_quiet_step (first | with_reducible exact cA _ _ | with_reducible exact cB _ _ | with_reducible exact cC _ _ | with_reducible exact cD _ _ | with_reducible exact cE _ _ | with_reducible exact cF _ _ | with_reducible exact cG _ _ | with_reducible exact cH _ _ | with_reducible exact cI _ _ | with_reducible exact cJ _ _))
    refine wpQuiet_nil ?_
    intro _ hw'
    obtain ⟨⟨dq, osq⟩, hw''⟩ := hw'
    subst hw''
    have hbq := below_regrown w1 dq osq
    have hx2 := HX1.out.later hbq
    generalize grow (redrawn w1 dq) osq = wq at hx2 hbq
    have HX2 := Lib.hid hx2
    obtain ⟨ft, hft⟩ : ∃ b, b = fitsH h p := ⟨_, rfl⟩
    have HFT := Lib.hid hft
    have hby := bytes_any h (.slice A1 n1 c1) (.slice A3 n3 c3) p _ wq (HV.out wq HX2.out.b) (HP.out wq HX2.out.b) HOK.out HS1.out HS3.out
    rw [← hft] at hby
    have HBY := Lib.hid hby
    have hld := hd_load HX2.out.k1 rfl
    clear hx2 hbq hft hby x1 x2 x3 cA cB cC cD cE cF cG cH cI cJ e1 e2 e3 e4
    cases ft with
    | false =>
      rw [if_neg (by decide), if_neg (by decide)] at HBY
      go_wp2_with fail
      refine HBY.out.mono ?_
      rintro e w2 ⟨v2, rfl, h2, hb2⟩
      have HX3 := Lib.hid (HX2.out.later hb2)
      obtain ⟨A4, c4, rfl, _⟩ := h2.form
      have hft := fits_any h (.slice A1 n1 c1) (.slice A3 n3 c3) p _ w2 (HV.out w2 HX3.out.b) (HP.out w2 HX3.out.b) HS1.out
      rw [← HFT.out] at hft
      have HF := Lib.hid hft
      have hld2 := hd_load HX3.out.k1 rfl
      simp only [List.length_nil]
      clear h2 hb2 hft hld
      go_wp2_with fail
      refine HF.out.mono ?_
      rintro e w3 ⟨rfl, hb3⟩
      have HX4 := Lib.hid (HX3.out.later hb3)
      clear hb3 hld2
      go_wp2_with fail
      refine (HNM.out _ _).mono ?_
      rintro e w4 ⟨rfl, rfl⟩
      go_wp2_with fail
      refine (HK.out _).mono ?_
      rintro e w5 ⟨rfl, hb5⟩
      have HB5 := Lib.hid (HX4.out.b.trans (hb5.mono HX4.out.b.size))
      clear hb5
      go_wp2_with fail
      go_ret
      exact ⟨rfl, HB5.out⟩
    | true =>
      rw [if_pos rfl, if_pos rfl] at HBY
      go_wp2_with fail
      refine HBY.out.mono ?_
      rintro e w2 ⟨v2, rfl, h2, hb2⟩
      have HX3 := Lib.hid (HX2.out.later hb2)
      obtain ⟨A4, c4, rfl, _⟩ := h2.form
      have hft := fits_any h (.slice A1 n1 c1) (.slice A3 n3 c3) p _ w2 (HV.out w2 HX3.out.b) (HP.out w2 HX3.out.b) HS1.out
      rw [← HFT.out] at hft
      have HF := Lib.hid hft
      have hld2 := hd_load HX3.out.k1 rfl
      obtain ⟨z, hz⟩ : ∃ z, z = bytesF h p := ⟨_, rfl⟩
      have HZ := Lib.hid hz
      rw [← hz] at h2 ⊢
      have H2 := Lib.hid h2
      clear h2 hb2 hft hld hz
      go_wp2_with fail
      refine HF.out.mono ?_
      rintro e w3 ⟨rfl, hb3⟩
      have HX4 := Lib.hid (HX3.out.later hb3)
      have H3 := Lib.hid (H2.out.below hb3)
      clear hb3 hld2
      go_wp2_with fail
      have x1 := fun (wz : World) (hz : HdW w w.heap.size (w.heap.size + 1) (hdC h (.slice A1 n1 c1)) (hdC o (.slice A2 n2 c2)) wz) (d : Nat) (os : Array Obj) => hd_load ((hz.later (below_regrown wz d os)).k1) rfl
      have HCC := Lib.hid (fun (a b : World) (ha : HdW w w.heap.size (w.heap.size + 1) (hdC h (.slice A1 n1 c1)) (hdC o (.slice A2 n2 c2)) a ∧ Row8 wq.heap.size a (.slice A4 z.length c4) z) (hb : Below a.heap.size a b) => (⟨ha.1.later hb, ha.2.below hb⟩ : HdW w w.heap.size (w.heap.size + 1) (hdC h (.slice A1 n1 c1)) (hdC o (.slice A2 n2 c2)) b ∧ Row8 wq.heap.size b (.slice A4 z.length c4) z))
      have X1 := Lib.hid x1
      clear x1
      refine wp_region_mix [(true, 4), (false, 12)] 2 (by kernel_rfl) (fun wx => HdW w w.heap.size (w.heap.size + 1) (hdC h (.slice A1 n1 c1)) (hdC o (.slice A2 n2 c2)) wx ∧ Row8 wq.heap.size wx (.slice A4 z.length c4) z) HCC.out (by kernel_rfl) ⟨HX4.out, H3.out⟩ (a' := ?_) (fun wz hz => ?_) fun wz hz => ?_
      rotate_left
      · have x2 := X1.out wz hz.1
        have x3 := fun (d : Nat) (os : Array Obj) => run_str (grow (redrawn wz d) os) _ A4 z c4 (row_reads (hz.2.below (below_regrown wz d os)))
        simp only [pick_nil, pick_tt, pick_ft, List.take_succ_cons, List.take_zero, List.drop_succ_cons, List.drop_zero, List.append_nil]
        repeat (go_big_quiet_step (fail))
        refine wpQuiet_nil ?_
        rfl
      · simp only [pick_nil, pick_ff, pick_tf, List.take_succ_cons, List.take_zero, List.drop_succ_cons, List.drop_zero, List.append_nil]
        have S0 := Lib.hid (HCC.out _ _ ⟨HX4.out, H3.out⟩ hz)
        clear hz
        refine wpMix_step S0.out fun wa ha => ?_
        have S1 := Lib.hid (HCC.out _ _ S0.out ha)
        have hrb := rbytes_any h (.slice A1 n1 c1) (.slice A3 n3 c3) p _ wa (HV.out wa S1.out.1.b) (HP.out wa S1.out.1.b) HOK.out HFT.out.symm
        rw [← HZ.out] at hrb
        have HRB := Lib.hid hrb
        clear ha hrb
        go_wp2_with fail
        refine HRB.out.mono ?_
        rintro e wb ⟨vb, rfl, hvb, hbb⟩
        obtain ⟨A5, c5, rfl, _⟩ := hvb.form
        have S2 := Lib.hid (HCC.out _ _ S1.out hbb)
        have HVB := Lib.hid hvb
        clear hvb hbb
        go_wp2_with fail
        refine wpMix_step S2.out fun wc hc => ?_
        have S3 := Lib.hid (HCC.out _ _ S2.out hc)
        have s5 := run_str wc _ A5 z c5 (row_reads (HVB.out.below hc))
        clear hc
        go_wp2_with fail
        clear s5
        refine wpMix_step S3.out fun wd hd => ?_
        have S4 := Lib.hid (HCC.out _ _ S3.out hd)
        clear hd
        go_wp2_with fail
        refine wpMix_plain ?_
        go_wp2_with fail
        refine (HNM.out _ _).mono ?_
        rintro e w4 ⟨rfl, rfl⟩
        go_wp2_with fail
        refine (HK.out _).mono ?_
        rintro e w5 ⟨rfl, hb5⟩
        have HB5 := Lib.hid (S4.out.1.b.trans (hb5.mono S4.out.1.b.size))
        clear hb5
        go_wp2_with fail
        go_ret
        exact ⟨rfl, HB5.out⟩
end Go.Proofs.Ytfddkehnhkfjeaa
