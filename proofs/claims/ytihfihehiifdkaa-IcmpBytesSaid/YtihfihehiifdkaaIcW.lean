/- Icmp: IcmpErrors' walk. -/
import Derived.Test.YtihfihehiifdkaaIcY
namespace Go.Proofs.Ytihfihehiifdkaa
open Go.RowKit Go.Sort Go.BigFrame
attribute [-go_sem] Instr.storeAt in
set_option maxRecDepth 100000 in
set_option maxHeartbeats 4000000 in
theorem rquotev_any (A : Option Addr) (n c : Nat) (x : By) (I : Nat → Prop) (w : World) (h : Reads w I 1 A n (bytesV x)) (hn : x.length = n) (hc : n ≤ c) (hsm : n ≤ 1000000) (h0 : (prsF x).2.2 = 0) :
    Calls Try.prog 20 #[.slice A n c] w fun e w' => e = .returned (.slice A (quoteF x).1.length c) ∧ Below w.heap.size w w' := by
  have hpa := rparse_any A n c x I w h hn hc hsm
  have hwh := prs_wh h0
  obtain ⟨Q, hQ⟩ : ∃ Q, Q = quoteF x := ⟨_, rfl⟩
  rw [← hQ]
  unfold quoteF at hQ
  rw [if_neg (by omega)] at hQ
  obtain ⟨R, hR⟩ : ∃ R, R = prsF x := ⟨_, rfl⟩
  rw [← hR] at hpa hQ hwh
  obtain ⟨g, y, f⟩ := R
  simp only at hQ hwh
  have HPA := Lib.hid hpa
  have HQ := Lib.hid hQ
  have HN := Lib.hid hn
  obtain ⟨q, hq⟩ : ∃ q, q = y.length := ⟨_, rfl⟩
  obtain ⟨o, ho⟩ : ∃ o, o = g.opts.length := ⟨_, rfl⟩
  rw [← hq, ← ho] at hwh
  have HQL := Lib.hid hq
  have HO := Lib.hid ho
  have hwn : 20 + o + q ≤ n := by omega
  clear hpa hQ hR h hn hwh hq ho h0
  go_enter Try.func20, Try.ntmps20
  go_upto_region 2 with
    (go_at_call 16
     refine HPA.out.mono ?_
     rintro e w1 ⟨vo, vq, rfl, hoo, hqq, hb⟩
     obtain ⟨Ao, co, rfl, _⟩ := hoo
     obtain ⟨Aq, cq, rfl, _⟩ := hqq
     rw [show (g, y, f).2.1.length = q from HQL.out.symm, show (g, y, f).1.opts.length = o from HO.out.symm]
     obtain ⟨w2, hst, hb2, hb12, hk2⟩ := hd_var hb hb.size g Ao o co
     have k10 : w2.cell? ⟨w1.heap.size, 10, none⟩ = some (.slice Ao o co) := hk2.cell 10
     have HB2 := Lib.hid hb2
     clear hb hb2 hb12 hk2)
  by_cases h8 : 8 < q
  · have d1 : decide ((8 : Int) < (q : Int)) = true := decide_eq_true (by omega)
    have d2 : decide (8 < q) = true := decide_eq_true h8
    have hcut := sl_hi A n c w2 (20 + o + 8) (by omega)
    have e1 : ((20 + o + 8 : Nat) : Int) = 20 + (o : Int) + 8 := by omega
    rw [e1] at hcut
    go_wp2_with fail
    go_ret
    have hl : Q.1.length = 20 + o + 8 := by
      rw [HQ.out, ← HO.out, ← HQL.out, Nat.min_eq_left (by omega), List.length_take]
      have := HN.out
      omega
    rw [hl]
    exact ⟨rfl, HB2.out⟩
  · have d1 : decide ((8 : Int) < (q : Int)) = false := decide_eq_false (by omega)
    have d2 : decide (8 < q) = false := decide_eq_false h8
    have hcut := sl_hi A n c w2 (20 + o + q) (by omega)
    have e1 : ((20 + o + q : Nat) : Int) = 20 + (o : Int) + (q : Int) := by omega
    rw [e1] at hcut
    go_wp2_with fail
    go_ret
    have hl : Q.1.length = 20 + o + q := by
      rw [HQ.out, ← HO.out, ← HQL.out, Nat.min_eq_right (by omega), List.length_take]
      have := HN.out
      omega
    rw [hl]
    exact ⟨rfl, HB2.out⟩
theorem quote_bad {x : By} (h : (prsF x).2.2 ≠ 0) : quoteF x = ([], 4) := by unfold quoteF; rw [if_pos h]
theorem quote_good {x : By} (h : (prsF x).2.2 = 0) : (quoteF x).2 = 0 := by unfold quoteF; rw [if_neg (by omega)]
set_option maxRecDepth 100000 in
set_option maxHeartbeats 16000000 in
attribute [-go_sem] Instr.storeAt Instr.loadAt in
theorem icmperrors_any (k mtu : Int) (fr : Nat) (A : Option Addr) (n c : Nat) (x : By) (w : World) (hk : (Lit.int .i64 k).wf = true) (hfr : fr < 2 ^ 32) (h : Reads w (fun k => k < w.heap.size) 1 A n (bytesV x)) (hn : x.length = n) (hc : n ≤ c) :
    Calls Try.prog 4 #[.int .i64 k, .slice A n c, .int .u32 (fr : Int), .int .i64 mtu] w fun e w' => e = .returned (.bool true) ∧ Below w.heap.size w w' := by
  have HK := Lib.hid (fun wx => known4_any wx)
  have HNM := Lib.hid (fun z wx => num4_any z wx)
  have HN := Lib.hid hn
  have HC := Lib.hid hc
  have HH := Lib.hid (show ∀ wx, Below w.heap.size w wx → Reads wx (fun k => k < w.heap.size) 1 A n (bytesV x) from fun wx hb => h.keep (Same.ofBelow hb fun k hk => hk))
  go_enter Try.func4, Try.ntmps4
  by_cases hbig : 70000 < n
  · have hg : decide ((70000 : Int) < (n : Int)) = true := decide_eq_true (by omega)
    clear h hn hc
    go_wp2_with fail
    refine (HK.out _).mono ?_
    rintro e w1 ⟨rfl, hb⟩
    have HB := Lib.hid hb
    clear hb
    go_wp2_with fail
    go_ret
    exact ⟨rfl, HB.out⟩
  have hg : decide ((70000 : Int) < (n : Int)) = false := decide_eq_false (by omega)
  have hsm : n ≤ 1000000 := by omega
  have hpa := rparse_any A n c x _ w h hn hc hsm
  have HQT := Lib.hid (fun wx (hb : Below w.heap.size w wx) => quote_any A n c x _ wx (HH.out wx hb) HN.out HC.out hsm)
  have HM1 := Lib.hid (fun wx (hb : Below w.heap.size w wx) => icmayp_any A n c x _ wx (HH.out wx hb) HN.out HC.out hsm)
  have HM2 := Lib.hid (fun wx (hb : Below w.heap.size w wx) => ricmay_any A n c x _ wx (HH.out wx hb) HN.out HC.out hsm)
  have HRQ := Lib.hid (fun (h0 : (prsF x).2.2 = 0) wx (hb : Below w.heap.size w wx) => rquotev_any A n c x _ wx (HH.out wx hb) HN.out HC.out hsm h0)
  have HE1 := Lib.hid (fun wx (hb : Below w.heap.size w wx) => icerror_any k mtu fr A n c x _ wx hk hfr (HH.out wx hb) HN.out HC.out hsm)
  have HE2 := Lib.hid (fun wx (hb : Below w.heap.size w wx) => rerror_any k mtu fr A n c x _ wx hfr (HH.out wx hb) HN.out HC.out hsm)
  have x1 := quote_bad (x := x)
  have x2 := quote_good (x := x)
  have x3 := quote_of (x := x)
  have x4 := prs_wh (x := x)
  obtain ⟨B, hB⟩ : ∃ B, B = errF k x fr mtu := ⟨_, rfl⟩
  rw [← hB] at HE1 HE2
  obtain ⟨E, hE⟩ : ∃ E, E = emayF x := ⟨_, rfl⟩
  rw [← hE] at HM1 HM2
  obtain ⟨Q, hQ⟩ : ∃ Q, Q = quoteF x := ⟨_, rfl⟩
  rw [← hQ] at HQT HRQ x1 x2 x3
  obtain ⟨R, hR⟩ : ∃ R, R = prsF x := ⟨_, rfl⟩
  rw [← hR] at hpa x1 x2 x3 x4
  rw [← hR] at HRQ
  obtain ⟨g, y, f⟩ := R
  obtain ⟨z, er⟩ := Q
  obtain ⟨b, eb⟩ := B
  simp only at x1 x2 x3 x4 HE1 HE2 HQT HRQ
  have HPA := Lib.hid hpa
  have X1 := Lib.hid x1
  have X2 := Lib.hid x2
  have X3 := Lib.hid x3
  have X4 := Lib.hid x4
  clear hpa x1 x2 x3 x4 hR hQ hB hE h hn hc hbig hk hfr
  go_upto_region 4 with
    (go_at_call 16
     refine HPA.out.mono ?_
     rintro e w1 ⟨vo, vq, rfl, ho, hq, hb⟩
     obtain ⟨Ao, co', rfl, _⟩ := ho
     obtain ⟨Aq, cq, rfl, _⟩ := hq
     obtain ⟨w2, hst, hb2, hb12, hk2⟩ := hd_var hb hb.size g Ao g.opts.length co'
     have HB2 := Lib.hid hb2
     clear hb hb2 hb12 hk2)
  clear hst
  go_upto_region 5 with
    (go_at_call 14
     refine (HQT.out _ HB2.out).mono ?_
     rintro e w3 ⟨v3, rfl, h3, hb3⟩
     obtain ⟨A3, c3, rfl, _⟩ := h3.form
     have H3 := Lib.hid h3
     have HB3 := Lib.hid (HB2.out.trans (hb3.mono HB2.out.size))
     clear h3 hb3)
  have t1 : (E != E) = false := by cases E <;> rfl
  obtain ⟨s, hs⟩ : ∃ s, s = z.length := ⟨_, rfl⟩
  obtain ⟨ez, hez⟩ : ∃ e : Int, e = (er : Int) := ⟨_, rfl⟩
  rw [← hs, ← hez]
  rw [← hs] at HRQ
  have HS := Lib.hid hs
  have h3 := H3.out
  rw [← hs] at h3
  have H4 := Lib.hid h3
  have HEZ := Lib.hid hez
  clear h3 H3 hs hez
  by_cases h0 : f = 0
  · have hz2 := X2.out h0
    obtain ⟨_, hz⟩ := X3.out hz2
    have hl := X4.out h0
    have hsl : s ≤ n := by rw [HS.out, hz, List.length_take]; have := HN.out; omega
    have HSN := Lib.hid hsl
    have hzs : z = x.take s := by
      have : s = min (20 + g.opts.length + min 8 y.length) x.length := by rw [HS.out, hz, List.length_take]
      rw [hz, this, ← List.take_take, List.take_length]
    have HZ := Lib.hid hzs
    have b1 : ((f : Int) != 0) = false := by rw [bne_eq_false_iff_eq]; omega
    have b2 : ((f : Int) == 0) = true := by rw [beq_iff_eq]; omega
    have b3 : (ez != 0) = false := by rw [bne_eq_false_iff_eq, HEZ.out]; omega
    have d1 := bytes_bne z
    have hrq := HRQ.out h0
    have HRV := Lib.hid hrq
    clear h0 hz2 hz hl hsl hzs hrq
    refine wp_region_stages [(true, 36)] (by kernel_rfl) (by kernel_rfl) fun wz hz hz2 => ?_
    have HZZ := Lib.hid (HB3.out.trans (hz.mono HB3.out.size))
    have H5 := Lib.hid (H4.out.below hz)
    have k1 := fun (d : Nat) (os : Array Obj) => Calls.regrown_of (HM1.out (grow (redrawn wz d) os) (HZZ.out.trans ((below_regrown wz d os).mono HZZ.out.size)))
    have k2 := fun (d : Nat) (os : Array Obj) => Calls.regrown_of (HM2.out (grow (redrawn wz d) os) (HZZ.out.trans ((below_regrown wz d os).mono HZZ.out.size)))
    have k3 := fun (v : Int) (d : Nat) (os : Array Obj) => Calls.regrown_of ((num4_any v (grow (redrawn wz d) os)).mono fun _ _ ⟨h1, h2⟩ => ⟨h1, h2 ▸ Below.refl _ _⟩)
    have k4 := fun (d : Nat) (os : Array Obj) => Calls.regrown_of (HRV.out (grow (redrawn wz d) os) (HZZ.out.trans ((below_regrown wz d os).mono HZZ.out.size)))
    have cv1 : ∀ (d : Nat) (os : Array Obj), (convert 22 9 (.slice A3 s c3)).run Try.prog (grow (redrawn wz d) os) = .ok (.string ⟨z.toArray⟩) (grow (redrawn wz d) os) := fun d os => by
      have hr := (H5.out.below (below_regrown wz d os)).reads.2
      rw [HS.out] at hr ⊢
      exact run_str _ _ _ _ _ hr
    have cv2 : ∀ (d : Nat) (os : Array Obj), (convert 22 9 (.slice A s c)).run Try.prog (grow (redrawn wz d) os) = .ok (.string ⟨z.toArray⟩) (grow (redrawn wz d) os) := fun d os => by
      obtain ⟨e1, _, hr⟩ := (cut_hi (cap := c) (k := s) (by rw [HN.out]; exact HH.out (grow (redrawn wz d) os) (HZZ.out.trans ((below_regrown wz d os).mono HZZ.out.size))) (by rw [HN.out]; exact HSN.out) (by have := HC.out; have := HSN.out; omega)).len
      rw [e1, HZ.out]
      exact run_str _ _ _ _ _ hr
    clear hz hz2
    refine wpSt_q ?_
    simp only [List.take_succ_cons, List.take_zero, List.drop_succ_cons, List.drop_zero]
    repeat (go_big_quiet_step (first | with_reducible exact k1 _ _ | with_reducible exact k2 _ _ | with_reducible exact k3 _ _ _ | with_reducible exact k4 _ _))
    refine wpQuiet_nil ?_
    intro _ hw'
    obtain ⟨⟨dq, osq⟩, hw''⟩ := hw'
    subst hw''
    have hbq := below_regrown wz dq osq
    generalize grow (redrawn wz dq) osq = wq at hbq ⊢
    clear k1 k2 k3 k4 cv1 cv2
    refine wpSt_end ?_
    have HB6 := Lib.hid (HZZ.out.trans (hbq.mono HZZ.out.size))
    clear hbq
    go_upto_region 8 with
      (go_at_call 17
       refine (HE1.out _ HB6.out).mono ?_
       rintro e w7 ⟨v7, rfl, h7, hb7⟩
       obtain ⟨A7, c7, rfl, _⟩ := h7.form
       have H7 := Lib.hid h7
       have HB7 := Lib.hid (HB6.out.trans (hb7.mono HB6.out.size))
       clear h7 hb7)
    go_upto_region 9 with
      (go_at_call 21
       refine (HE2.out _ HB7.out).mono ?_
       rintro e w8 ⟨v8, rfl, h8, hb8⟩
       obtain ⟨A8, c8, rfl, _⟩ := h8.form
       have H8 := Lib.hid h8
       have H78 := Lib.hid (H7.out.below hb8)
       have HB8 := Lib.hid (HB7.out.trans (hb8.mono HB7.out.size))
       clear h8 hb8)
    have s1 := run_str w8 _ A7 b c7 H78.out.reads.2
    have s2 := run_str w8 _ A8 b c8 H8.out.reads.2
    have t2 : ((⟨b.toArray⟩ : ByteArray) == ⟨b.toArray⟩) = true := (bytes_beq b b).trans (by simp)
    go_wp2_with (first
      | (go_at_call 15; refine (HNM.out _ _).mono ?_; rintro e w' ⟨rfl, rfl⟩)
      | (go_at_call 13; refine (HK.out _).mono ?_; rintro e w9 ⟨rfl, hb9⟩; have HB9 := Lib.hid (HB8.out.trans (hb9.mono HB8.out.size)); clear hb9))
    go_ret
    exact ⟨rfl, HB9.out⟩
  · have hq0 := X1.out h0
    injection hq0 with hz he4
    have b1 : ((f : Int) != 0) = true := by rw [bne_iff_ne]; omega
    have b2 : ((f : Int) == 0) = false := by rw [beq_eq_false_iff_ne]; omega
    have b3 : (ez != 4) = false := by rw [bne_eq_false_iff_eq, HEZ.out]; omega
    obtain rfl : s = 0 := by rw [HS.out, hz]; rfl
    clear h0 hz he4
    refine wp_region_stages [(true, 36)] (by kernel_rfl) (by kernel_rfl) fun wz hz hz2 => ?_
    have HZZ := Lib.hid (HB3.out.trans (hz.mono HB3.out.size))
    have k1 := fun (d : Nat) (os : Array Obj) => Calls.regrown_of (HM1.out (grow (redrawn wz d) os) (HZZ.out.trans ((below_regrown wz d os).mono HZZ.out.size)))
    have k2 := fun (d : Nat) (os : Array Obj) => Calls.regrown_of (HM2.out (grow (redrawn wz d) os) (HZZ.out.trans ((below_regrown wz d os).mono HZZ.out.size)))
    have k3 := fun (v : Int) (d : Nat) (os : Array Obj) => Calls.regrown_of ((num4_any v (grow (redrawn wz d) os)).mono fun _ _ ⟨h1, h2⟩ => ⟨h1, h2 ▸ Below.refl _ _⟩)
    clear hz hz2
    refine wpSt_q ?_
    simp only [List.take_succ_cons, List.take_zero, List.drop_succ_cons, List.drop_zero]
    repeat (go_big_quiet_step (first | with_reducible exact k1 _ _ | with_reducible exact k2 _ _ | with_reducible exact k3 _ _ _))
    refine wpQuiet_nil ?_
    intro _ hw'
    obtain ⟨⟨dq, osq⟩, hw''⟩ := hw'
    subst hw''
    have hbq := below_regrown wz dq osq
    generalize grow (redrawn wz dq) osq = wq at hbq ⊢
    clear k1 k2 k3
    refine wpSt_end ?_
    have HB6 := Lib.hid (HZZ.out.trans (hbq.mono HZZ.out.size))
    clear hbq
    go_upto_region 8 with
      (go_at_call 17
       refine (HE1.out _ HB6.out).mono ?_
       rintro e w7 ⟨v7, rfl, h7, hb7⟩
       obtain ⟨A7, c7, rfl, _⟩ := h7.form
       have H7 := Lib.hid h7
       have HB7 := Lib.hid (HB6.out.trans (hb7.mono HB6.out.size))
       clear h7 hb7)
    go_upto_region 9 with
      (go_at_call 21
       refine (HE2.out _ HB7.out).mono ?_
       rintro e w8 ⟨v8, rfl, h8, hb8⟩
       obtain ⟨A8, c8, rfl, _⟩ := h8.form
       have H8 := Lib.hid h8
       have H78 := Lib.hid (H7.out.below hb8)
       have HB8 := Lib.hid (HB7.out.trans (hb8.mono HB7.out.size))
       clear h8 hb8)
    have s1 := run_str w8 _ A7 b c7 H78.out.reads.2
    have s2 := run_str w8 _ A8 b c8 H8.out.reads.2
    have t2 : ((⟨b.toArray⟩ : ByteArray) == ⟨b.toArray⟩) = true := (bytes_beq b b).trans (by simp)
    go_wp2_with (first
      | (go_at_call 15; refine (HNM.out _ _).mono ?_; rintro e w' ⟨rfl, rfl⟩)
      | (go_at_call 13; refine (HK.out _).mono ?_; rintro e w9 ⟨rfl, hb9⟩; have HB9 := Lib.hid (HB8.out.trans (hb9.mono HB8.out.size)); clear hb9))
    go_ret
    exact ⟨rfl, HB9.out⟩
end Go.Proofs.Ytihfihehiifdkaa
