/- Icmp: IcmpEchoes' walk. -/
import Derived.Test.YtihfihehiifdkaaIcT
import Derived.Deep.QuietTactic
import Derived.BigQuiet
namespace Go.Proofs.Ytihfihehiifdkaa
open Go.RowKit Go.Sort Go.BigFrame
theorem reply_bad {x : By} (h : (prsF x).2.2 ≠ 0) : replyF x = ([], 4) := by unfold replyF; rw [if_pos h]
theorem reply_no {x : By} (h : (prsF x).2.2 = 0) (he : echoF x = false) : replyF x = ([], 7) := by unfold replyF; rw [if_neg (by omega), if_pos he]
theorem reply_yes {x : By} (he : echoF x = true) : (replyF x).2 = 0 := by unfold replyF; rw [if_neg (by have := (echo_of he).1; omega), if_neg (by rw [he]; decide)]
set_option maxRecDepth 100000 in
set_option maxHeartbeats 16000000 in
attribute [-go_sem] Instr.storeAt Instr.loadAt in
theorem icmpechoes_any (A : Option Addr) (n c : Nat) (x : By) (w : World) (h : Reads w (fun k => k < w.heap.size) 1 A n (bytesV x)) (hn : x.length = n) (hc : n ≤ c) :
    Calls Try.prog 6 #[.slice A n c] w fun e w' => e = .returned (.bool true) ∧ Below w.heap.size w w' := by
  have HK := Lib.hid (fun wx => known4_any wx)
  have HNM := Lib.hid (fun z wx => num4_any z wx)
  have HN := Lib.hid hn
  have HC := Lib.hid hc
  have HH := Lib.hid (show ∀ wx, Below w.heap.size w wx → Reads wx (fun k => k < w.heap.size) 1 A n (bytesV x) from fun wx hb => h.keep (Same.ofBelow hb fun k hk => hk))
  go_enter Try.func6, Try.ntmps6
  by_cases hbig : 70000 < n
  · have hg : decide ((70000 : Int) < (n : Int)) = true := decide_eq_true (by omega)
    clear h hn hc
    go_wp2_with fail
    refine (HK.out _).mono ?_
    rintro e w1 ⟨rfl, hb⟩
    have HB := Lib.hid hb
    clear hb
    go_wp2_with fail
    go_ret
    exact ⟨rfl, HB.out⟩
  have hg : decide ((70000 : Int) < (n : Int)) = false := decide_eq_false (by omega)
  have hsm : n ≤ 1000000 := by omega
  have hpa := rparse_any A n c x _ w h hn hc hsm
  have HRE := Lib.hid (fun wx (hb : Below w.heap.size w wx) => reply_any A n c x _ wx (HH.out wx hb) HN.out HC.out hsm)
  have HEC := Lib.hid (fun wx (hb : Below w.heap.size w wx) => echo_any A n c x _ wx (HH.out wx hb) HN.out HC.out hsm)
  have HRC := Lib.hid (fun wx (hb : Below w.heap.size w wx) => recho_any A n c x _ wx (HH.out wx hb) HN.out HC.out hsm)
  have HRR := Lib.hid (fun wx (hb : Below w.heap.size w wx) => rreply_any A n c x _ wx (HH.out wx hb) HN.out HC.out hsm)
  have x1 := reply_bad (x := x)
  have x2 := reply_no (x := x)
  have x3 := reply_yes (x := x)
  obtain ⟨R, hR⟩ : ∃ R, R = prsF x := ⟨_, rfl⟩
  rw [← hR] at hpa x1 x2
  obtain ⟨g, y, f⟩ := R
  obtain ⟨E, hE⟩ : ∃ E, E = echoF x := ⟨_, rfl⟩
  obtain ⟨P, hP⟩ : ∃ P, P = replyF x := ⟨_, rfl⟩
  rw [← hE] at x2 x3
  rw [← hP] at x1 x2 x3
  rw [← hE] at HEC HRC HRR
  rw [← hP] at HRE HRR
  obtain ⟨z, er⟩ := P
  simp only at x1 x2 x3 HRE HRR
  have HPA := Lib.hid hpa
  have X1 := Lib.hid x1
  have X2 := Lib.hid x2
  have X3 := Lib.hid x3
  clear hpa x1 x2 x3 hR hE hP h hn hc hsm hbig
  go_upto_region 4 with
    (go_at_call 16
     refine HPA.out.mono ?_
     rintro e w1 ⟨vo, vq, rfl, ho, hq, hb⟩
     obtain ⟨Ao, co', rfl, _⟩ := ho
     obtain ⟨Aq, cq, rfl, _⟩ := hq
     obtain ⟨w2, hst, hb2, hb12, hk2⟩ := hd_var hb hb.size g Ao g.opts.length co'
     have HB2 := Lib.hid hb2
     clear hb hb2 hb12 hk2)
  clear hst
  go_upto_region 5 with
    (go_at_call 30
     refine (HRE.out _ HB2.out).mono ?_
     rintro e w3 ⟨v3, rfl, h3, hb3⟩
     obtain ⟨A3, c3, rfl, hc3⟩ := h3.form
     have HC3 := Lib.hid hc3
     have H3 := Lib.hid h3
     have HB3 := Lib.hid (HB2.out.trans (hb3.mono HB2.out.size))
     clear h3 hb3 hc3)
  have t1 : (E != E) = false := by cases E <;> rfl
  have B3 := HB3
  go_upto_region 7 with (first
    | (go_at_call 31
       refine (HEC.out _ HB3.out).mono ?_
       rintro e w4 ⟨rfl, hb4⟩
       have H4 := Lib.hid (H3.out.below hb4)
       have HB4 := Lib.hid (HB3.out.trans (hb4.mono HB3.out.size))
       clear hb4)
    | (go_at_call 32
       refine (HRC.out _ HB4.out).mono ?_
       rintro e w5 ⟨rfl, hb5⟩
       have H5 := Lib.hid (H4.out.below hb5)
       have HB5 := Lib.hid (HB4.out.trans (hb5.mono HB4.out.size))
       clear hb5))
  by_cases h0 : f = 0
  rotate_left
  · have b1 : ((f : Int) != 0) = true := by rw [bne_iff_ne]; omega
    have hz := X1.out h0
    injection hz with hz1 hz2
    subst hz1 hz2
    clear h0
    go_wp2_with (first
      | (go_at_call 15; refine (HNM.out _ _).mono ?_; rintro e w' ⟨rfl, rfl⟩)
      | (go_at_call 13; refine (HK.out _).mono ?_; rintro e w6 ⟨rfl, hb6⟩; have HB6 := Lib.hid (HB5.out.trans (hb6.mono HB5.out.size)); clear hb6))
    go_ret
    exact ⟨rfl, HB6.out⟩
  have b1 : ((f : Int) != 0) = false := by rw [bne_eq_false_iff_eq]; omega
  cases E with
  | false =>
    have hz := X2.out h0 (by trivial)
    injection hz with hz1 hz2
    subst hz1 hz2
    clear h0
    go_wp2_with (first
      | (go_at_call 15; refine (HNM.out _ _).mono ?_; rintro e w' ⟨rfl, rfl⟩)
      | (go_at_call 32
         refine (HRC.out _ HB5.out).mono ?_
         rintro e w6 ⟨rfl, hb6⟩
         have HB6 := Lib.hid (HB5.out.trans (hb6.mono HB5.out.size))
         clear hb6)
      | (go_at_call 13; refine (HK.out _).mono ?_; rintro e w7 ⟨rfl, hb7⟩; have HB7 := Lib.hid (HB6.out.trans (hb7.mono HB6.out.size)); clear hb7))
    go_ret
    exact ⟨rfl, HB7.out⟩
  | true =>
    have hz := X3.out (by trivial)
    subst hz
    clear h0
    go_upto_region 11 with
      (go_at_call 32
       refine (HRC.out _ HB5.out).mono ?_
       rintro e w6 ⟨rfl, hb6⟩
       have H6 := Lib.hid (H5.out.below hb6)
       have HB6 := Lib.hid (HB5.out.trans (hb6.mono HB5.out.size))
       clear hb6)
    obtain ⟨q, hq⟩ : ∃ q, q = z.length := ⟨_, rfl⟩
    have HQ := Lib.hid hq
    rw [← hq]
    have hs0 : Row8 w2.heap.size w6 (.slice A3 q c3) z ∧ Below w.heap.size w w6 := by rw [hq]; exact ⟨H6.out, HB6.out⟩
    have S0 := Lib.hid hs0
    have HCC := Lib.hid (fun (a b : World) (ha : Row8 w2.heap.size a (.slice A3 q c3) z ∧ Below w.heap.size w a) (hb : Below a.heap.size a b) => (⟨ha.1.below hb, ha.2.trans (hb.mono ha.2.size)⟩ : Row8 w2.heap.size b (.slice A3 q c3) z ∧ Below w.heap.size w b))
    clear hq hs0
    refine wp_region_mix [(true, 3), (false, 12)] 2 (by kernel_rfl) (fun a => Row8 w2.heap.size a (.slice A3 q c3) z ∧ Below w.heap.size w a) HCC.out (by kernel_rfl) S0.out (a' := ?_) (fun wz hz => ?_) fun wz hz => ?_
    rotate_left
    · have cv := fun (dd : Nat) (os : Array Obj) => run_str (grow (redrawn wz dd) os) (fun _ => True) A3 z c3 (by rw [← HQ.out]; exact ((HCC.out _ _ hz (below_regrown wz dd os)).1.reads.2).mono fun _ _ => trivial)
      rw [← HQ.out] at cv
      clear hz
      simp only [pick_nil, pick_tt, pick_ft, List.take_succ_cons, List.take_zero, List.drop_succ_cons, List.drop_zero, List.append_nil]
      repeat (go_big_quiet_step (fail))
      refine wpQuiet_nil ?_
      rfl
    · simp only [pick_nil, pick_ff, pick_tf, List.take_succ_cons, List.take_zero, List.drop_succ_cons, List.drop_zero, List.append_nil]
      have T0 := Lib.hid (HCC.out _ _ S0.out hz)
      clear hz
      refine wpMix_step T0.out fun wa ha => ?_
      have T1 := Lib.hid (HCC.out _ _ T0.out ha)
      clear ha
      go_wp2_with fail
      refine (HRR.out _ T1.out.2 (by trivial)).mono ?_
      rintro e wb ⟨vb, rfl, hvb, hbb⟩
      obtain ⟨Ab, cb, rfl, _⟩ := hvb.form
      have T2 := Lib.hid (HCC.out _ _ T1.out hbb)
      have HV := Lib.hid (row_sl hvb)
      clear hvb hbb
      go_wp2_with fail
      refine wpMix_step T2.out fun wd hd => ?_
      have T3 := Lib.hid (HCC.out _ _ T2.out hd)
      have hv3 := HV.out.below hd
      have cv := run_str wd (fun _ => True) Ab z cb hv3.len.2.2
      have HV3 := Lib.hid hv3
      clear hd hv3
      go_wp2_with fail
      refine wpMix_step T3.out fun wf hf => ?_
      have T4 := Lib.hid (HCC.out _ _ T3.out hf)
      clear hf cv
      go_wp2_with fail
      refine wpMix_plain ?_
      have t2 : ((⟨z.toArray⟩ : ByteArray) == ⟨z.toArray⟩) = true := (bytes_beq z z).trans (by simp)
      go_wp2_with (first
        | (go_at_call 15; refine (HNM.out _ _).mono ?_; rintro e w' ⟨rfl, rfl⟩)
        | (go_at_call 13; refine (HK.out _).mono ?_; rintro e w7 ⟨rfl, hb7⟩; have HB7 := Lib.hid (T4.out.2.trans (hb7.mono T4.out.2.size)); clear hb7))
      go_ret
      exact ⟨rfl, HB7.out⟩
end Go.Proofs.Ytihfihehiifdkaa
