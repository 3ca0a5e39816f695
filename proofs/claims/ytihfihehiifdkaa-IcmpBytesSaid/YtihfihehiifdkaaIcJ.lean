/- Icmp: Quote of both; send. -/
import Derived.Test.YtihfihehiifdkaaIcI
import Derived.Test.YtihfihehiifdkaaIpF
namespace Go.Proofs.Ytihfihehiifdkaa
open Go.RowKit Go.Sort Go.BigFrame
theorem prs_wh {x : By} (h : (prsF x).2.2 = 0) : 20 + (prsF x).1.opts.length + (prsF x).2.1.length ≤ x.length := prs_whole h
attribute [-go_sem] Instr.storeAt Instr.loadAt in
set_option maxRecDepth 100000 in
set_option maxHeartbeats 4000000 in
theorem quote_any (A : Option Addr) (n c : Nat) (x : By) (I : Nat → Prop) (w : World) (h : Reads w I 1 A n (bytesV x)) (hn : x.length = n) (hc : n ≤ c) (hsm : n ≤ 1000000) :
    Calls Try.prog 14 #[.slice A n c] w (BytPost w (quoteF x).1 ((quoteF x).2 : Int)) := by
  have hpa := parse_any A n c x I w h hn hc hsm
  have hwh := prs_wh (x := x)
  have hsz := prs_size (x := x)
  obtain ⟨Q, hQ⟩ : ∃ Q, Q = quoteF x := ⟨_, rfl⟩
  rw [← hQ]
  unfold quoteF at hQ
  have hpl := prs_len x
  obtain ⟨R, hR⟩ : ∃ R, R = prsF x := ⟨_, rfl⟩
  rw [← hR] at hpa hQ hwh hsz hpl
  obtain ⟨g, y, f⟩ := R
  simp only at hQ hwh hsz hpl
  have HPA := Lib.hid hpa
  have HQ := Lib.hid hQ
  have HWH := Lib.hid hwh
  have HSZ := Lib.hid hsz
  have HH := Lib.hid h.lt
  have HN := Lib.hid hn
  have hgo : g.opts.length ≤ 1000000 := by omega
  obtain ⟨q, hq⟩ : ∃ q, q = y.length := ⟨_, rfl⟩
  have HQL := Lib.hid hq
  have hql : q ≤ 1000000 := by omega
  clear hpa hQ hR h hn hwh hsz hpl hq
  go_enter Try.func14, Try.ntmps14
  go_upto_region 2 with
    (go_at_call 34
     refine HPA.out.mono ?_
     rintro e w1 ⟨vo, vq, rfl, ho, hq, _, hb⟩
     obtain ⟨Ao, co, rfl, _⟩ := ho.form
     obtain ⟨Aq, cq, rfl, _⟩ := hq.form
     rw [show (g, y, f).2.1.length = q from HQL.out.symm]
     obtain ⟨w2, hst, hb2, hb12, hk2⟩ := hd_var hb hb.size g Ao g.opts.length co
     have hld := hd_load hk2 rfl
     have HO := Lib.hid ((ho.below hb12).sl)
     have HB2 := Lib.hid hb2
     clear ho hq hb hb2 hb12 hk2)
  by_cases hf : f = 0
  · subst hf
    have hQ := HQ.out
    rw [if_neg (by simp)] at hQ
    have hsize := size_any g (.slice Ao g.opts.length co) _ w2 HO.out hgo
    rw [HSZ.out rfl] at hsize
    have hwh := HWH.out rfl
    obtain ⟨s, hs⟩ : ∃ s, s = 20 + g.opts.length := ⟨_, rfl⟩
    rw [← hs] at hsize hQ hwh
    have HS := Lib.hid hsize
    obtain ⟨k, hk⟩ : ∃ k, k = min 8 q := ⟨_, rfl⟩
    have hmin : min (8 : Int) (q : Int) = (k : Int) := by omega
    have hkn : s + k ≤ n := by have := HN.out; have := HQL.out; omega
    have hQ1 : Q.1 = x.take (s + k) := by rw [hQ, hk, HQL.out]
    have hQ2 : Q.2 = 0 := by rw [hQ]
    have HQ2 := Lib.hid hQ2
    have HQ1 := Lib.hid hQ1
    clear hsize hs hQ hwh hQ1 hQ2 HQ
    have hcut := fun wx => sl_hi A n c wx (s + k) (by omega)
    by_cases h8 : 8 ≤ q
    · obtain rfl : k = 8 := by omega
      have d1 : decide ((8 : Int) ≤ (q : Int)) = true := decide_eq_true (by omega)
      have d2 : decide (8 ≤ q) = true := decide_eq_true h8
      have d3 : decide ((q : Int) < 8) = false := decide_eq_false (by omega)
      have d4 : decide (q < 8) = false := decide_eq_false (by omega)
      clear hk
      go_wp2_with (go_at_call 58; refine HS.out.mono ?_; rintro e w3 ⟨rfl, hb3⟩; have HB3 := Lib.hid (HB2.out.trans (hb3.mono HB2.out.size)); clear hb3)
      obtain ⟨e1, e2, hrt⟩ := (cut_hi (cap := c) (k := s + 8) (by rw [HN.out]; exact HH.out.keep (Same.ofBelow HB3.out fun k hk => hk.2)) (by have := HN.out; omega) (by omega)).len
      rw [← e1] at hrt
      have HCL := Lib.hid (clone8_any A (s + 8) c (bytesV (x.take (s + 8))) _ w3 hrt (bytesV_one _) (by omega))
      have HE1 := Lib.hid e1
      clear e1 e2 hrt
      refine HCL.out.mono ?_
      rintro e w4 ⟨v4, rfl, h4, hb4⟩
      obtain ⟨A4, c4, rfl, _⟩ := own_form h4
      have HO4 := Lib.hid (own_base h4 HB3.out.size)
      have HB4 := Lib.hid (HB3.out.trans (hb4.mono HB3.out.size))
      clear h4 hb4
      go_wp2_with fail
      go_ret2
      rw [HQ1.out, HQ2.out]
      refine ⟨_, rfl, ?_, HB4.out⟩
      unfold Row8
      rw [← HE1.out]
      exact HO4.out
    · obtain rfl : k = q := by omega
      have d1 : decide ((8 : Int) ≤ (k : Int)) = false := decide_eq_false (by omega)
      have d2 : decide (8 ≤ k) = false := decide_eq_false h8
      have d3 : decide ((k : Int) < 8) = true := decide_eq_true (by omega)
      have d4 : decide (k < 8) = true := decide_eq_true (by omega)
      clear hk
      go_wp2_with (go_at_call 58; refine HS.out.mono ?_; rintro e w3 ⟨rfl, hb3⟩; have HB3 := Lib.hid (HB2.out.trans (hb3.mono HB2.out.size)); clear hb3)
      obtain ⟨e1, e2, hrt⟩ := (cut_hi (cap := c) (k := s + k) (by rw [HN.out]; exact HH.out.keep (Same.ofBelow HB3.out fun k hk => hk.2)) (by have := HN.out; omega) (by omega)).len
      rw [← e1] at hrt
      have HCL := Lib.hid (clone8_any A (s + k) c (bytesV (x.take (s + k))) _ w3 hrt (bytesV_one _) (by omega))
      have HE1 := Lib.hid e1
      clear e1 e2 hrt
      refine HCL.out.mono ?_
      rintro e w4 ⟨v4, rfl, h4, hb4⟩
      obtain ⟨A4, c4, rfl, _⟩ := own_form h4
      have HO4 := Lib.hid (own_base h4 HB3.out.size)
      have HB4 := Lib.hid (HB3.out.trans (hb4.mono HB3.out.size))
      clear h4 hb4
      go_wp2_with fail
      go_ret2
      rw [HQ1.out, HQ2.out]
      refine ⟨_, rfl, ?_, HB4.out⟩
      unfold Row8
      rw [← HE1.out]
      exact HO4.out
  · have hQ := HQ.out
    rw [if_pos (by simpa using hf)] at hQ
    subst hQ
    have b1 : ((f : Int) != 0) = true := by rw [bne_iff_ne]; omega
    clear hf HQ HWH HSZ
    go_wp2_with fail
    go_ret2
    exact ⟨_, rfl, Row8.nil _ _, HB2.out⟩
set_option maxRecDepth 100000 in
set_option maxHeartbeats 4000000 in
attribute [-go_sem] Instr.storeAt in
theorem rquote_any (A : Option Addr) (n c : Nat) (x : By) (I : Nat → Prop) (w : World) (h : Reads w I 1 A n (bytesV x)) (hn : x.length = n) (hc : n ≤ c) (hsm : n ≤ 1000000) (h0 : (prsF x).2.2 = 0) :
    Calls Try.prog 20 #[.slice A n c] w fun e w' => ∃ v, e = .returned v ∧ Sl8 w' (fun k => I k ∧ k < w.heap.size) v (quoteF x).1 ∧ Below w.heap.size w w' := by
  have hpa := rparse_any A n c x I w h hn hc hsm
  have hwh := prs_wh h0
  obtain ⟨Q, hQ⟩ : ∃ Q, Q = quoteF x := ⟨_, rfl⟩
  rw [← hQ]
  unfold quoteF at hQ
  rw [if_neg (by omega)] at hQ
  obtain ⟨R, hR⟩ : ∃ R, R = prsF x := ⟨_, rfl⟩
  rw [← hR] at hpa hQ hwh
  obtain ⟨g, y, f⟩ := R
  simp only at hQ hwh
  have HPA := Lib.hid hpa
  have HQ := Lib.hid hQ
  have HH := Lib.hid h.lt
  have HN := Lib.hid hn
  obtain ⟨q, hq⟩ : ∃ q, q = y.length := ⟨_, rfl⟩
  obtain ⟨o, ho⟩ : ∃ o, o = g.opts.length := ⟨_, rfl⟩
  rw [← hq, ← ho] at hwh
  have HQL := Lib.hid hq
  have HO := Lib.hid ho
  have hwn : 20 + o + q ≤ n := by omega
  clear hpa hQ hR h hn hwh hq ho h0
  go_enter Try.func20, Try.ntmps20
  go_upto_region 2 with
    (go_at_call 16
     refine HPA.out.mono ?_
     rintro e w1 ⟨vo, vq, rfl, hoo, hqq, hb⟩
     obtain ⟨Ao, co, rfl, _⟩ := hoo
     obtain ⟨Aq, cq, rfl, _⟩ := hqq
     rw [show (g, y, f).2.1.length = q from HQL.out.symm, show (g, y, f).1.opts.length = o from HO.out.symm]
     obtain ⟨w2, hst, hb2, hb12, hk2⟩ := hd_var hb hb.size g Ao o co
     have k10 : w2.cell? ⟨w1.heap.size, 10, none⟩ = some (.slice Ao o co) := hk2.cell 10
     have HB2 := Lib.hid hb2
     clear hb hb2 hb12 hk2)
  by_cases h8 : 8 < q
  · have d1 : decide ((8 : Int) < (q : Int)) = true := decide_eq_true (by omega)
    have d2 : decide (8 < q) = true := decide_eq_true h8
    have hcut := sl_hi A n c w2 (20 + o + 8) (by omega)
    have e1 : ((20 + o + 8 : Nat) : Int) = 20 + (o : Int) + 8 := by omega
    rw [e1] at hcut
    go_wp2_with fail
    go_ret
    refine ⟨_, rfl, ?_, HB2.out⟩
    have := cut_hi (cap := c) (k := 20 + o + 8) (by rw [HN.out]; exact HH.out.keep (Same.ofBelow HB2.out fun k hk => hk.2)) (by have := HN.out; omega) (by omega)
    rw [HQ.out, ← HO.out, ← HQL.out, Nat.min_eq_left (by omega)]
    exact this
  · have d1 : decide ((8 : Int) < (q : Int)) = false := decide_eq_false (by omega)
    have d2 : decide (8 < q) = false := decide_eq_false h8
    have hcut := sl_hi A n c w2 (20 + o + q) (by omega)
    have e1 : ((20 + o + q : Nat) : Int) = 20 + (o : Int) + (q : Int) := by omega
    rw [e1] at hcut
    go_wp2_with fail
    go_ret
    refine ⟨_, rfl, ?_, HB2.out⟩
    have := cut_hi (cap := c) (k := 20 + o + q) (by rw [HN.out]; exact HH.out.keep (Same.ofBelow HB2.out fun k hk => hk.2)) (by have := HN.out; omega) (by omega)
    rw [HQ.out, ← HO.out, ← HQL.out, Nat.min_eq_right (by omega)]
    exact this
end Go.Proofs.Ytihfihehiifdkaa
