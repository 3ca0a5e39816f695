/- IpMeans' walk. -/
import Derived.Test.YtfddkehnhkfjeaaIlB
namespace Go.Proofs.Ytfddkehnhkfjeaa
open Go.RowKit Go.Sort Go.BigFrame
theorem mayH_less (h : Hd) : mayH (lessH h) = mayH h := rfl
theorem fits_less {h : Hd} {p : By} (hf : fitsH h p = true) : fitsH (lessH h) p = true := hf
theorem fits_may {h : Hd} {p : By} (hf : fitsH h p = true) : mayH h = true ∧ p.length ≤ 65535 - 20 - h.opts.length := by
  unfold fitsH at hf
  simp only [Bool.and_eq_true, decide_eq_true_eq] at hf
  exact hf
/-- The header of a packet's bytes, summed. -/
theorem total_back {h : Hd} (ok : h.ok) {p : By} (hf : fitsH h p = true) : totalF ((bytesF h p).take (20 + h.opts.length)) = 65535 ∧ 20 + h.opts.length ≤ (bytesF h p).length ∧ (bytesF h p).length ≤ 65535 := by
  obtain ⟨h1, h2⟩ := fits_may hf
  have hm := may_of h1
  obtain ⟨s0, s1, e, e0, e1⟩ := bytesF_eq h p
  have hl := bytesF_len h p
  have h40 := hm.l40
  refine ⟨?_, by omega, by omega⟩
  rw [e, List.take_append_of_le_length (by rw [head_len]; exact Nat.le_refl _), List.take_of_length_le (by rw [head_len]; exact Nat.le_refl _), e0, e1]
  exact total_ok ok hm (by omega)
/-- A header's variable. -/
structure HdZ (w : World) (g : Nat) (C : Array Value) (wx : World) : Prop where
  k : Blk wx g 28 C
  b : Below w.heap.size w wx
theorem HdZ.later {w : World} {g : Nat} {C : Array Value} {wx wy : World} (h : HdZ w g C wx) (hb : Below wx.heap.size wx wy) : HdZ w g C wy := ⟨h.k.below hb h.k.lt, h.b.trans (hb.mono h.b.size)⟩
theorem HdZ.less {w : World} {h : Hd} {v : Value} {wx : World} (hz : HdZ w w.heap.size (hdC h v) wx) (ht : h.ttl ≠ 0) : HdZ w w.heap.size (hdC (lessH h) v) (wx.setCell ⟨w.heap.size, 6, none⟩ (.int .u8 ((h.ttl : Int) - 1))) := by
  refine ⟨?_, hz.b.setCell (p := ⟨w.heap.size, 6, none⟩) (Nat.le_refl _) _⟩
  have := hz.k.set_ 6 (.int .u8 ((h.ttl : Int) - 1))
  have e : hdC (lessH h) v = (hdC h v).setIfInBounds 6 (.int .u8 ((h.ttl : Int) - 1)) := by
    have : ((h.ttl - 1 : Nat) : Int) = (h.ttl : Int) - 1 := by omega
    unfold hdC lessH
    simp [this]
  rw [e]
  exact this
theorem row_apart {B g i : Nat} {w : World} {v : Value} {x : By} (h : Row8 B w v x) (hg : g < B) (u : Value) : Row8 B (w.setCell ⟨g, i, none⟩ u) v x :=
  ownsRow_setCell_other (a := ⟨g, i, none⟩) h (fun e => by have := (h.lt e).1; simp only at this; omega) _
theorem ld_u8 {w : World} {g i : Nat} {z : Int} (hu : w.cell? ⟨g, i, none⟩ = some (.int .u8 z)) : (Instr.loadAt 5 (.pointer (some ⟨g, i, none⟩))).run Try.prog w = .ok (.int .u8 z) w := by
  simp [go_sem, hu]
attribute [-go_sem] Instr.storeAt Instr.loadAt in
set_option maxRecDepth 100000 in
set_option maxHeartbeats 8000000 in
theorem ipmeans_any (h : Hd) (v vp vb : Value) (p y : By) (w : World) (hv : Sl8 w (fun k => k < w.heap.size) v h.opts) (hp : Sl8 w (fun k => k < w.heap.size) vp p) (hy : Sl8 w (fun k => k < w.heap.size) vb y) (hok : h.ok) :
    Calls Try.prog 7 #[hdV h v, vp, vb] w fun e w' => e = .returned (.bool true) ∧ Below w.heap.size w w' := by
  have HK := Lib.hid (fun wx => known_any wx)
  have HNM := Lib.hid (fun z wx => num_any z wx)
  have HV := Lib.hid (show ∀ wx, Below w.heap.size w wx → Sl8 wx (fun k => k < w.heap.size) v h.opts from fun wx hb => hv.keep (Same.ofBelow hb fun k hk => hk))
  have HP := Lib.hid (show ∀ wx, Below w.heap.size w wx → Sl8 wx (fun k => k < w.heap.size) vp p from fun wx hb => hp.keep (Same.ofBelow hb fun k hk => hk))
  have HY := Lib.hid (show ∀ wx, Below w.heap.size w wx → Sl8 wx (fun k => k < w.heap.size) vb y from fun wx hb => hy.keep (Same.ofBelow hb fun k hk => hk))
  have HOK := Lib.hid hok
  obtain ⟨A1, c1, rfl, _, _⟩ := hv
  obtain ⟨A2, c2, rfl, _, _⟩ := hp
  obtain ⟨A3, c3, rfl, _, _⟩ := hy
  obtain ⟨n1, hn1⟩ : ∃ n, n = h.opts.length := ⟨_, rfl⟩
  obtain ⟨n2, hn2⟩ : ∃ n, n = p.length := ⟨_, rfl⟩
  obtain ⟨n3, hn3⟩ : ∃ n, n = y.length := ⟨_, rfl⟩
  rw [← hn1] at HV ⊢
  rw [← hn2] at HP ⊢
  rw [← hn3] at HY ⊢
  have HN1 := Lib.hid hn1
  have HN2 := Lib.hid hn2
  have HN3 := Lib.hid hn3
  obtain ⟨W, hW⟩ : ∃ W, W = w.alloc (.cells (hdC h (.slice A1 n1 c1)) 28) := ⟨_, rfl⟩
  have hbA : Below w.heap.size w (w.alloc (.cells (hdC h (.slice A1 n1 c1)) 28)) := (Below.refl _ _).alloc (Nat.le_refl _) _
  have HX := Lib.hid (show HdZ w w.heap.size (hdC h (.slice A1 n1 c1)) W from by
    rw [hW]
    exact ⟨Blk.new w 28 (hdC h (.slice A1 n1 c1)), hbA⟩)
  have HW := Lib.hid hW
  unfold hdC at HW
  clear hW hbA hn1 hn2 hn3 hok
  unfold hdV
  go_enter Try.func7, Try.ntmps7
  go_upto_region 1 with (fail)
  rw [← HW.out]
  go_wp2_with fail
  refine (HK.out W).mono ?_
  rintro e w1 ⟨rfl, hb1⟩
  have HX1 := Lib.hid (HX.out.later hb1)
  have hl1 := ld8s (HX1.out.k.cell 10)
  clear hb1
  by_cases hbig : 300 < n1 ∨ 3000 < n2 ∨ 3000 < n3
  · have HB1 := Lib.hid HX1.out.b
    by_cases b1 : 300 < n1
    · have d1 : decide ((300 : Int) < (n1 : Int)) = true := decide_eq_true (by omega)
      clear b1 hbig
      go_wp2_with fail
      go_ret
      exact ⟨rfl, HB1.out⟩
    have d1 : decide ((300 : Int) < (n1 : Int)) = false := decide_eq_false (by omega)
    by_cases b2 : 3000 < n2
    · have d2 : decide ((3000 : Int) < (n2 : Int)) = true := decide_eq_true (by omega)
      clear b1 b2 hbig
      go_wp2_with fail
      go_ret
      exact ⟨rfl, HB1.out⟩
    have d2 : decide ((3000 : Int) < (n2 : Int)) = false := decide_eq_false (by omega)
    have d3 : decide ((3000 : Int) < (n3 : Int)) = true := decide_eq_true (by omega)
    clear b1 b2 hbig
    go_wp2_with fail
    go_ret
    exact ⟨rfl, HB1.out⟩
  have d1 : decide ((300 : Int) < (n1 : Int)) = false := decide_eq_false (by omega)
  have d2 : decide ((3000 : Int) < (n2 : Int)) = false := decide_eq_false (by omega)
  have d3 : decide ((3000 : Int) < (n3 : Int)) = false := decide_eq_false (by omega)
  have HS1 := Lib.hid (show h.opts.length ≤ 1000000 by have := HN1.out; omega)
  have HS2 := Lib.hid (show p.length ≤ 1000000 by have := HN2.out; omega)
  have HS3 := Lib.hid (show n3 ≤ 3000 by omega)
  have hld := hd_load HX1.out.k rfl
  have hby := bytes_any h (.slice A1 n1 c1) (.slice A2 n2 c2) p _ w1 (HV.out w1 HX1.out.b) (HP.out w1 HX1.out.b) HOK.out HS1.out HS2.out
  obtain ⟨ft, hft⟩ : ∃ b, b = fitsH h p := ⟨_, rfl⟩
  have HFT := Lib.hid hft
  rw [← hft] at hby
  have HBY := Lib.hid hby
  clear hbig hby hft
  cases ft with
  | false =>
    rw [if_neg (by decide), if_neg (by decide)] at HBY
    go_wp2_with fail
    refine HBY.out.mono ?_
    rintro e w2 ⟨v2, rfl, h2, hb2⟩
    have HB2 := Lib.hid (HX1.out.b.trans (hb2.mono HX1.out.b.size))
    clear h2 hb2 hld
    go_wp2_with fail
    refine (HNM.out _ _).mono ?_
    rintro e w4 ⟨rfl, rfl⟩
    go_wp2_with fail
    go_ret
    exact ⟨rfl, HB2.out⟩
  | true =>
    rw [if_pos rfl, if_pos rfl] at HBY
    obtain ⟨z, hz⟩ : ∃ z, z = bytesF h p := ⟨_, rfl⟩
    rw [← hz] at HBY
    have HZ := Lib.hid hz
    have htb := total_back HOK.out HFT.out.symm
    rw [← hz] at htb
    have HTB := Lib.hid htb
    clear hz htb
    go_wp2_with fail
    refine HBY.out.mono ?_
    rintro e w2 ⟨v2, rfl, h2, hb2⟩
    have HX2 := Lib.hid (HX1.out.later hb2)
    obtain ⟨A4, c4, rfl, hc4⟩ := h2.form
    have H2 := Lib.hid h2
    have HC4 := Lib.hid hc4
    have HS4 := Lib.hid HX1.out.k.lt
    obtain ⟨nz, hnz⟩ : ∃ n, n = z.length := ⟨_, rfl⟩
    rw [← hnz] at H2 HC4 ⊢
    have HNZ := Lib.hid hnz
    have hx63 : ([] : By).length + nz ≤ 140737488355328 := by have := HTB.out.2.2; rw [← HNZ.out] at this; simp only [List.length_nil]; omega
    have hx64 : z.length + n3 ≤ 140737488355328 := by have := HTB.out.2.2; have := HS3.out; omega
    clear h2 hb2 hc4 hld hl1 hnz
    go_wp2_with fail
    refine (HNM.out _ _).mono ?_
    rintro e w2a ⟨rfl, rfl⟩
    have HZN := Lib.hid (show z.length = nz from HNZ.out.symm)
    have HYN := Lib.hid (show y.length = n3 from HN3.out.symm)
    have hyr := fun wx (hb : Below w.heap.size w wx) => ((HY.out wx hb).len).2.2
    rw [HYN.out] at hyr
    have HYR := Lib.hid hyr
    clear hyr
    obtain ⟨nl, hnl⟩ : ∃ n, n = (z ++ y).length := ⟨_, rfl⟩
    have HNL := Lib.hid hnl.symm
    clear hnl
    go_wp2_with (first
      | (at_builtin; refine wpList_app8 w2 rfl (.const (.slice none 0 0)) (.tmp 44) rfl rfl w2.heap.size _ [] rfl (Row8.nil _ _) _ A4 nz c4 z rfl HZN.out (row_reads H2.out) hx63 (Nat.le_refl _) ?_; intro v3 w3 h3 hg3 hz3; clear hz3; have HB3 := Lib.hid ((Below.refl w2.heap.size w2).grown hg3 (Nat.le_refl _) fun g hg => by cases hg); obtain ⟨A5, c5, rfl, hcc⟩ := h3.form; clear hcc; have HV3 := Lib.hid (show Row8 w2.heap.size w3 (.slice A5 ([] ++ z).length c5) z from h3); have HX3 := Lib.hid (HX2.out.later HB3.out); clear h3 hg3)
      | (at_builtin; refine wpList_app8 w3 rfl (.tmp 45) (.tmp 46) rfl rfl w2.heap.size _ z rfl HV3.out (fun k => k < w.heap.size) A3 n3 c3 y rfl HYN.out (HYR.out w3 HX3.out.b) hx64 HB3.out.size ?_; intro v4 w4 h4 hg4 hz4; clear hz4; have HB4 := Lib.hid (HB3.out.grown hg4 HB3.out.size fun g hg => (HV3.out.lt hg).1); obtain ⟨A6, c6, rfl, hcc⟩ := h4.form; have HCC := Lib.hid hcc; have HW4 := Lib.hid h4; have HX4 := Lib.hid (HX2.out.later HB4.out); rw [HNL.out] at HW4 HCC; rw [HNL.out]; clear h4 hg4 hcc))
    have hnl := HNL.out.symm
    have hnl6 : nl ≤ 1000000 := by have := HTB.out.2.2; have := HS3.out; have := HYN.out; rw [hnl, List.length_append]; omega
    have hpr : Calls Try.prog 16 #[.slice A6 nl c6] w4 fun e w' => ∃ v q, e = .returned (.tuple #[hdV h v, q, .int .i64 0]) ∧ Row8 w4.heap.size w' v h.opts ∧ Row8 w4.heap.size w' q p ∧ Below w4.heap.size w4 w' := by
      have := parse_any A6 nl c6 (z ++ y) _ w4 (row_reads HW4.out) hnl.symm HCC.out hnl6
      rw [HZ.out, read_back HOK.out HFT.out.symm y] at this
      exact this.mono fun e w' ⟨v, q, a1, a2, a3, _, a4⟩ => ⟨v, q, a1, a2, a3, a4⟩
    refine hpr.mono ?_
    rintro e w5 ⟨vo, vq, rfl, ho5, hq5, hb5⟩
    obtain ⟨Ao, co, rfl, _⟩ := ho5.form
    obtain ⟨Aq, cq, rfl, _⟩ := hq5.form
    have hwb := HX4.out.b.trans (hb5.mono HX4.out.b.size)
    obtain ⟨w6, hst6, hb6, hb56, hk6⟩ := hd_var hwb hwb.size h Ao h.opts.length co
    have hb46 := hb5.trans (hb56.mono hb5.size)
    have HX6 := Lib.hid (HX4.out.later hb46)
    have hl4 := hd_load HX6.out.k rfl
    have hl6 := hd_load hk6 rfl
    have hsm := rsame_any h h (.slice Ao h.opts.length co) (.slice A1 n1 c1) _ _ w6 (ho5.below hb56).sl (HV.out w6 HX6.out.b)
    rw [(sameH_iff h h).2 rfl] at hsm
    have HSM := Lib.hid hsm
    have HQ6 := Lib.hid (hq5.below hb56)
    have HZ6 := Lib.hid ((H2.out.below (HB4.out)).below hb46)
    clear hpr ho5 hq5 hb5 hwb hb6 hb56 hk6 hb46 hsm hnl6 hx63 hx64 d1 d2 d3 hnl
    go_wp2_with fail
    refine HSM.out.mono ?_
    rintro e w7 ⟨rfl, hb7⟩
    have HX7 := Lib.hid (HX6.out.later hb7)
    have HZ7 := Lib.hid (HZ6.out.below hb7)
    have s1 := run_str w7 _ Aq p cq (row_reads (HQ6.out.below hb7))
    have s2 := run_str w7 _ A2 p c2 ((HP.out w7 HX7.out.b).len).2.2
    rw [← HN2.out] at s1 s2 ⊢
    have hle := less_any A4 nz c4 z _ w7 (row_reads HZ7.out) HZN.out HC4.out (by have := HTB.out.2.2; have := HZN.out; omega)
    have HLE := Lib.hid hle
    clear hb7 hl4 hl6 hle hst6
    by_cases ht : h.ttl = 0
    · have hle : Calls Try.prog 26 #[.slice A4 nz c4] w7 fun e w' => ∃ v, e = .returned (.tuple #[v, .int .i64 7]) ∧ Below w7.heap.size w7 w' := by
        have := HLE.out
        rw [HZ.out, less_back HOK.out HFT.out.symm, if_pos ht] at this
        exact this.mono fun e w' ⟨v, a1, _, a3⟩ => ⟨v, a1, a3⟩
      have HL := Lib.hid hle
      have htt : ((h.ttl : Int) == 0) = true := by rw [ht]; rfl
      clear ht hle
      go_wp2_with fail
      refine HL.out.mono ?_
      rintro e w8 ⟨v8, rfl, hb8⟩
      have HX8 := Lib.hid (HX7.out.later hb8)
      have c6 := ld_u8 (HX8.out.k.cell 6)
      clear hb8 s1 s2
      go_wp2_with fail
      refine (HNM.out _ _).mono ?_
      rintro e w9 ⟨rfl, rfl⟩
      have HB8 := Lib.hid HX8.out.b
      go_wp2_with fail
      go_ret
      exact ⟨rfl, HB8.out⟩
    obtain ⟨zl, hzl⟩ : ∃ z, z = bytesF (lessH h) p := ⟨_, rfl⟩
    have hle : Calls Try.prog 26 #[.slice A4 nz c4] w7 fun e w' => ∃ v, e = .returned (.tuple #[v, .int .i64 0]) ∧ Row8 w7.heap.size w' v zl ∧ Below w7.heap.size w7 w' := by
      have := HLE.out
      rw [HZ.out, less_back HOK.out HFT.out.symm, if_neg ht, ← hzl] at this
      exact this
    have HL := Lib.hid hle
    have HZL := Lib.hid hzl
    have HT := Lib.hid ht
    have htt : ((h.ttl : Int) == 0) = false := by rw [beq_eq_false_iff_ne]; omega
    have htb := total_back (less_ok HOK.out) (fits_less HFT.out.symm)
    rw [← hzl] at htb
    have HTL := Lib.hid htb
    have hs7 := Lib.hid HX7.out.k.lt
    clear ht hle htb hzl
    go_wp2_with fail
    refine HL.out.mono ?_
    rintro e w8 ⟨v8, rfl, h8, hb8⟩
    have HX8 := Lib.hid (HX7.out.later hb8)
    obtain ⟨A8, c8, rfl, hc8⟩ := h8.form
    have c6 := ld_u8 (HX8.out.k.cell 6)
    have H8 := Lib.hid h8
    have HC8 := Lib.hid hc8
    obtain ⟨ns, hns⟩ : ∃ n, n = zl.length := ⟨_, rfl⟩
    have HNS := Lib.hid hns
    rw [← hns] at H8 HC8 ⊢
    have hpr : Calls Try.prog 16 #[.slice A8 ns c8] w8 fun e w' => ∃ v q, e = .returned (.tuple #[hdV (lessH h) v, q, .int .i64 0]) ∧ Row8 w8.heap.size w' v h.opts ∧ Row8 w8.heap.size w' q p ∧ Below w8.heap.size w8 w' := by
      have := parse_any A8 ns c8 zl _ w8 (row_reads H8.out) hns.symm HC8.out (by have := HTL.out.2.2; omega)
      have e := read_back (less_ok HOK.out) (fits_less HFT.out.symm) []
      rw [List.append_nil, ← HZL.out] at e
      rw [e] at this
      exact this.mono fun e w' ⟨v, q, a1, a2, a3, _, a4⟩ => ⟨v, q, a1, a2, a3, a4⟩
    have HPR := Lib.hid hpr
    have hs8 := Lib.hid HX8.out.k.lt
    clear hb8 s1 s2 h8 hc8 hns hpr
    go_wp2_with fail
    refine (HNM.out _ _).mono ?_
    rintro e w8a ⟨rfl, rfl⟩
    clear c6
    go_wp2_with fail
    refine HPR.out.mono ?_
    rintro e w9 ⟨vo2, vq2, rfl, ho9, hq9, hb9⟩
    obtain ⟨Ap, cp, rfl, _⟩ := ho9.form
    obtain ⟨Ar, cr, rfl, _⟩ := hq9.form
    have hwb := HX8.out.b.trans (hb9.mono HX8.out.b.size)
    obtain ⟨w10, hst10, hb10, hb90, hk10⟩ := hd_var hwb hwb.size (lessH h) Ap h.opts.length cp
    have hb80 := hb9.trans (hb90.mono hb9.size)
    have HX10 := Lib.hid (HX8.out.later hb80)
    have c6 := ld_u8 (HX10.out.k.cell 6)
    obtain ⟨w11, hw11⟩ : ∃ x, x = w10.setCell ⟨w.heap.size, 6, none⟩ (.int .u8 ((h.ttl : Int) - 1)) := ⟨_, rfl⟩
    have c7 := st8 (HX10.out.k.cell 6) (HX10.out.k.frozen 6) ((h.ttl : Int) - 1)
    rw [← hw11] at c7
    have t1 : (1 : Int) ≤ h.ttl := by have := HT.out; omega
    have t2 : (h.ttl : Int) ≤ 255 := by have := HOK.out.2.2.1; omega
    have HX11 := Lib.hid (show HdZ w w.heap.size (hdC (lessH h) (.slice A1 n1 c1)) w11 from by rw [hw11]; exact HX10.out.less HT.out)
    have hg8 : w.heap.size < w8.heap.size := hs8.out
    have hg7 : w.heap.size < w7.heap.size := hs7.out
    have HO11 := Lib.hid (show Row8 w8.heap.size w11 (.slice Ap h.opts.length cp) h.opts from by rw [hw11]; exact row_apart (ho9.below hb90) hg8 _)
    have HQ11 := Lib.hid (show Row8 w8.heap.size w11 (.slice Ar p.length cr) p from by rw [hw11]; exact row_apart (hq9.below hb90) hg8 _)
    have HL11 := Lib.hid (show Row8 w7.heap.size w11 (.slice A8 ns c8) zl from by rw [hw11]; exact row_apart (H8.out.below hb80) hg7 _)
    have HY11 := Lib.hid (show Blk w11 w9.heap.size 28 (hdC (lessH h) (.slice Ap h.opts.length cp)) from by rw [hw11]; exact hk10.far (p := ⟨w.heap.size, 6, none⟩) (Nat.ne_of_gt (Nat.lt_of_lt_of_le hg8 hb9.size)) _)
    have HNX := Lib.hid hst10
    clear hw11 hg8 hg7 hwb hb10 hb90 hk10 hb80 ho9 hq9 hb9
    have hl11 := hd_load HX11.out.k rfl
    have hby := bytes_yes (lessH h) (.slice A1 n1 c1) (.slice A2 n2 c2) p _ w11 (HV.out w11 HX11.out.b) (HP.out w11 HX11.out.b) (less_ok HOK.out) (fits_less HFT.out.symm)
    rw [← HZL.out] at hby
    have HBY2 := Lib.hid hby
    clear hby
    go_wp2_with fail
    refine HBY2.out.mono ?_
    rintro e w12 ⟨v12, rfl, h12, hb12⟩
    have HX12 := Lib.hid (HX11.out.later hb12)
    obtain ⟨A12, c12, rfl, _⟩ := h12.form
    rw [← HNS.out] at h12 ⊢
    have H12 := Lib.hid h12
    have hl12 := hd_load HX12.out.k rfl
    have hl13 := hd_load (HY11.out.below hb12 HY11.out.lt) rfl
    have hsm := rsame_any (lessH h) (lessH h) (.slice Ap h.opts.length cp) (.slice A1 n1 c1) _ _ w12 (HO11.out.below hb12).sl (HV.out w12 HX12.out.b)
    rw [(sameH_iff (lessH h) (lessH h)).2 rfl] at hsm
    have HSM2 := Lib.hid hsm
    have HQ12 := Lib.hid (HQ11.out.below hb12)
    have HL12 := Lib.hid (HL11.out.below hb12)
    clear hsm hb12 h12 hl11 c6 c7 t1 t2
    go_wp2_with fail
    refine HSM2.out.mono ?_
    rintro e w13 ⟨rfl, hb13⟩
    have HX13 := Lib.hid (HX12.out.later hb13)
    have s1 := run_str w13 _ Ar p cr (row_reads (HQ12.out.below hb13))
    have s2 := run_str w13 _ A2 p c2 ((HP.out w13 HX13.out.b).len).2.2
    rw [← HN2.out] at s1 s2 ⊢
    have H13 := Lib.hid (H12.out.below hb13)
    have HL13 := Lib.hid (HL12.out.below hb13)
    clear hb13 hl12 hl13
    go_wp2_with fail
    refine (HNM.out _ _).mono ?_
    rintro e w13a ⟨rfl, rfl⟩
    have hzn : zl.length = ns := HNS.out.symm
    have s3 := run_str w13 _ A12 zl c12 (by rw [hzn]; exact row_reads H13.out)
    have s4 := run_str w13 _ A8 zl c8 (by rw [hzn]; exact row_reads HL13.out)
    rw [hzn] at s3 s4
    have hl14 := hd_load HX13.out.k rfl
    have hsz := size_any (lessH h) (.slice A1 n1 c1) _ w13 (HV.out w13 HX13.out.b) HS1.out
    have hsv : sizeH (lessH h) = 20 + n1 := by
      unfold sizeH
      rw [if_pos (fits_may (fits_less HFT.out.symm)).1, HN1.out]
      rfl
    obtain ⟨sz, hsz0⟩ : ∃ k, k = 20 + n1 := ⟨_, rfl⟩
    have HS0 := Lib.hid hsz0
    rw [hsv, ← hsz0] at hsz
    have HSZ := Lib.hid hsz
    clear s1 s2 hsz hsv hzn hsz0
    go_wp2_with fail
    refine HSZ.out.mono ?_
    rintro e w14 ⟨rfl, hb14⟩
    have hle : sz ≤ ns := by have := HTL.out.2.1; have := HN1.out; have := HNS.out; have := HS0.out; simp only [lessH] at *; omega
    have hcut := sl_hi A8 ns c8 w14 sz (Nat.le_trans hle HC8.out)
    have hrd : Reads w14 (fun k => w7.heap.size ≤ k ∧ k < w14.heap.size) 1 A8 sz (bytesV (zl.take sz)) := by
      have := row_reads (HL13.out.below hb14)
      have hzn : zl.length = ns := HNS.out.symm
      rw [← hzn] at this hle
      exact reads_take this hle
    have htt := rtotal_any A8 sz c8 (zl.take sz) _ w14 hrd (by rw [List.length_take]; have : zl.length = ns := HNS.out.symm; omega) (by have := HTL.out.2.2; have : zl.length = ns := HNS.out.symm; omega)
    have htv : totalF (zl.take sz) = 65535 := by have := HTL.out.1; rw [HS0.out, HN1.out]; exact this
    rw [htv] at htt
    have HTT := Lib.hid htt
    have HB14 := Lib.hid (HX13.out.b.trans (hb14.mono HX13.out.b.size))
    clear hl14 s3 s4 hle hrd htt htv hb14
    go_wp2_with fail
    refine HTT.out.mono ?_
    rintro e w15 ⟨rfl, hb15⟩
    have HB15 := Lib.hid (HB14.out.trans (hb15.mono HB14.out.size))
    clear hb15 hcut
    go_wp2_with fail
    go_ret
    exact ⟨rfl, HB15.out⟩
end Go.Proofs.Ytfddkehnhkfjeaa
