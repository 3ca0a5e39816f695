/- Frag: FragMany's walk. -/
import Derived.Test.YtfddkehnhkfjeaaFrL
import Derived.Test.YtfddkehnhkfjeaaFrM
namespace Go.Proofs.Ytfddkehnhkfjeaa
open Go.RowKit Go.Sort Go.BigFrame
theorem cut_le7 (x : By) (m : Int) : (cutF x m).2 ≤ 7 := by
  have hf : (fitsF x m).2 ≤ 7 := by
    unfold fitsF
    repeat' split
    all_goals simp
  unfold cutF
  repeat' split
  all_goals first | exact hf | simp
theorem many_law {h : Hd} (ok : h.ok) {p : By} (hf : fitsH h p = true) (m l : Int) (h0 : (cutF (bytesF h p) m).2 = 0) :
    (fitsF (bytesF h p) m).2 = 0 ∧ 1 ≤ (cutF (bytesF h p) m).1.length ∧ ((fitsF (bytesF h p) m).1 = true → (cutF (bytesF h p) m).1.length = 1) ∧
    ((cutF (bytesF h p) l).2 = 0 → l ≤ m → (cutF (bytesF h p) m).1.length ≤ (cutF (bytesF h p) l).1.length) := by
  have hr : prsF (bytesF h p) = (h, p, 0) := by have := read_back ok hf []; rwa [List.append_nil] at this
  have hmy : mayH h = true := by unfold fitsH at hf; simp only [Bool.and_eq_true] at hf; exact hf.1
  rcases cut_bytes ok hf m with ⟨_, m1, m2, e1, _⟩ | ⟨_, e⟩
  · have hfm : fitsF (bytesF h p) m = (decide (((20 + h.opts.length + p.length : Nat) : Int) ≤ m), 0) := by
      unfold fitsF
      rw [hr, if_neg (by omega)]
      simp
    rw [hfm, e1, List.length_map]
    have hne := cut_ne (L := p.length) (m := m.toNat) (by omega) hmy
    refine ⟨rfl, hne, fun hh => ?_, fun hl hlm => ?_⟩
    · have hh2 : ((20 + h.opts.length + p.length : Nat) : Int) ≤ m := by simpa using hh
      unfold cutP
      rw [if_pos (by omega)]
      rfl
    · rcases cut_bytes ok hf l with ⟨_, l1, l2, e2, _⟩ | ⟨_, e⟩
      · rw [e2, List.length_map]
        have hnl := cut_ne (L := p.length) (m := l.toNat) (by omega) hmy
        unfold cutP at hnl ⊢
        by_cases q1 : 20 + h.opts.length + p.length ≤ m.toNat
        · rw [if_pos q1]; exact hnl
        · rw [if_neg q1, if_neg (by omega)]
          exact pcs_mono hmy (by omega) (by omega) _ _ _ (Nat.le_refl _) Iff.rfl
      · omega
  · omega

set_option maxRecDepth 100000 in
set_option maxHeartbeats 16000000 in
attribute [-go_sem] Instr.storeAt Instr.loadAt in
theorem fragmany_any (h : Hd) (v vp : Value) (p : By) (m l : Int) (w : World) (hv : Sl8 w (fun k => k < w.heap.size) v h.opts) (hp : Sl8 w (fun k => k < w.heap.size) vp p) (hok : h.ok) :
    Calls Try.prog 11 #[hdV h v, vp, .int .i64 m, .int .i64 l] w fun e w' => e = .returned (.bool true) ∧ Below w.heap.size w w' := by
  have HK := Lib.hid (fun wx => known15_any wx)
  have HNM := Lib.hid (fun z wx => num15_any z wx)
  have HV := Lib.hid (show ∀ wx, Below w.heap.size w wx → Sl8 wx (fun k => k < w.heap.size) v h.opts from fun wx hb => hv.keep (Same.ofBelow hb fun k hk => hk))
  have HP := Lib.hid (show ∀ wx, Below w.heap.size w wx → Sl8 wx (fun k => k < w.heap.size) vp p from fun wx hb => hp.keep (Same.ofBelow hb fun k hk => hk))
  have HOK := Lib.hid hok
  obtain ⟨A1, c1, rfl, _, _⟩ := hv
  obtain ⟨A2, c2, rfl, _, _⟩ := hp
  obtain ⟨n1, hn1⟩ : ∃ n, n = h.opts.length := ⟨_, rfl⟩
  obtain ⟨n2, hn2⟩ : ∃ n, n = p.length := ⟨_, rfl⟩
  rw [← hn1] at HV ⊢
  rw [← hn2] at HP ⊢
  have HN1 := Lib.hid hn1
  have HN2 := Lib.hid hn2
  obtain ⟨W, hW⟩ : ∃ W, W = w.alloc (.cells (hdC h (.slice A1 n1 c1)) 28) := ⟨_, rfl⟩
  have hbA : Below w.heap.size w W := by rw [hW]; exact (Below.refl _ _).alloc (Nat.le_refl _) _
  have HX := Lib.hid (show Blk W w.heap.size 28 (hdC h (.slice A1 n1 c1)) from by rw [hW]; exact Blk.new w 28 (hdC h (.slice A1 n1 c1)))
  have HB := Lib.hid hbA
  have HW := Lib.hid hW
  unfold hdC at HW
  clear hW hbA hn1 hn2 hok
  unfold hdV
  go_enter Try.func11, Try.ntmps11
  go_upto_region 1 with (fail)
  rw [← HW.out]
  have hl1 := ld8s (HX.out.cell 10)
  have hld := hd_load HX.out rfl
  by_cases hbig : 300 < n1 ∨ 9000 < n2
  · by_cases b1 : 300 < n1
    · have d1 : decide ((300 : Int) < (n1 : Int)) = true := decide_eq_true (by omega)
      clear b1 hbig
      go_wp2_with fail
      refine (HK.out _).mono ?_
      rintro e w2 ⟨rfl, hb2⟩
      have HB2 := Lib.hid (HB.out.trans (hb2.mono HB.out.size))
      clear hb2
      go_wp2_with fail
      go_ret
      exact ⟨rfl, HB2.out⟩
    · have d1 : decide ((300 : Int) < (n1 : Int)) = false := decide_eq_false (by omega)
      have d2 : decide ((9000 : Int) < (n2 : Int)) = true := decide_eq_true (by omega)
      clear b1 hbig
      go_wp2_with fail
      refine (HK.out _).mono ?_
      rintro e w2 ⟨rfl, hb2⟩
      have HB2 := Lib.hid (HB.out.trans (hb2.mono HB.out.size))
      clear hb2
      go_wp2_with fail
      go_ret
      exact ⟨rfl, HB2.out⟩
  have d1 : decide ((300 : Int) < (n1 : Int)) = false := decide_eq_false (by omega)
  have d2 : decide ((9000 : Int) < (n2 : Int)) = false := decide_eq_false (by omega)
  have HS1 := Lib.hid (show n1 ≤ 300 ∧ n2 ≤ 9000 by omega)
  have hmy := rmay_any h (.slice A1 n1 c1) _ W (HV.out W HB.out) (by have := HN1.out; omega)
  obtain ⟨my, hmy0⟩ : ∃ b, b = mayH h := ⟨_, rfl⟩
  rw [← hmy0] at hmy
  have HMY := Lib.hid hmy
  have HM0 := Lib.hid hmy0
  clear hmy hmy0 hbig
  cases my with
  | false =>
      go_wp2_with fail
      refine HMY.out.mono ?_
      rintro e w1 ⟨rfl, hb1⟩
      have HB1 := Lib.hid (HB.out.trans (hb1.mono HB.out.size))
      clear hb1
      go_wp2_with fail
      refine (HK.out _).mono ?_
      rintro e w2 ⟨rfl, hb2⟩
      have HB2 := Lib.hid (HB1.out.trans (hb2.mono HB1.out.size))
      clear hb2
      go_wp2_with fail
      go_ret
      exact ⟨rfl, HB2.out⟩
  | true =>
    go_wp2_with fail
    refine HMY.out.mono ?_
    rintro e w1 ⟨rfl, hb1⟩
    have hf : fitsH h p = true := by
      unfold fitsH
      rw [← HM0.out]
      have h40 := (may_opts HM0.out.symm).2.1
      have := HN2.out
      have := HS1.out
      simp only [Bool.true_and, decide_eq_true_eq]
      omega
    have hb01 := HB.out.trans (hb1.mono HB.out.size)
    have hby := rbytes_any h (.slice A1 n1 c1) (.slice A2 n2 c2) p _ w1 (HV.out w1 hb01) (HP.out w1 hb01) HOK.out hf
    have hld1 := hd_load (HX.out.below hb1 HX.out.lt) rfl
    have hlen := bytesF_len h p
    have hlaw := many_law HOK.out hf m l
    obtain ⟨b, hb⟩ : ∃ b, b = bytesF h p := ⟨_, rfl⟩
    rw [← hb] at hby hlen hlaw
    have HBY := Lib.hid hby
    have HB1 := Lib.hid hb01
    have HLAW := Lib.hid hlaw
    have hbl : b.length ≤ 1000000 := by
      have := HN1.out
      have := HN2.out
      have := HS1.out
      omega
    clear hb hby hb1 hb01 hf hlen hlaw hld
    go_wp2_with fail
    refine HBY.out.mono ?_
    rintro e w2 ⟨v2, rfl, hr2, hb2⟩
    obtain ⟨A3, c3, rfl, hc3⟩ := hr2.form
    obtain ⟨n3, hn3⟩ : ∃ n, n = b.length := ⟨_, rfl⟩
    have hrd := hr2.reads.2
    rw [← hn3] at hrd hc3 hbl ⊢
    have HB2 := Lib.hid (HB1.out.trans (hb2.mono HB1.out.size))
    have HRD := Lib.hid hrd.lt
    have HC := Lib.hid hc3
    have HN3 := Lib.hid hn3.symm
    have hma := many_any A3 n3 c3 b m _ w2 HRD.out HN3.out HC.out hbl
    obtain ⟨na, hna⟩ : ∃ na, na = (cutF b m).1.length := ⟨_, rfl⟩
    obtain ⟨ea, hea⟩ : ∃ ea, ea = (cutF b m).2 := ⟨_, rfl⟩
    obtain ⟨nb, hnb⟩ : ∃ nb, nb = (cutF b l).1.length := ⟨_, rfl⟩
    obtain ⟨eb, heb⟩ : ∃ eb, eb = (cutF b l).2 := ⟨_, rfl⟩
    obtain ⟨ft, hft⟩ : ∃ ft, ft = (fitsF b m).1 := ⟨_, rfl⟩
    obtain ⟨gg, hgg⟩ : ∃ gg, gg = (fitsF b m).2 := ⟨_, rfl⟩
    rw [← hna, ← hea] at hma
    have hlw := HLAW.out
    rw [← hna, ← hea, ← hnb, ← heb, ← hft, ← hgg] at hlw
    have HL := Lib.hid hlw
    have HMA := Lib.hid hma
    have he7 : ea ≤ 7 := by rw [hea]; exact cut_le7 _ _
    have hb7 : eb ≤ 7 := by rw [heb]; exact cut_le7 _ _
    have HNB := Lib.hid hnb
    have HEB := Lib.hid heb
    have HFTT := Lib.hid hft
    have HGG := Lib.hid hgg
    clear hr2 hb2 hrd hc3 hn3 hma hlw hld1 hl1 hna hea hnb heb hft hgg
    go_wp2_with fail
    refine HMA.out.mono ?_
    rintro e w3 ⟨rfl, hb3⟩
    have hmb := many_any A3 n3 c3 b l _ w3 (HRD.out.keep (Same.ofBelow hb3 fun k hk => hk.2)) HN3.out HC.out hbl
    rw [← HNB.out, ← HEB.out] at hmb
    have HMB := Lib.hid hmb
    have HB3 := Lib.hid (HB2.out.trans (hb3.mono HB2.out.size))
    have HB23 := Lib.hid hb3
    clear hmb hb3
    go_wp2_with fail
    refine HMB.out.mono ?_
    rintro e w4 ⟨rfl, hb4⟩
    have hb24 := HB23.out.trans (hb4.mono HB23.out.size)
    have hmf := ffits_any A3 n3 c3 b m _ w4 (HRD.out.keep (Same.ofBelow hb24 fun k hk => hk.2)) HN3.out HC.out hbl
    rw [← HFTT.out, ← HGG.out] at hmf
    have HMF := Lib.hid hmf
    have HB4 := Lib.hid (HB3.out.trans (hb4.mono HB3.out.size))
    clear hmf hb4 hb24
    go_upto_region 6 with (fail)
    rename_i K hK
    have HKK := Lib.hid hK
    clear hK
    go_wp2_with fail
    refine HMF.out.mono ?_
    rintro e w5 ⟨rfl, hb5⟩
    have HB5 := Lib.hid (HB4.out.trans (hb5.mono HB4.out.size))
    clear hb5
    go_wp2_with fail
    refine HKK.out _ _ ?_
    refine wp_join (fun _ w' => w' = w5) [52, 53, 54, 55, 56, 57, 58, 59, 60, 61, 62, 63, 64, 65, 66, 67, 68, 69, 70, 71, 72] ?_ ?_
    · intro K2 hK2
      have HJ := Lib.hid hK2
      clear hK2
      by_cases hea : ea = 0
      · subst hea
        obtain ⟨rfl, hna1, hft1, _⟩ := HL.out rfl
        have hnn : decide ((na : Int) < 1) = false := decide_eq_false (by omega)
        have hnn2 : decide (na < 1) = false := decide_eq_false (by omega)
        cases ft with
        | true =>
          obtain rfl := hft1 rfl
          go_wp2_with (go_at_call 43; refine (HNM.out _ _).mono ?_; rintro e w' ⟨rfl, rfl⟩)
          refine join_ap HJ.out (by kernel_rfl) ?_
          rfl
        | false =>
          by_cases h1 : na = 1
          · subst h1
            go_wp2_with (go_at_call 43; refine (HNM.out _ _).mono ?_; rintro e w' ⟨rfl, rfl⟩)
            refine join_ap HJ.out (by kernel_rfl) ?_
            rfl
          · have h12 : ((na : Int) == 1) = false := by rw [beq_eq_false_iff_ne]; omega
            go_wp2_with (go_at_call 43; refine (HNM.out _ _).mono ?_; rintro e w' ⟨rfl, rfl⟩)
            refine join_ap HJ.out (by kernel_rfl) ?_
            rfl
      · have he1 : ((ea : Int) == 0) = false := by rw [beq_eq_false_iff_ne]; omega
        go_wp2_with (go_at_call 43; refine (HNM.out _ _).mono ?_; rintro e w' ⟨rfl, rfl⟩)
        refine join_ap HJ.out (by kernel_rfl) ?_
        rfl
    · rintro s w6 rfl
      simp only [List.foldl_cons, List.foldl_nil, List.setIfInBounds_toArray, List.set_cons_zero, List.set_cons_succ]
      by_cases hz : ea + eb = 0
      · obtain rfl : ea = 0 := by omega
        obtain rfl : eb = 0 := by omega
        by_cases hml : m < l
        · have hd : decide (m < l) = true := decide_eq_true hml
          go_wp2_with (first | (go_at_call 43; refine (HNM.out _ _).mono ?_; rintro e w' ⟨rfl, rfl⟩) | (refine (HK.out _).mono ?_; rintro e w7 ⟨rfl, hb7'⟩; have HB7 := Lib.hid (HB5.out.trans (hb7'.mono HB5.out.size)); clear hb7'))
          go_ret
          exact ⟨rfl, HB7.out⟩
        · have hd : decide (m < l) = false := decide_eq_false hml
          have hle : na ≤ nb := (HL.out rfl).2.2.2 rfl (by omega)
          have hd2 : decide ((na : Int) ≤ (nb : Int)) = true := decide_eq_true (by omega)
          have hd3 : decide (na ≤ nb) = true := decide_eq_true hle
          go_wp2_with (first | (go_at_call 43; refine (HNM.out _ _).mono ?_; rintro e w' ⟨rfl, rfl⟩) | (refine (HK.out _).mono ?_; rintro e w7 ⟨rfl, hb7'⟩; have HB7 := Lib.hid (HB5.out.trans (hb7'.mono HB5.out.size)); clear hb7'))
          go_ret
          exact ⟨rfl, HB7.out⟩
      · have hz1 : ((ea : Int) + (eb : Int) != 0) = true := by rw [bne_iff_ne]; omega
        clear hz
        go_wp2_with (first | (go_at_call 43; refine (HNM.out _ _).mono ?_; rintro e w' ⟨rfl, rfl⟩) | (refine (HK.out _).mono ?_; rintro e w7 ⟨rfl, hb7'⟩; have HB7 := Lib.hid (HB5.out.trans (hb7'.mono HB5.out.size)); clear hb7'))
        go_ret
        exact ⟨rfl, HB7.out⟩
end Go.Proofs.Ytfddkehnhkfjeaa
