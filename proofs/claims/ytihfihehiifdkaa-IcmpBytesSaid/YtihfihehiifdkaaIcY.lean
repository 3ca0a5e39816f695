/- Icmp: IcmpQuotes' walk. -/
import Derived.Test.YtihfihehiifdkaaIcT
import Derived.Deep.QuietTactic
import Derived.BigQuiet
namespace Go.Proofs.Ytihfihehiifdkaa
open Go.RowKit Go.Sort Go.BigFrame
theorem err_len {k : Int} {x : By} {fr : Nat} {mtu : Int} (h : (errF k x fr mtu).2 = 0) : (errF k x fr mtu).1.length = 28 + (quoteF x).1.length := by
  unfold errF at h ⊢
  split at h
  · cases h
  split at h
  · cases h
  split at h
  · cases h
  rename_i a1 a2 a3
  rw [if_neg a1, if_neg a2, if_neg a3]
  show (bytesF _ _).length = _
  rw [bytesF_len, icB_len]
  show 20 + 0 + (8 + (quoteF x).1.length) = _
  omega
theorem quote_of {x : By} (h : (quoteF x).2 = 0) : (prsF x).2.2 = 0 ∧ (quoteF x).1 = x.take (20 + (prsF x).1.opts.length + min 8 (prsF x).2.1.length) := by
  unfold quoteF at h ⊢
  split at h
  · cases h
  rename_i a
  rw [if_neg a]
  exact ⟨by omega, rfl⟩
theorem bytes_bne (z : By) : ((⟨z.toArray⟩ : ByteArray) != ⟨z.toArray⟩) = false := by
  have := bytes_beq z z
  simp only [bne, this]
  simp
set_option maxRecDepth 100000 in
set_option maxHeartbeats 16000000 in
attribute [-go_sem] Instr.storeAt Instr.loadAt in
theorem icmpquotes_any (k mtu : Int) (fr : Nat) (A : Option Addr) (n c : Nat) (x : By) (w : World) (hk : (Lit.int .i64 k).wf = true) (hfr : fr < 2 ^ 32) (h : Reads w (fun k => k < w.heap.size) 1 A n (bytesV x)) (hn : x.length = n) (hc : n ≤ c) :
    Calls Try.prog 3 #[.int .i64 k, .slice A n c, .int .u32 (fr : Int), .int .i64 mtu] w fun e w' => e = .returned (.bool true) ∧ Below w.heap.size w w' := by
  have HK := Lib.hid (fun wx => known4_any wx)
  have HNM := Lib.hid (fun z wx => num4_any z wx)
  have HN := Lib.hid hn
  have HC := Lib.hid hc
  have HH := Lib.hid (show ∀ wx, Below w.heap.size w wx → Reads wx (fun k => k < w.heap.size) 1 A n (bytesV x) from fun wx hb => h.keep (Same.ofBelow hb fun k hk => hk))
  go_enter Try.func3, Try.ntmps3
  by_cases hbig : 70000 < n
  · have hg : decide ((70000 : Int) < (n : Int)) = true := decide_eq_true (by omega)
    clear h hn hc
    go_wp2_with fail
    refine (HK.out _).mono ?_
    rintro e w1 ⟨rfl, hb⟩
    have HB := Lib.hid hb
    clear hb
    go_wp2_with fail
    go_ret
    exact ⟨rfl, HB.out⟩
  have hg : decide ((70000 : Int) < (n : Int)) = false := decide_eq_false (by omega)
  have hsm : n ≤ 1000000 := by omega
  have hqt := quote_any A n c x _ w h hn hc hsm
  have HPA := Lib.hid (fun wx (hb : Below w.heap.size w wx) => rparse_any A n c x _ wx (HH.out wx hb) HN.out HC.out hsm)
  have HER := Lib.hid (fun wx (hb : Below w.heap.size w wx) => icerror_any k mtu fr A n c x _ wx hk hfr (HH.out wx hb) HN.out HC.out hsm)
  have x1 := quote_of (x := x)
  have x2 := quote_len x
  have x3 := err_len (k := k) (x := x) (fr := fr) (mtu := mtu)
  have x4 := prs_wh (x := x)
  obtain ⟨B, hB⟩ : ∃ B, B = errF k x fr mtu := ⟨_, rfl⟩
  rw [← hB] at HER x3
  obtain ⟨Q, hQ⟩ : ∃ Q, Q = quoteF x := ⟨_, rfl⟩
  rw [← hQ] at hqt x1 x2 x3
  obtain ⟨R, hR⟩ : ∃ R, R = prsF x := ⟨_, rfl⟩
  rw [← hR] at HPA x1 x4
  obtain ⟨g, y, f⟩ := R
  obtain ⟨z, er⟩ := Q
  obtain ⟨b, eb⟩ := B
  simp only at x1 x2 x3 x4 HER hqt
  have HQT := Lib.hid hqt
  have X1 := Lib.hid x1
  have X2 := Lib.hid x2
  have X3 := Lib.hid x3
  have X4 := Lib.hid x4
  clear hqt x1 x2 x3 x4 hR hQ hB h hn hc hbig hk hfr
  go_upto_region 4 with
    (go_at_call 14
     refine HQT.out.mono ?_
     rintro e w3 ⟨v3, rfl, h3, hb3⟩
     obtain ⟨A3, c3, rfl, _⟩ := h3.form
     have H3 := Lib.hid h3
     have HB3 := Lib.hid hb3
     clear h3 hb3)
  by_cases h0 : er = 0
  rotate_left
  · have b1 : ((er : Int) != 0) = true := by rw [bne_iff_ne]; omega
    clear h0
    go_wp2_with (first
      | (go_at_call 15; refine (HNM.out _ _).mono ?_; rintro e w' ⟨rfl, rfl⟩)
      | (go_at_call 13; refine (HK.out _).mono ?_; rintro e w6 ⟨rfl, hb6⟩; have HB6 := Lib.hid (HB3.out.trans (hb6.mono HB3.out.size)); clear hb6))
    go_ret
    exact ⟨rfl, HB6.out⟩
  subst h0
  obtain ⟨hf, hz⟩ := X1.out rfl
  subst hf
  have hl := X4.out rfl
  obtain ⟨o, ho⟩ : ∃ o, o = g.opts.length := ⟨_, rfl⟩
  obtain ⟨q, hq⟩ : ∃ q, q = y.length := ⟨_, rfl⟩
  rw [← ho, ← hq] at hz hl
  obtain ⟨t, ht⟩ : ∃ t, t = min 8 q := ⟨_, rfl⟩
  rw [← ht] at hz
  obtain ⟨s, hs⟩ : ∃ s, s = z.length := ⟨_, rfl⟩
  have hsl : s = 20 + o + t := by rw [hs, hz, List.length_take]; omega
  have hsn : s ≤ n := by have := HN.out; omega
  have h3 := H3.out
  rw [← hs] at h3 ⊢
  have H4 := Lib.hid h3
  have HZ := Lib.hid (show z = x.take s from by rw [hsl]; exact hz)
  have HO := Lib.hid ho
  have HQ := Lib.hid hq
  have HS := Lib.hid hs
  have hol : o ≤ 1000000 := by have := HN.out; omega
  have hql : q ≤ 1000000 := by have := HN.out; omega
  have HSL := Lib.hid hsl
  have HTT := Lib.hid ht
  clear X1 X4 H3 hz ho hq hs h3 hsl ht
  go_upto_region 7 with (first
    | (go_at_call 15; refine (HNM.out _ _).mono ?_; rintro e w' ⟨rfl, rfl⟩)
    | (go_at_call 16
       refine (HPA.out _ HB3.out).mono ?_
       rintro e w5 ⟨vo, vq, rfl, hoo, hqq, hb5⟩
       obtain ⟨Ao, co, rfl, _⟩ := hoo
       obtain ⟨Aq, cq, rfl, _⟩ := hqq
       rw [show (g, y, 0).2.1.length = q from HQ.out.symm, show (g, y, 0).1.opts.length = o from HO.out.symm]
       obtain ⟨w6, hst, hb6, hb56, hk6⟩ := hd_var (HB3.out.trans (hb5.mono HB3.out.size)) (HB3.out.trans (hb5.mono HB3.out.size)).size g Ao o co
       have k10 : w6.cell? ⟨w5.heap.size, 10, none⟩ = some (.slice Ao o co) := hk6.cell 10
       have H6 := Lib.hid ((H4.out.below hb5).below hb56)
       have HB6 := Lib.hid hb6
       clear hb5 hb6 hb56 hk6))
  clear hst
  have k10d : ∀ nd, (w6.drewN nd).cell? ⟨w5.heap.size, 10, none⟩ = some (.slice Ao o co) := fun nd => k10
  have l10 := fun nd => ld8s (k10d nd)
  have cv1 : ∀ nd, (convert 22 9 (.slice A3 s c3)).run Try.prog (w6.drewN nd) = .ok (.string ⟨z.toArray⟩) (w6.drewN nd) := fun nd => by
    rw [HS.out]
    exact run_str _ _ _ _ _ ((by have := H6.out.reads.2; rwa [HS.out] at this : Reads w6 _ 1 A3 z.length (bytesV z)).keep (Same.ofHeap _ rfl))
  have cut : ∀ wx, (Instr.slice 22 (.slice A n c) none (some (.int .i64 (s : Int))) none).run Try.prog wx = .ok (.slice A s c) wx := fun wx => sl_hi A n c wx s (by have := HC.out; omega)
  have cv2 : ∀ nd, (convert 22 9 (.slice A s c)).run Try.prog (w6.drewN nd) = .ok (.string ⟨z.toArray⟩) (w6.drewN nd) := fun nd => by
    obtain ⟨e1, _, hr⟩ := (cut_hi (cap := c) (k := s) (by rw [HN.out]; exact HH.out w6 HB6.out) (by rw [HN.out]; exact hsn) (by have := HC.out; omega)).len
    rw [e1, HZ.out]
    exact run_str _ _ _ _ _ (hr.keep (Same.ofHeap _ rfl))
  have d0 : decide ((n : Int) < (s : Int)) = false := decide_eq_false (by omega)
  have d0n : decide (n < s) = false := decide_eq_false (by omega)
  have d1 := bytes_bne z
  clear k10
  by_cases h8 : 8 ≤ q
  · obtain rfl : t = 8 := by have := HTT.out; omega
    have hsl := HSL.out
    have d2 : ((s : Int) != 20 + (o : Int) + 8) = false := by rw [bne_eq_false_iff_eq]; omega
    have hmin : min (8 : Int) (q : Int) = 8 := by omega
    have f1 : decide ((8 : Int) ≤ (q : Int)) = true := decide_eq_true (by omega)
    have f2 : decide (8 ≤ q) = true := decide_eq_true h8
    have f3 : decide ((q : Int) < 8) = false := decide_eq_false (by omega)
    have f4 : decide (q < 8) = false := decide_eq_false (by omega)
    clear hsl
    go_wp2_with fail
    go_quiet (fail)
    have HB7 := Lib.hid (HB6.out.trans ⟨rfl, rfl, rfl, Nat.le_refl _, fun _ _ => rfl⟩ : Below w.heap.size w (w6.drewN nq))
    go_upto_region 10 with
      (go_at_call 17
       refine (HER.out _ HB7.out).mono ?_
       rintro e w8 ⟨v8, rfl, h8, hb8⟩
       obtain ⟨A8, c8, rfl, _⟩ := h8.form
       have HB8 := Lib.hid (HB7.out.trans (hb8.mono HB7.out.size))
       clear h8 hb8)
    by_cases he : eb = 0
    · subst he
      have hbl := X3.out rfl
      rw [← HS.out] at hbl
      have hs68 : s ≤ 68 := by rw [HS.out]; exact X2.out
      obtain ⟨bl, hbl0⟩ : ∃ bl, bl = b.length := ⟨_, rfl⟩
      rw [← hbl0] at hbl ⊢
      have e2 : ((bl : Int) == 28 + (s : Int)) = true := by rw [beq_iff_eq]; omega
      have e3 : decide ((bl : Int) ≤ 96) = true := decide_eq_true (by omega)
      have e4 : decide (bl ≤ 96) = true := decide_eq_true (by omega)
      clear hbl hbl0
      go_wp2_with (first
        | (go_at_call 15; refine (HNM.out _ _).mono ?_; rintro e w' ⟨rfl, rfl⟩)
        | (go_at_call 13; refine (HK.out _).mono ?_; rintro e w9 ⟨rfl, hb9⟩; have HB9 := Lib.hid (HB8.out.trans (hb9.mono HB8.out.size)); clear hb9))
      go_ret
      exact ⟨rfl, HB9.out⟩
    · have b1 : ((eb : Int) != 0) = true := by rw [bne_iff_ne]; omega
      go_wp2_with (first
        | (go_at_call 15; refine (HNM.out _ _).mono ?_; rintro e w' ⟨rfl, rfl⟩)
        | (go_at_call 13; refine (HK.out _).mono ?_; rintro e w9 ⟨rfl, hb9⟩; have HB9 := Lib.hid (HB8.out.trans (hb9.mono HB8.out.size)); clear hb9))
      go_ret
      exact ⟨rfl, HB9.out⟩
  · obtain rfl : t = q := by have := HTT.out; omega
    have hsl := HSL.out
    have d2 : ((s : Int) != 20 + (o : Int) + (t : Int)) = false := by rw [bne_eq_false_iff_eq]; omega
    have hmin : min (8 : Int) (t : Int) = (t : Int) := by omega
    have f1 : decide ((8 : Int) ≤ (t : Int)) = false := decide_eq_false (by omega)
    have f2 : decide (8 ≤ t) = false := decide_eq_false h8
    have f3 : decide ((t : Int) < 8) = true := decide_eq_true (by omega)
    have f4 : decide (t < 8) = true := decide_eq_true (by omega)
    clear hsl
    go_wp2_with fail
    go_quiet (fail)
    have HB7 := Lib.hid (HB6.out.trans ⟨rfl, rfl, rfl, Nat.le_refl _, fun _ _ => rfl⟩ : Below w.heap.size w (w6.drewN nq))
    go_upto_region 10 with
      (go_at_call 17
       refine (HER.out _ HB7.out).mono ?_
       rintro e w8 ⟨v8, rfl, h8, hb8⟩
       obtain ⟨A8, c8, rfl, _⟩ := h8.form
       have HB8 := Lib.hid (HB7.out.trans (hb8.mono HB7.out.size))
       clear h8 hb8)
    by_cases he : eb = 0
    · subst he
      have hbl := X3.out rfl
      rw [← HS.out] at hbl
      have hs68 : s ≤ 68 := by rw [HS.out]; exact X2.out
      obtain ⟨bl, hbl0⟩ : ∃ bl, bl = b.length := ⟨_, rfl⟩
      rw [← hbl0] at hbl ⊢
      have e2 : ((bl : Int) == 28 + (s : Int)) = true := by rw [beq_iff_eq]; omega
      have e3 : decide ((bl : Int) ≤ 96) = true := decide_eq_true (by omega)
      have e4 : decide (bl ≤ 96) = true := decide_eq_true (by omega)
      clear hbl hbl0
      go_wp2_with (first
        | (go_at_call 15; refine (HNM.out _ _).mono ?_; rintro e w' ⟨rfl, rfl⟩)
        | (go_at_call 13; refine (HK.out _).mono ?_; rintro e w9 ⟨rfl, hb9⟩; have HB9 := Lib.hid (HB8.out.trans (hb9.mono HB8.out.size)); clear hb9))
      go_ret
      exact ⟨rfl, HB9.out⟩
    · have b1 : ((eb : Int) != 0) = true := by rw [bne_iff_ne]; omega
      go_wp2_with (first
        | (go_at_call 15; refine (HNM.out _ _).mono ?_; rintro e w' ⟨rfl, rfl⟩)
        | (go_at_call 13; refine (HK.out _).mono ?_; rintro e w9 ⟨rfl, hb9⟩; have HB9 := Lib.hid (HB8.out.trans (hb9.mono HB8.out.size)); clear hb9))
      go_ret
      exact ⟨rfl, HB9.out⟩
end Go.Proofs.Ytihfihehiifdkaa
