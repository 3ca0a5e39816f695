/- guidepostref03.Less. -/
import Derived.Test.YtfddkehnhkfjeaaIrD
namespace Go.Proofs.Ytfddkehnhkfjeaa
open Go.RowKit Go.Sort Go.BigFrame
theorem part2 {x : By} {a : Nat} (h : a + 2 ≤ x.length) : partF x a (a + 2) = [x.getD a 0, x.getD (a + 1) 0] := by
  unfold partF
  apply List.ext_getElem?
  intro i
  rw [List.getElem?_drop, List.getElem?_take]
  match i with
  | 0 => rw [if_pos (by omega)]; simp [List.getD_eq_getElem?_getD, List.getElem?_eq_getElem (show a < x.length by omega)]
  | 1 => rw [if_pos (by omega)]; simp [List.getD_eq_getElem?_getD, List.getElem?_eq_getElem (show a + 1 < x.length by omega)]
  | i + 2 => rw [if_neg (by omega)]; rfl
theorem store8 {w : World} {a : Addr} {old : Value} {n : Int} (h : w.cell? a = some old) (hf : w.frozen? a = false) : (Instr.storeAt 5 (.pointer (some a)) (.int .u8 n)).run Try.prog w = .ok () (w.setCell a (.int .u8 n)) := by go_simp
attribute [-go_sem] Instr.storeAt in
set_option maxRecDepth 100000 in
set_option maxHeartbeats 16000000 in
theorem rless_any (A : Option Addr) (n c : Nat) (x : By) (I : Nat → Prop) (w : World) (h : Reads w I 1 A n (bytesV x)) (hn : x.length = n) (hc : n ≤ c) (hsm : n ≤ 1000000) :
    Calls Try.prog 27 #[.slice A n c] w (LessPost w (lessF x)) := by
  have HP := Lib.hid (rparse_any A n c x I w h hn hc hsm)
  have HH := Lib.hid h.lt
  have HN := Lib.hid hn
  obtain ⟨R, hR⟩ : ∃ R, R = lessF x := ⟨_, rfl⟩
  rw [← hR]
  have HR := Lib.hid hR
  unfold RPrs at HP
  obtain ⟨hd, hhd⟩ : ∃ hd, hd = (prsF x).1 := ⟨_, rfl⟩
  obtain ⟨q, hq⟩ : ∃ q, q = (prsF x).2.2 := ⟨_, rfl⟩
  rw [← hhd, ← hq] at HP
  have hqw : q = wrongF x := by rw [hq]; unfold prsF; split <;> simp_all
  have HQ := Lib.hid hqw
  have HHD := Lib.hid (show wrongF x = 0 → hd = hdF x from fun e => by rw [hhd]; unfold prsF; rw [if_pos e])
  clear h hn hR hhd hq hqw
  go_enter Try.func27, Try.ntmps27
  go_upto_region 1 with (fail)

  go_wp2_with fail
  refine HP.out.mono ?_
  rintro e w1 ⟨v, p, rfl, hv, _, hb1⟩
  have hk0 := Blk.new w1 28 #[.int .u8 0, .int .u16 0, .bool false, .bool false, .bool false, .int .i64 0, .int .u8 0, .int .u8 0, .int .u32 0, .int .u32 0, .slice none 0 0]
  obtain ⟨Av, cv, rfl, _, _⟩ := hv
  have hst := hd_store (vs := hdC hd (.slice Av hd.opts.length cv)) hk0 rfl rfl (by simp [hdC, Value.oneCell'])
  have hk1 := blk_setCells (vs := hdC hd (.slice Av hd.opts.length cv)) hk0 rfl
  have hba := hb1.alloc hb1.size (.cells #[.int .u8 0, .int .u16 0, .bool false, .bool false, .bool false, .int .i64 0, .int .u8 0, .int .u8 0, .int .u32 0, .int .u32 0, .slice none 0 0] 28)
  have hb2 := below_setCells hb1.size (hdC hd (.slice Av hd.opts.length cv)).toList 0 _ hba
  obtain ⟨g, hg⟩ : ∃ g, g = w1.heap.size := ⟨_, rfl⟩
  obtain ⟨w2, hw2⟩ : ∃ w2, w2 = (w1.alloc (.cells #[.int .u8 0, .int .u16 0, .bool false, .bool false, .bool false, .int .i64 0, .int .u8 0, .int .u8 0, .int .u32 0, .int .u32 0, .slice none 0 0] 28)).setCells w1.heap.size 0 (hdC hd (.slice Av hd.opts.length cv)).toList := ⟨_, rfl⟩
  rw [← hw2] at hst hk1 hb2
  have c6 : w2.cell? ⟨w1.heap.size, 6, none⟩ = some (.int .u8 (hd.ttl : Int)) := hk1.cell 6
  have HB2 := Lib.hid hb2
  have HB1 := Lib.hid hb1
  unfold hdC at hst
  unfold hdV
  clear hk0 hk1 hba hb2 hw2 hb1 hg
  by_cases h0 : q = 0
  case neg =>
    have hne : ((q : Int) != 0) = true := by rw [bne_iff_ne]; omega
    have hr : R = ([], 4) := by rw [HR.out]; unfold lessF; rw [if_pos (by rw [← HQ.out]; exact h0)]
    have HRE := Lib.hid hr
    clear hr h0
    go_wp2_with fail
    go_ret2
    exact ⟨.slice none 0 0, by rw [HRE.out]; rfl, by rw [HRE.out]; exact Row8.nil _ _, HB2.out⟩
  subst h0
  have hw0 : wrongF x = 0 := HQ.out.symm
  obtain ⟨z1, _⟩ := wrong0 hw0
  have hhd := HHD.out hw0
  have htt : hd.ttl = (x.getD 8 0).toNat := by rw [hhd]; rfl
  have HW0 := Lib.hid hw0
  have HTT := Lib.hid htt
  have HZ1 := Lib.hid (show 20 ≤ n by rw [← HN.out]; exact z1)
  clear hw0 hhd htt z1
  obtain ⟨b8, hb8⟩ : ∃ b, b = hd.ttl := ⟨_, rfl⟩
  rw [← hb8] at c6
  have HB8 := Lib.hid (show b8 = (x.getD 8 0).toNat by rw [hb8]; exact HTT.out)
  have hb8l : b8 < 256 := by rw [HB8.out]; exact UInt8.toNat_lt _
  clear hb8
  by_cases ht : b8 = 0
  · have hte : ((b8 : Int) == 0) = true := by rw [beq_iff_eq]; omega
    have hr : R = ([], 7) := by rw [HR.out]; unfold lessF; rw [if_neg (by rw [HW0.out]; decide), if_pos (by rw [← HB8.out]; exact ht)]
    have HRE := Lib.hid hr
    clear hr ht
    go_wp2_with fail
    go_ret2
    exact ⟨.slice none 0 0, by rw [HRE.out]; rfl, by rw [HRE.out]; exact Row8.nil _ _, HB2.out⟩
  have hte : ((b8 : Int) == 0) = false := by rw [beq_eq_false_iff_ne]; omega
  have hrd := HH.out.keep (Same.ofBelow HB2.out fun k hk => hk.2)
  have HRD := Lib.hid hrd
  have h63 : ([] : By).length + n ≤ 140737488355328 := by simp; omega
  have hsz : w.heap.size ≤ w2.heap.size := HB2.out.size
  clear hrd
  go_wp2_with (at_builtin; refine wpList_app8 w2 rfl (.const (.slice none 0 0)) (.tmp 21) rfl rfl w.heap.size (.slice none 0 0) [] rfl (Row8.nil _ _) _ A n c x rfl HN.out HRD.out h63 hsz ?_; intro v3 w3 h3 hg3 _)
  have h3x : Row8 w.heap.size w3 v3 x := by simpa using h3
  obtain ⟨g, cap, rfl, hcap, hgB, cur, hbk, hcur⟩ := h3x.blk (by rw [HN.out]; have := HZ1.out; omega)
  rw [HN.out] at hcap h3x ⊢
  have hb3 : Below w.heap.size w w3 := HB2.out.grown hg3 HB2.out.size fun k e => by cases e
  have hrd3 := HH.out.keep (Same.ofBelow hb3 fun k hk => hk.2)
  obtain ⟨ad, rfl, C8⟩ := byte_getD hrd3 (k := 8) (by have := HZ1.out; omega)
  obtain ⟨_, r9, C9⟩ := byte_getD hrd3 (k := 9) (by have := HZ1.out; omega)
  obtain rfl : ad = _ := by injection r9
  obtain ⟨_, r10, C10⟩ := byte_getD hrd3 (k := 10) (by have := HZ1.out; omega)
  obtain rfl : ad = _ := by injection r10
  obtain ⟨_, r11, C11⟩ := byte_getD hrd3 (k := 11) (by have := HZ1.out; omega)
  obtain rfl : ad = _ := by injection r11
  obtain ⟨b9, hb9⟩ : ∃ b, b = (x.getD 9 0).toNat := ⟨_, rfl⟩
  obtain ⟨b10, hb10⟩ : ∃ b, b = (x.getD 10 0).toNat := ⟨_, rfl⟩
  obtain ⟨b11, hb11⟩ : ∃ b, b = (x.getD 11 0).toNat := ⟨_, rfl⟩
  have p8 := add_pos ad 8 (by decide)
  have p9 := add_pos ad 9 (by decide)
  have p10 := add_pos ad 10 (by decide)
  have p11 := add_pos ad 11 (by decide)
  rw [← HB8.out, p8] at C8
  rw [← hb9, p9] at C9
  rw [← hb10, p10] at C10
  rw [← hb11, p11] at C11
  have l9 : b9 < 256 := by rw [hb9]; exact UInt8.toNat_lt _
  have l10 : b10 < 256 := by rw [hb10]; exact UInt8.toNat_lt _
  have l11 : b11 < 256 := by rw [hb11]; exact UInt8.toNat_lt _
  obtain ⟨x8, hx8⟩ : ∃ k, k = 256 * b8 := ⟨_, rfl⟩
  obtain ⟨m, hm⟩ : ∃ k, k = x8 + b9 := ⟨_, rfl⟩
  obtain ⟨x10, hx10⟩ : ∃ k, k = 256 * b10 := ⟨_, rfl⟩
  obtain ⟨cs, hcs⟩ : ∃ k, k = x10 + b11 := ⟨_, rfl⟩
  obtain ⟨m1, hm1⟩ : ∃ k, k = m - 256 := ⟨_, rfl⟩
  obtain ⟨r, hr⟩ : ∃ k, k = changeF cs m m1 := ⟨_, rfl⟩
  have hrl : r < 65536 := by rw [hr]; unfold changeF; omega
  have hmx : m = getF (partF x 8 10) := by rw [part2 (a := 8) (by rw [HN.out]; have := HZ1.out; omega), get2, hm, hx8, ← HB8.out, ← hb9]; omega
  have hcx : cs = getF (partF x 10 12) := by rw [part2 (a := 10) (by rw [HN.out]; have := HZ1.out; omega), get2, hcs, hx10, ← hb10, ← hb11]; omega
  have u8' : IntKind.u16.wrap (b8 : Int) = (b8 : Int) := by simp [IntKind.wrap, IntKind.bits, IntKind.signed]; omega
  have u9' : IntKind.u16.wrap (b9 : Int) = (b9 : Int) := by simp [IntKind.wrap, IntKind.bits, IntKind.signed]; omega
  have u10' : IntKind.u16.wrap (b10 : Int) = (b10 : Int) := by simp [IntKind.wrap, IntKind.bits, IntKind.signed]; omega
  have u11' : IntKind.u16.wrap (b11 : Int) = (b11 : Int) := by simp [IntKind.wrap, IntKind.bits, IntKind.signed]; omega
  have t8 : IntKind.u16.wrap (256 * (b8 : Int)) = (x8 : Int) := by simp [IntKind.wrap, IntKind.bits, IntKind.signed]; omega
  have t9 : IntKind.u16.wrap ((x8 : Int) + (b9 : Int)) = (m : Int) := by simp [IntKind.wrap, IntKind.bits, IntKind.signed]; omega
  have t10 : IntKind.u16.wrap (256 * (b10 : Int)) = (x10 : Int) := by simp [IntKind.wrap, IntKind.bits, IntKind.signed]; omega
  have t11 : IntKind.u16.wrap ((x10 : Int) + (b11 : Int)) = (cs : Int) := by simp [IntKind.wrap, IntKind.bits, IntKind.signed]; omega
  have t12 : IntKind.u16.wrap ((m : Int) - 256) = (m1 : Int) := by simp [IntKind.wrap, IntKind.bits, IntKind.signed]; omega
  have hch := fun wx => rchange_any cs m m1 wx (by omega) (by omega) (by omega)
  rw [← hr] at hch
  have HCH := Lib.hid (show ∀ (wx : World) (k : Nat), Calls Try.prog 65 #[.int .u16 (cs : Int), .int .u16 (m : Int), .int .u16 (m1 : Int)] (wx.drewN k) (fun e w' => e = .returned (.int .u16 (r : Int)) ∧ ∃ q, w' = wx.drewN q) from fun wx k => (hch (wx.drewN k)).mono (by rintro e w' ⟨rfl, rfl⟩; exact ⟨rfl, _, rfl⟩))
  have i8 : (8 : Int) < n := by have := HZ1.out; omega
  have i9 : (9 : Int) < n := by have := HZ1.out; omega
  have i10 : (10 : Int) < n := by have := HZ1.out; omega
  have i11 : (11 : Int) < n := by have := HZ1.out; omega
  have j8 : 8 < n := by have := HZ1.out; omega
  have j9 : 9 < n := by have := HZ1.out; omega
  have j10 : 10 < n := by have := HZ1.out; omega
  have j11 : 11 < n := by have := HZ1.out; omega
  have HMX := Lib.hid hmx
  have HCX := Lib.hid hcx
  have HRX := Lib.hid hr
  have HM1 := Lib.hid hm1
  have HV3 := Lib.hid h3x
  have HB3 := Lib.hid hb3
  have HBK := Lib.hid hbk
  have HCUR := Lib.hid hcur
  clear hmx hcx hr hm1 h3x hb3 hbk hcur hch hb9 hb10 hb11 hx8 hm hx10 hcs h3 hg3 hrd3 r9 r10 r11
  go_quiet (fail)
  have C8' : (w3.drewN nq).cell? ⟨ad.block, ad.off + 8, none⟩ = some (.int .u8 (b8 : Int)) := C8
  have C10' : (w3.drewN nq).cell? ⟨ad.block, ad.off + 10, none⟩ = some (.int .u8 (b10 : Int)) := C10
  have C11' : (w3.drewN nq).cell? ⟨ad.block, ad.off + 11, none⟩ = some (.int .u8 (b11 : Int)) := C11
  have HV4 := Lib.hid (show Row8 w.heap.size (w3.drewN nq) (.slice (some ⟨g, 0, none⟩) n cap) x from HV3.out)
  have HB4 := Lib.hid (show Below w.heap.size w (w3.drewN nq) from ⟨HB3.out.os, HB3.out.tape, HB3.out.output, HB3.out.size, HB3.out.block⟩)
  have HK4 := Lib.hid (show Blk (w3.drewN nq) g 5 cur from HBK.out)
  generalize w3.drewN nq = w4 at C8' C10' C11' HV4 HB4 HK4 ⊢
  clear C8 C9 C10 C11 HV3 HB3 HBK
  go_wp2_with fail
  go_quiet (first | (go_at_call 65; exact HCH.out _ _))
  have D8 : (w4.drewN nq).cell? ⟨ad.block, ad.off + 8, none⟩ = some (.int .u8 (b8 : Int)) := C8'
  have HV5 := Lib.hid (show Row8 w.heap.size (w4.drewN nq) (.slice (some ⟨g, 0, none⟩) n cap) x from HV4.out)
  have HB5 := Lib.hid (show Below w.heap.size w (w4.drewN nq) from ⟨HB4.out.os, HB4.out.tape, HB4.out.output, HB4.out.size, HB4.out.block⟩)
  have HK5 := Lib.hid (show Blk (w4.drewN nq) g 5 cur from HK4.out)
  generalize w4.drewN nq = w5 at D8 HV5 HB5 HK5 ⊢
  clear C8' C10' C11' HV4 HB4 HK4
  obtain ⟨d8, hd8⟩ : ∃ k, k = b8 - 1 := ⟨_, rfl⟩
  obtain ⟨rq, hrq⟩ : ∃ k, k = r / 256 := ⟨_, rfl⟩
  obtain ⟨rr, hrr⟩ : ∃ k, k = r % 256 := ⟨_, rfl⟩
  have e1 : IntKind.u8.wrap ((b8 : Int) - 1) = (d8 : Int) := by simp [IntKind.wrap, IntKind.bits, IntKind.signed]; omega
  have e2 : (r : Int) / 256 = (rq : Int) := by omega
  have e3 : (r : Int) % 256 = (rr : Int) := by omega
  have e2t : (r : Int).tdiv 256 = (rq : Int) := by rw [Int.tdiv_eq_ediv_of_nonneg (by omega)]; exact e2
  have e3t : (r : Int).tmod 256 = (rr : Int) := by rw [Int.tmod_eq_emod_of_nonneg (by omega)]; exact e3
  have e2u : IntKind.u16.wrap (rq : Int) = (rq : Int) := by simp [IntKind.wrap, IntKind.bits, IntKind.signed]; omega
  have e3u : IntKind.u16.wrap (rr : Int) = (rr : Int) := by simp [IntKind.wrap, IntKind.bits, IntKind.signed]; omega
  have e2v : IntKind.u8.wrap (rq : Int) = (rq : Int) := by simp [IntKind.wrap, IntKind.bits, IntKind.signed]; omega
  have e3v : IntKind.u8.wrap (rr : Int) = (rr : Int) := by simp [IntKind.wrap, IntKind.bits, IntKind.signed]; omega
  have hex : ∀ i, i < n → ∃ u, w5.cell? ⟨g, i, none⟩ = some u := fun i hi => ⟨_, by rw [HK5.out.cell]; exact HCUR.out i _ (List.getElem?_eq_getElem (by rw [bytesV_len, HN.out]; exact hi))⟩
  obtain ⟨wa, hwa⟩ : ∃ wa, wa = w5.setCell ⟨g, 8, none⟩ (.int .u8 (d8 : Int)) := ⟨_, rfl⟩
  obtain ⟨wb, hwb⟩ : ∃ wb, wb = wa.setCell ⟨g, 10, none⟩ (.int .u8 (rq : Int)) := ⟨_, rfl⟩
  obtain ⟨wc, hwc⟩ : ∃ wc, wc = wb.setCell ⟨g, 11, none⟩ (.int .u8 (rr : Int)) := ⟨_, rfl⟩
  have ka : ∃ c, Blk wa g 5 c ∧ c.size = cur.size := ⟨_, by rw [hwa]; exact HK5.out.set_ 8 _, by simp⟩
  obtain ⟨ca, ka, sa⟩ := ka
  have kb : ∃ c, Blk wb g 5 c ∧ c.size = cur.size := ⟨_, by rw [hwb]; exact ka.set_ 10 _, by simp [sa]⟩
  obtain ⟨cb, kb, sb⟩ := kb
  have hcsz : n ≤ cur.size := by
    rcases Nat.lt_or_ge cur.size n with hl | hl
    · obtain ⟨u, hu⟩ := hex cur.size hl
      rw [HK5.out.cell, Array.getElem?_eq_none (Nat.le_refl _)] at hu
      cases hu
    · exact hl
  have s1 := store8 (n := (d8 : Int)) ((hex 8 j8).choose_spec) (HK5.out.frozen 8)
  have s2 := store8 (w := wa) (a := ⟨g, 10, none⟩) (n := (rq : Int)) (by rw [ka.cell]; exact Array.getElem?_eq_getElem (by omega)) (ka.frozen 10)
  have s3 := store8 (w := wb) (a := ⟨g, 11, none⟩) (n := (rr : Int)) (by rw [kb.cell]; exact Array.getElem?_eq_getElem (by omega)) (kb.frozen 11)
  rw [← hwa] at s1
  rw [← hwb] at s2
  rw [← hwc] at s3
  have f1 := Row8.set (i := 8) (b := u8 d8) HV5.out
  have f2 := Row8.set (i := 10) (b := u8 rq) f1
  have f3 := Row8.set (i := 11) (b := u8 rr) f2
  rw [u8_nat, show d8 % 256 = d8 by omega, u8_nat, show rq % 256 = rq by omega, u8_nat, show rr % 256 = rr by omega, ← hwa, ← hwb, ← hwc] at f3
  have hbb := ((HB5.out.setCell (p := ⟨g, 8, none⟩) hgB (.int .u8 (d8 : Int))).setCell (p := ⟨g, 10, none⟩) hgB (.int .u8 (rq : Int))).setCell (p := ⟨g, 11, none⟩) hgB (.int .u8 (rr : Int))
  rw [← hwa, ← hwb, ← hwc] at hbb
  have HF3 := Lib.hid f3
  have HBB := Lib.hid hbb
  have HRQ := Lib.hid hrq
  have HRR := Lib.hid hrr
  have HD8 := Lib.hid hd8
  clear f1 f2 f3 hbb hwa hwb hwc ka kb sa sb hcsz hex hrq hrr hd8
  go_wp2_with fail
  go_ret2
  have hr : R = (((x.set 8 (u8 d8)).set 10 (u8 rq)).set 11 (u8 rr), 0) := by
    rw [HR.out]
    unfold lessF
    rw [if_neg (by rw [HW0.out]; decide), if_neg (by rw [← HB8.out]; exact ht)]
    simp only
    rw [← HMX.out, ← HCX.out, ← HM1.out, ← HRX.out, ← HB8.out, ← HD8.out, ← HRQ.out]
    have : UInt8.ofNat r = u8 rr := by
      unfold u8
      rw [HRR.out]
      apply UInt8.toNat_inj.1
      simp
    rw [this]
    rfl
  exact ⟨_, by rw [hr]; rfl, by rw [hr]; exact HF3.out, HBB.out⟩
end Go.Proofs.Ytfddkehnhkfjeaa
