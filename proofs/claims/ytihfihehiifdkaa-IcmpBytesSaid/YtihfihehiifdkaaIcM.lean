/- Icmp: Error. -/
import Derived.Test.YtihfihehiifdkaaIcK
namespace Go.Proofs.Ytihfihehiifdkaa
open Go.RowKit Go.Sort Go.BigFrame
def kdM (k : Int) : Ic := if kdB k = true then errM k 0 [] else ic0
theorem kdA_ic (k : Int) : kdA k = .agg (icC (kdM k) (.slice none 0 0)) := by
  unfold kdM kdA
  by_cases h1 : k = 1
  · subst h1; rfl
  by_cases h2 : k = 2
  · subst h2; rfl
  by_cases h3 : k = 3
  · subst h3; rfl
  rw [if_neg h1, if_neg h2, if_neg h3, if_neg (by unfold kdB; simp [h1, h2, h3])]
  rfl
theorem kdB_arg (k mtu : Int) : errArg k mtu = (!kdB k || decide (mtu < 0) || decide (65535 < mtu) || (decide (k ≠ 2) && decide (mtu ≠ 0))) := by
  unfold errArg kdB
  congr 3
  rw [Bool.eq_iff_iff]
  simp
  omega
/-- A message's variable, new, with what stands there. -/
theorem ic_var {B : Nat} {w w1 : World} (hb : Below B w w1) (hB : B ≤ w1.heap.size) (m : Ic) (A : Option Addr) (n c : Nat) : ∃ w2, (Instr.storeAt 45 (.pointer (some ⟨w1.heap.size, 0, none⟩)) (.agg (icC m (.slice A n c)))).run Try.prog (w1.alloc (.cells #[.int .u8 0, .int .u8 0, .int .u8 0, .int .u8 0, .int .u8 0, .int .u8 0, .slice none 0 0] 45)) = .ok () w2 ∧ Below B w w2 ∧ Below w1.heap.size w1 w2 ∧ Blk w2 w1.heap.size 45 (icC m (.slice A n c)) :=
  ⟨_, ic_store (vs := icC m (.slice A n c)) (Blk.new w1 _ _) rfl rfl (by simp [icC, Value.oneCell']), below_setCells hB _ 0 _ (hb.alloc hB _), below_setCells (Nat.le_refl _) _ 0 _ ((Below.refl _ _).alloc (Nat.le_refl _) _), blk_setCells (Blk.new w1 _ _) rfl⟩
theorem hd_build2 (w : World) (s d : Int) : (Instr.build 32 #[(8, .int .u32 s), (9, .int .u32 d)]).run Try.prog w = .ok (.agg #[.int .u8 0, .int .u16 0, .bool false, .bool false, .bool false, .int .i64 0, .int .u8 0, .int .u8 0, .int .u32 s, .int .u32 d, .slice none 0 0]) w := by kernel_rfl
attribute [-go_sem] Instr.storeAt Instr.loadAt in
set_option maxRecDepth 100000 in
set_option maxHeartbeats 8000000 in
theorem icerror_any (k mtu : Int) (fr : Nat) (A : Option Addr) (n c : Nat) (x : By) (I : Nat → Prop) (w : World) (hk : (Lit.int .i64 k).wf = true) (hfr : fr < 2 ^ 32) (h : Reads w I 1 A n (bytesV x)) (hn : x.length = n) (hc : n ≤ c) (hsm : n ≤ 1000000) :
    Calls Try.prog 17 #[.int .i64 k, .slice A n c, .int .u32 (fr : Int), .int .i64 mtu] w (BytPost w (errF k x fr mtu).1 ((errF k x fr mtu).2 : Int)) := by
  have hok := prs_ok x
  have hpl := prs_len x
  obtain ⟨E, hE⟩ : ∃ E, E = errF k x fr mtu := ⟨_, rfl⟩
  rw [← hE]
  unfold errF at hE
  rw [kdB_arg] at hE
  unfold emayF at hE
  obtain ⟨R, hR⟩ : ∃ R, R = prsF x := ⟨_, rfl⟩
  rw [← hR] at hE hok hpl
  have HPA := Lib.hid (fun wx (hb : Below w.heap.size w wx) => show Calls Try.prog 34 #[.slice A n c] wx (PrsPost wx R) from hR ▸ parse_any A n c x (fun j => I j ∧ j < w.heap.size) wx (h.lt.keep (Same.ofBelow hb fun j hj => hj.2)) hn hc hsm)
  have HQT := Lib.hid (fun wx (hb : Below w.heap.size w wx) => quote_any A n c x (fun j => I j ∧ j < w.heap.size) wx (h.lt.keep (Same.ofBelow hb fun j hj => hj.2)) hn hc hsm)
  have hqf : (prsF x).2.2 = 0 → (quoteF x).2 = 0 := fun h0 => by unfold quoteF; rw [if_neg (by omega)]
  have hfit := err_fits k x fr mtu.toNat
  have hqlen := quote_len x
  rw [← hR] at hqf hfit
  obtain ⟨g, y, f⟩ := R
  simp only at hE hok hpl hqf hfit
  have HE := Lib.hid hE
  have HOK := Lib.hid hok
  have HQF := Lib.hid hqf
  have HFIT := Lib.hid hfit
  have HQLEN := Lib.hid hqlen
  have hA := kdA_ic k
  obtain ⟨bb, hbb⟩ : ∃ b, b = kdB k := ⟨_, rfl⟩
  have HM := Lib.hid (show bb = true → kdM k = errM k 0 [] from fun e => by unfold kdM; rw [if_pos (hbb ▸ e)])
  rw [← hbb] at HE
  have HK := Lib.hid hk
  have HBB := Lib.hid hbb
  have HA := Lib.hid hA
  obtain ⟨M, hM⟩ : ∃ M, M = kdM k := ⟨_, rfl⟩
  rw [← hM] at HM HA
  clear hE hok hpl hR h hn hc hsm hqf hfit hqlen hA hbb hk hM
  go_enter Try.func17, Try.ntmps17
  go_wp2_with fail
  refine (kinds_any w).mono ?_
  rintro e w1 ⟨b, rfl, hkm, hb1⟩
  have hlk := hkm.look k HK.out
  rw [HA.out, ← HBB.out] at hlk
  obtain ⟨W2, hst1, hb2, hb12, hk2⟩ := ic_var hb1 hb1.size M none 0 0
  have HK2 := Lib.hid hk2
  have HB2 := Lib.hid hb2
  obtain ⟨gi, hgi⟩ : ∃ g, g = w1.heap.size := ⟨_, rfl⟩
  have HGI := Lib.hid (show w.heap.size ≤ gi by rw [hgi]; exact hb1.size)
  clear hkm hb1 hk2 hb2 hb12
  go_upto_region 2 with (fail)
  clear hst1 hlk
  rw [← hgi] at HK2 ⊢
  clear hgi
  go_upto_region 3 with
    (go_at_call 34
     refine (HPA.out _ HB2.out).mono ?_
     rintro e w3 ⟨vo, vq, rfl, ho, hq, _, hb3⟩
     obtain ⟨Ao, co, rfl, _⟩ := ho.form
     obtain ⟨Aq, cq, rfl, _⟩ := hq.form
     obtain ⟨w4, hst4, hb4, hb34, hk4⟩ := hd_var hb3 hb3.size g Ao g.opts.length co
     have HK4 := Lib.hid (HK2.out.below hb4 HK2.out.lt)
     have HH4 := Lib.hid hk4
     have HQ4 := Lib.hid ((hq.below hb34).reads.2)
     have HB4 := Lib.hid (HB2.out.trans (hb4.mono HB2.out.size))
     have HZ4 := Lib.hid (show gi < w3.heap.size from Nat.lt_of_lt_of_le HK2.out.lt hb3.size)
     clear ho hq hb3 hb4 hb34 hk4)
  cases bb with
  | false =>
    have hE := HE.out
    rw [if_pos (by simp)] at hE
    subst hE
    go_wp2_with fail
    go_ret2
    exact ⟨_, rfl, Row8.nil _ _, HB4.out⟩
  | true =>
  by_cases c1 : mtu < 0
  · have d1 : decide (mtu < 0) = true := decide_eq_true c1
    have hE := HE.out
    rw [if_pos (by simp [c1])] at hE
    subst hE
    go_wp2_with fail
    go_ret2
    exact ⟨_, rfl, Row8.nil _ _, HB4.out⟩
  have d1 : decide (mtu < 0) = false := decide_eq_false c1
  by_cases c2 : 65535 < mtu
  · have d2 : decide ((65535 : Int) < mtu) = true := decide_eq_true c2
    have hE := HE.out
    rw [if_pos (by simp [c2])] at hE
    subst hE
    go_wp2_with fail
    go_ret2
    exact ⟨_, rfl, Row8.nil _ _, HB4.out⟩
  have d2 : decide ((65535 : Int) < mtu) = false := decide_eq_false c2
  have HC := Lib.hid (show 0 ≤ mtu ∧ mtu ≤ 65535 by omega)
  by_cases c3 : mtu = 0
  · have b3 : (mtu != 0) = false := by rw [bne_eq_false_iff_eq]; exact c3
    have hE := HE.out
    rw [if_neg (by simp [c3])] at hE
    clear HE c1 c2 c3
    by_cases c5 : f ≠ 0
    · have b5 : ((f : Int) != 0) = true := by rw [bne_iff_ne]; omega
      rw [if_pos c5] at hE
      subst hE
      clear c5
      go_wp2_with fail
      go_ret2
      exact ⟨_, rfl, Row8.nil _ _, HB4.out⟩
    have b5 : ((f : Int) != 0) = false := by rw [bne_eq_false_iff_eq]; omega
    rw [if_neg c5, decide_eq_true (by omega : f = 0), Bool.true_and] at hE
    have HF0 := Lib.hid (show f = 0 by omega)
    clear c5
    have hld4 := hd_load HH4.out rfl
    have hmy := icmay_any g Ao g.opts.length co Aq y.length cq y _ w4 HQ4.out rfl
    obtain ⟨mm, hmm⟩ : ∃ b, b = emayH g y := ⟨_, rfl⟩
    rw [← hmm] at hmy hE
    have HMY := Lib.hid hmy
    clear hmy hmm
    cases mm with
    | false =>
      rw [if_pos rfl] at hE
      subst hE
      go_wp2_with (go_at_call 64; refine HMY.out.mono ?_; rintro e w5 ⟨rfl, hb5⟩; have HB5 := Lib.hid (HB4.out.trans (hb5.mono HB4.out.size)); clear hb5)
      go_ret2
      exact ⟨_, rfl, Row8.nil _ _, HB5.out⟩
    | true =>
    rw [if_neg (by simp)] at hE
    have HE9 := Lib.hid hE
    clear hE
    go_upto_region 9 with (go_at_call 64; refine HMY.out.mono ?_; rintro e w5 ⟨rfl, hb5⟩; have HB5 := Lib.hid (HB4.out.trans (hb5.mono HB4.out.size)); have HK5 := Lib.hid (HK4.out.below hb5 HK4.out.lt); have HH5 := Lib.hid (HH4.out.below hb5 HH4.out.lt); clear hb5)
    have hs4 := st8 (HK5.out.cell 4) (HK5.out.frozen 4)
    have k6 := HK5.out.set_ 4 (.int .u8 (mtu / 256 % 256))
    have hs5 := st8 (k6.cell 5) (k6.frozen 5)
    have k7 := k6.set_ 5 (.int .u8 (mtu % 256))
    have hmt := HC.out
    have z2 : mtu / 256 % 256 = ((u8 (mtu.toNat / 256)).toNat : Int) := by rw [u8_nat]; omega
    have z3 : mtu % 256 = ((u8 mtu.toNat).toNat : Int) := by rw [u8_nat]; omega
    have hu := ((Upd.refl (only gi) w5).set_ 4 (.int .u8 (mtu / 256 % 256))).set_ 5 (.int .u8 (mtu % 256))
    have K7 := Lib.hid (show Blk ((w5.setCell ⟨gi, 4, none⟩ (.int .u8 (mtu / 256 % 256))).setCell ⟨gi, 5, none⟩ (.int .u8 (mtu % 256))) gi 45 (icC (errM k mtu.toNat []) (.slice none 0 0)) from by
      have hm := HM.out (by trivial)
      have hmm : icC (errM k mtu.toNat []) (.slice none 0 0) = ((icC M (.slice none 0 0)).setIfInBounds 4 (.int .u8 (mtu / 256 % 256))).setIfInBounds 5 (.int .u8 (mtu % 256)) := by rw [z2, z3, hm]; rfl
      rw [hmm]
      exact k7)
    have hb7 := HB5.out.trans (hu.below (B := w.heap.size) (fun j (hj : j = gi) => by have := HGI.out; omega) HB5.out.size)
    have HB7 := Lib.hid hb7
    have HH7 := Lib.hid (show Blk _ w3.heap.size 32 (hdC g (.slice Ao g.opts.length co)) from (hu.block _ HH5.out.lt (fun (e : w3.heap.size = gi) => by have := HZ4.out; omega)).trans HH5.out)
    clear k6 k7 hmt z2 z3 hu hb7
    go_upto_region 10 with (fail)
    clear hs4 hs5
    generalize (w5.setCell ⟨gi, 4, none⟩ (.int .u8 (mtu / 256 % 256))).setCell ⟨gi, 5, none⟩ (.int .u8 (mtu % 256)) = w7 at K7 HB7 HH7 ⊢
    have hqt := HQT.out w7 HB7.out
    obtain ⟨Q, hQ⟩ : ∃ Q, Q = quoteF x := ⟨_, rfl⟩
    have HQ := Lib.hid hQ
    have HL := Lib.hid (show Q.1.length ≤ 68 by rw [hQ]; exact HQLEN.out)
    rw [← hQ] at hqt
    have HQ8 := Lib.hid hqt
    clear hqt hQ
    go_wp2_with fail
    refine HQ8.out.mono ?_
    rintro e w8 ⟨v8, rfl, h8, hb8⟩
    have HB8 := Lib.hid (HB7.out.trans (hb8.mono HB7.out.size))
    have k8 := K7.out.below hb8 K7.out.lt
    have HH8 := Lib.hid (HH7.out.below hb8 HH7.out.lt)
    obtain ⟨A8, c8, rfl, _⟩ := h8.form
    have hs8 := st_8s (k8.cell 6) (k8.frozen 6) A8 Q.1.length c8
    have k9 := k8.set_ 6 (.slice A8 Q.1.length c8)
    have K9 := Lib.hid (show Blk (w8.setCell ⟨gi, 6, none⟩ (.slice A8 Q.1.length c8)) gi 45 (icC (errM k mtu.toNat Q.1) (.slice A8 Q.1.length c8)) from k9)
    have hu9 := upd_set w8 gi 6 (.slice A8 Q.1.length c8)
    have HB9 := Lib.hid (HB8.out.trans (hu9.below (B := w.heap.size) (fun j (hj : j = gi) => by have := HGI.out; omega) HB8.out.size))
    have HH9 := Lib.hid (show Blk _ w3.heap.size 32 (hdC g (.slice Ao g.opts.length co)) from (hu9.block _ HH8.out.lt (fun (e : w3.heap.size = gi) => by have := HZ4.out; omega)).trans HH8.out)
    have hs9 : Sl8 (w8.setCell ⟨gi, 6, none⟩ (.slice A8 Q.1.length c8)) (fun _ => True) (.slice A8 Q.1.length c8) Q.1 := by
      have hgl : gi < w7.heap.size := K7.out.lt
      have := h8.keep (hu9.same (I := fun j => gi < j) fun j (hj : j = gi) hi => by omega) fun q hq => by have := (h8.lt hq).1; omega
      exact row_sl this
    have HS9 := Lib.hid hs9
    clear h8 hb8 k8 k9 hu9 hs9
    go_upto_region 11 with (fail)
    clear hs8
    generalize w8.setCell ⟨gi, 6, none⟩ (.slice A8 Q.1.length c8) = w9 at K9 HB9 HH9 HS9 ⊢
    have l1 := ic_load K9.out rfl
    obtain ⟨sr, hsr⟩ : ∃ z, z = g.src := ⟨_, rfl⟩
    have l2 := ld_u32s (show w9.cell? ⟨w3.heap.size, 8, none⟩ = some (.int .u32 (sr : Int)) by rw [hsr]; exact HH9.out.cell 8)
    have bd := fun wx => hd_build2 wx (fr : Int) (sr : Int)
    have hsn : Calls Try.prog 65 #[.agg (icC (errM k mtu.toNat Q.1) (.slice A8 Q.1.length c8)), .agg #[.int .u8 0, .int .u16 0, .bool false, .bool false, .bool false, .int .i64 0, .int .u8 0, .int .u8 0, .int .u32 (fr : Int), .int .u32 (sr : Int), .slice none 0 0]] w9 (BytPost w9 (bytesF (errH fr sr) (icB (errM k mtu.toNat Q.1))) 0) := send_any (errM k mtu.toNat Q.1) (.slice A8 Q.1.length c8) { hd0 with src := fr, dst := sr } (.slice none 0 0) (fun _ => True) w9 HS9.out (sl_nil _ _) (by show Q.1.length ≤ 900000; have := HL.out; omega) (errH_ok hfr (by rw [hsr]; exact HOK.out.2.2.2.2.1)) (by
      have := HFIT.out
      rw [HQ.out, hsr]
      exact this)
    have HSN := Lib.hid hsn
    have HSR := Lib.hid hsr
    clear hsn hsr
    go_wp2_with fail
    refine HSN.out.mono ?_
    rintro e w10 ⟨v10, rfl, h10, hb10⟩
    obtain ⟨A10, c10, rfl, _⟩ := h10.form
    have H10 := Lib.hid (own_base h10 HB9.out.size)
    have HB10 := Lib.hid (HB9.out.trans (hb10.mono HB9.out.size))
    clear h10 hb10
    go_wp2_with fail
    go_ret2
    rw [HE9.out]
    refine ⟨_, rfl, ?_, HB10.out⟩
    simp only
    rw [← HQ.out, ← HSR.out]
    exact H10.out
  have b3 : (mtu != 0) = true := by rw [bne_iff_ne]; exact c3
  by_cases c4 : k = 2
  · have b4 : (k != 2) = false := by rw [bne_eq_false_iff_eq]; exact c4
    have hE := HE.out
    rw [if_neg (by simp [c1, c2, c4])] at hE
    have HC4 := Lib.hid c4
    clear HE c1 c2 c3 c4
    by_cases c5 : f ≠ 0
    · have b5 : ((f : Int) != 0) = true := by rw [bne_iff_ne]; omega
      rw [if_pos c5] at hE
      subst hE
      clear c5
      go_wp2_with fail
      go_ret2
      exact ⟨_, rfl, Row8.nil _ _, HB4.out⟩
    have b5 : ((f : Int) != 0) = false := by rw [bne_eq_false_iff_eq]; omega
    rw [if_neg c5, decide_eq_true (by omega : f = 0), Bool.true_and] at hE
    have HF0 := Lib.hid (show f = 0 by omega)
    clear c5
    have hld4 := hd_load HH4.out rfl
    have hmy := icmay_any g Ao g.opts.length co Aq y.length cq y _ w4 HQ4.out rfl
    obtain ⟨mm, hmm⟩ : ∃ b, b = emayH g y := ⟨_, rfl⟩
    rw [← hmm] at hmy hE
    have HMY := Lib.hid hmy
    clear hmy hmm
    cases mm with
    | false =>
      rw [if_pos rfl] at hE
      subst hE
      go_wp2_with (go_at_call 64; refine HMY.out.mono ?_; rintro e w5 ⟨rfl, hb5⟩; have HB5 := Lib.hid (HB4.out.trans (hb5.mono HB4.out.size)); clear hb5)
      go_ret2
      exact ⟨_, rfl, Row8.nil _ _, HB5.out⟩
    | true =>
    rw [if_neg (by simp)] at hE
    have HE9 := Lib.hid hE
    clear hE
    go_upto_region 9 with (go_at_call 64; refine HMY.out.mono ?_; rintro e w5 ⟨rfl, hb5⟩; have HB5 := Lib.hid (HB4.out.trans (hb5.mono HB4.out.size)); have HK5 := Lib.hid (HK4.out.below hb5 HK4.out.lt); have HH5 := Lib.hid (HH4.out.below hb5 HH4.out.lt); clear hb5)
    have hs4 := st8 (HK5.out.cell 4) (HK5.out.frozen 4)
    have k6 := HK5.out.set_ 4 (.int .u8 (mtu / 256 % 256))
    have hs5 := st8 (k6.cell 5) (k6.frozen 5)
    have k7 := k6.set_ 5 (.int .u8 (mtu % 256))
    have hmt := HC.out
    have z2 : mtu / 256 % 256 = ((u8 (mtu.toNat / 256)).toNat : Int) := by rw [u8_nat]; omega
    have z3 : mtu % 256 = ((u8 mtu.toNat).toNat : Int) := by rw [u8_nat]; omega
    have hu := ((Upd.refl (only gi) w5).set_ 4 (.int .u8 (mtu / 256 % 256))).set_ 5 (.int .u8 (mtu % 256))
    have K7 := Lib.hid (show Blk ((w5.setCell ⟨gi, 4, none⟩ (.int .u8 (mtu / 256 % 256))).setCell ⟨gi, 5, none⟩ (.int .u8 (mtu % 256))) gi 45 (icC (errM k mtu.toNat []) (.slice none 0 0)) from by
      have hm := HM.out (by trivial)
      have hmm : icC (errM k mtu.toNat []) (.slice none 0 0) = ((icC M (.slice none 0 0)).setIfInBounds 4 (.int .u8 (mtu / 256 % 256))).setIfInBounds 5 (.int .u8 (mtu % 256)) := by rw [z2, z3, hm]; rfl
      rw [hmm]
      exact k7)
    have hb7 := HB5.out.trans (hu.below (B := w.heap.size) (fun j (hj : j = gi) => by have := HGI.out; omega) HB5.out.size)
    have HB7 := Lib.hid hb7
    have HH7 := Lib.hid (show Blk _ w3.heap.size 32 (hdC g (.slice Ao g.opts.length co)) from (hu.block _ HH5.out.lt (fun (e : w3.heap.size = gi) => by have := HZ4.out; omega)).trans HH5.out)
    clear k6 k7 hmt z2 z3 hu hb7
    go_upto_region 10 with (fail)
    clear hs4 hs5
    generalize (w5.setCell ⟨gi, 4, none⟩ (.int .u8 (mtu / 256 % 256))).setCell ⟨gi, 5, none⟩ (.int .u8 (mtu % 256)) = w7 at K7 HB7 HH7 ⊢
    have hqt := HQT.out w7 HB7.out
    obtain ⟨Q, hQ⟩ : ∃ Q, Q = quoteF x := ⟨_, rfl⟩
    have HQ := Lib.hid hQ
    have HL := Lib.hid (show Q.1.length ≤ 68 by rw [hQ]; exact HQLEN.out)
    rw [← hQ] at hqt
    have HQ8 := Lib.hid hqt
    clear hqt hQ
    go_wp2_with fail
    refine HQ8.out.mono ?_
    rintro e w8 ⟨v8, rfl, h8, hb8⟩
    have HB8 := Lib.hid (HB7.out.trans (hb8.mono HB7.out.size))
    have k8 := K7.out.below hb8 K7.out.lt
    have HH8 := Lib.hid (HH7.out.below hb8 HH7.out.lt)
    obtain ⟨A8, c8, rfl, _⟩ := h8.form
    have hs8 := st_8s (k8.cell 6) (k8.frozen 6) A8 Q.1.length c8
    have k9 := k8.set_ 6 (.slice A8 Q.1.length c8)
    have K9 := Lib.hid (show Blk (w8.setCell ⟨gi, 6, none⟩ (.slice A8 Q.1.length c8)) gi 45 (icC (errM k mtu.toNat Q.1) (.slice A8 Q.1.length c8)) from k9)
    have hu9 := upd_set w8 gi 6 (.slice A8 Q.1.length c8)
    have HB9 := Lib.hid (HB8.out.trans (hu9.below (B := w.heap.size) (fun j (hj : j = gi) => by have := HGI.out; omega) HB8.out.size))
    have HH9 := Lib.hid (show Blk _ w3.heap.size 32 (hdC g (.slice Ao g.opts.length co)) from (hu9.block _ HH8.out.lt (fun (e : w3.heap.size = gi) => by have := HZ4.out; omega)).trans HH8.out)
    have hs9 : Sl8 (w8.setCell ⟨gi, 6, none⟩ (.slice A8 Q.1.length c8)) (fun _ => True) (.slice A8 Q.1.length c8) Q.1 := by
      have hgl : gi < w7.heap.size := K7.out.lt
      have := h8.keep (hu9.same (I := fun j => gi < j) fun j (hj : j = gi) hi => by omega) fun q hq => by have := (h8.lt hq).1; omega
      exact row_sl this
    have HS9 := Lib.hid hs9
    clear h8 hb8 k8 k9 hu9 hs9
    go_upto_region 11 with (fail)
    clear hs8
    generalize w8.setCell ⟨gi, 6, none⟩ (.slice A8 Q.1.length c8) = w9 at K9 HB9 HH9 HS9 ⊢
    have l1 := ic_load K9.out rfl
    obtain ⟨sr, hsr⟩ : ∃ z, z = g.src := ⟨_, rfl⟩
    have l2 := ld_u32s (show w9.cell? ⟨w3.heap.size, 8, none⟩ = some (.int .u32 (sr : Int)) by rw [hsr]; exact HH9.out.cell 8)
    have bd := fun wx => hd_build2 wx (fr : Int) (sr : Int)
    have hsn : Calls Try.prog 65 #[.agg (icC (errM k mtu.toNat Q.1) (.slice A8 Q.1.length c8)), .agg #[.int .u8 0, .int .u16 0, .bool false, .bool false, .bool false, .int .i64 0, .int .u8 0, .int .u8 0, .int .u32 (fr : Int), .int .u32 (sr : Int), .slice none 0 0]] w9 (BytPost w9 (bytesF (errH fr sr) (icB (errM k mtu.toNat Q.1))) 0) := send_any (errM k mtu.toNat Q.1) (.slice A8 Q.1.length c8) { hd0 with src := fr, dst := sr } (.slice none 0 0) (fun _ => True) w9 HS9.out (sl_nil _ _) (by show Q.1.length ≤ 900000; have := HL.out; omega) (errH_ok hfr (by rw [hsr]; exact HOK.out.2.2.2.2.1)) (by
      have := HFIT.out
      rw [HQ.out, hsr]
      exact this)
    have HSN := Lib.hid hsn
    have HSR := Lib.hid hsr
    clear hsn hsr
    go_wp2_with fail
    refine HSN.out.mono ?_
    rintro e w10 ⟨v10, rfl, h10, hb10⟩
    obtain ⟨A10, c10, rfl, _⟩ := h10.form
    have H10 := Lib.hid (own_base h10 HB9.out.size)
    have HB10 := Lib.hid (HB9.out.trans (hb10.mono HB9.out.size))
    clear h10 hb10
    go_wp2_with fail
    go_ret2
    rw [HE9.out]
    refine ⟨_, rfl, ?_, HB10.out⟩
    simp only
    rw [← HQ.out, ← HSR.out]
    exact H10.out
  have b4 : (k != 2) = true := by rw [bne_iff_ne]; exact c4
  · have hE := HE.out
    rw [if_pos (by simp [c3, c4])] at hE
    subst hE
    clear c1 c2 c3 c4
    go_wp2_with fail
    go_ret2
    exact ⟨_, rfl, Row8.nil _ _, HB4.out⟩
end Go.Proofs.Ytihfihehiifdkaa
