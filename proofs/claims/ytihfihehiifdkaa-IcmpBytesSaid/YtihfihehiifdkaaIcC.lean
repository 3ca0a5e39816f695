/- Icmp: ref04.Bytes. -/
import Derived.Test.YtihfihehiifdkaaIcB
namespace Go.Proofs.Ytihfihehiifdkaa
open Go.RowKit Go.Sort Go.BigFrame
set_option maxRecDepth 100000 in
set_option maxHeartbeats 4000000 in
theorem ricbytes_any (m : Ic) (v : Value) (I : Nat → Prop) (w : World) (hv : Sl8 w I v m.body) (hsm : m.body.length ≤ 900000) :
    Calls Try.prog 26 #[icV m v] w (IcBPost w (icB m)) := by
  obtain ⟨A, c, rfl, hc, hr⟩ := hv
  obtain ⟨n, hn⟩ : ∃ n, n = m.body.length := ⟨_, rfl⟩
  rw [← hn] at hc hr hsm ⊢
  obtain ⟨W, hW⟩ : ∃ W, W = w.alloc (.cells (icC m (.slice A n c)) 45) := ⟨_, rfl⟩
  have hb0 : Below w.heap.size w W := by rw [hW]; exact (Below.refl _ _).alloc (Nat.le_refl _) _
  have hk0 : Blk W w.heap.size 45 (icC m (.slice A n c)) := by rw [hW]; exact Blk.new _ _ _
  have hr0 : Reads W (fun k => I k ∧ k < w.heap.size) 1 A n (bytesV m.body) := (hr.lt).keep (Same.ofBelow hb0 fun k hk => hk.2)
  have hz0 : W.heap.size = w.heap.size + 1 := by rw [hW]; simp
  obtain ⟨ty, hty⟩ : ∃ z : Int, z = (m.ty.toNat : Int) := ⟨_, rfl⟩
  obtain ⟨co, hco⟩ : ∃ z : Int, z = (m.co.toNat : Int) := ⟨_, rfl⟩
  obtain ⟨r0, h0⟩ : ∃ z : Int, z = (m.r0.toNat : Int) := ⟨_, rfl⟩
  obtain ⟨r1, h1⟩ : ∃ z : Int, z = (m.r1.toNat : Int) := ⟨_, rfl⟩
  obtain ⟨r2, h2⟩ : ∃ z : Int, z = (m.r2.toNat : Int) := ⟨_, rfl⟩
  obtain ⟨r3, h3⟩ : ∃ z : Int, z = (m.r3.toNat : Int) := ⟨_, rfl⟩
  have k0 : W.cell? ⟨w.heap.size, 0, none⟩ = some (.int .u8 ty) := by rw [hty]; exact hk0.cell 0
  have k1 : W.cell? ⟨w.heap.size, 1, none⟩ = some (.int .u8 co) := by rw [hco]; exact hk0.cell 1
  have k2 : W.cell? ⟨w.heap.size, 2, none⟩ = some (.int .u8 r0) := by rw [h0]; exact hk0.cell 2
  have k3 : W.cell? ⟨w.heap.size, 3, none⟩ = some (.int .u8 r1) := by rw [h1]; exact hk0.cell 3
  have k4 : W.cell? ⟨w.heap.size, 4, none⟩ = some (.int .u8 r2) := by rw [h2]; exact hk0.cell 4
  have k5 : W.cell? ⟨w.heap.size, 5, none⟩ = some (.int .u8 r3) := by rw [h3]; exact hk0.cell 5
  obtain ⟨W1, hW1⟩ : ∃ W1, W1 = W.alloc (.cells #[.int .u8 ty, .int .u8 co, .int .u8 0, .int .u8 0, .int .u8 r0, .int .u8 r1, .int .u8 r2, .int .u8 r3] 5) := ⟨_, rfl⟩
  have hb1 : Below W.heap.size W W1 := by rw [hW1]; exact (Below.refl _ _).alloc (Nat.le_refl _) _
  have k6 : W1.cell? ⟨w.heap.size, 6, none⟩ = some (.slice A n c) := (hk0.below hb1 hk0.lt).cell 6
  have hrow : Row8 W.heap.size W1 (.slice (some ⟨W.heap.size, 0, none⟩) 8 8) [m.ty, m.co, 0, 0, m.r0, m.r1, m.r2, m.r3] := by rw [hW1, hty, hco, h0, h1, h2, h3]; exact row8_lit W [m.ty, m.co, 0, 0, m.r0, m.r1, m.r2, m.r3] _ (by simp) rfl
  have hr1 := hr0.keep (Same.ofBelow hb1 fun k hk => by have := hk.2; omega)
  have HW := Lib.hid hW
  have HW1 := Lib.hid hW1
  have HB1 := Lib.hid (hb0.trans (hb1.mono hb0.size))
  have HROW := Lib.hid hrow
  have HR1 := Lib.hid hr1
  have HN := Lib.hid hn
  have h63 : ([m.ty, m.co, 0, 0, m.r0, m.r1, m.r2, m.r3] : By).length + n ≤ 140737488355328 := by simp only [List.length_cons, List.length_nil]; omega
  have HSZ := Lib.hid (hb1.size)
  rw [hW1] at k6
  have HZ0 := Lib.hid hz0
  clear hW hb0 hk0 hc hr hn hty hco h0 h1 h2 h3 hr0 hW1 hb1 hrow hr1 hz0
  unfold icV
  go_enter Try.func26, Try.ntmps26
  go_upto_region 1 with (fail)
  rw [← HW.out]
  go_upto_region 2 with (at_builtin; rw [← HW1.out]; refine wpList_app8 W1 rfl (.tmp 20) (.tmp 22) rfl rfl W.heap.size _ [m.ty, m.co, 0, 0, m.r0, m.r1, m.r2, m.r3] rfl HROW.out _ A n c m.body rfl HN.out.symm HR1.out h63 HSZ.out ?_; intro v2 w2 h2 hg2 _; have HB2 := Lib.hid (HB1.out.grown hg2 HB1.out.size fun g hg => by have := (HROW.out.lt hg).1; have := HZ0.out; omega); have H2 := Lib.hid h2; clear h2 hg2)
  obtain ⟨x, hx⟩ : ∃ x, x = icW m 0 0 := ⟨_, rfl⟩
  have h3 : Row8 W.heap.size w2 v2 x := by rw [hx]; exact H2.out
  have hxl : x.length = 8 + n := by rw [hx]; unfold icW; have := HN.out; simp only [List.length_cons]; omega
  obtain ⟨g, cap, rfl, hcap, hgB, _⟩ := h3.blk (by omega)
  obtain ⟨q, hq⟩ : ∃ q, q = x.length := ⟨_, rfl⟩
  rw [← hq] at hcap hxl h3 ⊢
  have HX := Lib.hid hx
  have HQ := Lib.hid hq
  have H3 := Lib.hid h3
  have HG := Lib.hid (show w.heap.size ≤ g by have := HZ0.out; omega)
  have hq8 : 8 ≤ q := by omega
  have hqn : q ≤ 900008 := by omega
  clear h3 hx hq hgB hxl H2 k0 k1 k2 k3 k4 k5 k6
  obtain ⟨ck, hckk⟩ : ∃ k, k = checkF x := ⟨_, rfl⟩
  have hc16 : ck < 65536 := by rw [hckk]; unfold checkF; omega
  have HCKK := Lib.hid hckk
  clear hckk
  have hwr : IntKind.u64.wrap (ck : Int) = (ck : Int) := wraps_u64 _ (by omega) (by omega)
  have hs2 := fun wx => sl_lohi (some ⟨g, 0, none⟩) q cap wx 2 4 (by omega) (by omega)
  have hcp2 : cap ≠ 2 := by omega
  rw [if_neg hcp2, Option.map_some, add_off] at hs2
  have HCC := Lib.hid (fun (a b : World) (ha : Row8 W.heap.size a (.slice (some ⟨g, 0, none⟩) q cap) x ∧ Below w.heap.size w a) (hb : Below a.heap.size a b) => (⟨ha.1.below hb, ha.2.trans (hb.mono ha.2.size)⟩ : Row8 W.heap.size b (.slice (some ⟨g, 0, none⟩) q cap) x ∧ Below w.heap.size w b))
  refine wp_region_mix [(true, 3), (false, 4)] 3 (by kernel_rfl) (fun a => Row8 W.heap.size a (.slice (some ⟨g, 0, none⟩) q cap) x ∧ Below w.heap.size w a) HCC.out (by kernel_rfl) ⟨H3.out, HB2.out⟩ (a' := ?_) (fun wz hz => ?_) fun wz hz => ?_
  rotate_left
  · clear hz
    simp only [pick_nil, pick_tt, pick_ft, List.take_succ_cons, List.take_zero, List.drop_succ_cons, List.drop_zero, List.append_nil]
    repeat (go_big_quiet_step (fail))
    refine wpQuiet_nil ?_
    rfl
  · simp only [pick_nil, pick_ff, pick_tf, List.take_succ_cons, List.take_zero, List.drop_succ_cons, List.drop_zero, List.append_nil]
    have S0 := Lib.hid (HCC.out _ _ ⟨H3.out, HB2.out⟩ hz)
    clear hz
    refine wpMix_step S0.out fun wa ha => ?_
    have S1 := Lib.hid (HCC.out _ _ S0.out ha)
    have hch := rcheck_any (some ⟨g, 0, none⟩) q cap x _ wa ((S1.out.1.reads).2) HQ.out.symm (by omega)
    rw [← HCKK.out] at hch
    have HCH := Lib.hid hch
    clear ha hch
    go_wp2_with fail
    refine HCH.out.mono ?_
    rintro e wb ⟨rfl, hb⟩
    have S2 := Lib.hid (HCC.out _ _ S1.out hb)
    clear hb
    go_wp2_with fail
    refine wpMix_step S2.out fun wd hd => ?_
    have S3 := Lib.hid (HCC.out _ _ S2.out hd)
    clear hd
    go_wp2_with fail
    refine wpMix_step S3.out fun we he => ?_
    have S4 := Lib.hid (HCC.out _ _ S3.out he)
    have HPU := Lib.hid (rput2_any ck we hc16)
    clear he
    go_wp2_with fail
    refine HPU.out.mono ?_
    rintro e wf ⟨vq, rfl, hvq, hbq⟩
    have S5 := Lib.hid (HCC.out _ _ S4.out hbq)
    have HVQ := Lib.hid hvq
    clear hvq hbq
    go_wp2_with fail
    refine wpMix_step S5.out fun wg hg => ?_
    have S6 := Lib.hid (HCC.out _ _ S5.out hg)
    have hvq := HVQ.out.below hg
    clear hg
    obtain ⟨A6, c6, rfl, _⟩ := hvq.form
    rw [putF_len] at hvq ⊢
    obtain ⟨w7, hcp, h7, hu7⟩ := copy2 (off := 2) (k := 2) (d := cap - 2) S6.out.1 HQ.out.symm (by omega) (by omega) hvq
    have H7 := Lib.hid h7
    have HB7 := Lib.hid (S6.out.2.trans (hu7.below (B := w.heap.size) (fun k (hk : k = g) => by have := HG.out; omega) S6.out.2.size))
    clear hvq h7 hu7
    go_wp2_with fail
    refine wpMix_plain ?_
    go_wp2_with fail
    go_ret
    refine ⟨_, rfl, ?_, HB7.out⟩
    have hres : icB m = (x.set 2 (u8 (ck / 256))).set 3 (u8 ck) := by
      rw [HCKK.out, HX.out]
      rfl
    have hl : (icB m).length = q := by rw [hres, List.length_set, List.length_set, HQ.out]
    unfold Row8
    rw [hl, hres]
    have h7 := H7.out
    unfold Row8 at h7
    rw [List.length_set, List.length_set, ← HQ.out] at h7
    exact own_base h7 (by have := HZ0.out; omega)
end Go.Proofs.Ytihfihehiifdkaa
