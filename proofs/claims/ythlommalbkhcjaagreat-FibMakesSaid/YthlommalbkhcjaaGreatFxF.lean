/- fib.Same of two tables with the same entries. -/
import Derived.Test.YthlommalbkhcjaaGreatFuT
import Derived.Test.YthlommalbkhcjaaGreatRgN
namespace Go.Proofs.YthlommalbkhcjaaGreat
open Go.RowKit Go.Sort Go.BigFrame
attribute [local go_sem] Oper.semAt_some
variable {dc : Int → Array Value}
theorem getS_of_mem {e : Bs × Int} : ∀ {L : List (Bs × Int)}, SortedB L → e ∈ L → getS e.1 L = some e.2
  | f :: r, hs, he => by
    have hc : getS e.1 (f :: r) = if f.1 = e.1 then some f.2 else getS e.1 r := by
      unfold getS
      by_cases h : f.1 = e.1 <;> simp [h]
    rw [hc]
    rcases List.mem_cons.1 he with rfl | he
    · rw [if_pos rfl]
    · have := (List.pairwise_cons.1 hs).1 e he
      rw [if_neg (fun h => by rw [h, ltB_irrefl] at this; cases this)]
      exact getS_of_mem (sorted_tail hs) he
/-- The call's boxes: the second table, the answer. -/
structure SmS (w W : World) (gb : Nat) (b : Bool) : Prop where
  below : Below w.heap.size w W
  box : Blk W w.heap.size 27 #[.pointer (some ⟨gb, 0, none⟩)]
  ans : Blk W (w.heap.size + 1) 4 #[.bool b]
section
variable {w W W' : World} {gb : Nat} {b : Bool}
theorem SmS.later (h : SmS w W gb b) (hb : Below W.heap.size W W') : SmS w W' gb b := ⟨h.below.trans (hb.mono h.below.size), h.box.below hb h.box.lt, h.ans.below hb h.ans.lt⟩
theorem SmS.own {row : Option Nat} (h : SmS w W gb b) (hg : W.grownBy W' row) (hr : ∀ r, row = some r → w.heap.size ≤ r ∧ ∃ o : Obj, W.heap[r]? = some o ∧ o.isCells = false) : SmS w W' gb b :=
  ⟨h.below.grown hg h.below.size fun r e => (hr r e).1, blk_own h.box hg fun r e => (hr r e).2, blk_own h.ans hg fun r e => (hr r e).2⟩
theorem SmS.setA (h : SmS w W gb b) (m : Bool) : SmS w (W.setCell ⟨w.heap.size + 1, 0, none⟩ (.bool m)) gb m :=
  ⟨(((Upd.refl (only (w.heap.size + 1)) W).set_ 0 _).below (B := w.heap.size) (fun k (e : k = _) => by omega) h.below.size |> h.below.trans), h.box.far (p := ⟨w.heap.size + 1, 0, none⟩) (by simp) _, h.ans.set_ 0 _⟩
end
set_option maxRecDepth 100000 in
set_option maxHeartbeats 8000000 in
attribute [-go_sem] Instr.storeAt Instr.loadAt Instr.alloc in
theorem fsame_any (hd : Dc dc) {wk : Int → Int × List Int} (hwk : ∀ v, dc v = wayC (wk v) ∧ (wk v).2.length = 256) {u0 u1 w : World} {fb gb : Nat} {T T2 : TT} {lim lim2 : Int} (h1 : KF dc u0 w fb T lim) (h2 : KF dc u1 w gb T2 lim2) (he : T2.list = T.list) (hsm : T.list.length ≤ 1000000) (h32 : ∀ e ∈ T.list, e.1.length ≤ 32) :
    Calls Tryz.prog 21 #[.pointer (some ⟨fb, 0, none⟩), .pointer (some ⟨gb, 0, none⟩)] w fun e w' => e = .returned (.bool true) ∧ Below w.heap.size w w' := by
  obtain ⟨L, hL⟩ : ∃ L, L = T.list := ⟨_, rfl⟩
  obtain ⟨n, hn⟩ : ∃ n, n = L.length := ⟨_, rfl⟩
  have hT2 := h2.wf
  have hgt : ∀ x ∈ L, T2.get x.1 = some x.2 := fun x hx => by
    rw [TT.get_list hT2, he, ← hL]
    have hs := TT.sorted h1.wf
    rw [← hL] at hs
    exact getS_of_mem hs hx
  obtain ⟨W0, hW0⟩ : ∃ Z, Z = (w.alloc (.cells #[.pointer (some ⟨gb, 0, none⟩)] 27)).alloc (.cells #[.bool false] 4) := ⟨_, rfl⟩
  have hz1 : (w.alloc (.cells #[.pointer (some ⟨gb, 0, none⟩)] 27)).heap.size = w.heap.size + 1 := by simp
  have hb0 : Below w.heap.size w W0 := by rw [hW0]; exact ((Below.refl _ _).alloc (Nat.le_refl _) _).alloc (by simp) _
  have hs0 : SmS w W0 gb false := ⟨hb0, by rw [hW0]; exact (Blk.new w _ _).alloc _, by
    rw [hW0]
    have := Blk.new (w.alloc (.cells #[.pointer (some ⟨gb, 0, none⟩)] 27)) 4 #[.bool false]
    rwa [hz1] at this⟩
  have HK1 := Lib.hid (fun (W : World) (hb : Below w.heap.size w W) => h1.later hb)
  have HK2 := Lib.hid (fun (W : World) (hb : Below w.heap.size w W) => h2.later hb)
  have HAL := Lib.hid (allgives_kf hd h1 hsm W0 hb0)
  have HGT := Lib.hid hgt
  have H32 := Lib.hid (show ∀ e ∈ L, e.1.length ≤ 32 by rw [hL]; exact h32)
  have HS0 := Lib.hid hs0
  have HL := Lib.hid hL
  have HN := Lib.hid hn
  have HE := Lib.hid he
  have HD := Lib.hid hd
  have HWK := Lib.hid hwk
  have HW0 := Lib.hid hW0
  have lp := ld_fbp (hs0.box.cell 0)
  have a3 := bt_alloc
  have HT1 := Lib.hid (fun (W : World) (hb : Below w.heap.size w W) => (show Calls Tryz.prog 54 #[.pointer (some ⟨fb, 0, none⟩)] W fun e w' => e = .returned (.bool true) ∧ W = w' from by
    obtain ⟨M, tb, q1, _⟩ := HK1.out W hb
    exact fthere_any q1.f))
  have HT2 := Lib.hid (fun (W : World) (hb : Below w.heap.size w W) => (show Calls Tryz.prog 54 #[.pointer (some ⟨gb, 0, none⟩)] W fun e w' => e = .returned (.bool true) ∧ W = w' from by
    obtain ⟨M, tb, q1, _⟩ := HK2.out W hb
    exact fthere_any q1.f))
  clear h1 h2 he hT2 hgt hL hn hd hwk hb0 hs0 hW0 hsm h32
  refine (callsIn_wide (n := 5)).1 ?_
  refine callsIn_of_wp_marks Tryz.func21 rfl trivial ?_ rfl
  simp only [Tryz.ntmps21, List.size_toArray, List.length_cons, List.length_nil, Nat.reduceAdd, Nat.reduceSub, Array.replicate_succ, Array.replicate_zero, List.push_toArray, List.append_toArray, List.nil_append, List.cons_append]
  refine wpIn_wide.2 ?_
  go_upto_region 1 with (fail)
  rw [← HW0.out]
  clear a3 hz1
  go_wp2_with fail
  refine (HT1.out _ HS0.out.below).mono ?_
  rintro e w' ⟨rfl, rfl⟩
  go_wp2_with fail
  refine (HT2.out _ HS0.out.below).mono ?_
  rintro e w' ⟨rfl, rfl⟩
  go_upto_region 3 with (fail)
  clear lp
  go_wp2_with fail
  refine HAL.out.mono ?_
  rintro e w1 ⟨lb, I, rfl, hb1, hI, hst⟩
  have HST := Lib.hid hst
  have HI := Lib.hid hI
  have HS1 := Lib.hid (HS0.out.later hb1)
  have HZ0 := Lib.hid (show w.heap.size + 1 < W0.heap.size from HS0.out.ans.lt)
  have HZ1 := Lib.hid (show w.heap.size + 1 < w1.heap.size from HS1.out.ans.lt)
  clear hst hI hb1
  go_wp2_with fail
  have hzz1 := HZ1.out
  have hzz0 := HZ0.out
  refine (wpIn_wide (n := 5)).1 ?_
  rw [← HL.out] at HST
  refine wpIn_range_fit rfl (by omega) (gf := 192) (lb := lb) rfl trivial eg_over HST.out (fun h k => same_t h k) (fun W l o o' hl h h1 h2 => same_b (w := w1) (fun k hk => (HI.out k hk).2) W l o o' hl h h1 h2) (Below.refl _ _) (fun _ => rfl)
    (fun _ W => SmS w W gb false ∧ w1.heap.size ≤ W.heap.size) (fun _ _ _ => False) (fun pre W W' row hs hg hr => ⟨hs.1.own hg fun r e => ⟨Nat.le_trans (by omega) (hr r e).1, (hr r e).2⟩, Nat.le_trans hs.2 hg.size⟩) (fun _ _ _ _ _ hs _ _ => hs) ⟨HS1.out, Nat.le_refl _⟩
    (fun t pre x a' W => pre ++ [x] <+: L ∧ ∃ Bq Bw, w1.heap.size ≤ Bq ∧ w1.heap.size ≤ Bw ∧ Blk W Bq 37 #[.int .u32 (padB x.1 : Int), .int .i64 (x.1.length : Int)] ∧ Blk W Bw 41 (dc x.2) ∧ a' = { tmps := (((t.setIfInBounds 24 (pxV (padB x.1) x.1.length)).setIfInBounds 25 (.agg (dc x.2))).setIfInBounds 5 (.pointer (some ⟨Bq, 0, none⟩))).setIfInBounds 6 (.pointer (some ⟨Bw, 0, none⟩)), defers := [] })
    (fun pre x a' _ W W' row hs hg hr => by obtain ⟨h0, Bq, Bw, g1, g2, h1, h2, h3⟩ := hs; exact ⟨h0, Bq, Bw, g1, g2, blk_own h1 hg fun r e => (hr r e).2, blk_own h2 hg fun r e => (hr r e).2, h3⟩) ?assign ?body ?done ?stop
  case assign =>
    intro l' pre x W K hi hfit hsz hK
    obtain ⟨V1, st1, hk1, hb1⟩ := px_copy W (padB x.1 : Int) (x.1.length : Int)
    obtain ⟨V3, st2, hk3, hb3⟩ := wy_copy V1 (dc x.2) (HD.out.sz _) (HD.out.one _)
    have hball : Below W.heap.size W V3 := hb1.trans (hb3.mono hb1.size)
    have hk1' := hk1.below hb3 hk1.lt
    have HBA := Lib.hid hball
    have HK1' := Lib.hid hk1'
    have HK3 := Lib.hid hk3
    have HSZ := Lib.hid hb1.size
    have HI2 := Lib.hid hi
    have HFIT := Lib.hid hfit
    have a1 := px_alloc
    have a2 := way_alloc
    clear hb1 hk1 hball hk1' hk3 hb3 hi hfit
    simp only [entV]
    gi_wp2
    refine hK _ _ (keeps_of_below HBA.out) (Same.ofBelow HBA.out fun j hj => Nat.lt_of_lt_of_le (HI.out j hj).2 hsz) ⟨HI2.out.1.later HBA.out, Nat.le_trans HI2.out.2 HBA.out.size⟩ ⟨HFIT.out, W.heap.size, V1.heap.size, hsz, Nat.le_trans hsz HSZ.out, HK1'.out, HK3.out, rfl⟩
  case body =>
    rintro l' pre x a' W hl' ⟨rr, hr⟩ ⟨hs, hws⟩ ⟨hfit, Bq, Bw, g1, g2, hq, hy, rfl⟩
    have hxL : x ∈ L := by
      obtain ⟨r, rfl⟩ := hfit
      simp
    obtain ⟨M, tb, hfm, _⟩ := HK2.out W hs.below
    obtain ⟨hw1, hw2⟩ := HWK.out x.2
    obtain ⟨xa, hxa⟩ : ∃ z : Int, z = (padB x.1 : Int) := ⟨_, rfl⟩
    obtain ⟨xn, hxn⟩ : ∃ z : Int, z = (x.1.length : Int) := ⟨_, rfl⟩
    obtain ⟨cv, hcv⟩ : ∃ z, z = dc x.2 := ⟨_, rfl⟩
    have hc1 : cv.size = 257 := by rw [hcv]; exact HD.out.sz _
    have hc2 : cv.all (·.oneCell') = true := by rw [hcv]; exact HD.out.one _
    have e2 : ∀ w, (Op.equalIn 10000 41 (.agg cv) (.agg cv)).run Tryz.prog w = .ok true w := fun w => by rw [hcv, hw1]; exact eqs_wy _ hw2 w
    have e3 : ∀ w, (binOp .neq 41 (.agg cv) (.agg cv)).run Tryz.prog w = .ok (.bool false) w := fun w => by rw [run_neq_struct, e2]; rfl
    have HGC := Lib.hid (fun (wx : World) (h : FbM dc wx M gb tb lim2 T2) => (show Calls Tryz.prog 49 #[.pointer (some ⟨tb, 0, none⟩), .agg #[.int .u32 xa, .int .i64 xn]] wx fun e w' => e = .returned (.tuple #[.agg cv, .bool true]) ∧ Below wx.heap.size wx w' by
      have := get_yes HD.out x.1 tb M lim2 T2 wx h.t (H32.out x hxL)
      rw [hxa, hxn, hcv]
      refine this.mono fun e w' ⟨he, hb⟩ => ⟨?_, hb⟩
      rw [he, HGT.out x hxL]
      rfl))
    rw [← hxa, ← hxn] at hq
    rw [← hcv] at hy
    unfold pxV
    rw [← hxa, ← hxn, ← hcv]
    simp only [List.setIfInBounds_toArray, List.set_cons_zero, List.set_cons_succ]
    have HFM := Lib.hid hfm
    have HQ := Lib.hid hq
    have HY := Lib.hid hy
    have HS := Lib.hid hs
    have E3 := Lib.hid e3
    clear hs hq hy hxa hxn hcv hw1 hw2 hfit hxL hfm e2 e3
    gi_wp2_with fail
    refine wpIn_region_mix [(true, 9), (false, 3)] 2 (by kernel_rfl) (by kernel_rfl) (fun V => Below W.heap.size W V) (fun _ _ h k => h.trans (k.mono h.size)) (by kernel_rfl) (Below.refl _ _) (a' := ?_) (fun wz hz => ?_) fun wz hz => ?_
    rotate_left
    · have hb := fun (dd : Nat) (os : Array Obj) => hz.trans ((below_regrown wz dd os).mono hz.size)
      have q0 := fun (dd : Nat) (os : Array Obj) => ld_fbp ((HS.out.later (hb dd os)).box.cell 0)
      have q1 := fun (dd : Nat) (os : Array Obj) => ld_trp ((HFM.out.below (hb dd os)).f.cell 0)
      have q2 := fun (dd : Nat) (os : Array Obj) => ld_pxB (HQ.out.below (hb dd os) HQ.out.lt)
      have q3 := fun (dd : Nat) (os : Array Obj) => Calls.regrown_of (HGC.out (grow (redrawn wz dd) os) (HFM.out.below (hb dd os)))
      clear hz hb
      simp only [pick_nil, pick_tt, pick_ft, List.take_succ_cons, List.take_zero, List.drop_succ_cons, List.drop_zero, List.append_nil]
      repeat (go_big_quiet_step (with_reducible exact q3 _ _))
      refine wpQuiet_nil ?_
      rfl
    simp only [pick_nil, pick_ff, pick_tf, List.take_succ_cons, List.take_zero, List.drop_succ_cons, List.drop_zero, List.append_nil]
    have HZ := Lib.hid hz
    clear hz
    have a2 := way_alloc
    refine wpMix_step HZ.out fun wa ha => ?_
    have HWA := Lib.hid (HZ.out.trans (ha.mono HZ.out.size))
    clear ha
    go_wp2_with fail
    clear a2
    have HWB := Lib.hid (HWA.out.trans (((Below.refl wa.heap.size wa).alloc (Nat.le_refl _) (.cells wy0 41)).mono HWA.out.size))
    have HKB := Lib.hid (Blk.new wa 41 wy0)
    generalize wa.alloc (.cells wy0 41) = wb at HWB HKB ⊢
    obtain ⟨pb, hpb⟩ : ∃ b, b = wa.heap.size := ⟨_, rfl⟩
    have hpl : W.heap.size ≤ pb := by rw [hpb]; exact HWA.out.size
    rw [← hpb] at HKB ⊢
    clear hpb
    refine wpMix_step HWB.out fun wc hc => ?_
    have hkc := HKB.out.below hc HKB.out.lt
    have st := st_wyB (vs := cv) hkc wy0_size hc1 hc2
    have HWC := Lib.hid (below_setCells hpl cv.toList 0 _ (HWB.out.trans (hc.mono HWB.out.size)))
    have HKC := Lib.hid (blk_setCells (vs := cv) hkc (by rw [hc1, wy0_size]))
    clear hc hkc
    go_wp2_with fail
    generalize wc.setCells pb 0 cv.toList = wd at HWC st HKC ⊢
    clear st
    refine wpMix_step HWC.out fun we he => ?_
    have HWE := Lib.hid (HWC.out.trans (he.mono HWC.out.size))
    have HKE := Lib.hid (HKC.out.below he HKC.out.lt)
    clear he
    go_wp2_with fail
    refine wpMix_plain ?_
    have l1 := ld_wyB HKE.out hc1
    have l2 := ld_wyB (HY.out.below HWE.out HY.out.lt) hc1
    have e3 := E3.out
    go_wp2_with fail
    refine And.intro trivial ?_
    gi_wp2_with fail
    exact ⟨keeps_of_below HWE.out, Same.ofBelow HWE.out fun j hj => Nat.lt_of_lt_of_le (HI.out j hj).2 hws, HS.out.later HWE.out, Nat.le_trans hws HWE.out.size⟩
  case stop =>
    rintro D cd pre W hD _ h
    exact h.elim
  case done =>
    rintro D ys W hD hys ⟨hs, hws⟩ hK
    have HS := Lib.hid hs
    have HKD := Lib.hid hK
    have HF1 := Lib.hid (HK1.out W hs.below)
    have HF2 := Lib.hid (HK2.out W hs.below)
    clear hs hys hK
    have hnn : ((n : Int) == (n : Int)) = true := beq_iff_eq.2 rfl
    go_wp2_with fail
    refine wp_region_stages [(true, 5), (false, 1)] (by kernel_rfl) (by kernel_rfl) fun wz hz hz2 => ?_
    have ZF1 := Lib.hid (HF1.out.later hz)
    have ZF2 := Lib.hid (HF2.out.later hz)
    have ZS := Lib.hid (HS.out.later hz)
    have ZB := Lib.hid hz
    clear hz hz2
    have q0 := fun (dd : Nat) (os : Array Obj) => ld_fbp ((ZS.out.later (below_regrown wz dd os)).box.cell 0)
    have q1 := fun (dd : Nat) (os : Array Obj) => Calls.regrown_of ((flen_any (ZF1.out.later (below_regrown wz dd os)) n (by rw [← HL.out, ← HN.out])).mono fun _ _ ⟨h, hw⟩ => ⟨h, hw ▸ Below.refl _ _⟩)
    have q2 := fun (dd : Nat) (os : Array Obj) => Calls.regrown_of ((flen_any (ZF2.out.later (below_regrown wz dd os)) n (by rw [HE.out, ← HL.out, ← HN.out])).mono fun _ _ ⟨h, hw⟩ => ⟨h, hw ▸ Below.refl _ _⟩)
    refine wpSt_q ?_
    simp only [List.take_succ_cons, List.take_zero, List.drop_succ_cons, List.drop_zero]
    repeat (go_big_quiet_step (first | with_reducible exact q1 _ _ | with_reducible exact q2 _ _))
    refine wpQuiet_nil ?_
    intro _ hw'
    obtain ⟨⟨dq, osq⟩, hw''⟩ := hw'
    subst hw''
    have hsq := ZS.out.later (below_regrown wz dq osq)
    have HBQ := Lib.hid (ZB.out.trans ((below_regrown wz dq osq).mono ZB.out.size))
    clear q0 q1 q2
    generalize grow (redrawn wz dq) osq = wq at hsq HBQ ⊢
    have st := st_btN (hsq.ans.cell 0) (hsq.ans.frozen 0) true
    have hs9 := hsq.setA true
    have hu := upd_set wq (w.heap.size + 1) 0 (.bool true)
    obtain ⟨w9, hw9⟩ : ∃ Z, Z = wq.setCell ⟨w.heap.size + 1, 0, none⟩ (.bool true) := ⟨_, rfl⟩
    rw [← hw9] at st hs9 hu
    have HS9 := Lib.hid hs9
    have HU := Lib.hid hu
    clear hsq hs9 hu hw9
    refine wpSt_l ?_
    simp only [List.take_succ_cons, List.take_zero, List.drop_succ_cons, List.drop_zero]
    go_wp2_with fail
    refine wpSt_end ?_
    go_wp2_with fail
    have hDl : D < W.heap.size := (Array.getElem?_eq_some_iff.1 HKD.out).1
    have hk9 : w9.heap[D]? = some (.deferred (some [])) := (HU.out.block D (Nat.lt_of_lt_of_le hDl HBQ.out.size) (fun (h : D = w.heap.size + 1) => by omega)).trans ((HBQ.out.block D hDl).trans HKD.out)
    have hno : ∀ r, some D = some r → ∃ o : Obj, w9.heap[r]? = some o ∧ o.isCells = false := fun r e => by cases e; exact ⟨_, hk9, rfl⟩
    have jr := (blk_own HS9.out.ans (grownBy_putObj' w9 D (.deferred none)) hno)
    have hBz := HS9.out.below.trans (belowK_b (w := w) (Nat.le_refl _) w9 D _ (.deferred none) (by omega) hk9 rfl rfl)
    refine ⟨by simp, .inl ⟨_, _, rfl, run_takeDeferred hk9, ?_⟩⟩
    exact ⟨_, res_bt rfl _ rfl jr, rfl, hBz⟩
end Go.Proofs.YthlommalbkhcjaaGreat
