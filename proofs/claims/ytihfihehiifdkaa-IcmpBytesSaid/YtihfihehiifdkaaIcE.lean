/- Icmp: ref04.Of. -/
import Derived.Test.YtihfihehiifdkaaIcD
import Derived.Test.YtihfihehiifdkaaIrD
namespace Go.Proofs.Ytihfihehiifdkaa
open Go.RowKit Go.Sort Go.BigFrame
theorem arr_build (w : World) (c0 c1 c2 c3 : Int) : (Instr.build 43 #[(0, .int .u8 c0), (1, .int .u8 c1), (2, .int .u8 c2), (3, .int .u8 c3)]).run Try.prog w = .ok (.agg #[.int .u8 c0, .int .u8 c1, .int .u8 c2, .int .u8 c3]) w := by kernel_rfl
def ROfPost (w : World) (J : Nat → Prop) (r : Ic × Nat) (e : Ending) (w' : World) : Prop := ∃ v, e = .returned (.tuple #[icV r.1 v, .bool (decide (r.2 = 0))]) ∧ Sl8 w' J v r.1.body ∧ Below w.heap.size w w'
attribute [-go_sem] Instr.storeAt Instr.loadAt in
set_option maxRecDepth 100000 in
set_option maxHeartbeats 4000000 in
theorem ricof_any (A : Option Addr) (n c : Nat) (x : By) (I : Nat → Prop) (w : World) (h : Reads w I 1 A n (bytesV x)) (hn : x.length = n) (hc : n ≤ c) (hsm : n ≤ 1000000) :
    Calls Try.prog 23 #[.slice A n c] w (ROfPost w (fun k => I k ∧ k < w.heap.size) (icOf x)) := by
  obtain ⟨W, hW⟩ : ∃ W, W = w.alloc (.cells #[.int .u8 0, .int .u8 0, .int .u8 0, .int .u8 0, .int .u8 0, .int .u8 0, .slice none 0 0] 45) := ⟨_, rfl⟩
  have hb0 : Below w.heap.size w W := by rw [hW]; exact (Below.refl _ _).alloc (Nat.le_refl _) _
  have hk0 : Blk W w.heap.size 45 #[.int .u8 0, .int .u8 0, .int .u8 0, .int .u8 0, .int .u8 0, .int .u8 0, .slice none 0 0] := by rw [hW]; exact Blk.new _ _ _
  have hr0 := (h.lt).keep (Same.ofBelow hb0 fun k hk => hk.2)
  have hz0 : W.heap.size = w.heap.size + 1 := by rw [hW]; simp
  have HW := Lib.hid hW
  have HB0 := Lib.hid hb0
  have HK0 := Lib.hid hk0
  have HR0 := Lib.hid hr0
  have HN := Lib.hid hn
  have HC := Lib.hid hc
  have HZ0 := Lib.hid hz0
  have hb00 := ic_build0
  clear hW hb0 hk0 hr0 h hn hc hz0
  go_enter Try.func23, Try.ntmps23
  by_cases h8 : n < 8
  · have d1 : decide ((n : Int) < 8) = true := decide_eq_true (by omega)
    have d2 : decide (n < 8) = true := decide_eq_true h8
    have hst := ic_store (vs := #[.int .u8 0, .int .u8 0, .int .u8 0, .int .u8 0, .int .u8 0, .int .u8 0, .slice none 0 0]) HK0.out rfl rfl (by simp [Value.oneCell'])
    have he : icOf x = (ic0, 4) := by unfold icOf; rw [if_pos (.inl (by have := HN.out; omega))]
    have HE := Lib.hid he
    clear he
    go_upto_region 1 with (fail)
    rw [← HW.out]
    go_wp2_with fail
    refine bodyPost_ret_by (res_ic (cs := #[.int .u8 0, .int .u8 0, .int .u8 0, .int .u8 0, .int .u8 0, .int .u8 0, .slice none 0 0]) rfl _ rfl (blk_setCells (vs := #[.int .u8 0, .int .u8 0, .int .u8 0, .int .u8 0, .int .u8 0, .int .u8 0, .slice none 0 0]) HK0.out rfl) rfl) rfl ?_
    rw [HE.out]
    exact ⟨.slice none 0 0, rfl, sl_nil _ _, below_setCells (Nat.le_refl _) _ 0 _ HB0.out⟩
  · have d1 : decide ((n : Int) < 8) = false := decide_eq_false (by omega)
    have d2 : decide (n < 8) = false := decide_eq_false h8
    have hgd := rtotal_any A n c x _ W HR0.out HN.out hsm
    obtain ⟨gd, hgg⟩ : ∃ b, b = decide (totalF x = 65535) := ⟨_, rfl⟩
    obtain ⟨tt, htt⟩ : ∃ t, t = totalF x := ⟨_, rfl⟩
    rw [← htt] at hgd hgg
    have htn : ((tt : Int) != 65535) = !gd := by rw [hgg, Bool.eq_iff_iff, bne_iff_ne]; simp; omega
    have HTT := Lib.hid htt
    clear htt
    have HGD := Lib.hid hgd
    have HGG := Lib.hid hgg
    clear hgd hgg
    cases gd with
    | false =>
      have he : icOf x = (ic0, 4) := by
        unfold icOf
        rw [if_pos (.inr (HTT.out ▸ of_decide_eq_false HGG.out.symm))]
      have HE := Lib.hid he
      clear he
      go_upto_region 1 with (fail)
      rw [← HW.out]
      go_wp2_with fail
      refine HGD.out.mono ?_
      rintro e w1 ⟨rfl, hb1⟩
      have hk1 := HK0.out.below hb1 HK0.out.lt
      have hst := ic_store (vs := #[.int .u8 0, .int .u8 0, .int .u8 0, .int .u8 0, .int .u8 0, .int .u8 0, .slice none 0 0]) hk1 rfl rfl (by simp [Value.oneCell'])
      have HK1 := Lib.hid hk1
      have HB1 := Lib.hid (HB0.out.trans (hb1.mono HB0.out.size))
      clear hb1 hk1
      go_wp2_with fail
      refine bodyPost_ret_by (res_ic (cs := #[.int .u8 0, .int .u8 0, .int .u8 0, .int .u8 0, .int .u8 0, .int .u8 0, .slice none 0 0]) rfl _ rfl (blk_setCells (vs := #[.int .u8 0, .int .u8 0, .int .u8 0, .int .u8 0, .int .u8 0, .int .u8 0, .slice none 0 0]) HK1.out rfl) rfl) rfl ?_
      rw [HE.out]
      exact ⟨.slice none 0 0, rfl, sl_nil _ _, below_setCells (Nat.le_refl _) _ 0 _ HB1.out⟩
    | true =>
      have ht : totalF x = 65535 := HTT.out ▸ of_decide_eq_true HGG.out.symm
      have he : icOf x = (⟨x.getD 0 0, x.getD 1 0, x.getD 4 0, x.getD 5 0, x.getD 6 0, x.getD 7 0, x.drop 8⟩, 0) := by
        unfold icOf
        rw [if_neg (by have := HN.out; rw [ht]; omega)]
      have HE := Lib.hid he
      clear he ht
      obtain ⟨ad, rfl, hcell⟩ := head8 HR0.out HN.out (by omega)
      go_upto_region 1 with (fail)
      rw [← HW.out]
      go_upto_region 3 with (go_at_call 61; refine HGD.out.mono ?_; rintro e w1 ⟨rfl, hb1⟩; have HB1 := Lib.hid hb1; clear hb1)
      have hcl : ∀ k, k < 8 → ∀ wx, Below W.heap.size W wx → wx.cell? (ad.add k) = some (.int .u8 ((x.getD k 0).toNat : Int)) := fun k hk wx hb => (hb.cell (block_lt_of_cell (hcell k hk))).trans (hcell k hk)
      have HCL := Lib.hid hcl
      clear hcell hcl
      have hs4 := fun wx => sl_lohi (some ad) n c wx 4 8 (by omega) (by have := HC.out; omega)
      have hs8 := fun wx => sl_lo (some ad) n c wx 8 (by omega)
      have e40 : (if c = 4 then some ad else Option.map (fun x => x.add 4) (some ad)) = some ⟨ad.block, ad.off + 4, none⟩ := by rw [if_neg (by have := HC.out; omega), ← add_pos ad 4 (by omega)]; rfl
      simp only [e40] at hs4
      have hs4l : ∀ wx, (Instr.slice 22 (.slice (some ad) n c) (some (.int .i64 4)) (some (.int .i64 8)) none).run Try.prog wx = .ok (.slice (some ⟨ad.block, ad.off + 4, none⟩) 4 (c - 4)) wx := hs4
      obtain ⟨A8, hA8⟩ : ∃ A8, A8 = (if c = 8 then some ad else Option.map (fun x => x.add 8) (some ad)) := ⟨_, rfl⟩
      simp only [← hA8] at hs8
      have hs8l : ∀ wx, (Instr.slice 22 (.slice (some ad) n c) (some (.int .i64 8)) none none).run Try.prog wx = .ok (.slice A8 (n - 8) (c - 8)) wx := hs8
      clear hs4 hs8
      have h8r : Sl8 W (fun k => (I k ∧ k < w.heap.size) ∧ k < W.heap.size) (.slice A8 (n - 8) (c - 8)) (x.drop 8) := by
        have := (cut_lo (w := W) (k := 8) (cap := c) (x := x) (by rw [HN.out]; exact HR0.out) (by have := HN.out; omega) (by have := HN.out; have := HC.out; omega)).lt
        rw [hA8]
        rwa [HN.out] at this
      have HR8 := Lib.hid h8r
      obtain ⟨b0, hb0⟩ : ∃ z : Int, z = ((x.getD 0 0).toNat : Int) := ⟨_, rfl⟩
      obtain ⟨b1, hb1⟩ : ∃ z : Int, z = ((x.getD 1 0).toNat : Int) := ⟨_, rfl⟩
      obtain ⟨b4, hb4⟩ : ∃ z : Int, z = ((x.getD 4 0).toNat : Int) := ⟨_, rfl⟩
      obtain ⟨b5, hb5⟩ : ∃ z : Int, z = ((x.getD 5 0).toNat : Int) := ⟨_, rfl⟩
      obtain ⟨b6, hb6⟩ : ∃ z : Int, z = ((x.getD 6 0).toNat : Int) := ⟨_, rfl⟩
      obtain ⟨b7, hb7⟩ : ∃ z : Int, z = ((x.getD 7 0).toNat : Int) := ⟨_, rfl⟩
      have hl0 : ∀ wx, Below W.heap.size W wx → (Instr.loadAt 5 (.pointer (some ad))).run Try.prog wx = .ok (.int .u8 b0) wx := fun wx hb => ld_u8a (by have := HCL.out 0 (by omega) wx hb; rw [hb0]; rwa [show ad.add 0 = ad by simp [Addr.add]] at this)
      have hl1 : ∀ wx, Below W.heap.size W wx → (Instr.loadAt 5 (.pointer (some ⟨ad.block, ad.off + 1, none⟩))).run Try.prog wx = .ok (.int .u8 b1) wx := fun wx hb => ld_u8a (by rw [hb1, ← add_pos ad 1 (by omega)]; exact HCL.out 1 (by omega) wx hb)
      have hl4 : ∀ wx, Below W.heap.size W wx → (Instr.loadAt 5 (.pointer (some ⟨ad.block, ad.off + 4, none⟩))).run Try.prog wx = .ok (.int .u8 b4) wx := fun wx hb => ld_u8a (by rw [hb4, ← add_pos ad 4 (by omega)]; exact HCL.out 4 (by omega) wx hb)
      have hl5 : ∀ wx, Below W.heap.size W wx → (Instr.loadAt 5 (.pointer (some ⟨ad.block, ad.off + 5, none⟩))).run Try.prog wx = .ok (.int .u8 b5) wx := fun wx hb => ld_u8a (by rw [hb5, ← add_pos ad 5 (by omega)]; exact HCL.out 5 (by omega) wx hb)
      have hl6 : ∀ wx, Below W.heap.size W wx → (Instr.loadAt 5 (.pointer (some ⟨ad.block, ad.off + 6, none⟩))).run Try.prog wx = .ok (.int .u8 b6) wx := fun wx hb => ld_u8a (by rw [hb6, ← add_pos ad 6 (by omega)]; exact HCL.out 6 (by omega) wx hb)
      have hl7 : ∀ wx, Below W.heap.size W wx → (Instr.loadAt 5 (.pointer (some ⟨ad.block, ad.off + 7, none⟩))).run Try.prog wx = .ok (.int .u8 b7) wx := fun wx hb => ld_u8a (by rw [hb7, ← add_pos ad 7 (by omega)]; exact HCL.out 7 (by omega) wx hb)
      have HL0 := Lib.hid hl0
      have HL1 := Lib.hid hl1
      have HL4 := Lib.hid hl4
      have HL5 := Lib.hid hl5
      have HL6 := Lib.hid hl6
      have HL7 := Lib.hid hl7
      have HB0' := Lib.hid hb0
      have HB1' := Lib.hid hb1
      have HB4' := Lib.hid hb4
      have HB5' := Lib.hid hb5
      have HB6' := Lib.hid hb6
      have HB7' := Lib.hid hb7
      clear hl0 hl1 hl4 hl5 hl6 hl7 hb0 hb1 hb4 hb5 hb6 hb7 hA8 h8r hs4l
      have hbd4 := fun wx => arr_build wx b4 b5 b6 b7
      have hbd := fun wx => ic_build wx b0 b1 b4 b5 b6 b7 A8 (n - 8) (c - 8)
      have HCC := Lib.hid (fun (a b : World) (ha : Below W.heap.size W a) (hb : Below a.heap.size a b) => (ha.trans (hb.mono ha.size) : Below W.heap.size W b))
      refine wp_region_mix [(true, 22), (false, 2)] 0 (by kernel_rfl) (fun a => Below W.heap.size W a) HCC.out (by kernel_rfl) HB1.out (a' := ?_) (fun wz hz => ?_) fun wz hz => ?_
      rotate_left
      · have x0 := fun (dd : Nat) (os : Array Obj) => HL0.out _ (hz.trans ((below_regrown wz dd os).mono hz.size))
        have x1 := fun (dd : Nat) (os : Array Obj) => HL1.out _ (hz.trans ((below_regrown wz dd os).mono hz.size))
        have x4 := fun (dd : Nat) (os : Array Obj) => HL4.out _ (hz.trans ((below_regrown wz dd os).mono hz.size))
        have x5 := fun (dd : Nat) (os : Array Obj) => HL5.out _ (hz.trans ((below_regrown wz dd os).mono hz.size))
        have x6 := fun (dd : Nat) (os : Array Obj) => HL6.out _ (hz.trans ((below_regrown wz dd os).mono hz.size))
        have x7 := fun (dd : Nat) (os : Array Obj) => HL7.out _ (hz.trans ((below_regrown wz dd os).mono hz.size))
        clear hz
        simp only [pick_nil, pick_tt, pick_ft, List.take_succ_cons, List.take_zero, List.drop_succ_cons, List.drop_zero, List.append_nil]
        repeat (go_big_quiet_step (fail))
        refine wpQuiet_nil ?_
        rfl
      · simp only [pick_nil, pick_ff, pick_tf, List.take_succ_cons, List.take_zero, List.drop_succ_cons, List.drop_zero, List.append_nil]
        have S0 := Lib.hid (HB1.out.trans (hz.mono HB1.out.size))
        clear hz
        refine wpMix_step S0.out fun wa ha => ?_
        have S1 := Lib.hid (HCC.out _ _ S0.out ha)
        clear ha
        have hk2 := HK0.out.below S1.out HK0.out.lt
        have hst := ic_store (vs := #[.int .u8 b0, .int .u8 b1, .int .u8 b4, .int .u8 b5, .int .u8 b6, .int .u8 b7, .slice A8 (n - 8) (c - 8)]) hk2 rfl rfl (by simp [Value.oneCell'])
        have HK2 := Lib.hid hk2
        clear hk2
        go_wp2_with fail
        refine wpMix_plain ?_
        go_wp2_with fail
        refine bodyPost_ret_by (res_ic (cs := #[.int .u8 b0, .int .u8 b1, .int .u8 b4, .int .u8 b5, .int .u8 b6, .int .u8 b7, .slice A8 (n - 8) (c - 8)]) rfl _ rfl (blk_setCells (vs := #[.int .u8 b0, .int .u8 b1, .int .u8 b4, .int .u8 b5, .int .u8 b6, .int .u8 b7, .slice A8 (n - 8) (c - 8)]) HK2.out rfl) rfl) rfl ?_
        rw [HE.out]
        refine ⟨.slice A8 (n - 8) (c - 8), ?_, ?_, below_setCells (Nat.le_refl _) _ 0 _ (HB0.out.trans (S1.out.mono HB0.out.size))⟩
        · rw [HB0'.out, HB1'.out, HB4'.out, HB5'.out, HB6'.out, HB7'.out]
          rfl
        · have hs := (Upd.setCells #[.int .u8 b0, .int .u8 b1, .int .u8 b4, .int .u8 b5, .int .u8 b6, .int .u8 b7, .slice A8 (n - 8) (c - 8)].toList 0 _ (Upd.refl (fun k => k = w.heap.size) wa) (.inl rfl)).same (I := fun k => k < w.heap.size) fun k (hk : k = _) hi => by omega
          exact (((HR8.out.keep (Same.ofBelow S1.out fun k hk => hk.2)).mono (J := fun k => I k ∧ k < w.heap.size) fun k hk => hk.1).keep ⟨hs.1, fun k hk => hs.2 k hk.2⟩)
end Go.Proofs.Ytihfihehiifdkaa
