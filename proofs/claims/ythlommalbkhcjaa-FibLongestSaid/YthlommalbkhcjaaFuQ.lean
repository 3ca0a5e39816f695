/- The walk of FibLongest. -/
import Derived.Test.YthlommalbkhcjaaFuP
import Derived.BigGuardIn
namespace Go.Proofs.Ythlommalbkhcjaa
open Go.RowKit Go.Sort
attribute [local go_sem] Oper.semAt_some
/-- FibLongest's two boxes. -/
structure LgW (w : World) (a : Nat) (wx : World) : Prop where
  z : Blk wx w.heap.size 23 #[.int .u32 (a : Int)]
  r : Blk wx (w.heap.size + 1) 4 #[.bool false]
  b : Below w.heap.size w wx
theorem LgW.later {w wx wy : World} {a : Nat} (h : LgW w a wx) (hb : Below wx.heap.size wx wy) : LgW w a wy := ⟨h.z.below hb h.z.lt, h.r.below hb h.r.lt, h.b.trans (hb.mono h.b.size)⟩
set_option maxRecDepth 100000 in
set_option maxHeartbeats 16000000 in
attribute [-go_sem] Instr.storeAt Instr.loadAt Instr.alloc Instr.build in
theorem longest_any (A : Option Addr) (n c : Nat) (l : List Rt) (a : Nat) (w : World) (hr : Reads w (fun k => k < w.heap.size) 6 A n (l.flatMap rtC)) (hl : l.length = n) (hg : ∀ r ∈ l, RtRd w r) (ha : a < 2 ^ 32) :
    Calls Try.prog 4 #[.slice A n c, .int .u32 (a : Int)] w fun e w' => e = .returned (.bool true) ∧ Below w.heap.size w w' := by
  have HKN := Lib.hid (fun wx => known14_any wx)
  obtain ⟨W0, hW0⟩ : ∃ Z, Z = (w.alloc (.cells #[.int .u32 (a : Int)] 23)).alloc (.cells #[.bool false] 4) := ⟨_, rfl⟩
  have hz1 : (w.alloc (.cells #[.int .u32 (a : Int)] 23)).heap.size = w.heap.size + 1 := by simp
  have hL0 : LgW w a W0 := by
    rw [hW0]
    refine ⟨(Blk.new w _ _).alloc _, ?_, ((Below.refl _ _).alloc (Nat.le_refl _) _).alloc (by simp) _⟩
    have := Blk.new (w.alloc (.cells #[.int .u32 (a : Int)] 23)) 4 #[.bool false]
    rwa [hz1] at this
  have HL0 := Lib.hid hL0
  have HW0 := Lib.hid hW0
  have HR := Lib.hid (fun (wx : World) (hb : Below w.heap.size w wx) => (show Reads wx (fun k => k < wx.heap.size) 6 A n (l.flatMap rtC) from (hr.keep (Same.ofBelow hb fun k hk => hk)).mono fun k hk => Nat.lt_of_lt_of_le hk hb.size))
  have HG := Lib.hid hg
  have HL := Lib.hid hl
  have HA := Lib.hid ha
  have a3 := bt_alloc
  clear hL0 hW0 hr hg hl ha
  refine (callsIn_wide (n := 5)).1 ?_
  refine callsIn_of_wp_marks Try.func4 rfl trivial ?_ rfl
  simp only [Try.ntmps4, List.size_toArray, List.length_cons, List.length_nil, Nat.reduceAdd, Nat.reduceSub, Array.replicate_succ, Array.replicate_zero, List.push_toArray, List.append_toArray, List.nil_append, List.cons_append]
  refine wpIn_wide.2 ?_
  go_upto_region 1 with (fail)
  rw [← HW0.out]
  clear hz1
  have st0 := fun (wx : World) (h : LgW w a wx) => st_btN (h.r.cell 0) (h.r.frozen 0) true
  have ST0 := Lib.hid st0
  clear st0
  by_cases hbig : 300 < n
  · have d1 : decide ((300 : Int) < (n : Int)) = true := decide_eq_true (by omega)
    clear hbig
    go_wp2_with fail
    refine (HKN.out _).mono ?_
    rintro e w2 ⟨rfl, hb2⟩
    have HL2 := Lib.hid (HL0.out.later hb2)
    clear hb2
    have st := ST0.out w2 HL2.out
    go_wp2_with fail
    refine ⟨_, res_bt rfl _ rfl (HL2.out.r.set_ 0 (.bool true)), rfl, HL2.out.b.setCell (p := ⟨w.heap.size + 1, 0, none⟩) (Nat.le_succ _) _⟩
  have d1 : decide ((300 : Int) < (n : Int)) = false := decide_eq_false (by omega)
  go_wp2_with fail
  refine (much14_any A n c l W0 (HR.out W0 HL0.out.b) HL.out).mono ?_
  rintro e w1 ⟨b, rfl, hmb, rfl⟩
  cases b with
  | true =>
    clear hmb
    go_wp2_with fail
    refine (HKN.out _).mono ?_
    rintro e w2 ⟨rfl, hb2⟩
    have HL2 := Lib.hid (HL0.out.later hb2)
    clear hb2
    have st := ST0.out w2 HL2.out
    go_wp2_with fail
    refine ⟨_, res_bt rfl _ rfl (HL2.out.r.set_ 0 (.bool true)), rfl, HL2.out.b.setCell (p := ⟨w.heap.size + 1, 0, none⟩) (Nat.le_succ _) _⟩
  | false =>
    have hrts : RtsM W0 (fun k => k < W0.heap.size) A n l := ⟨HR.out W0 HL0.out.b, HL.out, fun r hr => ⟨(HG.out r hr).a, (HG.out r hr).l, Nat.le_trans ((hmb rfl).2 r hr) (by decide), ((HG.out r hr).rd.keep (Same.ofBelow HL0.out.b fun k hk => hk)).mono fun k hk => Nat.lt_of_lt_of_le hk HL0.out.b.size⟩⟩
    have HMK := Lib.hid (fmake_any (dcL_ok l) vk A n c l W0 hrts (by omega) (fun i r h hm => dcL_at i r h hm))
    have HN := Lib.hid (show n ≤ 300 by omega)
    clear hrts hmb hbig
    cases hmk : mkT vk 0 l .nil with
    | none =>
      rw [hmk] at HMK
      go_wp2_with fail
      refine HMK.out.mono ?_
      rintro e w1 ⟨rfl, hb1⟩
      have HL1 := Lib.hid (HL0.out.later hb1)
      clear hb1
      go_wp2_with fail
      refine (num14_any _ _).mono ?_
      rintro e w1 ⟨rfl, rfl⟩
      go_wp2_with fail
      refine (HKN.out _).mono ?_
      rintro e w2 ⟨rfl, hb2⟩
      have HL2 := Lib.hid (HL1.out.later hb2)
      clear hb2
      have st := ST0.out w2 HL2.out
      go_wp2_with fail
      refine ⟨_, res_bt rfl _ rfl (HL2.out.r.set_ 0 (.bool true)), rfl, HL2.out.b.setCell (p := ⟨w.heap.size + 1, 0, none⟩) (Nat.le_succ _) _⟩
    | some T =>
      rw [hmk] at HMK
      have hsl : T.list.length ≤ 300 := by
        obtain ⟨h1, h2⟩ := mkT_list (vf := vk) (l := l) (k := 0) (T := .nil) trivial (fun r hr => (HG.out r hr).a)
        rw [hmk] at h1
        have := (mkL_in (List.Pairwise.nil : SortedB []) h1.symm).2.1
        rw [this]
        show 0 + l.length ≤ 300
        have := HL.out
        have := HN.out
        omega
      have HSL := Lib.hid hsl
      clear hsl hmk
      go_wp2_with fail
      refine HMK.out.mono ?_
      rintro e w1 ⟨fb, rfl, hk1⟩
      have HL1 := Lib.hid (HL0.out.later hk1.below)
      have HK1 := Lib.hid hk1
      clear hk1
      go_wp2_with fail
      refine (num14_any _ _).mono ?_
      rintro e w1 ⟨rfl, rfl⟩
      have la := ld_adr (HL1.out.z.cell 0)
      go_wp2_with fail
      refine (kf_look (dcL_ok l) a HK1.out HA.out (by have := HSL.out; omega)).mono ?_
      rintro e w2 ⟨⟨rfl, hb2⟩, hk2⟩
      obtain ⟨E, hE⟩ : ∃ E, E = T.cov (bitsB a 32) := ⟨_, rfl⟩
      rw [← hE]
      have hEc : E = covS (bitsB a 32) T.list := by rw [hE, TT.cov_list hk2.wf]
      obtain ⟨pa, hpa⟩ : ∃ z : Int, z = (padB (lastE E).1 : Int) := ⟨_, rfl⟩
      obtain ⟨pn, hpn⟩ : ∃ z : Int, z = ((lastE E).1.length : Int) := ⟨_, rfl⟩
      obtain ⟨cs, hcs⟩ : ∃ z, z = dcL l (lastE E).2 := ⟨_, rfl⟩
      obtain ⟨bi, hbi⟩ : ∃ z, z = !E.isEmpty := ⟨_, rfl⟩
      unfold pxV
      rw [← hpa, ← hpn, ← hcs, ← hbi]
      have HEC := Lib.hid hEc
      have HPA := Lib.hid hpa
      have HPN := Lib.hid hpn
      have HCS := Lib.hid hcs
      have HBI := Lib.hid hbi
      have hc1 : cs.size = 257 := by rw [hcs]; exact (dcL_ok l).sz _
      have hc2 : cs.all (·.oneCell') = true := by rw [hcs]; exact (dcL_ok l).one _
      have HL2 := Lib.hid (HL1.out.later hb2)
      have HK2 := Lib.hid hk2
      clear hb2 hk2 hE hEc hpa hpn hcs hbi la
      obtain ⟨v1, v2, w3, st1, st2, st3, hp3, hv3, hi3, hb3, hs3⟩ := box_pwb w2 pa pn cs bi hc1 hc2
      have hL3 := HL2.out.later hb3
      have hk3 := HK2.out.later hb3
      have hsz2 : w.heap.size + 1 < w2.heap.size := HL2.out.r.lt
      obtain ⟨w4, hw4⟩ : ∃ Z, Z = (w3.alloc (.cells #[.bool false] 4)).setCell ⟨w3.heap.size, 0, none⟩ (.bool false) := ⟨_, rfl⟩
      have st4 := st_btN ((Blk.new w3 4 #[.bool false]).cell 0) ((Blk.new w3 4 #[.bool false]).frozen 0) false
      have hb4 : Below w3.heap.size w3 w4 := by rw [hw4]; exact ((Below.refl _ _).alloc (Nat.le_refl _) _).setCell (p := ⟨w3.heap.size, 0, none⟩) (Nat.le_refl _) _
      have hf4 : Blk w4 w3.heap.size 4 #[.bool false] := by rw [hw4]; exact (Blk.new w3 _ _).set_ 0 (.bool false)
      rw [← hw4] at st4
      rw [hs3] at hf4
      have HB4 := Lib.hid (show LgB w.heap.size w2.heap.size a pa pn cs bi false w4 from ⟨hL3.z.below hb4 hL3.z.lt, hL3.r.below hb4 hL3.r.lt, hp3.below hb4 hp3.lt, hv3.below hb4 hv3.lt, hi3.below hb4 hi3.lt, hf4, hsz2⟩)
      have HK4 := Lib.hid (hk3.later hb4)
      have HW4 := Lib.hid (hL3.b.trans (hb4.mono hL3.b.size))
      have HS3 := Lib.hid hs3
      have HF4 := Lib.hid hf4
      clear hp3 hv3 hi3 hb3 hs3 hL3 hk3 hsz2 hw4 hb4 hf4
      have a1 := px_alloc
      have a2 := way_alloc
      go_upto_region 8 with (fail)
      rw [HS3.out]
      clear a1 a2 a3 st1 st2 st3 st4 HS3
      go_wp2_with fail
      refine (fall_any (dcL_ok l) HK4.out (by have := HSL.out; omega)).mono ?_
      rintro e w5 ⟨f, rfl, hsq, hb5, hk5⟩
      have HW5 := Lib.hid (HW4.out.trans (hb5.mono HW4.out.size))
      have HB5 := Lib.hid (HB4.out.later hb5)
      have HZ5 := Lib.hid (HF4.out.lt)
      obtain ⟨Bx, rfl, hst⟩ := hsq.fits (dcL_ok l) (by have := HSL.out; omega) Fence.wide 4 trivial rfl (by omega)
      have HST := Lib.hid hst
      have HS5 := Lib.hid hb5.size
      obtain ⟨L, hL⟩ : ∃ L, L = T.list := ⟨_, rfl⟩
      rw [← hL] at HST HEC
      have HLS := Lib.hid (show SortedB L by rw [hL]; exact TT.sorted hk5.wf)
      have HL32 := Lib.hid (show ∀ e ∈ L, e.1.length ≤ 32 from fun e he => by rw [hL] at he; exact (TT.keys_pre hk5.wf e he).2)
      clear hb5 hsq hst hk5 hL HK4 HB4 HW4 HF4 HK1 HK2 HL1 HL2 HMK HL0
      have hfn : ∀ (w2 : World) (b : Nat), (binOp .eql 48 (.func (.func 69) #[] #[.pointer (some ⟨b, 0, none⟩)]) Value.nilFunc).run Try.prog w2 = .ok (.bool false) w2 := fun w2 b => by kernel_rfl
      go_wp2_with fail
      obtain ⟨P, hP⟩ : ∃ P, P = w2.heap.size := ⟨_, rfl⟩
      rw [← hP] at HB5 HZ5 ⊢
      clear hP hfn
      refine (wpIn_wide (n := 5)).1 ?_
      refine wpIn_range_fit rfl (by omega) (gf := 69) (lb := #[.pointer (some ⟨Bx, 0, none⟩)]) rfl trivial (enters_of Try.func69 (by kernel_rfl) rfl) HST.out (fun h k => same_t h k) (fun W l o o' hl h h1 h2 => same_b (w := w5) (fun j hj => hj.2) W l o o' hl h h1 h2) (Below.refl _ _) (fun _ => rfl)
        (fun pre W => LgB w.heap.size P a pa pn cs bi (fnd E pre) W ∧ Upd (only (P + 1 + 1 + 1)) w5 W) (fun _ _ _ => False) (fun s W W' row hs hg hr => ⟨hs.1.own hg (fun r e => (hr r e).2), hs.2.grown hg fun r e => .inr (hr r e).1⟩) (fun _ _ _ _ _ hs _ _ => hs) ⟨HB5.out, Upd.refl _ _⟩
        (fun t pre x a' W => pre ++ [x] <+: L ∧ ∃ Bq Bw, w5.heap.size ≤ Bq ∧ w5.heap.size ≤ Bw ∧ Blk W Bq 25 #[.int .u32 (padB x.1 : Int), .int .i64 (x.1.length : Int)] ∧ Blk W Bw 33 (dcL l x.2) ∧ a' = { tmps := (((t.setIfInBounds 43 (pxV (padB x.1) x.1.length)).setIfInBounds 44 (.agg (dcL l x.2))).setIfInBounds 12 (.pointer (some ⟨Bq, 0, none⟩))).setIfInBounds 13 (.pointer (some ⟨Bw, 0, none⟩)), defers := [] })
        (fun pre x a' _ W W' row hs hg hr => by obtain ⟨h0, Bq, Bw, g1, g2, h1, h2, h3⟩ := hs; exact ⟨h0, Bq, Bw, g1, g2, blk_own h1 hg fun r e => (hr r e).2, blk_own h2 hg fun r e => (hr r e).2, h3⟩) ?assign ?body ?done ?stop
      case assign =>
        intro l' pre x W K hi hfit hsz hK
        obtain ⟨V1, st1, hk1, hb1⟩ := px_copy W (padB x.1 : Int) (x.1.length : Int)
        obtain ⟨V3, st2, hk3, hb3⟩ := wy_copy V1 (dcL l x.2) ((dcL_ok l).sz _) ((dcL_ok l).one _)
        have hball : Below W.heap.size W V3 := hb1.trans (hb3.mono hb1.size)
        have hk1' := hk1.below hb3 hk1.lt
        have HBA := Lib.hid hball
        have HK1 := Lib.hid hk1'
        have HK3 := Lib.hid hk3
        have HS1 := Lib.hid hb1.size
        have HI := Lib.hid hi
        have HFIT := Lib.hid hfit
        have a1 := px_alloc
        have a2 := way_alloc
        clear hb1 hk1 hball hk1' hk3 hb3 hi hfit
        simp only [entV]
        gi_wp2
        refine hK _ _ (keeps_of_below HBA.out) (Same.ofBelow HBA.out fun j hj => Nat.lt_of_lt_of_le hj.2 hsz) ⟨HI.out.1.later HBA.out, HI.out.2.trans_ (Upd.ofBelow HBA.out _)⟩ ⟨HFIT.out, W.heap.size, V1.heap.size, hsz, Nat.le_trans hsz HS1.out, HK1.out, HK3.out, rfl⟩
      case body =>
        rintro l' pre x a' W hl' ⟨rr, hr⟩ ⟨hlg, hup⟩ ⟨hfit, Bq, Bw, g1, g2, hq, hy, rfl⟩
        have hxL : x ∈ L := by obtain ⟨r, hr⟩ := hfit; rw [← hr]; simp
        have hx32 := HL32.out x hxL
        have hFl : P + 1 + 1 + 1 < w5.heap.size := HB5.out.bf.lt
        have HFL := Lib.hid (show P + 1 + 1 + 1 < w5.heap.size from hFl)
        have HLG := Lib.hid hlg
        have HUP := Lib.hid hup
        simp only [List.setIfInBounds_toArray, List.set_cons_zero, List.set_cons_succ]
        by_cases hxe : x.1 = (lastE E).1
        · obtain ⟨rfl, hne⟩ := lg_same HLS.out HEC.out hxL hxe
          have hbt : bi = true := by rw [HBI.out]; cases E <;> simp_all
          have hpre : (lastE E).1 <+: bitsB a 32 := by
            have := lastE_mem hne
            rw [HEC.out] at this
            have := (covS_mem.1 this).2
            rwa [← HEC.out] at this
          have HHAS := Lib.hid (fun (wx : World) => (show Calls Try.prog 17 #[.agg #[.int .u32 pa, .int .i64 pn], .int .u32 (a : Int)] wx fun e w' => e = .returned (.bool true) ∧ Below wx.heap.size wx w' by
            have := has_e (lastE E).1 hx32 a HA.out wx
            rw [decide_eq_true hpre] at this
            rw [HPA.out, HPN.out]
            exact this))
          have e1 : ∀ w, (binOp .eql 25 (.agg #[.int .u32 pa, .int .i64 pn]) (.agg #[.int .u32 pa, .int .i64 pn])).run Try.prog w = .ok (.bool true) w := fun w => by
            have := eql_px (padB (lastE E).1) (padB (lastE E).1) (lastE E).1.length (lastE E).1.length w
            rw [HPA.out, HPN.out]
            simpa [pxV] using this
          have e2 : ∀ w, (Op.equalIn 10000 33 (.agg cs) (.agg cs)).run Try.prog w = .ok true w := fun w => by rw [HCS.out]; exact eqs_wy _ (wkL_len l _) w
          have e3 : ∀ w, (binOp .eql 33 (.agg cs) (.agg cs)).run Try.prog w = .ok (.bool true) w := fun w => by rw [run_eql_struct, e2]; rfl
          rw [← HPA.out, ← HPN.out] at hq
          rw [← HCS.out] at hy
          unfold pxV
          rw [← HPA.out, ← HPN.out, ← HCS.out]
          subst hbt
          have l1 := ld_pxB hq
          have l2 := ld_pxB hlg.bp
          have l3 := ld_wyB hy hc1
          have l4 := ld_wyB hlg.bv hc1
          have la := ld_adr (hlg.bz.cell 0)
          have st := st_btN (hlg.bf.cell 0) (hlg.bf.frozen 0) true
          have hlg2 := hlg.setF true
          have hup2 := hup.set_ 0 (.bool true)
          have hq2 : Blk (W.setCell ⟨P + 1 + 1 + 1, 0, none⟩ (.bool true)) Bq 25 #[.int .u32 pa, .int .i64 pn] := hq.far (p := ⟨P + 1 + 1 + 1, 0, none⟩) (by show Bq ≠ P + 1 + 1 + 1; omega) _
          obtain ⟨W2, hW2⟩ : ∃ Z, Z = W.setCell ⟨P + 1 + 1 + 1, 0, none⟩ (.bool true) := ⟨_, rfl⟩
          have HK2 := Lib.hid (show Upd (only (P + 1 + 1 + 1)) W W2 by rw [hW2]; exact upd_set W _ 0 _)
          rw [← hW2] at st hlg2 hup2 hq2
          have l5 := ld_pxB hq2
          have l6 := ld_adr (hlg2.bz.cell 0)
          have HG2 := Lib.hid hlg2
          have HQ2 := Lib.hid hq2
          have HU2 := Lib.hid hup2
          clear hq hy hlg hup hlg2 hup2 hq2 hW2 hpre hxe hfit
          gi_wp2_with fail
          refine ⟨trivial, ?_⟩
          refine (CallsIn.inRound l' (callsIn_wide.2 (HHAS.out _))).mono ?_
          rintro e W3 ⟨rfl, hb3⟩
          have hq3 := HQ2.out.below hb3 HQ2.out.lt
          have hg3 := HG2.out.later hb3
          have l7 := ld_btN (hg3.bi.cell 0)
          have l8 := ld_itN (hq3.cell 1)
          have l9 := ld_itN (hg3.bp.cell 1)
          have hdc : decide (pn < pn) = false := decide_eq_false (by omega)
          have HG3 := Lib.hid hg3
          have HB3 := Lib.hid hb3
          clear hb3 hq3 hg3
          gi_wp2_with fail
          have hu := HK2.out.trans_ (Upd.ofBelow HB3.out _)
          refine ⟨keeps_of_cells _ hu fun j hj _ => by obtain rfl : j = _ := hj; exact ⟨_, _, HLG.out.bf⟩, hu.same fun j hj hi => ?_, ?_, HU2.out.trans_ (Upd.ofBelow HB3.out _)⟩
          · have := hi.1
            have : j = _ := hj
            have := HZ5.out
            omega
          · rw [fnd_snoc, decide_eq_true rfl, Bool.or_true]
            exact HG3.out
        · have hfs : fnd E (pre ++ [x]) = fnd E pre := by rw [fnd_snoc, decide_eq_false hxe, Bool.or_false]
          have HFS := Lib.hid hfs
          obtain ⟨xa, hxa⟩ : ∃ z : Int, z = (padB x.1 : Int) := ⟨_, rfl⟩
          obtain ⟨xn, hxn⟩ : ∃ z : Int, z = (x.1.length : Int) := ⟨_, rfl⟩
          obtain ⟨hh, hhh⟩ : ∃ b, b = decide (x.1 <+: bitsB a 32) := ⟨_, rfl⟩
          have HHAS := Lib.hid (fun (wx : World) => (show Calls Try.prog 17 #[.agg #[.int .u32 xa, .int .i64 xn], .int .u32 (a : Int)] wx fun e w' => e = .returned (.bool hh) ∧ Below wx.heap.size wx w' by
            have := has_e x.1 hx32 a HA.out wx
            rw [hxa, hxn, hhh]
            exact this))
          have e1 : ∀ w, (binOp .eql 25 (.agg #[.int .u32 xa, .int .i64 xn]) (.agg #[.int .u32 pa, .int .i64 pn])).run Try.prog w = .ok (.bool false) w := fun w => by
            have := eql_px (padB x.1) (padB (lastE E).1) x.1.length (lastE E).1.length w
            rw [px_dec hx32, decide_eq_false hxe] at this
            rw [HPA.out, HPN.out, hxa, hxn]
            exact this
          have hcmp : hh = true → bi = true ∧ ¬ pn < xn := fun h => by
            rw [hhh] at h
            have hp := of_decide_eq_true h
            have hm : x ∈ E := by rw [HEC.out]; exact covS_mem.2 ⟨hxL, hp⟩
            refine ⟨by rw [HBI.out]; cases E <;> simp_all, ?_⟩
            have := lastE_long (A := bitsB a 32) HLS.out (x := x) (by rw [← HEC.out]; exact hm)
            rw [← HEC.out] at this
            rw [HPN.out, hxn]
            omega
          have HCMP := Lib.hid hcmp
          rw [← hxa, ← hxn] at hq
          unfold pxV
          rw [← hxa, ← hxn]
          have l1 := ld_pxB hq
          have l2 := ld_pxB hlg.bp
          have la := ld_adr (hlg.bz.cell 0)
          have HQ := Lib.hid hq
          have hw5 : w5.heap.size ≤ W.heap.size := hup.size
          clear hq hy hlg hup hhh hcmp hxe hfs hxa hxn hfit hxL hx32
          gi_wp2_with fail
          refine ⟨trivial, ?_⟩
          refine (CallsIn.inRound l' (callsIn_wide.2 (HHAS.out _))).mono ?_
          rintro e W3 ⟨rfl, hb3⟩
          have hq3 := HQ.out.below hb3 HQ.out.lt
          have hg3 := HLG.out.later hb3
          have HG3 := Lib.hid hg3
          have HB3 := Lib.hid hb3
          cases hh with
          | false =>
            clear hb3 hq3 hg3
            gi_wp2_with fail
            exact ⟨keeps_of_below HB3.out, Same.ofBelow HB3.out fun j hj => Nat.lt_of_lt_of_le hj.2 hw5, by rw [HFS.out]; exact HG3.out, HUP.out.trans_ (Upd.ofBelow HB3.out _)⟩
          | true =>
            obtain ⟨hbt, hnc⟩ := HCMP.out rfl
            rw [hbt] at hg3
            have l7 := ld_btN (hg3.bi.cell 0)
            have l8 := ld_itN (hq3.cell 1)
            have l9 := ld_itN (hg3.bp.cell 1)
            have hdc : decide (pn < xn) = false := decide_eq_false (by omega)
            clear hb3 hq3 hg3 hbt hnc
            gi_wp2_with fail
            exact ⟨keeps_of_below HB3.out, Same.ofBelow HB3.out fun j hj => Nat.lt_of_lt_of_le hj.2 hw5, by rw [HFS.out]; exact HG3.out, HUP.out.trans_ (Upd.ofBelow HB3.out _)⟩
      case done =>
        rintro D ys W hD rfl ⟨hlg, hup⟩ hdef
        rw [fnd_all HLS.out HEC.out, ← HBI.out] at hlg
        have HDF := Lib.hid hdef
        have HUP := Lib.hid hup
        have HLG := Lib.hid hlg
        have hFl : P + 1 + 1 + 1 < w5.heap.size := HB5.out.bf.lt
        have FIN : ∀ W9 : World, Below W.heap.size W W9 → LgB w.heap.size P a pa pn cs bi bi W9 → Blk ((W9.setCell ⟨w.heap.size + 1, 0, none⟩ (.bool true)).putObj D (.deferred none)) (w.heap.size + 1) 4 #[.bool true] ∧ Below w.heap.size w ((W9.setCell ⟨w.heap.size + 1, 0, none⟩ (.bool true)).putObj D (.deferred none)) ∧ (W9.setCell ⟨w.heap.size + 1, 0, none⟩ (.bool true)).heap[D]? = some (.deferred (some [])) := fun W9 hb hg => by
          have hDl : D < W.heap.size := (Array.getElem?_eq_some_iff.1 HDF.out).1
          have hk9 : W9.heap[D]? = some (.deferred (some [])) := (hb.block D hDl).trans HDF.out
          have hz5 := HB5.out.lt
          have hk10 : (W9.setCell ⟨w.heap.size + 1, 0, none⟩ (.bool true)).heap[D]? = some (.deferred (some [])) := (Below.heap_setCell W9 ⟨w.heap.size + 1, 0, none⟩ _ D (by show D ≠ w.heap.size + 1; omega)).trans hk9
          have hno : ∀ r, some D = some r → ∃ o : Obj, (W9.setCell ⟨w.heap.size + 1, 0, none⟩ (.bool true)).heap[r]? = some o ∧ o.isCells = false := fun r e => by cases e; exact ⟨_, hk10, rfl⟩
          have hr9 := blk_own (hg.br.set_ 0 (.bool true)) (grownBy_putObj' _ D (.deferred none)) hno
          have hBW : Below w.heap.size w W := HW5.out.trans (HUP.out.below (fun k hk => by have : k = _ := hk; omega) HW5.out.size)
          have hB9 : Below w.heap.size w (W9.setCell ⟨w.heap.size + 1, 0, none⟩ (.bool true)) := (hBW.trans (hb.mono hBW.size)).setCell (p := ⟨w.heap.size + 1, 0, none⟩) (Nat.le_succ _) _
          exact ⟨hr9, hB9.trans (belowK_b (w := w) (Nat.le_refl _) _ D _ (.deferred none) (by omega) hk10 rfl rfl), hk10⟩
        have HFIN := Lib.hid FIN
        have l1 := ld_btN (hlg.bi.cell 0)
        have l2 := ld_btN (hlg.bf.cell 0)
        have la := ld_adr (hlg.bz.cell 0)
        have lp := ld_pxB hlg.bp
        have lv := ld_wyB hlg.bv hc1
        clear hdef hup hlg FIN
        have hbi := HBI.out
        cases bi with
        | true =>
          have hne : E ≠ [] := fun e => by rw [e] at hbi; simp at hbi
          have hm := lastE_mem hne
          have hpre : (lastE E).1 <+: bitsB a 32 := by
            rw [HEC.out] at hm
            have := (covS_mem.1 hm).2
            rwa [← HEC.out] at this
          have hl32 := HL32.out (lastE E) (covS_mem.1 (by rw [← HEC.out]; exact hm)).1
          have HHAS := Lib.hid (fun (wx : World) => (show Calls Try.prog 17 #[.agg #[.int .u32 pa, .int .i64 pn], .int .u32 (a : Int)] wx fun e w' => e = .returned (.bool true) ∧ Below wx.heap.size wx w' by
            have := has_e (lastE E).1 hl32 a HA.out wx
            rw [decide_eq_true hpre] at this
            rw [HPA.out, HPN.out]
            exact this))
          clear hbi hne hm hpre hl32
          go_wp2_with fail
          refine (HHAS.out _).mono ?_
          rintro e W2 ⟨rfl, hb2⟩
          have HG2 := Lib.hid (HLG.out.later hb2)
          have HB2 := Lib.hid hb2
          have l3 := ld_btN (HG2.out.bi.cell 0)
          clear hb2
          go_wp2_with fail
          refine (HKN.out _).mono ?_
          rintro e W3 ⟨rfl, hb3⟩
          have HG3 := Lib.hid (HG2.out.later hb3)
          have HB3 := Lib.hid (HB2.out.trans (hb3.mono HB2.out.size))
          have st := st_btN (HG3.out.br.cell 0) (HG3.out.br.frozen 0) true
          clear hb3
          go_wp2_with fail
          obtain ⟨h1, h2, h3⟩ := HFIN.out W3 HB3.out HG3.out
          refine ⟨by simp, .inl ⟨_, _, rfl, run_takeDeferred h3, ?_⟩⟩
          exact ⟨_, res_bt rfl _ rfl h1, rfl, h2⟩
        | false =>
          have hcz : cs = wyC 0 zs0 := by
            have : E = [] := by
              cases h : E.isEmpty with
              | true => exact List.isEmpty_iff.1 h
              | false => rw [h] at hbi; cases hbi
            rw [HCS.out, this, wyC_zero]
            exact (dcL_ok l).z
          have e2 : ∀ w, (Op.equalIn 10000 33 (.agg cs) (.agg cs)).run Try.prog w = .ok true w := fun w => by rw [HCS.out]; exact eqs_wy _ (wkL_len l _) w
          have e3 : ∀ w, (binOp .eql 33 (.agg cs) (.agg cs)).run Try.prog w = .ok (.bool true) w := fun w => by rw [run_eql_struct, e2]; rfl
          have b9 : ∀ w, (Instr.build 33 #[]).run Try.prog w = .ok (.agg cs) w := fun w => by rw [hcz, wyC_zero]; exact way_build w
          clear hbi hcz
          go_wp2_with fail
          refine (HKN.out _).mono ?_
          rintro e W3 ⟨rfl, hb3⟩
          have HG3 := Lib.hid (HLG.out.later hb3)
          have HB3 := Lib.hid hb3
          have st := st_btN (HG3.out.br.cell 0) (HG3.out.br.frozen 0) true
          clear hb3
          go_wp2_with fail
          obtain ⟨h1, h2, h3⟩ := HFIN.out W3 HB3.out HG3.out
          refine ⟨by simp, .inl ⟨_, _, rfl, run_takeDeferred h3, ?_⟩⟩
          exact ⟨_, res_bt rfl _ rfl h1, rfl, h2⟩
      case stop =>
        rintro D c pre W hD _ h
        exact h.elim
end Go.Proofs.Ythlommalbkhcjaa
