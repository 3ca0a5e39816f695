/- Layer 18: FwdNil. -/
import Derived.Test.YthlommalbkhcjaaGreatNl50
import Derived.Lib.SlBytesConst
namespace Go.Proofs.YthlommalbkhcjaaGreat
open Go.RowKit Go.Sort Go.BigFrame
def knX : By := [112, 97, 121, 108, 111, 97, 100]
theorem sl_none (w : World) (I : Nat → Prop) : Sl8 w I (.slice none 0 0) [] := ⟨none, 0, rfl, Nat.le_refl _, rfl, fun h => absurd h (by decide)⟩
theorem kn_bytes (t : Nat) (ht : t < 256) (vp : Value) (p : By) (I : Nat → Prop) (w : World) (hp : Sl8 w I vp p) (hl : p.length ≤ 65515) :
    Calls Tryz.prog 63 #[.agg #[.int .u8 0, .int .u16 0, .bool false, .bool false, .bool false, .int .i64 0, .int .u8 (t : Int), .int .u8 17, .int .u32 184549381, .int .u32 201326597, .slice none 0 0], vp] w fun e w' => ∃ v, e = .returned v ∧ Row8 w.heap.size w' v (bytesF (kh t) p) ∧ Below w.heap.size w w' :=
  rbytes_any (kh t) (.slice none 0 0) vp p I w (sl_none _ _) hp (kh_ok ht) (kh_fits t hl)
theorem mk8_new (n : Nat) (hn : n ≤ 100000) (w : World) : (Instr.makeSlice 61 (.int .i64 (n : Int)) (.int .i64 (n : Int))).run Tryz.prog w = .ok (.slice (some ⟨w.heap.size, 0, none⟩) n n) (w.alloc (.cells (madeCells #[.int .u8 0] n) 5)) ∧
    Row8 w.heap.size (w.alloc (.cells (madeCells #[.int .u8 0] n) 5)) (.slice (some ⟨w.heap.size, 0, none⟩) n n) (List.replicate n 0) := by
  refine ⟨run_make_row' 61 5 _ 1 Tryz.underlying61 (by kernel_rfl) rfl .i64 .i64 n (by omega) (by omega) w, ?_⟩
  have := row8_lit w (List.replicate n 0) (madeCells #[.int .u8 0] n) (by rw [List.length_replicate]; omega) (by rw [toList_madeCells_one]; unfold bytesV; rw [List.map_replicate]; rfl)
  rw [List.length_replicate] at this
  exact this
set_option maxRecDepth 100000 in
set_option maxHeartbeats 16000000 in
attribute [-go_sem] Instr.storeAt Instr.loadAt Instr.build in
theorem known18_any (w : World) : Calls Tryz.prog 26 #[] w fun e w' => e = .returned (.bool true) ∧ Below w.heap.size w w' := by
  have b1 := fun wx : World => (show (Instr.build 76 #[(6, .int .u8 1), (7, .int .u8 17), (8, .int .u32 184549381), (9, .int .u32 201326597)]).run Tryz.prog wx = .ok (.agg #[.int .u8 0, .int .u16 0, .bool false, .bool false, .bool false, .int .i64 0, .int .u8 1, .int .u8 17, .int .u32 184549381, .int .u32 201326597, .slice none 0 0]) wx by kernel_rfl)
  have b9 := fun wx : World => (show (Instr.build 76 #[(6, .int .u8 9), (7, .int .u8 17), (8, .int .u32 184549381), (9, .int .u32 201326597)]).run Tryz.prog wx = .ok (.agg #[.int .u8 0, .int .u16 0, .bool false, .bool false, .bool false, .int .i64 0, .int .u8 9, .int .u8 17, .int .u32 184549381, .int .u32 201326597, .slice none 0 0]) wx by kernel_rfl)
  go_enter Tryz.func26, Tryz.ntmps26
  go_wp2_with fail
  refine (simple_any w).mono ?_
  rintro e w1 ⟨Ar, Am, A, B, rfl, hr1, hm1, hb1⟩
  obtain ⟨w2, hst, hb2, hk2⟩ : ∃ w2, (Instr.storeAt 60 (.pointer (some ⟨w1.heap.size, 0, none⟩)) (.agg (askV Ar 3 3 167772161 Am 2 2 5))).run Tryz.prog (w1.alloc (.cells #[.slice none 0 0, .int .u32 0, .slice none 0 0, .int .i64 0] 60)) = .ok () w2 ∧ Below w1.heap.size w1 w2 ∧ Blk w2 w1.heap.size 60 (askV Ar 3 3 167772161 Am 2 2 5) :=
    ⟨_, stc_store ask_info (Blk.new w1 _ _) rfl rfl (by simp [askV, Value.oneCell']), below_setCells (Nat.le_refl _) _ _ _ ((Below.refl _ _).alloc (Nat.le_refl _) _), blk_setCells (Blk.new w1 _ _) rfl⟩
  have hld := stc_load Tryz.underlying60 rfl ask_info hk2 rfl
  unfold askV at hst hld
  unfold askV
  go_upto_region 2 with (fail)
  obtain ⟨ga, hga⟩ : ∃ g, g = w1.heap.size := ⟨_, rfl⟩
  rw [← hga] at hk2 hld ⊢
  have hr2 : RtsM w2 (fun k => k < w2.heap.size) Ar 3 [sr1, sr2 A, sr3 B] := (hr1.keep (Same.ofBelow hb2 fun k hk => hk.2)).mono fun k hk => Nat.lt_of_lt_of_le hk.2 hb2.size
  have hl := laid18_any (dcL_ok [sr1, sr2 A, sr3 B]) vk Ar 3 3 _ 167772161 Am 2 2 5 w2 hr2 (by decide) (fun i r h hm => dcL_at i r h hm) ⟨by decide, by decide⟩
  rw [mk_simple] at hl
  have HL : Hid (Calls Tryz.prog 27 #[.agg #[.slice Ar 3 3, .int .u32 167772161, .slice Am 2 2, .int .i64 5]] w2 (LdPost (dcL [sr1, sr2 A, sr3 B]) w2 (some sT) 5)) := Lib.hid hl
  have HM1 := Lib.hid hm1
  have HB1 := Lib.hid hb1
  have HB2 := Lib.hid hb2
  have HK2 := Lib.hid hk2
  clear hst hl hr2 hm1 hb1 hb2 hk2 hr1 hga
  go_wp2_with fail
  refine HL.out.mono ?_
  rintro e w3 ⟨fb, bb, rfl, hm3⟩
  obtain ⟨pk, hpk⟩ : ∃ pk, pk = pkF (wkL [sr1, sr2 A, sr3 B]) sT := ⟨_, rfl⟩
  have hp0 : PkPos pk := by rw [hpk]; exact pk_pos _ _
  have hks : (∀ u, pk 184549381 u = (3, 0)) ∧ ∀ u, pk 201326597 u = (3, 1) := by rw [hpk]; exact simple_pk A B
  have hk3 : KnC w w3 ga fb bb Ar Am pk 5 := by
    have hb12 := HB2.out.trans (hm3.bl.mono HB2.out.size)
    refine ⟨HK2.out.below hm3.bl HK2.out.lt, ⟨?_, ?_, by show 2 ≤ 8; decide, by show 167772161 < 2 ^ 32; decide, ?_⟩, hm3.bk, HB1.out.trans (hb12.mono HB1.out.size), Nat.le_trans HB1.out.size (Nat.le_trans HB2.out.size hm3.bb)⟩
    · obtain ⟨M, tb, lim, h1, h2, h3⟩ := hm3.ex
      exact ⟨dcL [sr1, sr2 A, sr3 B], wkL [sr1, sr2 A, sr3 B], sT, M, tb, lim, dcL_ok _, dcL_wk _, h1, by rw [sT_len]; decide, ⟨h2, h3⟩, hpk⟩
    · have h9 := Nat.le_trans HB2.out.size hm3.bb
      exact (HM1.out.keep (Same.ofBelow hb12 fun k hk => hk.2)).mono fun k hk => ⟨Nat.lt_of_lt_of_le hk.2 hb12.size, by show k ≠ bb; omega⟩
    · intro m hm
      have : m = 1500 ∨ m = 600 := by simpa [knE] using hm
      omega
  have hx := known_x hks.1 hks.2 (p := knX) rfl
  have hy := known_y hks.2 (p := List.replicate 1380 0) (List.length_replicate ..)
  have HK3 := Lib.hid hk3
  have HP0 := Lib.hid hp0
  have HX := Lib.hid hx
  have HY := Lib.hid hy
  clear HL HM1 HB1 HB2 HK2 hm3 hpk hp0 hks hk3 hx hy hld
  go_upto_region 3 with (fail)
  obtain ⟨W4, hW4⟩ : ∃ W, W = w3.alloc (.cells #[.int .u8 112, .int .u8 97, .int .u8 121, .int .u8 108, .int .u8 111, .int .u8 97, .int .u8 100] 5 (7, 8)) := ⟨_, rfl⟩
  have hr4 : Sl8 W4 (fun _ => True) (.slice (some ⟨w3.heap.size, 0, none⟩) 7 7) knX := by
    rw [hW4]
    exact ⟨some ⟨w3.heap.size, 0, none⟩, 7, rfl, by decide, (reads_lit w3 5 #[.int .u8 112, .int .u8 97, .int .u8 121, .int .u8 108, .int .u8 111, .int .u8 97, .int .u8 100] 7 1 (7, 8) rfl).mono (fun _ _ => trivial)⟩
  have hb4 : Below w3.heap.size w3 W4 := by rw [hW4]; exact (Below.refl _ _).alloc (Nat.le_refl _) _
  have cv := Lib.run_convert_bytes_const (P := Tryz.prog) w3 61 5 #[.int .u8 112, .int .u8 97, .int .u8 121, .int .u8 108, .int .u8 111, .int .u8 97, .int .u8 100] 7 7 Tryz.underlying61 Tryz.underlying5
  rw [show w3.alloc (.cells #[.int .u8 112, .int .u8 97, .int .u8 121, .int .u8 108, .int .u8 111, .int .u8 97, .int .u8 100] 5 ((#[.int .u8 112, .int .u8 97, .int .u8 121, .int .u8 108, .int .u8 111, .int .u8 97, .int .u8 100] : Array Value).size, (#[.int .u8 112, .int .u8 97, .int .u8 121, .int .u8 108, .int .u8 111, .int .u8 97, .int .u8 100] : Array Value).size + 1)) = W4 from hW4.symm] at cv
  have HRB := Lib.hid (show Calls Tryz.prog 63 #[.agg #[.int .u8 0, .int .u16 0, .bool false, .bool false, .bool false, .int .i64 0, .int .u8 1, .int .u8 17, .int .u32 184549381, .int .u32 201326597, .slice none 0 0], .slice (some ⟨w3.heap.size, 0, none⟩) 7 7] W4 fun e w' => ∃ v, e = .returned v ∧ Row8 W4.heap.size w' v (bytesF (kh 1) knX) ∧ Below W4.heap.size W4 w' from kn_bytes 1 (by decide) _ knX _ W4 hr4 (by decide))
  have HK4 := Lib.hid (HK3.out.below hb4)
  have HBB := Lib.hid (show bb < W4.heap.size from Blk.lt HK4.out.bk)
  have hxl : (bytesF (kh 1) knX).length = 27 := by rw [kh_len]; rfl
  obtain ⟨P, hP⟩ : ∃ P, P = bytesF (kh 1) knX := ⟨_, rfl⟩
  rw [← hP] at HRB HX hxl
  have HXL := Lib.hid hxl
  clear hr4 hb4 hW4 hP hxl HK3
  go_upto_region 4 with
    (go_at_call 63
     refine HRB.out.mono ?_
     rintro e w5 ⟨v5, rfl, h5, hb5⟩
     obtain ⟨A5, c5, rfl, hc5⟩ := h5.form
     rw [HXL.out]
     have H5 := Lib.hid h5
     have HK5 := Lib.hid (HK4.out.below hb5)
     have HB5 := Lib.hid hb5
     clear h5 hb5 hc5)
  clear cv b1 HRB HK4
  rw [HXL.out] at H5
  obtain ⟨W6, hW6⟩ : ∃ W, W = w5.alloc (.cells (madeCells #[.int .u8 0] 1380) 5) := ⟨_, rfl⟩
  have hr6 : Row8 w5.heap.size W6 (.slice (some ⟨w5.heap.size, 0, none⟩) 1380 1380) (List.replicate 1380 0) := by
    rw [hW6]
    exact (mk8_new 1380 (by decide) w5).2
  have hb6 : Below w5.heap.size w5 W6 := by rw [hW6]; exact (Below.refl _ _).alloc (Nat.le_refl _) _
  have hm6 : (Instr.makeSlice 61 (.int .i64 1380) (.int .i64 1380)).run Tryz.prog w5 = .ok (.slice (some ⟨w5.heap.size, 0, none⟩) 1380 1380) (w5.alloc (.cells (madeCells #[.int .u8 0] 1380) 5)) := (mk8_new 1380 (by decide) w5).1
  rw [← hW6] at hm6
  have HRC := Lib.hid (show Calls Tryz.prog 63 #[.agg #[.int .u8 0, .int .u16 0, .bool false, .bool false, .bool false, .int .i64 0, .int .u8 9, .int .u8 17, .int .u32 184549381, .int .u32 201326597, .slice none 0 0], .slice (some ⟨w5.heap.size, 0, none⟩) 1380 1380] W6 fun e w' => ∃ v, e = .returned v ∧ Row8 W6.heap.size w' v (bytesF (kh 9) (List.replicate 1380 0)) ∧ Below W6.heap.size W6 w' from kn_bytes 9 (by decide) _ (List.replicate 1380 0) _ W6 (row_sl hr6) (by rw [List.length_replicate]; decide))
  have HK6 := Lib.hid (HK5.out.below hb6)
  have H6 := Lib.hid (Row8.below H5.out hb6)
  have hyl : (bytesF (kh 9) (List.replicate 1380 0)).length = 1400 := by rw [kh_len, List.length_replicate]
  obtain ⟨Q, hQ⟩ : ∃ Q, Q = bytesF (kh 9) (List.replicate 1380 0) := ⟨_, rfl⟩
  rw [← hQ] at HRC HY hyl
  have HYL := Lib.hid hyl
  have HS6 := Lib.hid (Nat.le_trans HB5.out.size hb6.size)
  clear hr6 hb6 hW6 hQ hyl H5 HK5
  go_upto_region 5 with
    (go_at_call 63
     refine HRC.out.mono ?_
     rintro e w7 ⟨v7, rfl, h7, hb7⟩
     obtain ⟨A7, c7, rfl, hc7⟩ := h7.form
     rw [HYL.out]
     have h7' : Row8 W4.heap.size w7 (.slice A7 Q.length c7) Q := own_base h7 HS6.out
     have H7 := Lib.hid h7'
     have HP7 := Lib.hid (Row8.below H6.out hb7)
     have HK7 := Lib.hid (HK6.out.below hb7)
     clear h7 h7' hb7 hc7)
  clear hm6 b9 HRC HK6 H6 HS6 HB5
  rw [HYL.out] at H7
  obtain ⟨y, hy⟩ := HX.out
  obtain ⟨a, b, c, hz, hal⟩ := HY.out
  have hnb : ∀ {A : Option Addr} {n c : Nat} {x : By}, Row8 W4.heap.size w7 (.slice A n c) x → ∀ k, (Value.slice A n c).ownBlock = some k → k ≠ bb := fun hr k hk e => by
    have := (own_lt hr hk).1
    have := HBB.out
    omega
  have hwb : w.heap.size ≤ W4.heap.size := Nat.le_trans HK7.out.nb (Nat.le_of_lt HBB.out)
  have hj1 := kn_judge_any HP0.out HK7.out ⟨by decide, by decide⟩ (own_base HP7.out hwb) (hnb HP7.out) (by decide)
  rw [hy] at hj1
  have HJ1 := Lib.hid (hj1.mono fun e w' ⟨lv, ov, h1, h2, h3, _, h5, h6⟩ => (⟨lv, ov, h1, h2, h3, h5, h6⟩ : ∃ lv ov, e = Ending.returned (.tuple #[.agg #[.int .i64 0, .int .i64 3, lv, ov], .int .i64 0]) ∧ Upd (fun k => k = bb) w7 w' ∧ IsBk w' bb 64 1 4 0 ∧ Rows8 w7.heap.size w' lv [] ∧ Snts w7.heap.size w' ov [(0, y)]))
  have HWB := Lib.hid hwb
  have HNB := Lib.hid (hnb H7.out)
  have l1 := ld_adr (show w7.cell? ⟨ga, 1, none⟩ = some (.int .u32 167772161) from HK7.out.ak.cell 1)
  have l2 := ld_ints (show w7.cell? ⟨ga, 2, none⟩ = some (.slice Am 2 2) from HK7.out.ak.cell 2)
  clear hy hj1 hnb hwb
  go_wp2_with fail
  refine HJ1.out.mono ?_
  rintro e w8 ⟨lv, ov, rfl, hu8, hk8, hl8, ho8⟩
  obtain ⟨w9, hst, hb9, hg9⟩ := ft_var w8 hl8 ho8 0 3
  have HK9 := Lib.hid ((HK7.out.turn hu8 hk8).below hb9)
  have HQ9 := Lib.hid (own_below (own_turn H7.out hu8 HBB.out) hb9)
  have HO9 := Lib.hid (ho8.below hb9)
  have HS9 := Lib.hid (show bb < w7.heap.size from Blk.lt HK7.out.bk)
  have HWB9 := Lib.hid (Nat.le_trans hu8.size hb9.size)
  clear l1 l2 hu8 hk8 hl8 ho8 hb9
  go_upto_region 6 with (fail)
  obtain ⟨gx, hgx⟩ : ∃ g, g = w8.heap.size := ⟨_, rfl⟩
  rw [← hgx] at hg9 ⊢
  have HG9 := Lib.hid hg9
  have l1 := ld_adr (show w9.cell? ⟨ga, 1, none⟩ = some (.int .u32 167772161) from HK9.out.ak.cell 1)
  have l2 := ld_ints (show w9.cell? ⟨ga, 2, none⟩ = some (.slice Am 2 2) from HK9.out.ak.cell 2)
  have hj2 := kn_judge_any HP0.out HK9.out ⟨by decide, by decide⟩ (own_base HQ9.out HWB.out) HNB.out (by decide)
  rw [hz] at hj2
  have HJ2 := Lib.hid (hj2.mono fun e w' ⟨lv, ov, h1, h2, h3, _, h5, h6⟩ => (⟨lv, ov, h1, h2, h3, h5, h6⟩ : ∃ lv ov, e = Ending.returned (.tuple #[.agg #[.int .i64 0, .int .i64 0, lv, ov], .int .i64 0]) ∧ Upd (fun k => k = bb) w9 w' ∧ IsBk w' bb 64 1 4 0 ∧ Rows8 w9.heap.size w' lv [] ∧ Snts w9.heap.size w' ov [(1, a), (1, b), (1, c)]))
  clear hst hg9 hgx hz hj2 HJ1 HNB
  go_wp2_with fail
  refine HJ2.out.mono ?_
  rintro e wa ⟨lv2, ov2, rfl, hua, hka, hla, hoa⟩
  obtain ⟨wb, hst, hbb, hgb⟩ := ft_var wa hla hoa 0 0
  have HKB := Lib.hid ((HK9.out.turn hua hka).below hbb)
  have HO1 := Lib.hid ((HO9.out.turn hua HS9.out).below hbb)
  have HO2 := Lib.hid (hoa.below hbb)
  have HGX := Lib.hid ((HG9.out.upd hua (blk_tne HG9.out HK9.out.bk (by decide))).below hbb (Nat.lt_of_lt_of_le HG9.out.lt hua.size))
  clear l1 l2 hua hka hla hoa hbb
  go_upto_region 7 with (fail)
  obtain ⟨gy, hgy⟩ : ∃ g, g = wa.heap.size := ⟨_, rfl⟩
  rw [← hgy] at hgb ⊢
  obtain ⟨A1, c1, e1, f1⟩ := HO1.out.at
  obtain ⟨A2, c2, e2, f2⟩ := HO2.out.at
  obtain ⟨g1, _, rfl, p1, _, _⟩ := f1 0 0 y rfl
  obtain ⟨g2, u2, rfl, _, p3, p4⟩ := f2 0 1 a rfl
  obtain ⟨g3, _, e3, p5, _, _⟩ := f2 2 1 c rfl
  injection e3 with e3
  injection e3 with e3
  subst e3
  obtain ⟨Aa, ca, rfl, _⟩ := p4.form
  have x1 := ld_erk (show wb.cell? ⟨gx, 1, none⟩ = some (.int .i64 3) from HGX.out.cell 1)
  have x3 := ld_snts (show wb.cell? ⟨gx, 3, none⟩ = some (.slice (some ⟨g1, 0, none⟩) 1 c1) from (HGX.out.cell 3).trans (congrArg some e1))
  have x4 := ld_int p1
  have y0 := ld_drk (show wb.cell? ⟨gy, 0, none⟩ = some (.int .i64 0) from hgb.cell 0)
  have y1 := ld_erk (show wb.cell? ⟨gy, 1, none⟩ = some (.int .i64 0) from hgb.cell 1)
  have y3 := ld_snts (show wb.cell? ⟨gy, 3, none⟩ = some (.slice (some ⟨g2, 0, none⟩) 3 c2) from (hgb.cell 3).trans (congrArg some e2))
  have y4 := ld_int p5
  rw [hal] at p3
  have y5 := ld_bys p3
  have HBH := Lib.hid (bhas_any bb 64 1 4 0 wb HKB.out.bk)
  simp only [Nat.zero_mul, Nat.zero_add] at x4 y4 y5
  clear hst hgb hgy e1 e2 f1 f2 p1 p3 p4 p5 HO1 HO2 HG9 HO9 HK9 HK7
  go_wp2_with fail
  refine HBH.out.mono ?_
  rintro e wc ⟨rfl, rfl⟩
  go_wp2_with fail
  go_ret
  exact ⟨rfl, HKB.out.bl⟩
end Go.Proofs.YthlommalbkhcjaaGreat
namespace Go.Proofs.YthlommalbkhcjaaGreat
open Go.RowKit Go.Sort Go.BigFrame
theorem bcopy_nil (w : World) : Calls Tryz.prog 66 #[.pointer none] w fun e w' => e = .returned (.pointer none) ∧ w = w' := by
  go_enter Tryz.func66, Tryz.ntmps66
  go_wp2_with fail
  go_ret
  exact ⟨rfl, rfl⟩
theorem fwrong_nil (w : World) : Calls Tryz.prog 67 #[.pointer none, .slice none 0 0, .slice none 0 0] w fun e w' => e = .returned (.int .i64 1) ∧ w = w' := by
  go_enter Tryz.func67, Tryz.ntmps67
  go_wp2_with fail
  go_ret
  exact ⟨rfl, rfl⟩
def NilFt (w : World) (n : Int) (e : Ending) (w' : World) : Prop := e = .returned (.tuple #[.agg #[.int .i64 0, .int .i64 0, .slice none 0 0, .slice none 0 0], .int .i64 n]) ∧ Below w.heap.size w w'
theorem bd_ft0 (w : World) : (Instr.build 71 #[]).run Tryz.prog w = .ok (.agg #[.int .i64 0, .int .i64 0, .slice none 0 0, .slice none 0 0]) w := by kernel_rfl
theorem ft_zero {w wx : World} {g : Nat} (hg : Blk wx g 71 #[.int .i64 0, .int .i64 0, .slice none 0 0, .slice none 0 0]) (hb : Below w.heap.size w wx) (hgw : w.heap.size ≤ g) :
    (Instr.storeAt 71 (.pointer (some ⟨g, 0, none⟩)) (.agg #[.int .i64 0, .int .i64 0, .slice none 0 0, .slice none 0 0])).run Tryz.prog wx = .ok () (wx.setCells g 0 [.int .i64 0, .int .i64 0, .slice none 0 0, .slice none 0 0]) ∧
    Blk (wx.setCells g 0 [.int .i64 0, .int .i64 0, .slice none 0 0, .slice none 0 0]) g 71 #[.int .i64 0, .int .i64 0, .slice none 0 0, .slice none 0 0] ∧ Below w.heap.size w (wx.setCells g 0 [.int .i64 0, .int .i64 0, .slice none 0 0, .slice none 0 0]) :=
  ⟨stc_store ft_info hg rfl rfl (by simp [Value.oneCell']), blk_setCells (vs := #[.int .i64 0, .int .i64 0, .slice none 0 0, .slice none 0 0]) hg rfl, below_setCells hgw _ _ _ hb⟩
set_option maxRecDepth 100000 in
attribute [-go_sem] Instr.storeAt Instr.loadAt Instr.build in
theorem jnil_f (bb : Nat) (w : World) : Calls Tryz.prog 28 #[.pointer none, .int .u32 1, .slice none 0 0, .pointer (some ⟨bb, 0, none⟩), .slice none 0 0] w (NilFt w 1) := by
  have b0 := bd_ft0
  obtain ⟨W, hW⟩ : ∃ W, W = w.alloc (.cells #[.int .i64 0, .int .i64 0, .slice none 0 0, .slice none 0 0] 71) := ⟨_, rfl⟩
  obtain ⟨s1, s2, s3⟩ := ft_zero (w := w) (by rw [hW]; exact Blk.new w _ _ : Blk W w.heap.size _ _) (by rw [hW]; exact (Below.refl _ _).alloc (Nat.le_refl _) _) (Nat.le_refl _)
  have S2 := Lib.hid s2
  have S3 := Lib.hid s3
  have HW := Lib.hid hW
  clear s2 s3 hW
  go_enter Tryz.func28, Tryz.ntmps28
  go_upto_region 1 with (fail)
  rw [← HW.out]
  go_wp2_with fail
  refine bodyPost_ret_by (res_ft rfl _ rfl S2.out rfl) rfl ?_
  exact ⟨rfl, S3.out⟩
set_option maxRecDepth 100000 in
attribute [-go_sem] Instr.storeAt Instr.loadAt Instr.build in
theorem jnil_b (fb : Nat) (w : World) : Calls Tryz.prog 28 #[.pointer (some ⟨fb, 0, none⟩), .int .u32 1, .slice none 0 0, .pointer none, .slice none 0 0] w (NilFt w 1) := by
  have b0 := bd_ft0
  obtain ⟨W, hW⟩ : ∃ W, W = w.alloc (.cells #[.int .i64 0, .int .i64 0, .slice none 0 0, .slice none 0 0] 71) := ⟨_, rfl⟩
  obtain ⟨s1, s2, s3⟩ := ft_zero (w := w) (by rw [hW]; exact Blk.new w _ _ : Blk W w.heap.size _ _) (by rw [hW]; exact (Below.refl _ _).alloc (Nat.le_refl _) _) (Nat.le_refl _)
  have S2 := Lib.hid s2
  have S3 := Lib.hid s3
  have HW := Lib.hid hW
  have HC := Lib.hid (bcopy_nil W)
  clear s2 s3 hW
  go_enter Tryz.func28, Tryz.ntmps28
  go_upto_region 1 with (fail)
  rw [← HW.out]
  go_wp2_with fail
  refine HC.out.mono ?_
  rintro e w' ⟨rfl, rfl⟩
  go_wp2_with fail
  refine bodyPost_ret_by (res_ft rfl _ rfl S2.out rfl) rfl ?_
  exact ⟨rfl, S3.out⟩
set_option maxRecDepth 100000 in
attribute [-go_sem] Instr.storeAt Instr.loadAt Instr.build in
theorem snil_f (w : World) : Calls Tryz.prog 37 #[.pointer none, .slice none 0 0, .slice none 0 0] w (NilFt w 1) := by
  have b0 := bd_ft0
  obtain ⟨W, hW⟩ : ∃ W, W = w.alloc (.cells #[.int .i64 0, .int .i64 0, .slice none 0 0, .slice none 0 0] 71) := ⟨_, rfl⟩
  obtain ⟨s1, s2, s3⟩ := ft_zero (w := w) (by rw [hW]; exact Blk.new w _ _ : Blk W w.heap.size _ _) (by rw [hW]; exact (Below.refl _ _).alloc (Nat.le_refl _) _) (Nat.le_refl _)
  have S2 := Lib.hid s2
  have S3 := Lib.hid s3
  have HW := Lib.hid hW
  have HC := Lib.hid (fwrong_nil W)
  clear s2 s3 hW
  go_enter Tryz.func37, Tryz.ntmps37
  go_upto_region 1 with (fail)
  rw [← HW.out]
  go_wp2_with fail
  refine HC.out.mono ?_
  rintro e w' ⟨rfl, rfl⟩
  go_wp2_with fail
  refine bodyPost_ret_by (res_ft rfl _ rfl S2.out rfl) rfl ?_
  exact ⟨rfl, S3.out⟩
set_option maxRecDepth 100000 in
set_option maxHeartbeats 4000000 in
attribute [-go_sem] Instr.storeAt Instr.loadAt Instr.build in
theorem fwdnil_any (w : World) : Calls Tryz.prog 5 #[] w fun e w' => e = .returned (.bool true) ∧ Below w.heap.size w w' := by
  have hv : ∀ w : World, ∃ w2, (Instr.storeAt 71 (.pointer (some ⟨w.heap.size, 0, none⟩)) (.agg #[.int .i64 0, .int .i64 0, .slice none 0 0, .slice none 0 0])).run Tryz.prog (w.alloc (.cells #[.int .i64 0, .int .i64 0, .slice none 0 0, .slice none 0 0] 71)) = .ok () w2 ∧ Below w.heap.size w w2 := fun w => by
    obtain ⟨w2, h1, h2, _⟩ := ft_var (B := 0) w (Rows8.nil _ _) (Snts.nil _ _) 0 0
    exact ⟨w2, h1, h2⟩
  have HV := Lib.hid hv
  clear hv
  go_enter Tryz.func5, Tryz.ntmps5
  go_wp2_with fail
  refine (simple_any w).mono ?_
  rintro e w1 ⟨Ar, Am, A, B, rfl, hr1, hm1, hb1⟩
  have hl := laid18_any (dcL_ok [sr1, sr2 A, sr3 B]) vk Ar 3 3 _ 167772161 Am 2 2 5 w1 (hr1.mono fun k hk => hk.2) (by decide) (fun i r h hm => dcL_at i r h hm) ⟨by decide, by decide⟩
  rw [mk_simple] at hl
  have HL : Hid (Calls Tryz.prog 27 #[.agg #[.slice Ar 3 3, .int .u32 167772161, .slice Am 2 2, .int .i64 5]] w1 (LdPost (dcL [sr1, sr2 A, sr3 B]) w1 (some sT) 5)) := Lib.hid hl
  have HB1 := Lib.hid hb1
  unfold askV
  clear hl hr1 hm1 hb1
  go_wp2_with fail
  refine HL.out.mono ?_
  rintro e w3 ⟨fb, bb, rfl, hm3⟩
  have HB3 := Lib.hid (HB1.out.trans (hm3.bl.mono HB1.out.size))
  clear hm3 HL HB1
  go_wp2_with fail
  refine (jnil_f bb w3).mono ?_
  rintro e w4 ⟨rfl, hb4⟩
  obtain ⟨w5, st5, hb5⟩ := HV.out w4
  have HB5 := Lib.hid ((HB3.out.trans (hb4.mono HB3.out.size)).trans (hb5.mono (Nat.le_trans HB3.out.size hb4.size)))
  clear hb4 hb5 HB3
  go_wp2_with fail
  refine (jnil_b fb w5).mono ?_
  rintro e w6 ⟨rfl, hb6⟩
  obtain ⟨w7, st7, hb7⟩ := HV.out w6
  have HB7 := Lib.hid ((HB5.out.trans (hb6.mono HB5.out.size)).trans (hb7.mono (Nat.le_trans HB5.out.size hb6.size)))
  clear hb6 hb7 HB5 st5
  go_wp2_with fail
  refine (snil_f w7).mono ?_
  rintro e w8 ⟨rfl, hb8⟩
  obtain ⟨w9, st9, hb9⟩ := HV.out w8
  have HB9 := Lib.hid ((HB7.out.trans (hb8.mono HB7.out.size)).trans (hb9.mono (Nat.le_trans HB7.out.size hb8.size)))
  clear hb8 hb9 HB7 st7
  go_wp2_with fail
  refine (known18_any w9).mono ?_
  rintro e wa ⟨rfl, hba⟩
  have HBA := Lib.hid (HB9.out.trans (hba.mono HB9.out.size))
  clear hba st9
  go_wp2_with fail
  go_ret
  exact ⟨rfl, HBA.out⟩
end Go.Proofs.YthlommalbkhcjaaGreat
