/- Frag: law15's known. -/
import Derived.Test.YtfddkehnhkfjeaaFqB
import Derived.Test.YtfddkehnhkfjeaaFqA
import Derived.Test.YtfddkehnhkfjeaaIrC
import Derived.Test.YtfddkehnhkfjeaaIrG
import Derived.LoopN
namespace Go.Proofs.Ytfddkehnhkfjeaa
open Go.RowKit Go.Sort Go.BigFrame
def kh : Hd := ⟨0, 0, false, false, false, 0, 5, 0, 0, 0, []⟩
def kd : Hd := ⟨0, 0, false, true, false, 0, 0, 0, 0, 0, []⟩
def kz : By := List.replicate 100 0
theorem kz_len : kz.length = 100 := by unfold kz; simp
theorem kh_ok : kh.ok := ⟨by decide, by decide, by decide, by decide, by decide, by decide⟩
theorem kd_ok : kd.ok := ⟨by decide, by decide, by decide, by decide, by decide, by decide⟩
theorem may_noopt {h : Hd} (ho : h.opts = []) (h0 : 0 ≤ h.off) (h1 : h.off ≤ 8191) : mayH h = true := by
  unfold mayH
  rw [ho]
  have hg : goodF [] = true := by unfold goodF; simp [steps_nil]
  rw [hg]
  simp [h0, h1]
theorem fits_noopt {h : Hd} (ho : h.opts = []) (h0 : 0 ≤ h.off) (h1 : h.off ≤ 8191) {p : By} (hp : p.length ≤ 1000) : fitsH h p = true := by
  unfold fitsH
  rw [may_noopt ho h0 h1, ho]
  simp
  omega
theorem cop_nil : copF [] = [] := List.eq_nil_of_length_eq_zero (by have := (cop_le (x := []) rfl).1; simp at this; simp [this])
theorem pc_noopt {h : Hd} (ho : h.opts = []) (L m a : Nat) : pcF h L m a = if m - 20 < L - a then ({ h with off := h.off + ((a / 8 : Nat) : Int), mf := true }, (m - 20) / 8 * 8) else ({ h with off := h.off + ((a / 8 : Nat) : Int) }, L - a) := by
  cases h
  simp only at ho
  subst ho
  unfold pcF
  simp only [cop_nil, ite_self, List.length_nil, Nat.add_zero]
def kq0 : Nat × Hd × Nat := (0, { kh with mf := true }, 48)
def kq1 : Nat × Hd × Nat := (48, { kh with off := 6, mf := true }, 48)
def kq2 : Nat × Hd × Nat := (96, { kh with off := 12 }, 4)
theorem k_pcs : pcsF kh 100 68 100 0 = [kq0, kq1, kq2] := by
  have e0 : pcF kh 100 68 0 = ({ kh with mf := true }, 48) := by rw [pc_noopt rfl]; rfl
  have e1 : pcF kh 100 68 48 = ({ kh with off := 6, mf := true }, 48) := by rw [pc_noopt rfl]; rfl
  have e2 : pcF kh 100 68 96 = ({ kh with off := 12 }, 4) := by rw [pc_noopt rfl]; rfl
  rw [pcs_cons kh 100 68 99 0 (by decide), e0]
  show _ :: pcsF kh 100 68 99 48 = _
  rw [pcs_cons kh 100 68 98 48 (by decide), e1]
  show _ :: _ :: pcsF kh 100 68 98 96 = _
  rw [pcs_cons kh 100 68 97 96 (by decide), e2]
  show _ :: _ :: _ :: pcsF kh 100 68 97 100 = _
  rw [pcs_end _ _ _ _ _ (by decide)]
  rfl
theorem k_prs : prsF (bytesF kh kz) = (kh, kz, 0) := by have := read_back kh_ok (fits_noopt (h := kh) rfl (by decide) (by decide) (p := kz) (by rw [kz_len]; decide)) []; rwa [List.append_nil] at this
theorem kd_prs : prsF (bytesF kd kz) = (kd, kz, 0) := by have := read_back kd_ok (fits_noopt (h := kd) rfl (by decide) (by decide) (p := kz) (by rw [kz_len]; decide)) []; rwa [List.append_nil] at this
theorem k_fit68 : fitsF (bytesF kh kz) 68 = (false, 0) := by
  unfold fitsF
  rw [k_prs, if_neg (by decide)]
  simp only
  rw [kz_len]
  rfl
theorem kd_fit68 : fitsF (bytesF kd kz) 68 = (false, 0) := by
  unfold fitsF
  rw [kd_prs, if_neg (by decide)]
  simp only
  rw [kz_len]
  rfl
theorem k_fit67 : fitsF (bytesF kh kz) 67 = (false, 2) := by unfold fitsF; rw [if_pos (by decide)]
theorem k_fit120 : fitsF (bytesF kh kz) 120 = (true, 0) := by
  unfold fitsF
  rw [k_prs, if_neg (by decide)]
  simp only
  rw [kz_len]
  rfl
theorem k_cut : cutF (bytesF kh kz) 68 = ([pbF kz kq0, pbF kz kq1, pbF kz kq2], 0) := by
  rw [cut_eq k_fit68.symm k_prs.symm, if_neg (by decide), if_neg (by decide), if_neg (by decide), kz_len, show (68 : Int).toNat = 68 from rfl, k_pcs, if_neg]
  · rfl
  · rintro ⟨q, hq, h⟩
    simp only [List.mem_cons, List.not_mem_nil, or_false] at hq
    rcases hq with rfl | rfl | rfl
    · exact absurd h (by decide)
    · exact absurd h (by decide)
    · exact absurd h (by decide)
theorem kd_cut : cutF (bytesF kd kz) 68 = ([], 7) := by rw [cut_eq kd_fit68.symm kd_prs.symm, if_neg (by decide), if_neg (by decide), if_pos (show kd.df = true from rfl)]
theorem k_cut67 : cutF (bytesF kh kz) 67 = ([], 2) := by rw [cut_eq k_fit67.symm k_prs.symm, if_pos (by decide)]
theorem kq_prs {q : Nat × Hd × Nat} (ok : q.2.1.ok) (ho : q.2.1.opts = []) (h0 : 0 ≤ q.2.1.off) (h1 : q.2.1.off ≤ 8191) (hq : q.1 + q.2.2 ≤ 100) : prsF (pbF kz q) = (q.2.1, partF kz q.1 (q.1 + q.2.2), 0) := by
  have := read_back ok (fits_noopt ho h0 h1 (p := partF kz q.1 (q.1 + q.2.2)) (by rw [part_len2 (by rw [kz_len]; exact hq)]; omega)) []
  rwa [List.append_nil] at this
theorem kb_len : (bytesF kh kz).length = 120 := by rw [bytesF_len, kz_len]; rfl
theorem kdb_len : (bytesF kd kz).length = 120 := by rw [bytesF_len, kz_len]; rfl

attribute [-go_sem] Instr.storeAt in
set_option maxRecDepth 100000 in
set_option maxHeartbeats 16000000 in
theorem known15_any (w : World) : Calls Try.prog 41 #[] w fun e w' => e = .returned (.bool true) ∧ Below w.heap.size w w' := by
  have hmk : ∀ w : World, (Instr.makeSlice 22 (.int .i64 100) (.int .i64 100)).run Try.prog w = .ok (.slice (some ⟨w.heap.size, 0, none⟩) 100 100) (w.alloc (.cells (List.replicate 100 (Value.int .u8 0)).toArray 5)) := fun _ => by kernel_rfl
  have HMK := Lib.hid hmk
  obtain ⟨wa, hwa⟩ : ∃ wa, wa = w.alloc (.cells (List.replicate 100 (Value.int .u8 0)).toArray 5) := ⟨_, rfl⟩
  have hra : Row8 w.heap.size wa (.slice (some ⟨w.heap.size, 0, none⟩) 100 100) kz := by rw [hwa]; exact row8_lit w kz _ (by decide) rfl
  have hba : Below w.heap.size w wa := by rw [hwa]; exact (Below.refl _ _).alloc (Nat.le_refl _) _
  have hm1 := hmk w
  rw [← hwa] at hm1
  have HBY := Lib.hid (show Calls Try.prog 40 #[.agg #[.int .u8 0, .int .u16 0, .bool false, .bool false, .bool false, .int .i64 0, .int .u8 5, .int .u8 0, .int .u32 0, .int .u32 0, .slice none 0 0], .slice (some ⟨w.heap.size, 0, none⟩) 100 100] wa _ from rbytes_any kh (.slice none 0 0) (.slice (some ⟨w.heap.size, 0, none⟩) 100 100) kz (fun _ => True) wa (sl_nil _ _) (hra.sl.mono fun _ _ => trivial) kh_ok (fits_noopt rfl (by decide) (by decide) (by rw [kz_len]; decide)))
  have HBA := Lib.hid hba
  have hn43 := fun (n : Int) (wx : World) => num15_any n wx
  have HNUM := Lib.hid hn43
  clear hmk hwa hra hba hn43
  go_enter Try.func41, Try.ntmps41
  go_wp2_with fail
  refine HBY.out.mono ?_
  rintro e w1 ⟨vb, rfl, hb, hbb⟩
  obtain ⟨Ab, cb, rfl, hcb⟩ := hb.form
  rw [kb_len] at hcb ⊢
  have hbr := hb.reads.2
  rw [kb_len] at hbr
  have HBR := Lib.hid hbr
  have HB1 := Lib.hid (HBA.out.trans (hbb.mono HBA.out.size))
  have hC := fcut_any Ab 120 cb _ 68 _ w1 hbr kb_len hcb (by decide)
  rw [k_cut] at hC
  have HC := Lib.hid hC
  clear hb hbb hbr hC hm1
  go_wp2_with fail
  refine HC.out.mono ?_
  rintro e w2 ⟨vl, rfl, hl, hb2⟩
  obtain ⟨us, ho, hul, hu⟩ := hl
  obtain ⟨gl, cl, rfl, hcl⟩ := own_form1 ho (by decide)
  obtain ⟨u0, e0, r0⟩ := hu 0 _ rfl
  obtain ⟨u1, e1, r1⟩ := hu 1 _ rfl
  obtain ⟨u2, e2, r2⟩ := hu 2 _ rfl
  obtain ⟨A0, d0, rfl, f0⟩ := own_form r0
  obtain ⟨A1, d1, rfl, f1⟩ := own_form r1
  obtain ⟨A2, d2, rfl, f2⟩ := own_form r2
  have l0 : (pbF kz kq0).length = 68 := by unfold pbF; rw [bytesF_len, part_len2 (by rw [kz_len]; decide)]; rfl
  have l1 : (pbF kz kq1).length = 68 := by unfold pbF; rw [bytesF_len, part_len2 (by rw [kz_len]; decide)]; rfl
  have l2 : (pbF kz kq2).length = 24 := by unfold pbF; rw [bytesF_len, part_len2 (by rw [kz_len]; decide)]; rfl
  rw [l0] at r0 e0 f0
  rw [l1] at r1 e1 f1
  rw [l2] at r2 e2 f2
  have c0 := ho.cells (g := gl) rfl 0 _ e0
  have c1 := ho.cells (g := gl) rfl 1 _ e1
  have c2 := ho.cells (g := gl) rfl 2 _ e2
  rw [add_off, Nat.zero_add] at c0 c1 c2
  have hgl : gl < w2.heap.size := (own_lt ho rfl).2
  obtain ⟨ws, hws⟩ : ∃ ws, ws = (w2.alloc (.cells #[.int .i64 48, .int .i64 48, .int .i64 4] 3)).alloc (.cells #[.int .i64 0, .int .i64 6, .int .i64 12] 3) := ⟨_, rfl⟩
  have ks : Blk ws w2.heap.size 3 #[.int .i64 48, .int .i64 48, .int .i64 4] := by rw [hws]; exact (Blk.new _ _ _).alloc _
  have ko : Blk ws (w2.heap.size + 1) 3 #[.int .i64 0, .int .i64 6, .int .i64 12] := by
    rw [hws]
    have := Blk.new (w2.alloc (.cells #[.int .i64 48, .int .i64 48, .int .i64 4] 3)) 3 #[.int .i64 0, .int .i64 6, .int .i64 12]
    rwa [World.size_alloc] at this
  have hbs : Below w2.heap.size w2 ws := by rw [hws]; exact ((Below.refl _ _).alloc (Nat.le_refl _) _).alloc (by simp) _
  have KS := Lib.hid ks
  have KO := Lib.hid ko
  have C0 := Lib.hid ((hbs.cell (p := ⟨gl, 0, none⟩) hgl).trans c0)
  have C1 := Lib.hid ((hbs.cell (p := ⟨gl, 1, none⟩) hgl).trans c1)
  have C2 := Lib.hid ((hbs.cell (p := ⟨gl, 2, none⟩) hgl).trans c2)
  have HGL := Lib.hid (show gl < ws.heap.size from Nat.lt_of_lt_of_le hgl hbs.size)
  have R0 := Lib.hid ((Reads.of_own r0 fun g hg => own_lt r0 hg).keep (Same.ofBelow hbs fun k hk => hk.2)).lt
  have R1 := Lib.hid ((Reads.of_own r1 fun g hg => own_lt r1 hg).keep (Same.ofBelow hbs fun k hk => hk.2)).lt
  have R2 := Lib.hid ((Reads.of_own r2 fun g hg => own_lt r2 hg).keep (Same.ofBelow hbs fun k hk => hk.2)).lt
  have D0 := Lib.hid f0
  have D1 := Lib.hid f1
  have D2 := Lib.hid f2
  have HBS := Lib.hid (HB1.out.trans ((hb2.trans (hbs.mono hb2.size)).mono HB1.out.size))
  have HWS := Lib.hid hws
  have HBZ := Lib.hid (Nat.le_trans hb2.size hbs.size)
  have HBR2 := Lib.hid (HBR.out.keep (Same.ofBelow (hb2.trans (hbs.mono hb2.size)) fun k hk => hk.2))
  have HCB := Lib.hid hcb
  clear ho hul hu r0 r1 r2 e0 e1 e2 f0 f1 f2 c0 c1 c2 hgl ks ko hbs hb2 hws hcl hcb
  simp only [List.length_cons, List.length_nil, Nat.reduceAdd]
  go_upto_region 6 with (go_at_call 43; refine (HNUM.out _ _).mono ?_; rintro e w' ⟨rfl, rfl⟩)
  rw [← HWS.out]
  go_wp2_with fail
  refine wp_loop_rounds 4 ?_

  rw [rounds_succ]
  have b0 : Below ws.heap.size ws ws := (Below.refl _ _)
  have c0 := (b0.cell (p := ⟨gl, 0, none⟩) HGL.out).trans C0.out
  have hp0 := parse_any A0 68 d0 _ _ ws (R0.out.keep (Same.ofBelow b0 fun k hk => hk.2)) l0 D0.out (by decide)
  rw [kq_prs (q := kq0) ⟨by decide, by decide, by decide, by decide, by decide, by decide⟩ rfl (by decide) (by decide) (by decide)] at hp0
  have HP0 := Lib.hid hp0
  have s0 : ws.cell? ⟨w2.heap.size, 0, none⟩ = some (.int .i64 48) := (KS.out.below b0 KS.out.lt).cell 0
  have o0 : ws.cell? ⟨w2.heap.size + 1, 0, none⟩ = some (.int .i64 0) := (KO.out.below b0 KO.out.lt).cell 0
  clear b0 hp0
  go_wp2_with fail
  refine HP0.out.mono ?_
  rintro e v0 ⟨vo0, vp0, rfl, ho0, hpp0, _, hb0⟩
  obtain ⟨Ao0, co0, rfl, _⟩ := ho0.form
  obtain ⟨Ap0, cp0, rfl, _⟩ := hpp0.form
  obtain ⟨x0, hst0, hb20, _, hk0⟩ := hd_var hb0 hb0.size kq0.2.1 Ao0 kq0.2.1.opts.length co0
  have hpl0 : (partF kz kq0.1 (kq0.1 + kq0.2.2)).length = 48 := part_len2 (by rw [kz_len]; decide)
  have h50 : x0.cell? ⟨v0.heap.size, 5, none⟩ = some (.int .i64 0) := hk0.cell 5
  have s02 : x0.cell? ⟨w2.heap.size, 0, none⟩ = some (.int .i64 48) := (hb20.cell (p := ⟨w2.heap.size, 0, none⟩) (block_lt_of_cell s0)).trans s0
  have o02 : x0.cell? ⟨w2.heap.size + 1, 0, none⟩ = some (.int .i64 0) := (hb20.cell (p := ⟨w2.heap.size + 1, 0, none⟩) (block_lt_of_cell o0)).trans o0
  simp only [hpl0]
  have HX0 := Lib.hid (show Below ws.heap.size ws x0 from hb20)
  clear hb0 hb20 hk0 ho0 hpp0 c0 s0 o0
  go_upto_region 10 with (fail)
  go_quiet (fail)
  go_wp2_with fail
  obtain ⟨W1, hW1⟩ : ∃ W, W = x0.drewN nq := ⟨_, rfl⟩
  rw [← hW1]
  have HW1 := Lib.hid (show Below ws.heap.size ws W1 by rw [hW1]; exact HX0.out.trans ⟨rfl, rfl, rfl, Nat.le_refl _, fun _ _ => rfl⟩)
  clear hW1 hst0 h50 s02 o02 hpl0

  rw [rounds_succ]
  have b1 : Below ws.heap.size ws W1 := HW1.out
  have c1 := (b1.cell (p := ⟨gl, 1, none⟩) HGL.out).trans C1.out
  have hp1 := parse_any A1 68 d1 _ _ W1 (R1.out.keep (Same.ofBelow b1 fun k hk => hk.2)) l1 D1.out (by decide)
  rw [kq_prs (q := kq1) ⟨by decide, by decide, by decide, by decide, by decide, by decide⟩ rfl (by decide) (by decide) (by decide)] at hp1
  have HP1 := Lib.hid hp1
  have s1 : W1.cell? ⟨w2.heap.size, 1, none⟩ = some (.int .i64 48) := (KS.out.below b1 KS.out.lt).cell 1
  have o1 : W1.cell? ⟨w2.heap.size + 1, 1, none⟩ = some (.int .i64 6) := (KO.out.below b1 KO.out.lt).cell 1
  clear b1 hp1
  go_wp2_with fail
  refine HP1.out.mono ?_
  rintro e v1 ⟨vo1, vp1, rfl, ho1, hpp1, _, hb1⟩
  obtain ⟨Ao1, co1, rfl, _⟩ := ho1.form
  obtain ⟨Ap1, cp1, rfl, _⟩ := hpp1.form
  obtain ⟨x1, hst1, hb21, _, hk1⟩ := hd_var hb1 hb1.size kq1.2.1 Ao1 kq1.2.1.opts.length co1
  have hpl1 : (partF kz kq1.1 (kq1.1 + kq1.2.2)).length = 48 := part_len2 (by rw [kz_len]; decide)
  have h51 : x1.cell? ⟨v1.heap.size, 5, none⟩ = some (.int .i64 6) := hk1.cell 5
  have s12 : x1.cell? ⟨w2.heap.size, 1, none⟩ = some (.int .i64 48) := (hb21.cell (p := ⟨w2.heap.size, 1, none⟩) (block_lt_of_cell s1)).trans s1
  have o12 : x1.cell? ⟨w2.heap.size + 1, 1, none⟩ = some (.int .i64 6) := (hb21.cell (p := ⟨w2.heap.size + 1, 1, none⟩) (block_lt_of_cell o1)).trans o1
  simp only [hpl1]
  have HX1 := Lib.hid (show Below ws.heap.size ws x1 from HW1.out.trans (hb21.mono HW1.out.size))
  clear hb1 hb21 hk1 ho1 hpp1 c1 s1 o1
  go_upto_region 10 with (fail)
  go_quiet (fail)
  go_wp2_with fail
  obtain ⟨W2, hW2⟩ : ∃ W, W = x1.drewN nq := ⟨_, rfl⟩
  rw [← hW2]
  have HW2 := Lib.hid (show Below ws.heap.size ws W2 by rw [hW2]; exact HX1.out.trans ⟨rfl, rfl, rfl, Nat.le_refl _, fun _ _ => rfl⟩)
  clear hW2 hst1 h51 s12 o12 hpl1

  rw [rounds_succ]
  have b2 : Below ws.heap.size ws W2 := HW2.out
  have c2 := (b2.cell (p := ⟨gl, 2, none⟩) HGL.out).trans C2.out
  have hp2 := parse_any A2 24 d2 _ _ W2 (R2.out.keep (Same.ofBelow b2 fun k hk => hk.2)) l2 D2.out (by decide)
  rw [kq_prs (q := kq2) ⟨by decide, by decide, by decide, by decide, by decide, by decide⟩ rfl (by decide) (by decide) (by decide)] at hp2
  have HP2 := Lib.hid hp2
  have s2 : W2.cell? ⟨w2.heap.size, 2, none⟩ = some (.int .i64 4) := (KS.out.below b2 KS.out.lt).cell 2
  have o2 : W2.cell? ⟨w2.heap.size + 1, 2, none⟩ = some (.int .i64 12) := (KO.out.below b2 KO.out.lt).cell 2
  clear b2 hp2
  go_wp2_with fail
  refine HP2.out.mono ?_
  rintro e v2 ⟨vo2, vp2, rfl, ho2, hpp2, _, hb2⟩
  obtain ⟨Ao2, co2, rfl, _⟩ := ho2.form
  obtain ⟨Ap2, cp2, rfl, _⟩ := hpp2.form
  obtain ⟨x2, hst2, hb22, _, hk2⟩ := hd_var hb2 hb2.size kq2.2.1 Ao2 kq2.2.1.opts.length co2
  have hpl2 : (partF kz kq2.1 (kq2.1 + kq2.2.2)).length = 4 := part_len2 (by rw [kz_len]; decide)
  have h52 : x2.cell? ⟨v2.heap.size, 5, none⟩ = some (.int .i64 12) := hk2.cell 5
  have s22 : x2.cell? ⟨w2.heap.size, 2, none⟩ = some (.int .i64 4) := (hb22.cell (p := ⟨w2.heap.size, 2, none⟩) (block_lt_of_cell s2)).trans s2
  have o22 : x2.cell? ⟨w2.heap.size + 1, 2, none⟩ = some (.int .i64 12) := (hb22.cell (p := ⟨w2.heap.size + 1, 2, none⟩) (block_lt_of_cell o2)).trans o2
  simp only [hpl2]
  have HX2 := Lib.hid (show Below ws.heap.size ws x2 from HW2.out.trans (hb22.mono HW2.out.size))
  clear hb2 hb22 hk2 ho2 hpp2 c2 s2 o2
  go_upto_region 10 with (fail)
  go_quiet (fail)
  go_wp2_with fail
  obtain ⟨W3, hW3⟩ : ∃ W, W = x2.drewN nq := ⟨_, rfl⟩
  rw [← hW3]
  have HW3 := Lib.hid (show Below ws.heap.size ws W3 by rw [hW3]; exact HX2.out.trans ⟨rfl, rfl, rfl, Nat.le_refl _, fun _ _ => rfl⟩)
  clear hW3 hst2 h52 s22 o22 hpl2

  have hbw := HBS.out.trans (HW3.out.mono HBS.out.size)
  obtain ⟨wa, hwa⟩ : ∃ wa, wa = W3.alloc (.cells (List.replicate 100 (Value.int .u8 0)).toArray 5) := ⟨_, rfl⟩
  have hra : Row8 W3.heap.size wa (.slice (some ⟨W3.heap.size, 0, none⟩) 100 100) kz := by rw [hwa]; exact row8_lit W3 kz _ (by decide) rfl
  have hba : Below W3.heap.size W3 wa := by rw [hwa]; exact (Below.refl _ _).alloc (Nat.le_refl _) _
  have hm1 := HMK.out W3
  rw [← hwa] at hm1
  have HBY2 := Lib.hid (show Calls Try.prog 40 #[.agg #[.int .u8 0, .int .u16 0, .bool false, .bool true, .bool false, .int .i64 0, .int .u8 0, .int .u8 0, .int .u32 0, .int .u32 0, .slice none 0 0], .slice (some ⟨W3.heap.size, 0, none⟩) 100 100] wa _ from rbytes_any kd (.slice none 0 0) (.slice (some ⟨W3.heap.size, 0, none⟩) 100 100) kz (fun _ => True) wa (sl_nil _ _) (hra.sl.mono fun _ _ => trivial) kd_ok (fits_noopt rfl (by decide) (by decide) (by rw [kz_len]; decide)))
  have HB4 := Lib.hid (hbw.trans (hba.mono hbw.size))
  have HBA3 := Lib.hid (Below.trans HW3.out (hba.mono HW3.out.size))
  clear hwa hra hba hbw
  rw [rounds_succ]
  go_wp2_with fail
  refine HBY2.out.mono ?_
  rintro e w5 ⟨vd, rfl, hd, hbd⟩
  obtain ⟨Ad, cd, rfl, hcd⟩ := hd.form
  rw [kdb_len] at hcd ⊢
  have hdr := hd.reads.2
  rw [kdb_len] at hdr
  have hC2 := fcut_any Ad 120 cd _ 68 _ w5 hdr kdb_len hcd (by decide)
  rw [kd_cut] at hC2
  have HC2 := Lib.hid hC2
  have HB5 := Lib.hid (HB4.out.trans (hbd.mono HB4.out.size))
  have HB53 := Lib.hid (HBA3.out.trans (hbd.mono HBA3.out.size))
  clear hd hbd hdr hC2 hcd hm1
  go_wp2_with fail
  refine HC2.out.mono ?_
  rintro e w6 ⟨v6, rfl, hr6, hb6⟩
  have hb36 := HB53.out.trans (hb6.mono HB53.out.size)
  have hC3 := fcut_any Ab 120 cb _ 67 _ w6 (HBR2.out.keep (Same.ofBelow hb36 fun k hk => Nat.lt_of_lt_of_le hk.2 HBZ.out)) kb_len HCB.out (by decide)
  rw [k_cut67] at hC3
  have HC3 := Lib.hid hC3
  have HB6 := Lib.hid (HB5.out.trans (hb6.mono HB5.out.size))
  have HB36 := Lib.hid hb36
  clear hr6 hb6 hb36 hC3
  simp only
  go_wp2_with fail
  refine HC3.out.mono ?_
  rintro e w7 ⟨v7, rfl, hr7, hb7⟩
  have hb37 := HB36.out.trans (hb7.mono HB36.out.size)
  have hF := ffits_any Ab 120 cb _ 120 _ w7 (HBR2.out.keep (Same.ofBelow hb37 fun k hk => Nat.lt_of_lt_of_le hk.2 HBZ.out)) kb_len HCB.out (by decide)
  rw [k_fit120] at hF
  have HF := Lib.hid hF
  have HB7 := Lib.hid (HB6.out.trans (hb7.mono HB6.out.size))
  clear hr7 hb7 hb37 hF
  simp only
  go_wp2_with fail
  refine HF.out.mono ?_
  rintro e w8 ⟨rfl, hb8⟩
  have HB8 := Lib.hid (HB7.out.trans (hb8.mono HB7.out.size))
  clear hb8
  go_wp2_with (go_at_call 43; refine (HNUM.out _ _).mono ?_; rintro e w' ⟨rfl, rfl⟩)
  go_ret
  exact ⟨rfl, HB8.out⟩
end Go.Proofs.Ytfddkehnhkfjeaa
