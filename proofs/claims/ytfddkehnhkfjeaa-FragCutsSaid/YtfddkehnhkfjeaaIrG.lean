/- guidepostlaw03.known. -/
import Derived.Test.YtfddkehnhkfjeaaIrF
namespace Go.Proofs.Ytfddkehnhkfjeaa
open Go.RowKit Go.Sort Go.BigFrame
theorem num_any (n : Int) (w : World) : Calls Try.prog 28 #[.int .i64 n] w fun e w' => e = .returned (.int .i64 n) ∧ w = w' := by
  go_enter Try.func28, Try.ntmps28
  go_wp2_with fail
  go_ret
  exact ⟨rfl, rfl⟩
def kO : By := [1, 131, 3, 9, 0, 5, 5, 5]
def kH : Hd := ⟨0, 0, false, false, false, 0, 9, 1, 1, 2, []⟩
theorem k_wrong1 : wrongF (List.replicate 19 0) = 1 := by decide
theorem k_wrong2 : wrongF (List.replicate 20 0) = 2 := by decide
theorem k_wrong3 : wrongF ([0x44] ++ List.replicate 40 0) = 3 := by decide
theorem k_opts : optsF kO = [(131, [9])] := by decide +kernel
theorem k_good : goodF kO = true := by decide +kernel
theorem k_cop : copF kO = [131, 3, 9, 0] := by decide +kernel
theorem k_routed : routedF kO = true := by decide +kernel
theorem k_fits : fitsH kH [] = true := by decide +kernel
theorem k_bytes : bytesF kH [] = [69, 0, 0, 20, 0, 0, 0, 0, 9, 1, 177, 231, 0, 0, 0, 1, 0, 0, 0, 2] := by decide +kernel
theorem row_reads {B : Nat} {w : World} {A : Option Addr} {n c : Nat} {x : By} (h : Row8 B w (.slice A n c) x) : Reads w (fun k => B ≤ k ∧ k < w.heap.size) 1 A n (bytesV x) := h.reads.2
theorem OptV.mono {W : World} {J J2 : Nat → Prop} {v : Value} {L : List (UInt8 × By)} (h : OptV W J v L) (hj : ∀ k, J k → J2 k) : OptV W J2 v L := by
  obtain ⟨A, c, us, rfl, h1, h2⟩ := h
  exact ⟨A, c, us, rfl, h1.mono hj, h2.mono hj⟩
/-- A header's variable, new: what is stored there. -/
theorem hd_new {B : Nat} {w w1 : World} (hb : Below B w w1) (hB : B ≤ w1.heap.size) (h : Hd) (A : Option Addr) (n c : Nat) : ∃ w2, (Instr.storeAt 28 (.pointer (some ⟨w1.heap.size, 0, none⟩)) (hdV h (.slice A n c))).run Try.prog (w1.alloc (.cells #[.int .u8 0, .int .u16 0, .bool false, .bool false, .bool false, .int .i64 0, .int .u8 0, .int .u8 0, .int .u32 0, .int .u32 0, .slice none 0 0] 28)) = .ok () w2 ∧ Below B w w2 ∧ Below w1.heap.size w1 w2 :=
  ⟨_, hd_store (vs := hdC h (.slice A n c)) (Blk.new w1 _ _) rfl rfl (by simp [hdC, Value.oneCell']), below_setCells hB _ 0 _ (hb.alloc hB _), below_setCells (Nat.le_refl _) _ 0 _ ((Below.refl _ _).alloc (Nat.le_refl _) _)⟩
theorem hd0_new {B : Nat} {w w1 : World} (hb : Below B w w1) (hB : B ≤ w1.heap.size) (A : Option Addr) (n c : Nat) : ∃ w2, (Instr.storeAt 28 (.pointer (some ⟨w1.heap.size, 0, none⟩)) (.agg #[.int .u8 0, .int .u16 0, .bool false, .bool false, .bool false, .int .i64 0, .int .u8 0, .int .u8 0, .int .u32 0, .int .u32 0, .slice A n c])).run Try.prog (w1.alloc (.cells #[.int .u8 0, .int .u16 0, .bool false, .bool false, .bool false, .int .i64 0, .int .u8 0, .int .u8 0, .int .u32 0, .int .u32 0, .slice none 0 0] 28)) = .ok () w2 ∧ Below B w w2 ∧ Below w1.heap.size w1 w2 :=
  ⟨_, hd_store (vs := #[.int .u8 0, .int .u16 0, .bool false, .bool false, .bool false, .int .i64 0, .int .u8 0, .int .u8 0, .int .u32 0, .int .u32 0, .slice A n c]) (Blk.new w1 _ _) rfl rfl (by simp [Value.oneCell']), below_setCells hB _ 0 _ (hb.alloc hB _), below_setCells (Nat.le_refl _) _ 0 _ ((Below.refl _ _).alloc (Nat.le_refl _) _)⟩
theorem row_at {B : Nat} {w : World} {g n c : Nat} {x : By} (h : Row8 B w (.slice (some ⟨g, 0, none⟩) n c) x) {i : Nat} {b : UInt8} (hb : x[i]? = some b) : w.cell? ⟨g, i, none⟩ = some (.int .u8 (b.toNat : Int)) := by
  have hc := World.ownsRow.cells (g := g) h rfl i (.int .u8 (b.toNat : Int)) (by simp [bytesV, hb])
  rwa [add_off, Nat.zero_add] at hc
attribute [-go_sem] Instr.storeAt in
set_option maxRecDepth 100000 in
set_option maxHeartbeats 16000000 in
theorem known_any (w : World) : Calls Try.prog 15 #[] w fun e w' => e = .returned (.bool true) ∧ Below w.heap.size w w' := by
  have hmk19 : ∀ w : World, (Instr.makeSlice 22 (.int .i64 19) (.int .i64 19)).run Try.prog w = .ok (.slice (some ⟨w.heap.size, 0, none⟩) 19 19) (w.alloc (.cells (List.replicate 19 (Value.int .u8 0)).toArray 5)) := fun _ => by kernel_rfl
  have hmk20 : ∀ w : World, (Instr.makeSlice 22 (.int .i64 20) (.int .i64 20)).run Try.prog w = .ok (.slice (some ⟨w.heap.size, 0, none⟩) 20 20) (w.alloc (.cells (List.replicate 20 (Value.int .u8 0)).toArray 5)) := fun _ => by kernel_rfl
  obtain ⟨wa, hwa⟩ : ∃ wa, wa = w.alloc (.cells (List.replicate 19 (Value.int .u8 0)).toArray 5) := ⟨_, rfl⟩
  have ha : Row8 w.heap.size wa (.slice (some ⟨w.heap.size, 0, none⟩) 19 19) (List.replicate 19 0) := by rw [hwa]; exact row8_lit w (List.replicate 19 0) _ (by decide) rfl
  have hba : Below w.heap.size w wa := by rw [hwa]; exact (Below.refl _ _).alloc (Nat.le_refl _) _
  have HP1 := Lib.hid (parse_any (some ⟨w.heap.size, 0, none⟩) 19 19 _ _ wa (row_reads ha) rfl (by decide) (by decide))
  have hm19 := hmk19 w
  rw [← hwa] at hm19
  have HBA := Lib.hid hba
  have HMK20 := Lib.hid hmk20
  have hp1 : prsF (List.replicate 19 0) = (hd0, [], 1) := by unfold prsF; rw [if_neg (by rw [k_wrong1]; decide), k_wrong1]
  have hp2 : prsF (List.replicate 20 0) = (hd0, [], 2) := by unfold prsF; rw [if_neg (by rw [k_wrong2]; decide), k_wrong2]
  have hp3 : prsF ([0x44] ++ List.replicate 40 0) = (hd0, [], 3) := by unfold prsF; rw [if_neg (by rw [k_wrong3]; decide), k_wrong3]
  rw [hp1] at HP1
  have HPP2 := Lib.hid hp2
  have HPP3 := Lib.hid hp3
  obtain ⟨i0, hi, hz0, hz1, hz2⟩ := info_parts info_u8
  clear hmk19 hmk20 ha hba hwa hp1 hp2 hp3
  go_enter Try.func15, Try.ntmps15
  go_wp2_with fail
  refine HP1.out.mono ?_
  rintro e w1 ⟨v, p, rfl, hv, _, _, hb1⟩
  obtain ⟨Av, cv, rfl, _⟩ := hv.form
  have hb1' := HBA.out.trans (hb1.mono HBA.out.size)
  obtain ⟨w2, hst, hb2, _⟩ := hd0_new hb1' hb1'.size Av 0 cv
  have HB2 := Lib.hid hb2
  obtain ⟨wb, hwb⟩ : ∃ wb, wb = w2.alloc (.cells (List.replicate 20 (Value.int .u8 0)).toArray 5) := ⟨_, rfl⟩
  have hbr : Row8 w2.heap.size wb (.slice (some ⟨w2.heap.size, 0, none⟩) 20 20) (List.replicate 20 0) := by rw [hwb]; exact row8_lit w2 (List.replicate 20 0) _ (by decide) rfl
  have hbb : Below w.heap.size w wb := by rw [hwb]; exact HB2.out.alloc HB2.out.size _
  have hm20 := HMK20.out w2
  rw [← hwb] at hm20
  have hp2 := parse_any (some ⟨w2.heap.size, 0, none⟩) 20 20 _ _ wb (row_reads hbr) rfl (by decide) (by decide)
  rw [HPP2.out] at hp2
  have HP2 := Lib.hid hp2
  have HBB := Lib.hid hbb
  clear hv hb1 hb1' hb2 hwb hbr hbb hp2 hm19
  simp only [hdV, hd0, List.length_nil]
  go_wp2_with fail
  refine HP2.out.mono ?_
  rintro e w3 ⟨v, p2, rfl, hv, _, _, hb3⟩
  obtain ⟨Av2, cv2, rfl, _⟩ := hv.form
  have hb3' := HBB.out.trans (hb3.mono HBB.out.size)
  obtain ⟨w4, hst2, hb4, _⟩ := hd0_new hb3' hb3'.size Av2 0 cv2
  have HB4 := Lib.hid hb4
  have hr4 := Lib.hid (row8_lit w4 [0x44] #[.int .u8 68] (by decide) rfl)
  have hw4 : Below w.heap.size w (w4.alloc (.cells #[.int .u8 68] 5)) := HB4.out.alloc HB4.out.size _
  have HW4 := Lib.hid hw4
  have hsz4 : w4.heap.size ≤ (w4.alloc (.cells #[.int .u8 68] 5)).heap.size := by simp
  clear hv hb3 hb3' hb4 hm20 hst hw4
  simp only [hdV, hd0, List.length_nil]
  go_wp2_with (at_builtin; refine wpList_append_zeros _ rfl (.tmp 28) (.const (.int .i64 40)) _ _ rfl w4.heap.size 5 .i64 i0 _ 1 Try.underlying22 Try.underlying3 hi hz0 hz1 hz2 rfl rfl _ _ _ rfl hr4.out 40 rfl (by decide) (by decide) hsz4 ?_; intro v5 w5 h5 hg5 _)
  have h5r : Row8 w4.heap.size w5 v5 ([0x44] ++ List.replicate 40 0) := by
    unfold Row8
    have e : bytesV ([0x44] ++ List.replicate 40 0) = bytesV [0x44] ++ List.replicate 40 (Value.int .u8 0) := by rw [bytesV_app]; rfl
    rw [e]
    exact h5
  obtain ⟨A5, c5, rfl, hc5⟩ := h5r.form
  have hl41 : ([0x44] ++ List.replicate 40 0 : By).length = 41 := rfl
  rw [hl41] at h5r hc5 ⊢
  have hp3 := parse_any A5 41 c5 _ _ w5 (row_reads h5r) rfl hc5 (by decide)
  rw [HPP3.out] at hp3
  have HP3 := Lib.hid hp3
  have HB5 := Lib.hid (HW4.out.grown hg5 HW4.out.size fun g hg => by have := (hr4.out.lt hg).1; have := HB4.out.size; omega)
  clear h5 h5r hp3 hl41 hg5 hsz4 hst2
  refine HP3.out.mono ?_
  rintro e w6 ⟨v, p3, rfl, hv, _, _, hb6⟩
  obtain ⟨Av3, cv3, rfl, _⟩ := hv.form
  have hb6' := HB5.out.trans (hb6.mono HB5.out.size)
  obtain ⟨w7, hst3, hb7, _⟩ := hd0_new hb6' hb6'.size Av3 0 cv3
  have HB7 := Lib.hid hb7
  have hby := bytes_yes kH (.slice none 0 0) (.slice none 0 0) [] (fun _ => True) w7 (sl_nil _ _) (sl_nil _ _) ⟨by decide, by decide, by decide, by decide, by decide, by decide⟩ k_fits
  have HBY := Lib.hid (show Calls Try.prog 29 #[.agg #[.int .u8 0, .int .u16 0, .bool false, .bool false, .bool false, .int .i64 0, .int .u8 9, .int .u8 1, .int .u32 1, .int .u32 2, .slice none 0 0], .slice none 0 0] w7 (BytPost w7 (bytesF kH []) 0) from hby)
  simp only [hdV, hd0, List.length_nil]
  clear hv hb6 hb6' hb7 hby
  go_wp2_with fail
  refine HBY.out.mono ?_
  rintro e w8 ⟨vb, rfl, hvb, hb8⟩
  rw [k_bytes] at hvb
  have HB8 := Lib.hid (HB7.out.trans (hb8.mono HB7.out.size))
  obtain ⟨gb, cb, rfl, hcb, _⟩ := hvb.blk (by decide)
  have hl20 : ([69, 0, 0, 20, 0, 0, 0, 0, 9, 1, 177, 231, 0, 0, 0, 1, 0, 0, 0, 2] : By).length = 20 := rfl
  rw [hl20] at hvb ⊢
  have HVB := Lib.hid hvb
  obtain ⟨w9, hw9⟩ : ∃ w9, w9 = w8.alloc (.cells #[.int .u8 1, .int .u8 131, .int .u8 3, .int .u8 9, .int .u8 0, .int .u8 5, .int .u8 5, .int .u8 5] 5) := ⟨_, rfl⟩
  have hko : Row8 w8.heap.size w9 (.slice (some ⟨w8.heap.size, 0, none⟩) 8 8) kO := by rw [hw9]; exact row8_lit w8 kO _ (by decide) rfl
  have hb9 : Below w8.heap.size w8 w9 := by rw [hw9]; exact (Below.refl _ _).alloc (Nat.le_refl _) _
  have HKO := Lib.hid hko
  have HB9 := Lib.hid (HB8.out.trans (hb9.mono HB8.out.size))
  have HVB9 := Lib.hid (hvb.below hb9)
  have hop := options_any (.slice (some ⟨w8.heap.size, 0, none⟩) 8 8) kO _ w9 hko.sl (by decide)
  unfold OptPost at hop
  rw [k_opts, k_good] at hop
  have HOP := Lib.hid hop
  have HW9 := Lib.hid hw9
  clear hvb hb8 hcb hl20 hko hb9 hop hst3 hw9
  go_upto_region 6 with (fail)
  rw [← HW9.out]
  go_wp2_with fail
  refine HOP.out.mono ?_
  rintro e wA ⟨vo, rfl, hvo, hbA⟩
  have HBA2 := Lib.hid (HB9.out.trans (hbA.mono HB9.out.size))
  have HVBA := Lib.hid (HVB9.out.below hbA)
  have HVO := Lib.hid hvo
  have HKOA := Lib.hid (HKO.out.below hbA)
  obtain ⟨Ao, co, rfl, _⟩ := hvo.form
  clear hvo hbA HVB HVB9
  go_wp2_with fail
  refine (num_any 0 wA).mono ?_
  rintro e _ ⟨rfl, rfl⟩
  have r0 := row_at HVBA.out (i := 0) rfl
  have r3 := row_at HVBA.out (i := 3) rfl
  have r8 := row_at HVBA.out (i := 8) rfl
  have r10 := row_at HVBA.out (i := 10) rfl
  have r11 := row_at HVBA.out (i := 11) rfl
  go_wp2_with fail
  obtain ⟨wX, hwX⟩ : ∃ wX, wX = wA.alloc (.cells #[.int .u8 9] 5) := ⟨_, rfl⟩
  obtain ⟨wB, hwB⟩ : ∃ wB, wB = wX.alloc (.cells #[.int .u8 131, .slice (some ⟨wA.heap.size, 0, none⟩) 1 1] 40) := ⟨_, rfl⟩
  have hxs : wX.heap.size = wA.heap.size + 1 := by rw [hwX]; simp
  have hbX : Below wA.heap.size wA wX := by rw [hwX]; exact (Below.refl _ _).alloc (Nat.le_refl _) _
  have hbY : Below wX.heap.size wX wB := by rw [hwB]; exact (Below.refl _ _).alloc (Nat.le_refl _) _
  have hbB : Below wA.heap.size wA wB := hbX.trans (hbY.mono (by omega))
  have hr9 : Row8 wA.heap.size wX (.slice (some ⟨wA.heap.size, 0, none⟩) 1 1) [9] := by rw [hwX]; exact row8_lit wA [9] _ (by decide) rfl
  have hov : OptV wB (fun k => k < wB.heap.size) (.slice (some ⟨wX.heap.size, 0, none⟩) 1 1) [(131, [9])] := by
    refine ⟨some ⟨wX.heap.size, 0, none⟩, 1, [(131, .slice (some ⟨wA.heap.size, 0, none⟩) 1 1)], rfl, ?_, ⟨rfl, ?_⟩, trivial⟩
    · have hk : Blk wB wX.heap.size 40 #[.int .u8 131, .slice (some ⟨wA.heap.size, 0, none⟩) 1 1] := by rw [hwB]; exact Blk.new _ _ _
      have := (reads_blk (n := 1) (size := 2) hk rfl).lt
      exact this.mono fun k hk => hk.2
    · exact ((hr9.below hbY).sl).mono fun k hk => hk.2
  have HBX := Lib.hid hbB
  have hso := sameopts_any _ _ _ _ (fun k => k < wB.heap.size) (fun k => k < wB.heap.size) wB (OptV.keep (HVO.out.view (J := fun k => k < wA.heap.size) fun k _ hk => hk) (Same.ofBelow hbB fun k hk => hk) |>.mono fun k hk => Nat.lt_of_lt_of_le hk hbB.size) hov (fun k hk => hk) (fun k hk => hk) (by decide)
  rw [decide_eq_true rfl] at hso
  have HSO := Lib.hid hso
  have hwB' : wB = (wA.alloc (.cells #[.int .u8 9] 5)).alloc (.cells #[.int .u8 131, .slice (some ⟨wA.heap.size, 0, none⟩) 1 1] 40) := by rw [hwB, hwX]
  have HWB := Lib.hid hwB'
  have HXS := Lib.hid hxs
  rw [hxs] at HSO
  clear hwX hwB hbX hbY hbB hr9 hov hso hwB' hxs r0 r3 r8 r10 r11
  rw [← HWB.out]
  refine HSO.out.mono ?_
  rintro e wC ⟨rfl, hbC⟩
  have HBC := Lib.hid ((HBA2.out.trans (HBX.out.mono HBA2.out.size)).trans (hbC.mono (by have := HBA2.out.size; have := HBX.out.size; omega)))
  have HKC := Lib.hid ((HKOA.out.below HBX.out).below hbC)
  have HCP := Lib.hid (copied_any (.slice (some ⟨w8.heap.size, 0, none⟩) 8 8) kO _ wC HKC.out.sl (by decide))
  clear hbC
  go_wp2_with fail
  refine HCP.out.mono ?_
  rintro e wD ⟨vc, rfl, hvc, hbD⟩
  rw [k_cop] at hvc
  obtain ⟨Ac, cc, rfl, _⟩ := hvc.form
  have hs4 := run_str wD _ Ac [131, 3, 9, 0] cc (row_reads hvc)
  have HBD := Lib.hid (HBC.out.trans (hbD.mono HBC.out.size))
  have HKD := Lib.hid (HKC.out.below hbD)
  have hrt := routed_any (.slice (some ⟨w8.heap.size, 0, none⟩) 8 8) kO _ wD HKD.out.sl (by decide)
  rw [k_routed] at hrt
  have HRT := Lib.hid hrt
  have hl4 : ([131, 3, 9, 0] : By).length = 4 := rfl
  rw [hl4] at hs4 ⊢
  clear hvc hbD hrt hl4
  go_wp2_with fail
  refine HRT.out.mono ?_
  rintro e wE ⟨rfl, hbE⟩
  have HBE := Lib.hid (HBD.out.trans (hbE.mono HBD.out.size))
  clear hbE
  go_wp2_with fail
  go_ret
  exact ⟨rfl, HBE.out⟩
end Go.Proofs.Ytfddkehnhkfjeaa
