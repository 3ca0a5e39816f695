/- ReassNil's walk. -/
import Derived.Test.YtihfihehiifdkaaRwA
import Derived.Lib.SlBytesConst
namespace Go.Proofs.Ytihfihehiifdkaa
open Go.RowKit Go.Sort
theorem nil_len (n : Nat) : (nilT n).length = n := by unfold nilT; simp
theorem tkpost_of {f : FuncId} {args : Array Value} {w : World} {tb mb : Nat} {G : List GF} {r r2 : List Fl × By × Nat} (hr : r = r2) (h : Calls Try.prog f args w (TkPost w tb mb G r)) : Calls Try.prog f args w (TkPost w tb mb G r2) := hr ▸ h
set_option maxRecDepth 100000 in
set_option maxHeartbeats 16000000 in
attribute [-go_sem] Instr.storeAt Instr.loadAt in
theorem reassnil_any (w : World) : Calls Try.prog 12 #[] w fun e w' => e = .returned (.bool true) ∧ Below w.heap.size w w' := by
  have hz8 : ∀ w : World, (Instr.makeSlice 22 (.int .i64 8) (.int .i64 8)).run Try.prog w = .ok (.slice (some ⟨w.heap.size, 0, none⟩) 8 8) (w.alloc (.cells (List.replicate 8 (Value.int .u8 0)).toArray 5)) := fun _ => by kernel_rfl
  have hz7 : ∀ w : World, (Instr.makeSlice 22 (.int .i64 7) (.int .i64 7)).run Try.prog w = .ok (.slice (some ⟨w.heap.size, 0, none⟩) 7 7) (w.alloc (.cells (List.replicate 7 (Value.int .u8 0)).toArray 5)) := fun _ => by kernel_rfl
  have bI := fun (wx : World) (z : Int) => (show (Instr.build 32 #[(4, .bool true), (1, .int .u16 z)]).run Try.prog wx = .ok (.agg #[.int .u8 0, .int .u16 z, .bool false, .bool false, .bool true, .int .i64 0, .int .u8 0, .int .u8 0, .int .u32 0, .int .u32 0, .slice none 0 0]) wx by kernel_rfl)
  have bO := fun (wx : World) (y z : Int) => (show (Instr.build 32 #[(5, .int .i64 y), (1, .int .u16 z)]).run Try.prog wx = .ok (.agg #[.int .u8 0, .int .u16 z, .bool false, .bool false, .bool false, .int .i64 y, .int .u8 0, .int .u8 0, .int .u32 0, .int .u32 0, .slice none 0 0]) wx by kernel_rfl)
  have bT := fun (wx : World) => (show (Instr.build 88 #[]).run Try.prog wx = .ok (.agg #[.map none]) wx by kernel_rfl)
  have HKN := Lib.hid (fun wx => known16_any wx)
  have HNM := Lib.hid (fun n wx => num16_any n wx)
  have HZ8 := Lib.hid hz8
  have HZ7 := Lib.hid hz7
  clear hz8 hz7
  go_enter Try.func12, Try.ntmps12
  go_upto_region 4 with
    (go_at_call 40
     refine (tnew_any w).mono ?_
     rintro e w1 ⟨tb, mb, rfl, ht1, hb1, hb2, hbl⟩
     have HTT := Lib.hid ht1
     have HTB := Lib.hid hb1
     have HMB := Lib.hid hb2
     have HB1 := Lib.hid hbl
     unfold ptrV
     clear ht1 hb1 hb2 hbl)
  have hmu1 : ∀ b, TbMut tb mb [] b → b = tb ∨ b = mb ∨ w1.heap.size ≤ b := fun b hb => by
    rcases hb with hb | hb | ⟨g, hg, _⟩
    · exact .inl hb
    · exact .inr (.inl hb)
    · cases hg
  have HS1 := Lib.hid (show TkS w w1 tb mb [] w1 from ⟨HTT.out, hmu1, ⟨Nat.le_refl _, fun _ _ _ => rfl⟩, HTB.out, HMB.out, HB1.out⟩)
  have HD1 := Lib.hid HB1.out.size
  clear hmu1
  go_wp2_with fail
  go_loopw [2] (fun s2 wr => ∃ (i : Nat) (G : List GF), s2 = .int .i64 (i : Int) ∧ i ≤ 64 ∧ TkS w w1 tb mb G wr ∧ G.map GF.f = nilT i) (fun s2 _ => 64 - (intOf s2).toNat)
  case atStart => exact ⟨0, [], rfl, Nat.zero_le _, HS1.out, rfl⟩
  case round =>
    obtain ⟨i, G, rfl, hi, hs, hg⟩ := hrel
    have HS := Lib.hid hs
    have HG := Lib.hid hg
    clear hs hg
    by_cases hlt : i < 64
    · have hi1 : (i : Int) < 64 := by omega
      have hcv : IntKind.u16.wrap (i : Int) = (i : Int) := by unfold IntKind.wrap; simp [IntKind.bits, IntKind.signed]; omega
      obtain ⟨Va, hVa⟩ : ∃ W, W = wr.alloc (.cells (List.replicate 8 (Value.int .u8 0)).toArray 5) := ⟨_, rfl⟩
      have hrn : Sl8 Va (fun _ => True) (.slice (some ⟨wr.heap.size, 0, none⟩) 8 8) z8 := by rw [hVa]; exact row_sl (row_zero wr 8 (by omega))
      have HSVa := Lib.hid (HS.out.keep (show Below wr.heap.size wr Va by rw [hVa]; exact (Below.refl _ _).alloc (Nat.le_refl _) _))
      have hby : Calls Try.prog 38 #[.agg #[.int .u8 0, .int .u16 (i : Int), .bool false, .bool false, .bool true, .int .i64 0, .int .u8 0, .int .u8 0, .int .u32 0, .int .u32 0, .slice none 0 0], .slice (some ⟨wr.heap.size, 0, none⟩) 8 8] Va fun e w' => ∃ v, e = .returned v ∧ Row8 Va.heap.size w' v (bytesF (nilH i) z8) ∧ Below Va.heap.size Va w' := rbytes_any (nilH i) (.slice none 0 0) (.slice (some ⟨wr.heap.size, 0, none⟩) 8 8) z8 (fun _ => True) Va (sl_nil _ _) hrn (nilH_ok (by omega)) (fits_of (nilH_may i) (by decide))
      have HBYa := Lib.hid hby
      have hmk := HZ8.out wr
      rw [← hVa] at hmk
      clear hrn hby hVa
      go_upto_region 8 with (first
        | (go_at_call 38
           refine HBYa.out.mono ?_
           rintro e xa ⟨v, rfl, hv, hb⟩
           obtain ⟨Aa, ca, rfl, hc⟩ := hv.form
           have HSXa := Lib.hid (HSVa.out.keep hb)
           have HTKa := Lib.hid (tkpost_of (show takeF (G.map GF.f) (bytesF (nilH i) z8) = (nilT (i + 1), [], 0) by rw [HG.out]; exact nil_step hlt) (rtake_any tb mb G Aa (bytesF (nilH i) z8).length ca (bytesF (nilH i) z8) _ xa HSXa.out.tbm hv.reads.2 rfl hc (by rw [bytesF_len]; simp [nilH, endH, z8, nilE])))
           clear hv hb hc)
        | (go_at_call 41
           refine HTKa.out.mono ?_
           intro e wa hp
           obtain ⟨v, Ga, he, hv, hg, hs, _⟩ := HSXa.out.take HD1.out hp
           subst he
           obtain ⟨Ba, da, rfl, _⟩ := hv.form
           have HVa := Lib.hid hv
           have HGa := Lib.hid hg
           have HSa := Lib.hid hs
           clear hp hv hg hs))
      clear HBYa HTKa hmk hcv
      go_wp2_with (go_at_call 43; refine (HNM.out _ _).mono ?_; rintro e w' ⟨rfl, rfl⟩)
      go_roundw
      case rel => exact ⟨i + 1, Ga, by go_num, by omega, HSa.out, HGa.out⟩
      case measure => simp [intOf]; omega
    · obtain rfl : i = 64 := by omega
      clear hlt hi
      obtain ⟨Vb, hVb⟩ : ∃ W, W = wr.alloc (.cells (List.replicate 8 (Value.int .u8 0)).toArray 5) := ⟨_, rfl⟩
      have hrn : Sl8 Vb (fun _ => True) (.slice (some ⟨wr.heap.size, 0, none⟩) 8 8) z8 := by rw [hVb]; exact row_sl (row_zero wr 8 (by omega))
      have HSVb := Lib.hid (HS.out.keep (show Below wr.heap.size wr Vb by rw [hVb]; exact (Below.refl _ _).alloc (Nat.le_refl _) _))
      have hby : Calls Try.prog 38 #[.agg #[.int .u8 0, .int .u16 999, .bool false, .bool false, .bool true, .int .i64 0, .int .u8 0, .int .u8 0, .int .u32 0, .int .u32 0, .slice none 0 0], .slice (some ⟨wr.heap.size, 0, none⟩) 8 8] Vb fun e w' => ∃ v, e = .returned v ∧ Row8 Vb.heap.size w' v (bytesF (nilH 999) z8) ∧ Below Vb.heap.size Vb w' := rbytes_any (nilH 999) (.slice none 0 0) (.slice (some ⟨wr.heap.size, 0, none⟩) 8 8) z8 (fun _ => True) Vb (sl_nil _ _) hrn (nilH_ok (by omega)) (fits_of (nilH_may 999) (by decide))
      have HBYb := Lib.hid hby
      have hmk := HZ8.out wr
      rw [← hVb] at hmk
      clear hrn hby hVb
      go_upto_region 11 with (first
        | (go_at_call 38
           refine HBYb.out.mono ?_
           rintro e xb ⟨v, rfl, hv, hb⟩
           obtain ⟨Ab, cb, rfl, hc⟩ := hv.form
           have HSXb := Lib.hid (HSVb.out.keep hb)
           have HTKb := Lib.hid (tkpost_of (show takeF (G.map GF.f) (bytesF (nilH 999) z8) = (nilT 64, [], 5) by rw [HG.out]; exact nil_full) (rtake_any tb mb G Ab (bytesF (nilH 999) z8).length cb (bytesF (nilH 999) z8) _ xb HSXb.out.tbm hv.reads.2 rfl hc (by rw [bytesF_len]; simp [nilH, endH, z8, nilE])))
           clear hv hb hc)
        | (go_at_call 41
           refine HTKb.out.mono ?_
           intro e wb hp
           obtain ⟨v, Gb, he, hv, hg, hs, _⟩ := HSXb.out.take HD1.out hp
           subst he
           obtain ⟨Bb, db, rfl, _⟩ := hv.form
           have HVb := Lib.hid hv
           have HGb := Lib.hid hg
           have HSb := Lib.hid hs
           clear hp hv hg hs))
      clear HBYb HTKb hmk
      obtain ⟨bo, hbl, hbo⟩ := nil_out
      have HBL := Lib.hid hbl
      have HBO := Lib.hid hbo
      clear hbl hbo
      obtain ⟨Vc, hVc⟩ : ∃ W, W = wb.alloc (.cells #[.int .u8 101, .int .u8 110, .int .u8 100] 5 (3, 4)) := ⟨_, rfl⟩
      have hrn : Sl8 Vc (fun _ => True) (.slice (some ⟨wb.heap.size, 0, none⟩) 3 3) nilE := by rw [hVc]; exact ⟨some ⟨wb.heap.size, 0, none⟩, 3, rfl, by decide, (reads_lit wb 5 #[.int .u8 101, .int .u8 110, .int .u8 100] 3 1 (3, 4) rfl).mono (fun _ _ => trivial)⟩
      have HSVc := Lib.hid (HSb.out.keep (show Below wb.heap.size wb Vc by rw [hVc]; exact (Below.refl _ _).alloc (Nat.le_refl _) _))
      have hby : Calls Try.prog 38 #[.agg #[.int .u8 0, .int .u16 5, .bool false, .bool false, .bool false, .int .i64 1, .int .u8 0, .int .u8 0, .int .u32 0, .int .u32 0, .slice none 0 0], .slice (some ⟨wb.heap.size, 0, none⟩) 3 3] Vc fun e w' => ∃ v, e = .returned v ∧ Row8 Vc.heap.size w' v (bytesF (endH 1 5) nilE) ∧ Below Vc.heap.size Vc w' := rbytes_any (endH 1 5) (.slice none 0 0) (.slice (some ⟨wb.heap.size, 0, none⟩) 3 3) nilE (fun _ => True) Vc (sl_nil _ _) hrn (endH_ok 1 5 (by omega) (by omega)) (by decide)
      have HBYc := Lib.hid hby
      have cv := Lib.run_convert_bytes_const (P := Try.prog) wb 22 5 #[.int .u8 101, .int .u8 110, .int .u8 100] 3 3 Try.underlying22 Try.underlying5
      rw [show wb.alloc (.cells #[.int .u8 101, .int .u8 110, .int .u8 100] 5 ((#[.int .u8 101, .int .u8 110, .int .u8 100] : Array Value).size, (#[.int .u8 101, .int .u8 110, .int .u8 100] : Array Value).size + 1)) = Vc from hVc.symm] at cv
      clear hrn hby hVc
      go_upto_region 12 with (first
        | (go_at_call 38
           refine HBYc.out.mono ?_
           rintro e xc ⟨v, rfl, hv, hb⟩
           obtain ⟨Ac, cc, rfl, hc⟩ := hv.form
           have HSXc := Lib.hid (HSVc.out.keep hb)
           have HTKc := Lib.hid (tkpost_of (show takeF (Gb.map GF.f) (bytesF (endH 1 5) nilE) = ((nilT 64).eraseIdx 5, bo, 0) by rw [HGb.out]; exact HBO.out) (rtake_any tb mb Gb Ac (bytesF (endH 1 5) nilE).length cc (bytesF (endH 1 5) nilE) _ xc HSXc.out.tbm hv.reads.2 rfl hc (by rw [bytesF_len]; simp [nilH, endH, z8, nilE])))
           clear hv hb hc)
        | (go_at_call 41
           refine HTKc.out.mono ?_
           intro e wc hp
           obtain ⟨v, Gc, he, hv, hg, hs, _⟩ := HSXc.out.take HD1.out hp
           subst he
           obtain ⟨Bc, dc, rfl, _⟩ := hv.form
           have HVc := Lib.hid hv
           have HGc := Lib.hid hg
           have HSc := Lib.hid hs
           clear hp hv hg hs))
      clear HBYc HTKc cv
      obtain ⟨Vd, hVd⟩ : ∃ W, W = wc.alloc (.cells (List.replicate 8 (Value.int .u8 0)).toArray 5) := ⟨_, rfl⟩
      have hrn : Sl8 Vd (fun _ => True) (.slice (some ⟨wc.heap.size, 0, none⟩) 8 8) z8 := by rw [hVd]; exact row_sl (row_zero wc 8 (by omega))
      have HSVd := Lib.hid (HSc.out.keep (show Below wc.heap.size wc Vd by rw [hVd]; exact (Below.refl _ _).alloc (Nat.le_refl _) _))
      have hby : Calls Try.prog 38 #[.agg #[.int .u8 0, .int .u16 999, .bool false, .bool false, .bool true, .int .i64 0, .int .u8 0, .int .u8 0, .int .u32 0, .int .u32 0, .slice none 0 0], .slice (some ⟨wc.heap.size, 0, none⟩) 8 8] Vd fun e w' => ∃ v, e = .returned v ∧ Row8 Vd.heap.size w' v (bytesF (nilH 999) z8) ∧ Below Vd.heap.size Vd w' := rbytes_any (nilH 999) (.slice none 0 0) (.slice (some ⟨wc.heap.size, 0, none⟩) 8 8) z8 (fun _ => True) Vd (sl_nil _ _) hrn (nilH_ok (by omega)) (fits_of (nilH_may 999) (by decide))
      have HBYd := Lib.hid hby
      have hmk := HZ8.out wc
      rw [← hVd] at hmk
      clear hrn hby hVd
      go_upto_region 13 with (first
        | (go_at_call 38
           refine HBYd.out.mono ?_
           rintro e xd ⟨v, rfl, hv, hb⟩
           obtain ⟨Ad, cd, rfl, hc⟩ := hv.form
           have HSXd := Lib.hid (HSVd.out.keep hb)
           have HTKd := Lib.hid (tkpost_of (show takeF (Gc.map GF.f) (bytesF (nilH 999) z8) = ((nilT 64).eraseIdx 5 ++ [nilF 999], [], 0) by rw [HGc.out]; exact nil_again) (rtake_any tb mb Gc Ad (bytesF (nilH 999) z8).length cd (bytesF (nilH 999) z8) _ xd HSXd.out.tbm hv.reads.2 rfl hc (by rw [bytesF_len]; simp [nilH, endH, z8, nilE])))
           clear hv hb hc)
        | (go_at_call 41
           refine HTKd.out.mono ?_
           intro e wd hp
           obtain ⟨v, Gd, he, hv, hg, hs, _⟩ := HSXd.out.take HD1.out hp
           subst he
           obtain ⟨Bd, dd, rfl, _⟩ := hv.form
           have HVd := Lib.hid hv
           have HGd := Lib.hid hg
           have HSd := Lib.hid hs
           clear hp hv hg hs))
      clear HBYd HTKd hmk
      obtain ⟨Ve, hVe⟩ : ∃ W, W = wd.alloc (.cells (List.replicate 8 (Value.int .u8 0)).toArray 5) := ⟨_, rfl⟩
      have hrn : Sl8 Ve (fun _ => True) (.slice (some ⟨wd.heap.size, 0, none⟩) 8 8) z8 := by rw [hVe]; exact row_sl (row_zero wd 8 (by omega))
      have HSVe := Lib.hid (HSd.out.keep (show Below wd.heap.size wd Ve by rw [hVe]; exact (Below.refl _ _).alloc (Nat.le_refl _) _))
      have hby : Calls Try.prog 38 #[.agg #[.int .u8 0, .int .u16 6, .bool false, .bool false, .bool false, .int .i64 8191, .int .u8 0, .int .u8 0, .int .u32 0, .int .u32 0, .slice none 0 0], .slice (some ⟨wd.heap.size, 0, none⟩) 8 8] Ve fun e w' => ∃ v, e = .returned v ∧ Row8 Ve.heap.size w' v (bytesF (endH 8191 6) z8) ∧ Below Ve.heap.size Ve w' := rbytes_any (endH 8191 6) (.slice none 0 0) (.slice (some ⟨wd.heap.size, 0, none⟩) 8 8) z8 (fun _ => True) Ve (sl_nil _ _) hrn (endH_ok 8191 6 (by omega) (by omega)) (by decide)
      have HBYe := Lib.hid hby
      have hmk := HZ8.out wd
      rw [← hVe] at hmk
      clear hrn hby hVe
      go_upto_region 14 with (first
        | (go_at_call 38
           refine HBYe.out.mono ?_
           rintro e xe ⟨v, rfl, hv, hb⟩
           obtain ⟨Ae, ce, rfl, hc⟩ := hv.form
           have HSXe := Lib.hid (HSVe.out.keep hb)
           have HTKe := Lib.hid (tkpost_of (show takeF (Gd.map GF.f) (bytesF (endH 8191 6) z8) = ((nilT 64).eraseIdx 5 ++ [nilF 999], [], 7) by rw [HGd.out]; exact nil_far) (rtake_any tb mb Gd Ae (bytesF (endH 8191 6) z8).length ce (bytesF (endH 8191 6) z8) _ xe HSXe.out.tbm hv.reads.2 rfl hc (by rw [bytesF_len]; simp [nilH, endH, z8, nilE])))
           clear hv hb hc)
        | (go_at_call 41
           refine HTKe.out.mono ?_
           intro e we hp
           obtain ⟨v, Ge, he, hv, hg, hs, _⟩ := HSXe.out.take HD1.out hp
           subst he
           obtain ⟨Be, de, rfl, _⟩ := hv.form
           have HVe := Lib.hid hv
           have HGe := Lib.hid hg
           have HSe := Lib.hid hs
           clear hp hv hg hs))
      clear HBYe HTKe hmk
      obtain ⟨T6, hl6, ht6⟩ := nil_last
      have HL6 := Lib.hid hl6
      have HT6 := Lib.hid ht6
      clear hl6 ht6
      obtain ⟨Vf, hVf⟩ : ∃ W, W = we.alloc (.cells (List.replicate 7 (Value.int .u8 0)).toArray 5) := ⟨_, rfl⟩
      have hrn : Sl8 Vf (fun _ => True) (.slice (some ⟨we.heap.size, 0, none⟩) 7 7) (List.replicate 7 0) := by rw [hVf]; exact row_sl (row_zero we 7 (by omega))
      have HSVf := Lib.hid (HSe.out.keep (show Below we.heap.size we Vf by rw [hVf]; exact (Below.refl _ _).alloc (Nat.le_refl _) _))
      have hby : Calls Try.prog 38 #[.agg #[.int .u8 0, .int .u16 6, .bool false, .bool false, .bool false, .int .i64 8191, .int .u8 0, .int .u8 0, .int .u32 0, .int .u32 0, .slice none 0 0], .slice (some ⟨we.heap.size, 0, none⟩) 7 7] Vf fun e w' => ∃ v, e = .returned v ∧ Row8 Vf.heap.size w' v (bytesF (endH 8191 6) (List.replicate 7 0)) ∧ Below Vf.heap.size Vf w' := rbytes_any (endH 8191 6) (.slice none 0 0) (.slice (some ⟨we.heap.size, 0, none⟩) 7 7) (List.replicate 7 0) (fun _ => True) Vf (sl_nil _ _) hrn (endH_ok 8191 6 (by omega) (by omega)) (by decide)
      have HBYf := Lib.hid hby
      have hmk := HZ7.out we
      rw [← hVf] at hmk
      clear hrn hby hVf
      go_upto_region 15 with (first
        | (go_at_call 38
           refine HBYf.out.mono ?_
           rintro e xf ⟨v, rfl, hv, hb⟩
           obtain ⟨Af, cf, rfl, hc⟩ := hv.form
           have HSXf := Lib.hid (HSVf.out.keep hb)
           have HTKf := Lib.hid (tkpost_of (show takeF (Ge.map GF.f) (bytesF (endH 8191 6) (List.replicate 7 0)) = (T6, [], 0) by rw [HGe.out]; exact HT6.out) (rtake_any tb mb Ge Af (bytesF (endH 8191 6) (List.replicate 7 0)).length cf (bytesF (endH 8191 6) (List.replicate 7 0)) _ xf HSXf.out.tbm hv.reads.2 rfl hc (by rw [bytesF_len]; simp [nilH, endH, z8, nilE])))
           clear hv hb hc)
        | (go_at_call 41
           refine HTKf.out.mono ?_
           intro e wf hp
           obtain ⟨v, Gf, he, hv, hg, hs, _⟩ := HSXf.out.take HD1.out hp
           subst he
           obtain ⟨Bf, df, rfl, _⟩ := hv.form
           have HVf := Lib.hid hv
           have HGf := Lib.hid hg
           have HSf := Lib.hid hs
           clear hp hv hg hs))
      clear HBYf HTKf hmk
      have hlf : Gf.length = 64 := by
        have := congrArg List.length HGf.out
        rw [List.length_map] at this
        rw [this]
        exact HL6.out
      have HLF := Lib.hid hlf
      have hbo31 := HBL.out
      have HN1 := Lib.hid (fun wx => nothing_any (w := wx) (tv := .pointer none) (.inl rfl))
      have HN2 := Lib.hid (fun wx : World => nothing_any (w := wx.alloc (.cells #[.map none] 88)) (tv := .pointer (some ⟨wx.heap.size, 0, none⟩)) (.inr ⟨_, rfl, Blk.new wx _ _⟩))
      clear hlf
      rw [hbo31]
      clear hbo31
      go_wp2_with (first
        | (go_at_call 43; refine (HNM.out _ _).mono ?_; rintro e w' ⟨rfl, rfl⟩)
        | (go_at_call 46; refine (tlen_any tb mb Gf _ HSf.out.tbm).mono ?_; rintro e w' ⟨rfl, rfl⟩; rw [HLF.out])
        | (go_at_call 57; ((with_reducible refine (HN1.out _).mono ?_); rintro e wg ⟨rfl, hbg⟩; have HSg := Lib.hid (HSf.out.keep hbg); clear hbg))
        | (go_at_call 57; ((with_reducible refine (HN2.out _).mono ?_); rintro e wh ⟨rfl, hbh⟩; have HSh := Lib.hid ((HSg.out.keep ((Below.refl _ _).alloc (Nat.le_refl _) _)).keep hbh); clear hbh))
        | (go_at_call 36; refine (HKN.out _).mono ?_; rintro e wk ⟨rfl, hbk⟩; have HBK := Lib.hid (HSh.out.below.trans (hbk.mono HSh.out.below.size)); clear hbk))
      go_ret
      exact ⟨rfl, HBK.out⟩
end Go.Proofs.Ytihfihehiifdkaa
