/- Icmp: law04's known. -/
import Derived.Test.YtihfihehiifdkaaIcS
import Derived.Lib.SlBytesConst
namespace Go.Proofs.Ytihfihehiifdkaa
open Go.RowKit Go.Sort Go.BigFrame
theorem num4_any (n : Int) (w : World) : Calls Try.prog 15 #[.int .i64 n] w fun e w' => e = .returned (.int .i64 n) ∧ w = w' := by
  go_enter Try.func15, Try.ntmps15
  go_wp2_with fail
  go_ret
  exact ⟨rfl, rfl⟩
def k4M : Ic := ⟨8, 0, 0, 0, 0, 1, []⟩
def k4H : Hd := { hd0 with ttl := 1, proto := 17, src := 5, dst := 6 }
def k4X : By := [97, 98, 99, 100, 101, 102, 103, 104, 105, 106]
def k4P : By := bytesF k4H k4X
theorem k4_b : icB k4M = [8, 0, 247, 254, 0, 0, 0, 1] := by decide +kernel
theorem k4_of : (icOf (List.replicate 7 0)).2 = 4 := by decide +kernel
theorem k4_fits : fitsH k4H k4X = true := by decide +kernel
theorem k4_len : k4P.length = 30 := by decide +kernel
theorem k4_e1 : (errF 1 k4P 9 1).2 = 2 := by decide +kernel
theorem k4_e0 : (errF 1 k4P 9 0).2 = 0 ∧ (errF 1 k4P 9 0).1.length = 56 := by decide +kernel
theorem k4_e7 : (errF 1 (errF 1 k4P 9 0).1 9 0).2 = 7 := by decide +kernel
theorem ist11_any (w : World) : Calls Try.prog 28 #[.agg #[.int .u8 11, .int .u8 0, .int .u8 0, .int .u8 0, .int .u8 0, .int .u8 0, .slice none 0 0]] w fun e w' => e = .returned (.bool true) ∧ Below w.heap.size w w' := by
  have h := emerr_any 11 w
  rw [show errT 11 = true by decide, show ((((11 : UInt8).toNat : Nat)) : Int) = 11 by decide] at h
  exact h
theorem ist8_any (w : World) : Calls Try.prog 28 #[.agg #[.int .u8 8, .int .u8 0, .int .u8 0, .int .u8 0, .int .u8 0, .int .u8 0, .slice none 0 0]] w fun e w' => e = .returned (.bool false) ∧ Below w.heap.size w w' := by
  have h := emerr_any 8 w
  rw [show errT 8 = false by decide, show ((((8 : UInt8).toNat : Nat)) : Int) = 8 by decide] at h
  exact h
attribute [-go_sem] Instr.storeAt in
set_option maxRecDepth 100000 in
set_option maxHeartbeats 8000000 in
theorem known4_any (w : World) : Calls Try.prog 13 #[] w fun e w' => e = .returned (.bool true) ∧ Below w.heap.size w w' := by
  have hmk : ∀ w : World, (Instr.makeSlice 22 (.int .i64 7) (.int .i64 7)).run Try.prog w = .ok (.slice (some ⟨w.heap.size, 0, none⟩) 7 7) (w.alloc (.cells (List.replicate 7 (Value.int .u8 0)).toArray 5)) := fun _ => by kernel_rfl
  have b1 := fun wx : World => (show (Instr.build 43 #[(0, .int .u8 0), (1, .int .u8 0), (2, .int .u8 0), (3, .int .u8 1)]).run Try.prog wx = .ok (.agg #[.int .u8 0, .int .u8 0, .int .u8 0, .int .u8 1]) wx by kernel_rfl)
  have b2 := fun wx : World => (show (Instr.build 45 #[(0, .int .u8 8), (2, .agg #[.int .u8 0, .int .u8 0, .int .u8 0, .int .u8 1])]).run Try.prog wx = .ok (.agg #[.int .u8 8, .int .u8 0, .int .u8 0, .int .u8 0, .int .u8 0, .int .u8 1, .slice none 0 0]) wx by kernel_rfl)
  have b3 := fun wx : World => (show (Instr.build 32 #[(6, .int .u8 1), (7, .int .u8 17), (8, .int .u32 5), (9, .int .u32 6)]).run Try.prog wx = .ok (.agg #[.int .u8 0, .int .u16 0, .bool false, .bool false, .bool false, .int .i64 0, .int .u8 1, .int .u8 17, .int .u32 5, .int .u32 6, .slice none 0 0]) wx by kernel_rfl)
  have b4 := fun wx : World => (show (Instr.build 45 #[(0, .int .u8 11)]).run Try.prog wx = .ok (.agg #[.int .u8 11, .int .u8 0, .int .u8 0, .int .u8 0, .int .u8 0, .int .u8 0, .slice none 0 0]) wx by kernel_rfl)
  have b5 := fun wx : World => (show (Instr.build 45 #[(0, .int .u8 8)]).run Try.prog wx = .ok (.agg #[.int .u8 8, .int .u8 0, .int .u8 0, .int .u8 0, .int .u8 0, .int .u8 0, .slice none 0 0]) wx by kernel_rfl)
  have HB1 : Calls Try.prog 25 #[.agg #[.int .u8 8, .int .u8 0, .int .u8 0, .int .u8 0, .int .u8 0, .int .u8 1, .slice none 0 0]] w (IcBPost w (icB k4M)) := icbytes_any k4M (.slice none 0 0) (fun _ => True) w (sl_nil _ _) (by decide)
  go_enter Try.func13, Try.ntmps13
  go_wp2_with fail
  refine HB1.mono ?_
  rintro e w1 ⟨v1, rfl, h1, hb1⟩
  rw [k4_b] at h1
  obtain ⟨A1, c1, rfl, _⟩ := h1.form
  have H1 := Lib.hid h1
  have HB1' := Lib.hid hb1
  clear HB1 h1 hb1
  go_upto_region 2 with (fail)
  obtain ⟨W2, hW2⟩ : ∃ W, W = w1.alloc (.cells (List.replicate 7 (Value.int .u8 0)).toArray 5) := ⟨_, rfl⟩
  have hr2 : Row8 w1.heap.size W2 (.slice (some ⟨w1.heap.size, 0, none⟩) 7 7) (List.replicate 7 0) := by rw [hW2]; exact row8_lit w1 (List.replicate 7 0) _ (by decide) rfl
  have hb2 : Below w1.heap.size w1 W2 := by rw [hW2]; exact (Below.refl _ _).alloc (Nat.le_refl _) _
  have hof := icof_any (some ⟨w1.heap.size, 0, none⟩) 7 7 (List.replicate 7 0) _ W2 (hr2.reads.2) rfl (Nat.le_refl _) (by decide)
  obtain ⟨M, hM⟩ : ∃ M, M = (icOf (List.replicate 7 0)).1 := ⟨_, rfl⟩
  unfold OfPost at hof
  rw [k4_of, ← hM] at hof
  have HOF := Lib.hid hof
  have hm7 := hmk w1
  rw [← hW2] at hm7
  have H2 := Lib.hid (H1.out.below hb2)
  have HB2 := Lib.hid (HB1'.out.trans (hb2.mono HB1'.out.size))
  clear hr2 hb2 hof hM hmk hW2
  go_upto_region 3 with
    (go_at_call 22
     refine HOF.out.mono ?_
     rintro e w3 ⟨v3, rfl, h3, hb3⟩
     obtain ⟨A3, c3, rfl, _⟩ := h3.form
     have hb3' := HB2.out.trans (hb3.mono HB2.out.size)
     obtain ⟨w4, hst4, hb4, hb34, hk4⟩ := ic_var hb3' hb3'.size M A3 M.body.length c3
     have HB4 := Lib.hid hb4
     have H4 := Lib.hid ((H2.out.below hb3).below hb34)
     unfold icV
     clear h3 hb3 hb3' hb4 hb34 hk4)
  clear hst4 hm7
  obtain ⟨W5, hW5⟩ : ∃ W, W = w4.alloc (.cells #[.int .u8 97, .int .u8 98, .int .u8 99, .int .u8 100, .int .u8 101, .int .u8 102, .int .u8 103, .int .u8 104, .int .u8 105, .int .u8 106] 5 (10, 11)) := ⟨_, rfl⟩
  have hr5 : Sl8 W5 (fun _ => True) (.slice (some ⟨w4.heap.size, 0, none⟩) 10 10) k4X := by
    rw [hW5]
    exact ⟨some ⟨w4.heap.size, 0, none⟩, 10, rfl, by decide, (reads_lit w4 5 #[.int .u8 97, .int .u8 98, .int .u8 99, .int .u8 100, .int .u8 101, .int .u8 102, .int .u8 103, .int .u8 104, .int .u8 105, .int .u8 106] 10 1 (10, 11) rfl).mono (fun _ _ => trivial)⟩
  have hb5 : Below w4.heap.size w4 W5 := by rw [hW5]; exact (Below.refl _ _).alloc (Nat.le_refl _) _
  have hrb : Calls Try.prog 38 #[.agg #[.int .u8 0, .int .u16 0, .bool false, .bool false, .bool false, .int .i64 0, .int .u8 1, .int .u8 17, .int .u32 5, .int .u32 6, .slice none 0 0], .slice (some ⟨w4.heap.size, 0, none⟩) 10 10] W5 fun e w' => ∃ v, e = .returned v ∧ Row8 W5.heap.size w' v k4P ∧ Below W5.heap.size W5 w' := rbytes_any k4H (.slice none 0 0) (.slice (some ⟨w4.heap.size, 0, none⟩) 10 10) k4X (fun _ => True) W5 (sl_nil _ _) hr5 ⟨by decide, by decide, by decide, by decide, by decide, by decide⟩ k4_fits
  have HRB := Lib.hid hrb
  have H5 := Lib.hid (H4.out.below hb5)
  have HB5 := Lib.hid (HB4.out.trans (hb5.mono HB4.out.size))
  have cv := Lib.run_convert_bytes_const (P := Try.prog) w4 22 5 #[.int .u8 97, .int .u8 98, .int .u8 99, .int .u8 100, .int .u8 101, .int .u8 102, .int .u8 103, .int .u8 104, .int .u8 105, .int .u8 106] 10 10 Try.underlying22 Try.underlying5
  rw [show w4.alloc (.cells #[.int .u8 97, .int .u8 98, .int .u8 99, .int .u8 100, .int .u8 101, .int .u8 102, .int .u8 103, .int .u8 104, .int .u8 105, .int .u8 106] 5 ((#[.int .u8 97, .int .u8 98, .int .u8 99, .int .u8 100, .int .u8 101, .int .u8 102, .int .u8 103, .int .u8 104, .int .u8 105, .int .u8 106] : Array Value).size, (#[.int .u8 97, .int .u8 98, .int .u8 99, .int .u8 100, .int .u8 101, .int .u8 102, .int .u8 103, .int .u8 104, .int .u8 105, .int .u8 106] : Array Value).size + 1)) = W5 from hW5.symm] at cv
  clear hr5 hb5 hrb hW5
  go_upto_region 4 with
    (go_at_call 38
     refine HRB.out.mono ?_
     rintro e w6 ⟨v6, rfl, h6, hb6⟩
     obtain ⟨A6, c6, rfl, hc6⟩ := h6.form
     rw [k4_len] at hc6 ⊢
     have HC6 := Lib.hid hc6
     have H6 := Lib.hid h6
     have H16 := Lib.hid (H5.out.below hb6)
     have HB6 := Lib.hid (HB5.out.trans (hb6.mono HB5.out.size))
     clear h6 hb6 hc6)
  have hp6 := H6.out.reads.2
  rw [k4_len] at hp6
  have HER := Lib.hid (fun (z : Int) (wx : World) (hb : Below w6.heap.size w6 wx) => (icerror_any 1 z 9 A6 30 c6 k4P _ wx (by decide) (by decide) (hp6.keep (Same.ofBelow hb fun k hk => hk.2)) k4_len HC6.out (by decide) : Calls Try.prog 17 #[.int .i64 1, .slice A6 30 c6, .int .u32 9, .int .i64 z] wx (BytPost wx (errF 1 k4P 9 z).1 ((errF 1 k4P 9 z).2 : Int))))
  have he1 := HER.out 1 w6 (Below.refl _ _)
  rw [k4_e1] at he1
  obtain ⟨Q, hQ⟩ : ∃ Q, Q = (errF 1 k4P 9 0).1 := ⟨_, rfl⟩
  have hql : Q.length = 56 := by rw [hQ]; exact k4_e0.2
  have hq7 : (errF 1 Q 9 0).2 = 7 := by rw [hQ]; exact k4_e7
  have he0 := fun wx hb => HER.out 0 wx hb
  rw [k4_e0.1, ← hQ] at he0
  have HE1 := Lib.hid he1
  have HE0 := Lib.hid he0
  have HQL := Lib.hid hql
  have HQ7 := Lib.hid hq7
  clear hp6 HER he1 he0 hQ hql hq7
  go_upto_region 5 with
    (go_at_call 17
     refine HE1.out.mono ?_
     rintro e w7 ⟨v7, rfl, h7, hb7⟩
     obtain ⟨A7, c7, rfl, _⟩ := h7.form
     have H7 := Lib.hid (H16.out.below hb7)
     have HB7 := Lib.hid (HB6.out.trans (hb7.mono HB6.out.size))
     have HB67 := Lib.hid hb7
     clear h7 hb7)
  go_upto_region 6 with
    (go_at_call 17
     refine (HE0.out _ HB67.out).mono ?_
     rintro e w8 ⟨v8, rfl, h8, hb8⟩
     obtain ⟨A8, c8, rfl, hc8⟩ := h8.form
     rw [HQL.out] at hc8 ⊢
     have HC8 := Lib.hid hc8
     have H8 := Lib.hid h8
     have H18 := Lib.hid (H7.out.below hb8)
     have HB8 := Lib.hid (HB7.out.trans (hb8.mono HB7.out.size))
     clear h8 hb8 hc8)
  have hq8 := H8.out.reads.2
  rw [HQL.out] at hq8
  have he7 : Calls Try.prog 17 #[.int .i64 1, .slice A8 56 c8, .int .u32 9, .int .i64 0] w8 (BytPost w8 (errF 1 Q 9 0).1 ((errF 1 Q 9 0).2 : Int)) := icerror_any 1 0 9 A8 56 c8 Q _ w8 (by decide) (by decide) hq8 HQL.out HC8.out (by decide)
  rw [HQ7.out] at he7
  have HE7 := Lib.hid he7
  clear hq8 he7
  go_upto_region 7 with
    (go_at_call 17
     refine HE7.out.mono ?_
     rintro e w9 ⟨v9, rfl, h9, hb9⟩
     obtain ⟨A9, c9, rfl, _⟩ := h9.form
     have H9 := Lib.hid (H18.out.below hb9)
     have HB9 := Lib.hid (HB8.out.trans (hb9.mono HB8.out.size))
     clear h9 hb9)
  obtain ⟨g, cap, ev, _⟩ := H9.out.blk (by decide)
  obtain rfl : A1 = some ⟨g, 0, none⟩ := by injection ev
  have q2 := row_at H9.out (i := 2) (b := 247) rfl
  have q3 := row_at H9.out (i := 3) (b := 254) rfl
  have q2' : w9.cell? ⟨g, 2, none⟩ = some (.int .u8 247) := q2
  have q3' : w9.cell? ⟨g, 3, none⟩ = some (.int .u8 254) := q3
  have HT11 := Lib.hid (fun wx => ist11_any wx)
  have HT8 := Lib.hid (fun wx => ist8_any wx)
  clear ev q2 q3
  go_wp2_with (first
    | (go_at_call 15; refine (num4_any _ _).mono ?_; rintro e w' ⟨rfl, rfl⟩)
    | (go_at_call 28; (first
       | (refine (HT11.out _).mono ?_; rintro e w10 ⟨rfl, hb10⟩; have HB10 := Lib.hid (HB9.out.trans (hb10.mono HB9.out.size)); clear hb10 HT11)
       | (refine (HT8.out _).mono ?_; rintro e w11 ⟨rfl, hb11⟩; have HB11 := Lib.hid (HB10.out.trans (hb11.mono HB10.out.size)); clear hb11))))
  go_ret
  exact ⟨rfl, HB11.out⟩
end Go.Proofs.Ytihfihehiifdkaa
