/- The checksum, second half: Total, Check, Good. -/
import Derived.Test.YtihfihehiifdkaaIpS
namespace Go.Proofs.Ytihfihehiifdkaa
open Go.RowKit
theorem sum_take {l : List Nat} {k : Nat} (h : k < l.length) : sumF (l.take (k + 1)) = addF (sumF (l.take k)) l[k] := by
  unfold sumF
  rw [List.take_succ_eq_append_getElem h, List.foldl_append]
  rfl
set_option maxRecDepth 20000 in
set_option maxHeartbeats 1600000 in
theorem rtotal_any (A : Option Addr) (n c : Nat) (x : By) (I : Nat → Prop) (w : World) (h : Reads w I 1 A n (bytesV x)) (hn : x.length = n) (hsm : n ≤ 1000000) :
    Calls Try.prog 61 #[.slice A n c] w fun e w' => e = .returned (.int .u16 (totalF x : Int)) ∧ Below w.heap.size w w' := by
  have HC := Lib.hid (words_any A n c x I w h hn hsm)
  have HW := Lib.hid (wordsF_lt x)
  have hml := words_len x
  obtain ⟨L, hL⟩ : ∃ L, L = wordsF x := ⟨_, rfl⟩
  have ht : totalF x = sumF L := by unfold totalF; rw [hL]
  rw [ht]
  obtain ⟨m, hm⟩ : ∃ m, m = L.length := ⟨_, rfl⟩
  have hmn : m ≤ 1000000 := by rw [hm, hL, hml, hn]; omega
  rw [← hL] at HC HW
  rw [← hm] at HC
  have HM := Lib.hid hm
  clear h hn hml hL ht hm
  go_enter Try.func61, Try.ntmps61
  go_wp2_with fail
  refine HC.out.mono ?_
  rintro e w1 ⟨v, rfl, hown, hb⟩
  obtain ⟨Aw, cw, rfl, _⟩ := own_form hown
  have HR := Lib.hid (Reads.of_own (I := fun _ => True) hown fun _ _ => trivial)
  have HB := Lib.hid hb
  clear hown hb
  go_wp2_with fail
  go_loop [4, 5] (fun s i => ∃ k : Nat, k ≤ m ∧ i = .int .i64 (k : Int) ∧ s = .int .u16 (sumF (L.take k) : Int)) (fun _ i => m - (intOf i).toNat)
  case atStart => exact ⟨0, by omega, rfl, rfl⟩
  case round =>
    obtain ⟨k, hk, rfl, rfl⟩ := hrel
    by_cases hlt : k < m
    · have hkl : k < L.length := by rw [← HM.out]; exact hlt
      obtain ⟨ad, rfl, _, _, hc⟩ := HR.out.2 (by omega)
      have hcell : w1.cell? (ad.add k) = some (.int .u16 (L[k] : Int)) := hc _ _ (by simp [u16V, List.getElem?_eq_getElem hkl])
      have hx := HW.out L[k] (List.getElem_mem hkl)
      have hs : sumF (L.take k) < 65536 := fold_lt _ _ (by omega) fun y hy => HW.out y (List.mem_of_mem_take hy)
      have hst := sum_take hkl
      obtain ⟨y, hy⟩ : ∃ y, y = L[k] := ⟨_, rfl⟩
      obtain ⟨s, hse⟩ : ∃ s, s = sumF (L.take k) := ⟨_, rfl⟩
      rw [← hy] at hcell hx hst
      rw [← hse] at hs hst ⊢
      have HA := Lib.hid (radd_any s y w1 hs hx)
      have HST := Lib.hid hst
      have hd0 : decide (k < m) = true := decide_eq_true hlt
      have hd1 : decide ((k : Int) < (m : Int)) = true := decide_eq_true (by omega)
      have hi0 : (0 : Int) ≤ k := by omega
      have hi1 : (k : Int) < m := by omega
      clear hc hst hy hse hx hs
      go_wp2_with fail
      refine HA.out.mono ?_
      rintro e w2 ⟨rfl, rfl⟩
      go_wp2_with fail
      go_round
      case rel => exact ⟨k + 1, by omega, by go_num, by rw [HST.out]⟩
      case measure => simp [intOf]; omega
    · obtain rfl : k = m := by omega
      have hd0 : decide (k < k) = false := by simp
      have hd1 : decide ((k : Int) < (k : Int)) = false := by simp
      have hx : L.take k = L := List.take_of_length_le (by rw [← HM.out]; exact Nat.le_refl _)
      rw [hx]
      go_wp2_with fail
      go_ret
      exact ⟨rfl, HB.out⟩
theorem rcheck_any (A : Option Addr) (n c : Nat) (x : By) (I : Nat → Prop) (w : World) (h : Reads w I 1 A n (bytesV x)) (hn : x.length = n) (hsm : n ≤ 1000000) :
    Calls Try.prog 72 #[.slice A n c] w fun e w' => e = .returned (.int .u16 (checkF x : Int)) ∧ Below w.heap.size w w' := by
  have HC := Lib.hid (rtotal_any A n c x I w h hn hsm)
  have ht := totalF_lt x
  clear h hn
  go_enter Try.func72, Try.ntmps72
  go_wp2_with fail
  refine HC.out.mono ?_
  rintro e w1 ⟨rfl, hb⟩
  go_wp2_with fail
  go_ret
  refine ⟨ret_u16 ?_, hb⟩
  unfold checkF
  omega
/-! ### The program's -/
/-- Three cells of the call's own: the sum, the last byte, whether their number is odd. -/
structure AccB (w : World) (bn bh bo : Nat) (s : Nat × Nat × Bool) : Prop where
  n : Blk w bn 30 #[.int .u16 (s.1 : Int)]
  h : Blk w bh 5 #[.int .u8 (s.2.1 : Int)]
  o : Blk w bo 4 #[.bool s.2.2]
def accStep (s : Nat × Nat × Bool) (c : Nat) : Nat × Nat × Bool := (if s.2.2 = true then addF s.1 (256 * s.2.1 + c) else s.1, c, !s.2.2)
theorem or8 (h b : Nat) (hh : h < 256) (hb : b < 256) : bits .or .u16 ((h : Int) * 256) (b : Int) = ((256 * h + b : Nat) : Int) := by
  have e := u16_or_nat (h * 256) b (by omega) (by omega)
  rw [or_byte h b hb, show h * 256 + b = 256 * h + b by omega] at e
  rw [← e]
  congr 1
set_option maxRecDepth 20000 in
set_option maxHeartbeats 1600000 in
theorem take_any (bn bh bo : Nat) (s : Nat × Nat × Bool) (c : Nat) (w : World) (hw : AccB w bn bh bo s) (h1 : bn ≠ bh) (h2 : bn ≠ bo) (h3 : bh ≠ bo) (hs : s.1 < 65536) (hh : s.2.1 < 256) (hc : c < 256) :
    Calls Try.prog 109 #[.int .u8 (c : Int), .pointer (some ⟨bo, 0, none⟩), .pointer (some ⟨bn, 0, none⟩), .pointer (some ⟨bh, 0, none⟩)] w fun e w' => e = .returned (.tuple #[]) ∧ AccB w' bn bh bo (accStep s c) ∧ Upd (fun k => k = bn ∨ k = bh ∨ k = bo) w w' := by
  obtain ⟨s1, s2, s3⟩ := s
  simp only at hs hh
  have kn := hw.n
  have kh := hw.h
  have ko := hw.o
  simp only at kn kh ko
  have o0 : w.cell? ⟨bo, 0, none⟩ = some (.bool s3) := ko.cell 0
  have n0 : w.cell? ⟨bn, 0, none⟩ = some (.int .u16 (s1 : Int)) := kn.cell 0
  have h0 : w.cell? ⟨bh, 0, none⟩ = some (.int .u8 (s2 : Int)) := kh.cell 0
  have fo : w.frozen? ⟨bo, 0, none⟩ = false := ko.frozen 0
  have fn : w.frozen? ⟨bn, 0, none⟩ = false := kn.frozen 0
  have fh : w.frozen? ⟨bh, 0, none⟩ = false := kh.frozen 0
  have KN := Lib.hid kn
  have KH := Lib.hid kh
  have KO := Lib.hid ko
  clear hw kn kh ko
  cases s3 with
  | true =>
    have HA := Lib.hid (add_any s1 (256 * s2 + c) w hs (by omega))
    have HO := Lib.hid (or8 s2 c hh hc)
    go_enter Try.func109, Try.ntmps109
    go_wp2_with fail
    rw [HO.out]
    refine HA.out.mono ?_
    rintro e w' ⟨rfl, rfl⟩
    go_wp2_with fail
    generalize hw1 : w.setCell ⟨bn, 0, none⟩ (.int .u16 (addF s1 (256 * s2 + c) : Int)) = w1
    have kn1 : Blk w1 bn 30 #[.int .u16 (addF s1 (256 * s2 + c) : Int)] := by rw [← hw1]; exact KN.out.set_ 0 _
    have kh1 : Blk w1 bh 5 #[.int .u8 (s2 : Int)] := by rw [← hw1]; exact KH.out.far (p := ⟨bn, 0, none⟩) (fun e => h1 e.symm) _
    have ko1 : Blk w1 bo 4 #[.bool true] := by rw [← hw1]; exact KO.out.far (p := ⟨bn, 0, none⟩) (fun e => h2 e.symm) _
    have hu1 : Upd (fun k => k = bn ∨ k = bh ∨ k = bo) w w1 := by rw [← hw1]; exact (Upd.refl _ _).setCell (p := ⟨bn, 0, none⟩) (.inl (.inl rfl)) _
    have o0 : w1.cell? ⟨bo, 0, none⟩ = some (.bool true) := ko1.cell 0
    have h0 : w1.cell? ⟨bh, 0, none⟩ = some (.int .u8 (s2 : Int)) := kh1.cell 0
    have fo : w1.frozen? ⟨bo, 0, none⟩ = false := ko1.frozen 0
    have fh : w1.frozen? ⟨bh, 0, none⟩ = false := kh1.frozen 0
    have KN1 := Lib.hid kn1
    have KH1 := Lib.hid kh1
    have KO1 := Lib.hid ko1
    have HU1 := Lib.hid hu1
    have h4 : bo ≠ bh := fun e => h3 e.symm
    clear kn1 kh1 ko1 hu1 hw1 n0 fn HA HO
    go_region
    go_end0
    refine ⟨rfl, ⟨?_, ?_, ?_⟩, ?_⟩
    · exact (((KN1.out.far (p := ⟨bh, 0, none⟩) h1 _).far (p := ⟨bo, 0, none⟩) h2 _)).drew
    · exact (((KH1.out.set_ 0 _).far (p := ⟨bo, 0, none⟩) h3 _)).drew
    · exact (((KO1.out.far (p := ⟨bh, 0, none⟩) h4 _).set_ 0 _)).drew
    · exact ((HU1.out.setCell (p := ⟨bh, 0, none⟩) (.inl (.inr (.inl rfl))) _).setCell (p := ⟨bo, 0, none⟩) (.inl (.inr (.inr rfl))) _).drew
  | false =>
    have h4 : bo ≠ bh := fun e => h3 e.symm
    go_enter Try.func109, Try.ntmps109
    go_wp2_with fail
    go_region
    go_end0
    refine ⟨rfl, ⟨?_, ?_, ?_⟩, ?_⟩
    · exact (((KN.out.far (p := ⟨bh, 0, none⟩) h1 _).far (p := ⟨bo, 0, none⟩) h2 _)).drew
    · exact (((KH.out.set_ 0 _).far (p := ⟨bo, 0, none⟩) h3 _)).drew
    · exact (((KO.out.far (p := ⟨bh, 0, none⟩) h4 _).set_ 0 _)).drew
    · exact (((Upd.refl _ _).setCell (p := ⟨bh, 0, none⟩) (.inl (.inr (.inl rfl))) _).setCell (p := ⟨bo, 0, none⟩) (.inl (.inr (.inr rfl))) _).drew
/-- Total of one list. -/
theorem accF_take {x : By} {k : Nat} (h : k < x.length) : accF (x.take (k + 1)) = accStep (accF (x.take k)) x[k].toNat := by
  rw [List.take_succ_eq_append_getElem h, accF_snoc]
  rfl
set_option maxRecDepth 20000 in
set_option maxHeartbeats 3200000 in
theorem total_any (la : Addr) (lc : Nat) (A : Option Addr) (n c : Nat) (x : By) (I : Nat → Prop) (w : World) (hl : w.cell? la = some (.slice A n c)) (h : Reads w I 1 A n (bytesV x)) (hn : x.length = n) (hsm : n ≤ 1000000) :
    Calls Try.prog 96 #[.slice (some la) 1 lc] w fun e w' => e = .returned (.int .u16 (totalF x : Int)) ∧ Below w.heap.size w w' := by
  obtain ⟨W0, hW0⟩ : ∃ W0, W0 = ((w.alloc (.cells #[.int .u16 0] 30)).alloc (.cells #[.int .u8 0] 5)).alloc (.cells #[.bool false] 4) := ⟨_, rfl⟩
  have hb0 : Below w.heap.size w W0 := by rw [hW0]; exact (((Below.refl _ _).alloc (Nat.le_refl _) _).alloc (by simp) _).alloc (by simp; omega) _
  have ha0 : AccB W0 w.heap.size (w.heap.size + 1) (w.heap.size + 1 + 1) (accF []) := by
    have hz : accF [] = (0, 0, false) := rfl
    rw [hW0, hz]
    refine ⟨((Blk.new _ _ _).alloc _).alloc _, ?_, ?_⟩
    · have := (Blk.new (w.alloc (.cells #[.int .u16 0] 30)) 5 #[.int .u8 0]).alloc (.cells #[.bool false] 4)
      simpa using this
    · have := Blk.new ((w.alloc (.cells #[.int .u16 0] 30)).alloc (.cells #[.int .u8 0] 5)) 4 #[.bool false]
      simpa using this
  have HW0 := Lib.hid hW0
  have HB0 := Lib.hid hb0
  have HA0 := Lib.hid ha0
  have HR := Lib.hid h.lt
  have HL := Lib.hid hn
  have hlb := block_lt_of_cell hl
  have hcl := fun (wx : World) (hb : Below w.heap.size w wx) => (hb.cell hlb).trans hl
  have HCL := Lib.hid hcl
  clear hW0 hb0 ha0 h hn hlb hcl hl
  go_enter Try.func96, Try.ntmps96
  go_wp2_with fail
  rw [← HW0.out]
  have hl0 := HCL.out _ HB0.out
  obtain ⟨bn, hbn⟩ : ∃ bn, bn = w.heap.size := ⟨_, rfl⟩
  have HBN := Lib.hid hbn
  have ha1 := HA0.out
  rw [← hbn] at ha1 ⊢
  have HA1 := Lib.hid ha1
  clear ha1 hbn HA0
  refine wp_loop_rounds 2 ?_
  rw [rounds_succ]
  go_wp2_with fail
  clear hl0
  go_loopw [19] (fun i wr => ∃ k : Nat, k ≤ n ∧ i = .int .i64 (k : Int) ∧ AccB wr bn (bn + 1) (bn + 1 + 1) (accF (x.take k)) ∧ Below w.heap.size w wr) (fun i _ => n - (intOf i).toNat)
  case atStart => exact ⟨0, by omega, rfl, HA1.out, HB0.out⟩
  case round =>
    obtain ⟨k, hk, rfl, hacc, hb⟩ := hrel
    have HACC := Lib.hid hacc
    have HB := Lib.hid hb
    have hrd := HR.out.keep (Same.ofBelow hb fun k hk => hk.2)
    clear hacc hb
    by_cases hlt : k < n
    · have hkx : k < x.length := by rw [HL.out]; exact hlt
      obtain ⟨ad, rfl, _, hc0⟩ := byte_at hrd hkx
      have hst := accF_take hkx
      have hbl := x[k].toNat_lt
      obtain ⟨b, hbe⟩ : ∃ b, b = x[k].toNat := ⟨_, rfl⟩
      rw [← hbe] at hc0 hst hbl
      obtain ⟨l1, l2⟩ := accF_lt (x.take k)
      have HT := Lib.hid (take_any bn (bn + 1) (bn + 1 + 1) (accF (x.take k)) b wr HACC.out (by omega) (by omega) (by omega) l1 l2 hbl)
      have HST := Lib.hid hst
      have hd0 : decide (k < n) = true := decide_eq_true hlt
      have hd1 : decide ((k : Int) < (n : Int)) = true := decide_eq_true (by omega)
      have hi0 : (0 : Int) ≤ k := by omega
      have hi1 : (k : Int) < n := by omega
      clear hst hbe hrd l1 l2
      go_wp2_with fail
      refine HT.out.mono ?_
      rintro e w2 ⟨rfl, h2, hu2⟩
      rw [← HST.out] at h2
      have H2 := Lib.hid h2
      have HB2 := Lib.hid (HB.out.trans (hu2.below (B := w.heap.size) (fun i hi => by have := HBN.out; omega) HB.out.size))
      clear h2 hu2
      go_wp2_with fail
      go_roundw
      case rel => exact ⟨k + 1, by omega, by go_num, H2.out, HB2.out⟩
      case measure => simp [intOf]; omega
    · obtain rfl : k = n := by omega
      have hd0 : decide (k < k) = false := by simp
      have hd1 : decide ((k : Int) < (k : Int)) = false := by simp
      have hx : x.take k = x := List.take_of_length_le (by rw [HL.out]; exact Nat.le_refl _)
      have hacc := HACC.out
      rw [hx] at hacc
      obtain ⟨l1, l2⟩ := accF_lt x
      have htot := acc_total x
      obtain ⟨s, hs⟩ : ∃ s, s = accF x := ⟨_, rfl⟩
      rw [← hs] at hacc l1 l2 htot
      obtain ⟨s1, s2, s3⟩ := s
      have kn : Blk wr bn 30 #[.int .u16 (s1 : Int)] := hacc.n
      have ko : Blk wr (bn + 1 + 1) 4 #[.bool s3] := hacc.o
      have n0 : wr.cell? ⟨bn, 0, none⟩ = some (.int .u16 (s1 : Int)) := kn.cell 0
      have o0 : wr.cell? ⟨bn + 1 + 1, 0, none⟩ = some (.bool s3) := ko.cell 0
      have HT := Lib.hid (take_any bn (bn + 1) (bn + 1 + 1) (s1, s2, s3) 0 wr hacc (by omega) (by omega) (by omega) l1 l2 (by omega))
      have HTO := Lib.hid htot
      clear hacc hx hs l1 l2 htot kn ko hrd hd0 hd1
      have hd0 : decide (k < k) = false := by simp
      have hd1 : decide ((k : Int) < (k : Int)) = false := by simp
      cases s3 with
      | false =>
        go_wp2_with fail
        rw [rounds_succ]
        go_wp2_with fail
        go_ret
        exact ⟨by rw [← HTO.out]; rfl, HB.out⟩
      | true =>
        go_wp2_with fail
        rw [rounds_succ]
        go_wp2_with fail
        refine HT.out.mono ?_
        rintro e w2 ⟨rfl, h2, hu2⟩
        have kn : Blk w2 bn 30 #[.int .u16 (addF s1 (256 * s2) : Int)] := h2.n
        have n0 : w2.cell? ⟨bn, 0, none⟩ = some (.int .u16 (addF s1 (256 * s2) : Int)) := kn.cell 0
        have HB2 := Lib.hid (HB.out.trans (hu2.below (B := w.heap.size) (fun i hi => by have := HBN.out; omega) HB.out.size))
        clear kn h2 hu2
        go_wp2_with fail
        go_ret
        exact ⟨by rw [← HTO.out]; rfl, HB2.out⟩
theorem check_any (la : Addr) (lc : Nat) (A : Option Addr) (n c : Nat) (x : By) (I : Nat → Prop) (w : World) (hl : w.cell? la = some (.slice A n c)) (h : Reads w I 1 A n (bytesV x)) (hn : x.length = n) (hsm : n ≤ 1000000) :
    Calls Try.prog 70 #[.slice (some la) 1 lc] w fun e w' => e = .returned (.int .u16 (checkF x : Int)) ∧ Below w.heap.size w w' := by
  have HC := Lib.hid (total_any la lc A n c x I w hl h hn hsm)
  have H1 := Lib.hid (not16 (totalF x) (totalF_lt x))
  clear h hn hl
  go_enter Try.func70, Try.ntmps70
  go_wp2_with fail
  refine HC.out.mono ?_
  rintro e w1 ⟨rfl, hb⟩
  go_wp2_with fail
  rw [H1.out]
  go_ret
  exact ⟨rfl, hb⟩
theorem good_any (A : Option Addr) (n c : Nat) (x : By) (I : Nat → Prop) (w : World) (h : Reads w I 1 A n (bytesV x)) (hn : x.length = n) (hsm : n ≤ 1000000) :
    Calls Try.prog 67 #[.slice A n c] w fun e w' => e = .returned (.bool (decide (totalF x = 65535))) ∧ Below w.heap.size w w' := by
  have hb0 : Below w.heap.size w (w.alloc (.cells #[.slice A n c] 22)) := (Below.refl _ _).alloc (Nat.le_refl _) _
  have HB0 := Lib.hid hb0
  have HC := Lib.hid (check_any ⟨w.heap.size, 0, none⟩ 1 A n c x (fun k => I k ∧ k < w.heap.size) _ (Blk.cell (Blk.new w 22 #[.slice A n c]) 0) (h.lt.keep (Same.ofBelow hb0 fun k hk => hk.2)) hn hsm)
  have ht := totalF_lt x
  have e1 : checkF x = 65535 - totalF x := rfl
  obtain ⟨t, htt⟩ : ∃ t, t = totalF x := ⟨_, rfl⟩
  rw [← htt] at e1 ht ⊢
  rw [e1] at HC
  clear h hn hb0 e1 htt
  go_enter Try.func67, Try.ntmps67
  go_wp2_with fail
  refine HC.out.mono ?_
  rintro e w1 ⟨rfl, hb⟩
  have HB1 := Lib.hid (HB0.out.trans (hb.mono HB0.out.size))
  clear hb
  by_cases h65 : t = 65535
  · subst h65
    go_wp2_with fail
    go_ret
    exact ⟨rfl, HB1.out⟩
  · have hd : decide (t = 65535) = false := decide_eq_false h65
    go_wp2_with fail
    go_ret
    refine ⟨?_, HB1.out⟩
    rw [hd]
    show Ending.returned (.bool (((65535 - t : Nat) : Int) == 0)) = _
    have hz : (((65535 - t : Nat) : Int) == 0) = false := by rw [beq_eq_false_iff_ne]; omega
    rw [hz]
end Go.Proofs.Ytihfihehiifdkaa
