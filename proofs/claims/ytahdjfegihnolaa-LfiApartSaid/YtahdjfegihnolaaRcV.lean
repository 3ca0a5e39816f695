/- Layer 12: LfiApart, the walk. -/
import Derived.Test.YtahdjfegihnolaaRcU
namespace Go.Proofs.Ytahdjfegihnolaa
open Go.RowKit Go.Sort
def tenP : Pf := (167772160, 8)
theorem new_ten {room : Int} (h0 : 0 ≤ room) (h1 : room ≤ 64) : newF room [tenP] = some [ownE tenP] := by
  rw [newF_eq, if_pos ⟨h0, h1, by decide⟩]
  rfl
set_option maxRecDepth 100000 in
set_option maxHeartbeats 16000000 in
attribute [-go_sem] Instr.storeAt Instr.loadAt in
theorem apart_any (room : Int) (A : Option Addr) (n c : Nat) (l1 : List Ev) (B : Option Addr) (m d : Nat) (l2 : List Ev) (w : World) (r : Reads w (fun k => k < w.heap.size) 6 A n (l1.flatMap evC)) (hl : l1.length = n) (hp : ∀ e ∈ l1, e.p.1 < 2 ^ 32)
    (r2 : Reads w (fun k => k < w.heap.size) 6 B m (l2.flatMap evC)) (hl2 : l2.length = m) (hp2 : ∀ e ∈ l2, e.p.1 < 2 ^ 32) :
    Calls Try.prog 6 #[.int .i64 room, .slice A n c, .slice B m d] w fun e w' => e = .returned (.bool true) ∧ Below w.heap.size w w' := by
  have HR1 := Lib.hid r
  have HL1 := Lib.hid hl
  have HP1 := Lib.hid hp
  have HR2 := Lib.hid r2
  have HL2 := Lib.hid hl2
  have HP2 := Lib.hid hp2
  clear r hl hp r2 hl2 hp2
  by_cases hb1 : 100 < n
  · have hd1 : decide (100 < (n : Int)) = true := decide_eq_true (by omega)
    go_enter Try.func6, Try.ntmps6
    go_wp2_with (go_at_call 10; refine (known12_any _).mono ?_; rintro e w' ⟨rfl, hb⟩)
    go_ret
    exact ⟨rfl, hb⟩
  have hd1 : decide (100 < (n : Int)) = false := decide_eq_false (by omega)
  by_cases hb2 : 100 < m
  · have hd2 : decide (100 < (m : Int)) = true := decide_eq_true (by omega)
    go_enter Try.func6, Try.ntmps6
    go_wp2_with (go_at_call 10; refine (known12_any _).mono ?_; rintro e w' ⟨rfl, hb⟩)
    go_ret
    exact ⟨rfl, hb⟩
  have hd2 : decide (100 < (m : Int)) = false := decide_eq_false (by omega)
  by_cases hr0 : room < 0
  · go_enter Try.func6, Try.ntmps6
    go_wp2_with (go_at_call 10; refine (known12_any _).mono ?_; rintro e w' ⟨rfl, hb⟩)
    go_ret
    exact ⟨rfl, hb⟩
  by_cases hr1 : 64 < room
  · go_enter Try.func6, Try.ntmps6
    go_wp2_with (go_at_call 10; refine (known12_any _).mono ?_; rintro e w' ⟨rfl, hb⟩)
    go_ret
    exact ⟨rfl, hb⟩
  have hnf := new_ten (room := room) (by omega) (by omega)
  obtain ⟨W1, hW1⟩ : ∃ Z, Z = w.alloc (.cells #[.int .u32 167772160, .int .i64 8] 36) := ⟨_, rfl⟩
  have hb0 : Below w.heap.size w W1 := by rw [hW1]; exact (Below.refl _ _).alloc (Nat.le_refl _) _
  have hk1 : Blk W1 w.heap.size 36 #[.int .u32 167772160, .int .i64 8] := by rw [hW1]; exact Blk.new _ _ _
  have hrd : ∀ wz, Below W1.heap.size W1 wz → Reads wz (fun k => k < wz.heap.size) 2 (some ⟨w.heap.size, 0, none⟩) 1 (flatP [tenP]) := fun wz hz => by
    have hkz := hk1.below hz hk1.lt
    refine ⟨rfl, fun _ => ⟨⟨w.heap.size, 0, none⟩, rfl, hkz.lt, hkz.lt, fun j u hu => ?_⟩⟩
    rw [add_off, Nat.zero_add, hkz.cell]
    have : flatP [tenP] = [.int .u32 167772160, .int .i64 8] := rfl
    rw [this] at hu
    simpa using hu
  have hnw := core_new room (some ⟨w.heap.size, 0, none⟩) 1 1 [tenP] W1 (hrd W1 (Below.refl _ _)) rfl (fun p hp => by obtain rfl := List.mem_singleton.1 hp; decide)
  have HRN := Lib.hid (fun wz (hz : Below W1.heap.size W1 wz) => new12_any room (some ⟨w.heap.size, 0, none⟩) 1 1 [tenP] wz (hrd wz hz) rfl (fun p hp => by obtain rfl := List.mem_singleton.1 hp; decide))
  unfold MadeC at hnw
  rw [hnf] at hnw
  have HNW := Lib.hid hnw
  have HNF := Lib.hid hnf
  have HW1 := Lib.hid hW1
  have HB0 := Lib.hid hb0
  clear hnw hnf hW1 hb0 hk1 hrd
  go_enter Try.func6, Try.ntmps6
  go_upto_region 4 with (fail)
  rw [← HW1.out]
  go_upto_region 5 with (go_at_call 11; refine HNW.out.mono ?_; rintro e w2 ⟨cb, mb, M, rfl, hc2⟩; have HC2 := Lib.hid hc2; have HRN2 := Lib.hid (HRN.out w2 hc2.bel); clear hc2)
  have hrn := HRN2.out
  unfold New12 at hrn
  rw [HNF.out] at hrn
  have HRN3 := Lib.hid hrn
  clear hrn
  go_upto_region 6 with (go_at_call 18; refine HRN3.out.mono ?_; rintro e w3 ⟨rb, av, rfl, hr3, hb3, hrb3⟩; have HC3 := Lib.hid (HC2.out.later hb3); have HX3 := Lib.hid (mk_rcore HNF.out HC2.out.bel hr3 hb3 hrb3); clear hr3 hb3 hrb3)
  go_wp2_with fail
  go_loopw [12] (fun s12 wr => ∃ (k : Nat) (M N : Nat → Prop) (S : Lc), k ≤ n ∧ s12 = .int .i64 (k : Int) ∧ Both W1 wr M N cb mb rb S) (fun s12 _ => n - (intOf s12).toNat)
  case atStart => exact ⟨0, M, _, _, Nat.zero_le _, rfl, HC3.out, HX3.out⟩
  case round =>
    clear HC3 HX3 HC2 HRN2 HRN3
    obtain ⟨k, M1, N1, S, hk, rfl, hBo⟩ := hrel
    have HBo := Lib.hid hBo
    have k0 : (0 : Int) ≤ k := by omega
    by_cases hlt : k < n
    · obtain ⟨e, hek⟩ : ∃ e, l1[k]? = some e := ⟨_, List.getElem?_eq_getElem (by rw [HL1.out]; exact hlt)⟩
      have hbw := HB0.out.trans (hBo.c.bel.mono HB0.out.size)
      have HEV := Lib.hid (fun wz (h : Below w.heap.size w wz) => ld_evR HR1.out HL1.out h hek)
      obtain ⟨ad, rfl, lv⟩ := ld_evR HR1.out HL1.out hbw hek
      have hp9 := HP1.out e (List.mem_of_getElem? hek)
      have HDO := Lib.hid (core_do hBo.c e hp9)
      have HP9 := Lib.hid hp9
      have k1 : (k : Int) < n := by omega
      clear hBo hek hbw hp9
      go_upto_region 12 with (go_at_call 12; refine HDO.out.mono ?_; rintro en w4 ⟨v, rfl, hd4⟩; have HR4 := Lib.hid (HBo.out.r.doneC HBo.out.c hd4); obtain ⟨M4, _, hc4, _, _⟩ := hd4; have HC4 := Lib.hid hc4; clear hc4)
      clear lv
      have lv : (Instr.loadAt 38 (.pointer (some (ad.add (k * 6))))).run Try.prog w4 = .ok (.agg #[.int .i64 e.kind, .int .i64 e.port, .int .i64 e.cost, .int .u32 (e.p.1 : Int), .int .i64 e.p.2, .int .i64 e.dist]) w4 := by
        obtain ⟨ad2, e9, h9⟩ := HEV.out w4 (HB0.out.trans (HC4.out.bel.mono HB0.out.size))
        injection e9 with e9
        rw [e9]; exact h9
      have HDR := Lib.hid (rcore_do HR4.out e HP9.out)
      go_wp2_with (go_at_call 19; refine HDR.out.mono ?_; rintro en w5 ⟨v5, rfl, hd5⟩; have HC5 := Lib.hid (HC4.out.doneR HR4.out hd5); obtain ⟨N5, _, hr5, _, _⟩ := hd5; have HR5 := Lib.hid hr5; clear hr5)
      go_roundw
      case rel => exact ⟨k + 1, _, _, _, by omega, by go_num, HC5.out, HR5.out⟩
      case measure => simp [intOf]; omega
    · obtain rfl : k = n := by omega
      have HCP := Lib.hid (core_copy hBo.c)
      clear hBo
      obtain ⟨wo, rfl⟩ : ∃ wo : World, wo = wr := ⟨_, rfl⟩
      go_upto_region 14 with (go_at_call 20; refine HCP.out.mono ?_; rintro en w6 ⟨cb2, mb2, M2, rfl, hc6, hb6, hm6⟩; have HB6 := Lib.hid (HBo.out.later hb6); have HC6 := Lib.hid hc6; have HAP := Lib.hid (show ∀ b, M1 b → ¬ M2 b from fun b h1 h2 => by have := HBo.out.c.lt b h1; have := hm6 b h2; omega); clear hb6 hc6 hm6)
      go_wp2_with fail
      go_loopw [14] (fun s14 wr => ∃ (k : Nat) (M : Nat → Prop), k ≤ m ∧ s14 = .int .i64 (k : Int) ∧ Core W1 wr M cb mb (runF S (l2.take k)) ∧ Core W1 wr M2 cb2 mb2 S ∧ RCore W1 wr N1 rb S ∧ ∀ b, M b → ¬ M2 b) (fun s14 _ => m - (intOf s14).toNat)
      case atStart => exact ⟨0, M1, Nat.zero_le _, rfl, HB6.out.c, HC6.out, HB6.out.r, HAP.out⟩
      case round =>
        clear HB6 HC6 HAP HCP
        obtain ⟨j, M4, hj, rfl, hc, hd, hr, hap⟩ := hrel
        have HC := Lib.hid hc
        have HD := Lib.hid hd
        have HR := Lib.hid hr
        have HAP := Lib.hid hap
        have j0 : (0 : Int) ≤ j := by omega
        by_cases hjm : j < m
        · obtain ⟨e, hek⟩ : ∃ e, l2[j]? = some e := ⟨_, List.getElem?_eq_getElem (by rw [HL2.out]; exact hjm)⟩
          obtain ⟨ad, rfl, lv⟩ := ld_evR HR2.out HL2.out (HB0.out.trans (hc.bel.mono HB0.out.size)) hek
          have HDO := Lib.hid (core_do hc e (HP2.out e (List.mem_of_getElem? hek)))
          have HRU := Lib.hid (runF_succ (S := S) hek)
          have j1 : (j : Int) < m := by omega
          clear hc hd hr hap hek
          go_wp2_with (go_at_call 12; refine HDO.out.mono ?_; rintro en w7 ⟨v, rfl, hd7⟩; have HR7 := Lib.hid (HR.out.doneC HC.out hd7); have HX7 := Lib.hid (HD.out.doneC HC.out HAP.out hd7); clear hd7)
          go_roundw
          case rel =>
            obtain ⟨h1, M8, h2, h3⟩ := HX7.out
            exact ⟨j + 1, M8, by omega, by go_num, by rw [HRU.out]; exact h2, h1, HR7.out, h3⟩
          case measure => simp [intOf]; omega
        · obtain rfl : j = m := by omega
          have hc1 : runF S (l2.take j) = runF S l2 := by rw [List.take_of_length_le (by rw [HL2.out]; exact Nat.le_refl _)]
          rw [hc1] at HC
          have HSA := Lib.hid (both_same (M := M2) (N := N1) (S := S) ⟨hd, hr⟩)
          obtain ⟨T, hT⟩ : ∃ T, T = runF S l2 := ⟨_, rfl⟩
          rw [← hT] at HC
          have HT := Lib.hid hT
          clear hc hd hr hap hc1 hT
          obtain ⟨wp, rfl⟩ : ∃ wp : World, wp = wr := ⟨_, rfl⟩
          go_wp2_with (go_at_call 21; refine HSA.out.mono ?_; rintro en w8 ⟨rfl, hb8⟩; have HC8 := Lib.hid (HC.out.later hb8); have HD8 := Lib.hid (HD.out.later hb8); have HR8 := Lib.hid (HR.out.later hb8); clear hb8)
          go_loopw [15] (fun s15 wr => ∃ (k : Nat) (M3 N : Nat → Prop), k ≤ j ∧ s15 = .int .i64 (k : Int) ∧ Core W1 wr M4 cb mb T ∧ Core W1 wr M3 cb2 mb2 (runF S (l2.take k)) ∧ RCore W1 wr N rb (runF S (l2.take k)) ∧ ∀ b, M3 b → ¬ M4 b) (fun s15 _ => j - (intOf s15).toNat)
          case atStart => exact ⟨0, M2, N1, Nat.zero_le _, rfl, HC8.out, HD8.out, HR8.out, fun b h1 h2 => HAP.out b h2 h1⟩
          case round =>
            clear HC8 HD8 HR8 HAP HSA
            obtain ⟨i, M5, N5, hi, rfl, hc, hd, hr, hap⟩ := hrel
            have HC := Lib.hid hc
            have HD := Lib.hid hd
            have HR := Lib.hid hr
            have HAP := Lib.hid hap
            have i0 : (0 : Int) ≤ i := by omega
            by_cases hij : i < j
            · obtain ⟨e, hek⟩ : ∃ e, l2[i]? = some e := ⟨_, List.getElem?_eq_getElem (by rw [HL2.out]; exact hij)⟩
              have HEV := Lib.hid (fun wz (h : Below w.heap.size w wz) => ld_evR HR2.out HL2.out h hek)
              obtain ⟨ad, rfl, lv⟩ := ld_evR HR2.out HL2.out (HB0.out.trans (hc.bel.mono HB0.out.size)) hek
              have hp9 := HP2.out e (List.mem_of_getElem? hek)
              have hdo := core_do hd e hp9
              have HP9 := Lib.hid hp9
              have HRU := Lib.hid (runF_succ (S := S) hek)
              have HLN := Lib.hid (do_outR hd.ok e)
              have i1 : (i : Int) < j := by omega
              obtain ⟨Q, hQ⟩ : ∃ Q, Q = runF S (l2.take i) := ⟨_, rfl⟩
              rw [← hQ] at hdo HRU HD HR HLN
              obtain ⟨cd, hcd⟩ : ∃ z : Nat, z = (doF Q e).2.2 := ⟨_, rfl⟩
              rw [← hcd] at hdo
              have HCD := Lib.hid hcd
              have HDO := Lib.hid hdo
              clear hc hd hr hap hek hp9 hdo hQ hcd
              go_upto_region 24 with (go_at_call 12; refine HDO.out.mono ?_; rintro en w9 ⟨v, rfl, hd9⟩; have HR9 := Lib.hid (HR.out.doneC HD.out hd9); have HX9 := Lib.hid (HC.out.doneC HD.out HAP.out hd9); have HO9 := Lib.hid (show OutM w9 wr.heap.size v (doF Q e).2.1 by obtain ⟨_, h, _⟩ := hd9; exact h); clear hd9)
              obtain ⟨M8, hc8, hap8⟩ := HX9.out.2
              have HC9 := Lib.hid HX9.out.1
              have HD9 := Lib.hid hc8
              have HAP9 := Lib.hid hap8
              clear lv hc8 hap8
              have lv : (Instr.loadAt 38 (.pointer (some (ad.add (i * 6))))).run Try.prog w9 = .ok (.agg #[.int .i64 e.kind, .int .i64 e.port, .int .i64 e.cost, .int .u32 (e.p.1 : Int), .int .i64 e.p.2, .int .i64 e.dist]) w9 := by
                obtain ⟨ad2, e9, h9⟩ := HEV.out w9 (HB0.out.trans (HC9.out.bel.mono HB0.out.size))
                injection e9 with e9
                rw [e9]; exact h9
              have hdr := rcore_do HR9.out e HP9.out
              rw [← HCD.out] at hdr
              have HDR := Lib.hid hdr
              clear hdr
              go_upto_region 25 with (go_at_call 19; refine HDR.out.mono ?_; rintro en w10 ⟨v5, rfl, hd10⟩; have HC10 := Lib.hid (HC9.out.doneR HR9.out hd10); have HD10 := Lib.hid (HD9.out.doneR HR9.out hd10); have HO10 := Lib.hid (show OutM w10 wr.heap.size v (doF Q e).2.1 by obtain ⟨_, _, _, _, h⟩ := hd10; exact HR9.out.out HO9.out h); have HQ10 := Lib.hid (show OutM w10 w9.heap.size v5 (doF Q e).2.1 by obtain ⟨_, h, _⟩ := hd10; exact h); obtain ⟨N6, _, hr10, _, _⟩ := hd10; have HR10 := Lib.hid hr10; clear hr10)
              obtain ⟨Av, cv, hv, _⟩ := own_form HO10.out
              obtain ⟨A5, c5, hv5, _⟩ := own_form HQ10.out
              subst hv
              subst hv5
              obtain ⟨no, hno⟩ : ∃ z, z = (doF Q e).2.1.length := ⟨_, rfl⟩
              have hst := sametold_any HO10.out HQ10.out rfl (by have := HLN.out; omega)
              rw [← hno] at hst ⊢
              have HST := Lib.hid hst
              clear hst hno lv
              go_wp2_with (go_at_call 22; refine HST.out.mono ?_; rintro en w11 ⟨rfl, hb11⟩; have HB11 := Lib.hid hb11; clear hb11)
              go_roundw
              case rel => exact ⟨i + 1, M8, N6, by omega, by go_num, HC10.out.later HB11.out, by rw [HRU.out]; exact HD10.out.later HB11.out, by rw [HRU.out]; exact HR10.out.later HB11.out, HAP9.out⟩
              case measure => simp [intOf]; omega
            · obtain rfl : i = j := by omega
              have hc1 : runF S (l2.take i) = T := by rw [HT.out, List.take_of_length_le (by rw [HL2.out]; exact Nat.le_refl _)]
              rw [hc1] at hd hr
              have HS1 := Lib.hid (both_same (M := M5) (N := N5) (S := T) ⟨hd, hr⟩)
              have HS2 := Lib.hid (fun wz (hb : Below wr.heap.size wr wz) => both_same (M := M4) (N := N5) (S := T) ⟨hc.later hb, hr.later hb⟩)
              have HBW := Lib.hid (HB0.out.trans (hc.bel.mono HB0.out.size))
              clear hc hd hr hap hc1
              go_wp2_with (first
                | (go_at_call 10; refine (known12_any _).mono ?_; rintro e w9 ⟨rfl, hb9⟩; have HB9 := Lib.hid hb9; clear hb9)
                | (with_reducible refine Calls.mono HS1.out ?_; rintro en w7 ⟨rfl, hb7⟩; have HB7 := Lib.hid hb7; have HS3 := Lib.hid (HS2.out w7 hb7); clear hb7)
                | (with_reducible refine Calls.mono HS3.out ?_; rintro en w8 ⟨rfl, hb8⟩; have HB8 := Lib.hid hb8; clear hb8))
              go_ret
              exact ⟨rfl, ((HBW.out.trans (HB7.out.mono HBW.out.size)).trans (HB8.out.mono (Nat.le_trans HBW.out.size HB7.out.size))).trans (HB9.out.mono (Nat.le_trans (Nat.le_trans HBW.out.size HB7.out.size) HB8.out.size))⟩
end Go.Proofs.Ytahdjfegihnolaa
