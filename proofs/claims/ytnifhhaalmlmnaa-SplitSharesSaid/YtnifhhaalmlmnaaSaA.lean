/- SplitAlike's walk. -/
import Derived.Test.YtnifhhaalmlmnaaSpV
namespace Go.Proofs.Ytnifhhaalmlmnaa
open Go.RowKit Go.Sort
set_option maxRecDepth 20000 in
set_option maxHeartbeats 3200000 in
theorem alike_any (A : Option Addr) (n c : Nat) (l : List Nx) (w : World) (h : Reads w (fun k => k < w.heap.size) 2 A n (l.flatMap nxC)) (hn : l.length = n) :
    Calls Try.prog 3 #[.slice A n c] w fun e w' => e = .returned (.bool true) ∧ Below w.heap.size w w' := by
  have HK := Lib.hid (fun wx => known13_any wx)
  have HNM := Lib.hid (fun z wx => num13_any z wx)
  have HR := Lib.hid h
  have HN := Lib.hid hn
  clear h hn
  go_enter Try.func3, Try.ntmps3
  by_cases hbig : 300 < n
  · have hg : decide ((300 : Int) < (n : Int)) = true := decide_eq_true (by omega)
    go_wp2_with fail
    refine (HK.out _).mono ?_
    rintro e w1 ⟨rfl, hb⟩
    have HB := Lib.hid hb
    clear hb
    go_wp2_with fail
    go_ret
    exact ⟨rfl, HB.out⟩
  have hg : decide ((300 : Int) < (n : Int)) = false := decide_eq_false (by omega)
  have HS := Lib.hid (show n ≤ 300 by omega)
  clear hbig
  cases hm : mayF l with
  | false =>
    have HSH := Lib.hid (shares_no A n c l _ w HR.out HN.out (by have := HS.out; omega) hm)
    clear hm
    go_wp2_with fail
    refine HSH.out.mono ?_
    rintro e w1 ⟨rfl, hb1⟩
    have HB1 := Lib.hid hb1
    clear hb1
    go_wp2_with fail
    refine (HNM.out _ _).mono ?_
    rintro e w2 ⟨rfl, rfl⟩
    go_wp2_with fail
    refine (HK.out _).mono ?_
    rintro e w3 ⟨rfl, hb3⟩
    have HB3 := Lib.hid (HB1.out.trans (hb3.mono HB1.out.size))
    clear hb3
    go_wp2_with fail
    go_ret
    exact ⟨rfl, HB3.out⟩
  | true =>
    have hsh := shares_yes A n c l _ w HR.out HN.out hm
    unfold ShPost at hsh
    rw [HN.out] at hsh
    have HSH := Lib.hid hsh
    have HM := Lib.hid hm
    have HN8 := Lib.hid (show n ≤ 8 by have := may_len hm; have := HN.out; omega)
    clear hm hsh
    go_wp2_with fail
    refine HSH.out.mono ?_
    rintro e w1 ⟨v1, rfl, h1, hb1⟩
    obtain ⟨A1, c1, rfl, _⟩ := own_form h1
    have HB1 := Lib.hid hb1
    have HO := Lib.hid (reads_own_nat h1)
    have HR1 := Lib.hid (HR.out.keep (Same.ofBelow hb1 fun _ hk => hk))
    have HD := Lib.hid hb1.size
    clear h1 hb1
    go_wp2_with fail
    refine (HNM.out _ _).mono ?_
    rintro e w1a ⟨rfl, rfl⟩
    go_wp2_with fail
    go_loopw [5] (fun v wr => ∃ i : Nat, i ≤ n ∧ v = .int .i64 (i : Int) ∧ Below w1.heap.size w1 wr) (fun v _ => n - (intOf v).toNat)
    case atStart => exact ⟨0, Nat.zero_le _, rfl, Below.refl _ _⟩
    case round =>
      obtain ⟨i, hi, rfl, hb⟩ := hrel
      have HB := Lib.hid hb
      clear hb
      by_cases hlt : i < n
      · have hd0 : decide ((i : Int) < (n : Int)) = true := decide_eq_true (by omega)
        have hd1 : decide (i < n) = true := decide_eq_true hlt
        obtain ⟨ad, rfl, hcs⟩ := nx_cells HR1.out HN.out (D := w1.heap.size) (fun _ hj => Nat.lt_of_lt_of_le hj HD.out) hlt
        obtain ⟨ad1, si, rfl, hsi, hci⟩ := HO.out.nat (by rw [shares_len]; exact HN.out) (D := w1.heap.size) (fun _ hj => hj.2) hlt
        rw [shares_get (by rw [HN.out]; exact hlt)] at hsi
        injection hsi with hsi
        obtain ⟨di, hdi⟩ : ∃ d, d = (nxAt l i).2 := ⟨_, rfl⟩
        rw [← hdi] at hcs
        have HCI := Lib.hid hci
        have HCS := Lib.hid hcs
        have HSI := Lib.hid hsi
        have HDI := Lib.hid hdi
        have HS2 := Lib.hid (show si ≤ 256 by rw [← hsi]; exact sh_le HM.out (by rw [HN.out]; exact hlt))
        have HI1 := Lib.hid (show n = 1 → si = 256 from fun e => by
          have : i = 0 := by omega
          rw [← hsi, this]; exact sh_alone HM.out (by rw [HN.out]; exact e))
        have i0 : (0 : Int) ≤ i := by omega
        have i1 : (i : Int) < n := by omega
        have i2 : (n : Int) ≤ 8 := by have := HN8.out; omega
        clear hcs hci hsi hdi
        go_wp2_with fail
        go_loopw [6] (fun v wr => ∃ k : Nat, k ≤ n ∧ v = .int .i64 (k : Int) ∧ Below w1.heap.size w1 wr) (fun v _ => n - (intOf v).toNat)
        case atStart => exact ⟨0, Nat.zero_le _, rfl, HB.out⟩
        case round =>
          obtain ⟨k, hk, rfl, hb⟩ := hrel
          have HBK := Lib.hid hb
          clear hb
          by_cases hkt : k < n
          · have kd0 : decide ((k : Int) < (n : Int)) = true := decide_eq_true (by omega)
            have kd1 : decide (k < n) = true := decide_eq_true hkt
            obtain ⟨ad', e', hcs⟩ := nx_cells HR1.out HN.out (D := w1.heap.size) (fun _ hj => Nat.lt_of_lt_of_le hj HD.out) hkt
            injection e' with e'
            subst e'
            obtain ⟨ad1', sk, e', hsk, hck⟩ := HO.out.nat (by rw [shares_len]; exact HN.out) (D := w1.heap.size) (fun _ hj => hj.2) hkt
            injection e' with e'
            subst e'
            rw [shares_get (by rw [HN.out]; exact hkt)] at hsk
            injection hsk with hsk
            obtain ⟨dk, hdk⟩ : ∃ d, d = (nxAt l k).2 := ⟨_, rfl⟩
            rw [← hdk] at hcs
            have x1 := fun (dd : Nat) (os : Array Obj) => (HCS.out _ (HBK.out.trans ((below_regrown wr dd os).mono HBK.out.size))).2
            have x2 := fun (dd : Nat) (os : Array Obj) => (hcs _ (HBK.out.trans ((below_regrown wr dd os).mono HBK.out.size))).2
            have x3 := fun (dd : Nat) (os : Array Obj) => HCI.out _ (HBK.out.trans ((below_regrown wr dd os).mono HBK.out.size))
            have x4 := fun (dd : Nat) (os : Array Obj) => hck _ (HBK.out.trans ((below_regrown wr dd os).mono HBK.out.size))
            have hal := fun (e : di = dk) => sh_alike (l := l) (i := i) (k := k) (by rw [HN.out]; exact hlt) (by rw [← HDI.out, ← hdk]; exact e)
            rw [HSI.out, hsk] at hal
            have HAL := Lib.hid hal
            have hsk2 : sk ≤ 256 := by rw [← hsk]; exact sh_le HM.out (by rw [HN.out]; exact hkt)
            have e1 : IntKind.i64.wrap ((sk : Int) + 1) = (sk : Int) + 1 := IntWalk.i64_in _ (by omega)
            have k0 : (0 : Int) ≤ k := by omega
            have k1 : (k : Int) < n := by omega
            clear hcs hck hsk hdk hal hsk2
            by_cases hdd : di = dk
            · have d1 : (di == dk) = true := by rw [beq_iff_eq]; exact hdd
              have hA := HAL.out hdd
              have d2 : decide ((sk : Int) + 1 < (si : Int)) = false := decide_eq_false (by omega)
              by_cases hik : i < k
              · have d3 : decide ((i : Int) < (k : Int)) = true := decide_eq_true (by omega)
                have d3' : decide (i < k) = true := decide_eq_true hik
                have d4 : decide ((si : Int) < (sk : Int)) = false := decide_eq_false (by have := hA.2 hik; omega)
                have d4' : decide (si < sk) = false := decide_eq_false (by have := hA.2 hik; omega)
                clear hdd hA hik
                go_upto_region 12 with (fail)
                refine wp_region_quiet_below (by kernel_rfl) (by kernel_rfl) ?_
                repeat (go_big_quiet_step (fail))
                refine wpQuiet_nil ?_
                intro _ hw'
                obtain ⟨⟨dq, osq⟩, hw''⟩ := hw'
                subst hw''
                have HB2 := Lib.hid (HBK.out.trans ((below_regrown wr dq osq).mono HBK.out.size))
                clear x1 x2 x3 x4
                generalize grow (redrawn wr dq) osq = wq at HB2 ⊢
                go_wp2_with fail
                go_roundw
                case rel => exact ⟨k + 1, hkt, rfl, HB2.out⟩
                case measure => simp [intOf]; omega
              · have d3 : decide ((i : Int) < (k : Int)) = false := decide_eq_false (by omega)
                have d3' : decide (i < k) = false := decide_eq_false hik
                clear hdd hA hik
                go_upto_region 12 with (fail)
                refine wp_region_quiet_below (by kernel_rfl) (by kernel_rfl) ?_
                repeat (go_big_quiet_step (fail))
                refine wpQuiet_nil ?_
                intro _ hw'
                obtain ⟨⟨dq, osq⟩, hw''⟩ := hw'
                subst hw''
                have HB2 := Lib.hid (HBK.out.trans ((below_regrown wr dq osq).mono HBK.out.size))
                clear x1 x2 x3 x4
                generalize grow (redrawn wr dq) osq = wq at HB2 ⊢
                go_wp2_with fail
                go_roundw
                case rel => exact ⟨k + 1, hkt, rfl, HB2.out⟩
                case measure => simp [intOf]; omega
            · have d1 : (di == dk) = false := by rw [beq_eq_false_iff_ne]; exact hdd
              clear hdd
              go_upto_region 12 with (fail)
              refine wp_region_quiet_below (by kernel_rfl) (by kernel_rfl) ?_
              repeat (go_big_quiet_step (fail))
              refine wpQuiet_nil ?_
              intro _ hw'
              obtain ⟨⟨dq, osq⟩, hw''⟩ := hw'
              subst hw''
              have HB2 := Lib.hid (HBK.out.trans ((below_regrown wr dq osq).mono HBK.out.size))
              clear x1 x2 x3 x4
              generalize grow (redrawn wr dq) osq = wq at HB2 ⊢
              go_wp2_with fail
              go_roundw
              case rel => exact ⟨k + 1, hkt, rfl, HB2.out⟩
              case measure => simp [intOf]; omega
          · obtain rfl : k = n := by omega
            have kd0 : decide ((k : Int) < (k : Int)) = false := decide_eq_false (by omega)
            have kd1 : decide (k < k) = false := decide_eq_false (by omega)
            have c1 := HCI.out wr HBK.out
            have e1 : decide ((si : Int) < 0) = false := decide_eq_false (by omega)
            have e2 : decide ((256 : Int) < (si : Int)) = false := decide_eq_false (by have := HS2.out; omega)
            clear hk hkt
            by_cases hk1 : k = 1
            · have e3 : ((k : Int) == 1) = true := by rw [beq_iff_eq]; omega
              have e4 : ((si : Int) != 256) = false := by have := HI1.out hk1; rw [this]; rfl
              clear hk1
              go_wp2_with fail
              go_roundw
              case rel => exact ⟨i + 1, hlt, rfl, HBK.out⟩
              case measure => simp [intOf]; omega
            · have e3 : ((k : Int) == 1) = false := by rw [beq_eq_false_iff_ne]; omega
              clear hk1
              go_wp2_with fail
              go_roundw
              case rel => exact ⟨i + 1, hlt, rfl, HBK.out⟩
              case measure => simp [intOf]; omega
      · obtain rfl : i = n := by omega
        have hd0 : decide ((i : Int) < (i : Int)) = false := decide_eq_false (by omega)
        have hd1 : decide (i < i) = false := decide_eq_false (by omega)
        have HB5 := Lib.hid (HB1.out.trans (HB.out.mono HB1.out.size))
        clear hi hlt
        go_wp2_with fail
        refine (HK.out _).mono ?_
        rintro e w9 ⟨rfl, hb9⟩
        have HB9 := Lib.hid (HB5.out.trans (hb9.mono HB5.out.size))
        clear hb9
        go_wp2_with fail
        go_ret
        exact ⟨rfl, HB9.out⟩
end Go.Proofs.Ytnifhhaalmlmnaa
