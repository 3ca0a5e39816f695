/- guidepostlaw13's same and known. -/
import Derived.Test.YtfddkehnhkfjeaaSpS
namespace Go.Proofs.Ytfddkehnhkfjeaa
open Go.RowKit Go.Sort
theorem shares_get {l : List Nx} {i : Nat} (hi : i < l.length) : (sharesF l)[i]? = some (shF l i) := by
  unfold sharesF
  rw [List.getElem?_map, List.getElem?_range hi]
  rfl
theorem shares_len (l : List Nx) : (sharesF l).length = l.length := by unfold sharesF; simp
theorem Reads.nat {w : World} {I : Nat → Prop} {A : Option Addr} {n : Nat} {xs : List Nat} (h : Reads w I 1 A n (natsV xs)) (hn : xs.length = n) {D : Nat} (hI : ∀ k, I k → k < D) {k : Nat} (hk : k < n) : ∃ ad x, A = some ad ∧ xs[k]? = some x ∧ ∀ wx, Below D w wx → wx.cell? (ad.add k) = some (.int .i64 (x : Int)) := by
  have hx : xs[k]? = some (xs[k]'(by omega)) := List.getElem?_eq_getElem _
  obtain ⟨ad, e, hj, hadl, hc⟩ := h.2 (by omega)
  exact ⟨ad, _, e, hx, fun wx hb => (hb.cell (by rw [block_of_add]; exact hI _ hj)).trans (hc _ _ (natsV_get hx))⟩
theorem take_eq_nat {x y : List Nat} {k a b : Nat} (hx : x[k]? = some a) (hy : y[k]? = some b) (h : x.take k = y.take k) (e : a = b) : x.take (k + 1) = y.take (k + 1) := by
  obtain ⟨l1, e1⟩ := List.getElem?_eq_some_iff.1 hx
  obtain ⟨l2, e2⟩ := List.getElem?_eq_some_iff.1 hy
  rw [List.take_succ_eq_append_getElem l1, List.take_succ_eq_append_getElem l2, h, e1, e2, e]
set_option maxRecDepth 20000 in
set_option maxHeartbeats 1600000 in
theorem same_ints (A : Option Addr) (n c : Nat) (xs : List Nat) (A2 : Option Addr) (n2 c2 : Nat) (ys : List Nat) (I J : Nat → Prop) (w : World) (h : Reads w I 1 A n (natsV xs)) (h2 : Reads w J 1 A2 n2 (natsV ys)) (hn : xs.length = n) (hn2 : ys.length = n2) (hsm : n ≤ 1000000) :
    Calls Try.prog 77 #[.slice A n c, .slice A2 n2 c2] w fun e w' => e = .returned (.bool (decide (xs = ys))) ∧ Below w.heap.size w w' := by
  have HR := Lib.hid h.lt
  have HR2 := Lib.hid h2.lt
  have HN := Lib.hid hn
  have HN2 := Lib.hid hn2
  by_cases hnn : n = n2
  case neg =>
    have HRES := Lib.hid (show decide (xs = ys) = false from decide_eq_false (by rintro rfl; exact hnn (by omega)))
    have hne : ((n : Int) != (n2 : Int)) = true := by rw [bne_iff_ne]; omega
    have hne2 : (n != n2) = true := by rw [bne_iff_ne]; exact hnn
    clear h h2 hn hn2 hnn
    go_enter Try.func77, Try.ntmps77
    go_wp2_with fail
    go_ret
    exact ⟨by rw [HRES.out]; rfl, Below.refl _ _⟩
  case pos =>
  subst hnn
  clear h h2 hn hn2
  go_enter Try.func77, Try.ntmps77
  go_wp2_with fail
  go_loopw [5] (fun i wr => ∃ k : Nat, k ≤ n ∧ i = .int .i64 (k : Int) ∧ xs.take k = ys.take k ∧ Below w.heap.size w wr) (fun i _ => n - (intOf i).toNat)
  case atStart => exact ⟨0, Nat.zero_le _, rfl, rfl, Below.refl _ _⟩
  case round =>
    obtain ⟨k, hk, rfl, ht, hb⟩ := hrel
    have HT := Lib.hid ht
    have HB := Lib.hid hb
    clear ht hb
    by_cases hlt : k < n
    · have hd0 : decide ((k : Int) < (n : Int)) = true := decide_eq_true (by omega)
      have hd1 : decide (k < n) = true := decide_eq_true hlt
      obtain ⟨ad, x, rfl, hx, hc⟩ := HR.out.nat HN.out (D := w.heap.size) (fun _ hj => hj.2) hlt
      obtain ⟨ad2, y, rfl, hy, hc2⟩ := HR2.out.nat HN2.out (D := w.heap.size) (fun _ hj => hj.2) hlt
      have x1 := fun (dd : Nat) (os : Array Obj) => hc _ (HB.out.trans ((below_regrown wr dd os).mono HB.out.size))
      have x2 := fun (dd : Nat) (os : Array Obj) => hc2 _ (HB.out.trans ((below_regrown wr dd os).mono HB.out.size))
      have i0 : (0 : Int) ≤ k := by omega
      have i1 : (k : Int) < n := by omega
      have i2 : (k : Int) < 1000000 := by omega
      have HX := Lib.hid hx
      have HY := Lib.hid hy
      clear hc hc2 hx hy
      by_cases hxy : x = y
      · have e1 : ((x : Int) != (y : Int)) = false := by rw [bne_eq_false_iff_eq]; omega
        have e2 : (x != y) = false := by rw [bne_eq_false_iff_eq]; exact hxy
        have HT2 := Lib.hid (take_eq_nat HX.out HY.out HT.out hxy)
        clear hxy
        go_upto_region 6 with (fail)
        refine wp_region_quiet_below (by kernel_rfl) (by kernel_rfl) ?_
        repeat (go_big_quiet_step (fail))
        refine wpQuiet_nil ?_
        intro _ hw'
        obtain ⟨⟨dq, osq⟩, hw''⟩ := hw'
        subst hw''
        have HB2 := Lib.hid (HB.out.trans ((below_regrown wr dq osq).mono HB.out.size))
        clear x1 x2
        generalize grow (redrawn wr dq) osq = wq at HB2 ⊢
        go_wp2_with fail
        go_roundw
        case rel => exact ⟨k + 1, hlt, rfl, HT2.out, HB2.out⟩
        case measure => simp [intOf]; omega
      · have e1 : ((x : Int) != (y : Int)) = true := by rw [bne_iff_ne]; omega
        have e2 : (x != y) = true := by rw [bne_iff_ne]; exact hxy
        have HRES := Lib.hid (show decide (xs = ys) = false from decide_eq_false (by
          intro e
          have h1 := HX.out
          rw [e, HY.out] at h1
          injection h1 with h1
          exact hxy h1.symm))
        clear hxy
        go_upto_region 6 with (fail)
        refine wp_region_quiet_below (by kernel_rfl) (by kernel_rfl) ?_
        repeat (go_big_quiet_step (fail))
        refine wpQuiet_nil ?_
        intro _ hw'
        obtain ⟨⟨dq, osq⟩, hw''⟩ := hw'
        subst hw''
        have HB2 := Lib.hid (HB.out.trans ((below_regrown wr dq osq).mono HB.out.size))
        clear x1 x2
        generalize grow (redrawn wr dq) osq = wq at HB2 ⊢
        go_wp2_with fail
        go_ret
        exact ⟨by rw [HRES.out]; rfl, HB2.out⟩
    · obtain rfl : k = n := by omega
      have hd0 : decide ((k : Int) < (k : Int)) = false := decide_eq_false (by omega)
      have hd1 : decide (k < k) = false := decide_eq_false (by omega)
      have HRES := Lib.hid (show decide (xs = ys) = true from decide_eq_true (by
        have := HT.out
        rw [List.take_of_length_le (Nat.le_of_eq HN.out), List.take_of_length_le (Nat.le_of_eq HN2.out)] at this
        exact this))
      clear hk hlt
      go_wp2_with fail
      go_ret
      exact ⟨by rw [HRES.out]; rfl, HB.out⟩
theorem num13_any (n : Int) (w : World) : Calls Try.prog 53 #[.int .i64 n] w fun e w' => e = .returned (.int .i64 n) ∧ w = w' := by
  go_enter Try.func53, Try.ntmps53
  go_wp2_with fail
  go_ret
  exact ⟨rfl, rfl⟩
def knL : List Nx := [(0, 0), (1, 0), (2, 1)]
theorem knL_may : mayF knL = true := by kernel_rfl
theorem knL_sh : sharesF knL = [103, 102, 51] := by kernel_rfl
theorem knM_may : mayF [(3, 7)] = true := by kernel_rfl
theorem knM_sh : sharesF [(3, 7)] = [256] := by kernel_rfl
theorem kn_wt : wtF (0, 2) = 21845 := by kernel_rfl
theorem kn_may0 : mayF [] = false := by kernel_rfl
theorem reads_own_nat {w : World} {B : Nat} {A : Option Addr} {n c : Nat} {xs : List Nat} (h : w.ownsRow B 3 1 (.slice A n c) n (natsV xs)) : Reads w (fun k => B ≤ k ∧ k < w.heap.size) 1 A n (natsV xs) := Reads.of_own h fun _ hg => own_lt h hg
set_option maxRecDepth 20000 in
set_option maxHeartbeats 1600000 in
theorem known13_any (w : World) : Calls Try.prog 50 #[] w fun e w' => e = .returned (.bool true) ∧ Below w.heap.size w w' := by
  have HNM := Lib.hid (fun z wx => num13_any z wx)
  obtain ⟨W0, hW0⟩ : ∃ W, W = w.alloc (.cells #[.int .i64 0, .int .i64 0, .int .i64 1, .int .i64 0, .int .i64 2, .int .i64 1] 81) := ⟨_, rfl⟩
  have hb0 : Below w.heap.size w W0 := by rw [hW0]; exact (Below.refl _ _).alloc (Nat.le_refl _) _
  have hs0 := shares_yes (some ⟨w.heap.size, 0, none⟩) 3 3 knL _ W0 (by rw [hW0]; exact reads_lit w 81 _ 3 2 (0, 0) rfl) rfl knL_may
  unfold ShPost at hs0
  rw [knL_sh] at hs0
  have HS0 := Lib.hid hs0
  have HB0 := Lib.hid hb0
  have HW0 := Lib.hid hW0
  clear hb0 hs0 hW0
  go_enter Try.func50, Try.ntmps50
  go_wp2_with fail
  rw [← HW0.out]
  refine HS0.out.mono ?_
  rintro e w1 ⟨v1, rfl, h1, hb1⟩
  obtain ⟨A1, c1, rfl, _⟩ := own_form h1
  have h1 : w1.ownsRow W0.heap.size 3 1 (.slice A1 3 c1) 3 (natsV [103, 102, 51]) := h1
  have HB1 := Lib.hid (HB0.out.trans (hb1.mono HB0.out.size))
  obtain ⟨W1, hW1⟩ : ∃ W, W = w1.alloc (.cells #[.int .i64 3, .int .i64 7] 81) := ⟨_, rfl⟩
  have hb1' : Below w1.heap.size w1 W1 := by rw [hW1]; exact (Below.refl _ _).alloc (Nat.le_refl _) _
  have hs1 := shares_yes (some ⟨w1.heap.size, 0, none⟩) 1 1 [(3, 7)] _ W1 (by rw [hW1]; exact reads_lit w1 81 _ 1 2 (0, 0) rfl) rfl knM_may
  unfold ShPost at hs1
  rw [knM_sh] at hs1
  have HS1 := Lib.hid hs1
  have HW1 := Lib.hid hW1
  have HR1 := Lib.hid (own_below h1 hb1')
  have HBW1 := Lib.hid (HB1.out.trans (hb1'.mono HB1.out.size))
  have e3 : (knL.length : Int) = 3 := rfl
  have e3' : knL.length = 3 := rfl
  clear h1 hb1 hW1 hb1' hs1
  try simp only [e3']
  go_wp2_with fail
  rw [← HW1.out]
  refine HS1.out.mono ?_
  rintro e w2 ⟨v2, rfl, h2, hb2⟩
  obtain ⟨A2, c2, rfl, _⟩ := own_form h2
  have h2 : w2.ownsRow W1.heap.size 3 1 (.slice A2 1 c2) 1 (natsV [256]) := h2
  have HB2 := Lib.hid (HBW1.out.trans (hb2.mono HBW1.out.size))
  obtain ⟨W2, hW2⟩ : ∃ W, W = w2.alloc (.cells #[.int .i64 103, .int .i64 102, .int .i64 51] 3) := ⟨_, rfl⟩
  have hb2' : Below w2.heap.size w2 W2 := by rw [hW2]; exact (Below.refl _ _).alloc (Nat.le_refl _) _
  have hsa := same_ints A1 3 c1 [103, 102, 51] (some ⟨w2.heap.size, 0, none⟩) 3 3 [103, 102, 51] _ _ W2 (reads_own_nat (own_below (own_below HR1.out hb2) hb2')) (by rw [hW2]; exact reads_lit w2 3 _ 3 1 (0, 0) rfl) rfl rfl (by omega)
  rw [decide_eq_true rfl] at hsa
  have HSA := Lib.hid hsa
  have HW2 := Lib.hid hW2
  have HR2 := Lib.hid (own_below h2 hb2')
  have HBW2 := Lib.hid (HB2.out.trans (hb2'.mono HB2.out.size))
  have e1' : ([((3 : Int), (7 : Int))] : List Nx).length = 1 := rfl
  clear h2 hb2 hW2 hb2' hsa
  try simp only [e1']
  go_wp2_with fail
  rw [← HW2.out]
  refine HSA.out.mono ?_
  rintro e w3 ⟨rfl, hb3⟩
  have HB3 := Lib.hid (HBW2.out.trans (hb3.mono HBW2.out.size))
  obtain ⟨W3, hW3⟩ : ∃ W, W = w3.alloc (.cells #[.int .i64 256] 3) := ⟨_, rfl⟩
  have hb3' : Below w3.heap.size w3 W3 := by rw [hW3]; exact (Below.refl _ _).alloc (Nat.le_refl _) _
  have hsb := same_ints A2 1 c2 [256] (some ⟨w3.heap.size, 0, none⟩) 1 1 [256] _ _ W3 (reads_own_nat (own_below (own_below HR2.out hb3) hb3')) (by rw [hW3]; exact reads_lit w3 3 _ 1 1 (0, 0) rfl) rfl rfl (by omega)
  rw [decide_eq_true rfl] at hsb
  have HSB := Lib.hid hsb
  have HW3 := Lib.hid hW3
  have HBW3 := Lib.hid (HB3.out.trans (hb3'.mono HB3.out.size))
  clear hb3 hW3 hb3' hsb
  go_wp2_with fail
  rw [← HW3.out]
  refine HSB.out.mono ?_
  rintro e w4 ⟨rfl, hb4⟩
  have HB4 := Lib.hid (HBW3.out.trans (hb4.mono HBW3.out.size))
  clear hb4
  go_wp2_with fail
  refine (HNM.out _ _).mono ?_
  rintro e w5 ⟨rfl, rfl⟩
  go_wp2_with fail
  refine (HNM.out _ _).mono ?_
  rintro e w6 ⟨rfl, rfl⟩
  have hwt := weight_any (0, 2) w4
  unfold nxV at hwt
  rw [kn_wt] at hwt
  have HWT := Lib.hid hwt
  clear hwt
  go_wp2_with fail
  refine HWT.out.mono ?_
  rintro e w7 ⟨rfl, hb7⟩
  have HB7 := Lib.hid (HB4.out.trans (hb7.mono HB4.out.size))
  have hmy := smay_any none 0 0 [] (fun _ => True) w7 ⟨rfl, fun h => absurd h (by omega)⟩ rfl (by omega)
  rw [kn_may0] at hmy
  have HMY := Lib.hid hmy
  clear hb7 hmy
  go_wp2_with fail
  refine HMY.out.mono ?_
  rintro e w8 ⟨rfl, hb8⟩
  have HB8 := Lib.hid (HB7.out.trans (hb8.mono HB7.out.size))
  clear hb8
  go_wp2_with fail
  go_ret
  exact ⟨rfl, HB8.out⟩
end Go.Proofs.Ytfddkehnhkfjeaa
