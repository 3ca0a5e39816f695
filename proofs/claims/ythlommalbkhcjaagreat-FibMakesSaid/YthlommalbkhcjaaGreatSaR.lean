/- guidepostref13: Weight, May. -/
import Derived.Test.YthlommalbkhcjaaGreatSaP
import Derived.ChangeKeysEq
namespace Go.Proofs.YthlommalbkhcjaaGreat
open Go.RowKit Go.Sort
theorem rweight_any (n : Nx) (w : World) : Calls Tryz.prog 191 #[nxV n] w fun e w' => e = .returned (.int .i64 (wtF n : Int)) ∧ Below w.heap.size w w' := by
  obtain ⟨p, d⟩ := n
  unfold nxV
  have hb : Below w.heap.size w (w.alloc (.cells #[.int .i64 p, .int .i64 d] 110)) := (Below.refl _ _).alloc (Nat.le_refl _) _
  have HB := Lib.hid hb
  clear hb
  by_cases h0 : d < 0
  · have e : wtF (p, d) = 0 := wtF_no (.inl h0)
    rw [e]
    have hd : decide (d < 0) = true := decide_eq_true h0
    clear e
    go_enter Tryz.func191, Tryz.ntmps191
    go_wp2_with fail
    go_ret
    exact ⟨rfl, HB.out⟩
  have hd : decide (d < 0) = false := decide_eq_false h0
  by_cases h1 : 255 ≤ d
  · have e : wtF (p, d) = 0 := wtF_no (.inr h1)
    rw [e]
    have hd2 : decide ((254 : Int) < d) = true := decide_eq_true (by omega)
    clear e h0
    go_enter Tryz.func191, Tryz.ntmps191
    go_wp2_with fail
    go_ret
    exact ⟨rfl, HB.out⟩
  have hd2 : decide ((254 : Int) < d) = false := decide_eq_false (by omega)
  have b0 : 0 ≤ d := by omega
  have b1 : d ≤ 254 := by omega
  have e := (wtF_pos (n := (p, d)) b0 (by omega)).2.2
  rw [e]
  clear e h0 h1
  go_enter Tryz.func191, Tryz.ntmps191
  go_wp2_with fail
  go_ret
  exact ⟨rfl, HB.out⟩
/-- The document's tests of one way. -/
def okR (l : List Nx) (i : Nat) : Bool := !(decide ((nxAt l i).1 < 0) || decide (8 ≤ (nxAt l i).1) || (decide (0 < i) && decide ((nxAt l i).1 ≤ (nxAt l (i - 1)).1)) || decide ((nxAt l i).2 < 0) || decide (255 ≤ (nxAt l i).2))
theorem okR_iff (l : List Nx) (i : Nat) : okR l i = true ↔ 0 ≤ (nxAt l i).1 ∧ (nxAt l i).1 < 8 ∧ (0 < i → (nxAt l (i - 1)).1 < (nxAt l i).1) ∧ 0 ≤ (nxAt l i).2 ∧ (nxAt l i).2 < 255 := by
  unfold okR
  simp only [Bool.not_eq_true', Bool.or_eq_false_iff, Bool.and_eq_false_iff, decide_eq_false_iff_not]
  constructor
  · rintro ⟨⟨⟨⟨h1, h2⟩, h3⟩, h4⟩, h5⟩
    exact ⟨by omega, by omega, fun h => by rcases h3 with h3 | h3 <;> omega, by omega, by omega⟩
  · rintro ⟨h1, h2, h3, h4, h5⟩
    refine ⟨⟨⟨⟨by omega, by omega⟩, ?_⟩, by omega⟩, by omega⟩
    by_cases h : 0 < i
    · right; have := h3 h; omega
    · left; exact h
theorem okR_of_may {l : List Nx} (h : mayF l = true) {i : Nat} (hi : i < l.length) : okR l i = true := by
  rw [okR_iff]
  have h1 := may_port h hi
  refine ⟨h1.1, h1.2.1, fun h0 => ?_, h1.2.2.1, h1.2.2.2⟩
  have h2 := ((okN_iff l i).1 (((mayF_iff l).1 h).2 i hi)).1
  unfold lastP at h2
  rwa [if_neg (by omega)] at h2
theorem may_of_okR {l : List Nx} (h0 : 0 < l.length) (h : ∀ i, i < l.length → okR l i = true) : mayF l = true := by
  rw [mayF_iff]
  refine ⟨h0, fun i hi => ?_⟩
  have h1 := (okR_iff l i).1 (h i hi)
  rw [okN_iff]
  refine ⟨?_, h1.2.1, h1.2.2.2.1, h1.2.2.2.2⟩
  unfold lastP
  split
  · omega
  · exact h1.2.2.1 (by omega)
set_option maxRecDepth 20000 in
set_option maxHeartbeats 3200000 in
theorem rmay13_any (A : Option Addr) (n c : Nat) (l : List Nx) (I : Nat → Prop) (w : World) (h : Reads w I 2 A n (l.flatMap nxC)) (hn : l.length = n) (hsm : n ≤ 1000000) :
    Calls Tryz.prog 109 #[.slice A n c] w fun e w' => e = .returned (.bool (mayF l)) ∧ Below w.heap.size w w' := by
  have HR := Lib.hid h.lt
  have HN := Lib.hid hn
  clear h hn
  by_cases h1 : n < 1
  · have HRES := Lib.hid (show mayF l = false by rw [Bool.eq_false_iff]; intro hm; have := ((mayF_iff l).1 hm).1; have := HN.out; omega)
    have d1 : decide ((n : Int) < 1) = true := decide_eq_true (by omega)
    clear h1
    go_enter Tryz.func109, Tryz.ntmps109
    go_wp2_with fail
    go_ret
    exact ⟨by rw [HRES.out]; rfl, Below.refl _ _⟩
  have d1 : decide ((n : Int) < 1) = false := decide_eq_false (by omega)
  by_cases h8 : 8 < n
  · have HRES := Lib.hid (show mayF l = false by rw [Bool.eq_false_iff]; intro hm; have := may_len hm; have := HN.out; omega)
    have d2 : decide ((8 : Int) < (n : Int)) = true := decide_eq_true (by omega)
    clear h1 h8
    go_enter Tryz.func109, Tryz.ntmps109
    go_wp2_with fail
    go_ret
    exact ⟨by rw [HRES.out]; rfl, Below.refl _ _⟩
  have d2 : decide ((8 : Int) < (n : Int)) = false := decide_eq_false (by omega)
  have HN1 := Lib.hid (show 0 < l.length by have := HN.out; omega)
  have HN8 := Lib.hid (show n ≤ 8 by omega)
  clear h1 h8
  go_enter Tryz.func109, Tryz.ntmps109
  go_wp2_with fail
  clear d1 d2
  go_loopw [3] (fun i wr => ∃ k : Nat, k ≤ n ∧ i = .int .i64 (k : Int) ∧ (∀ j, j < k → okR l j = true) ∧ Below w.heap.size w wr) (fun i _ => n - (intOf i).toNat)
  case atStart => exact ⟨0, Nat.zero_le _, rfl, fun j hj => absurd hj (by omega), Below.refl _ _⟩
  case round =>
    obtain ⟨k, hk, rfl, hok, hb⟩ := hrel
    have HB := Lib.hid hb
    have HOK := Lib.hid hok
    clear hok hb
    by_cases hlt : k < n
    · obtain ⟨ad, rfl, hcs⟩ := nx_cells HR.out HN.out (D := w.heap.size) (fun _ hj => hj.2) hlt
      obtain ⟨p, hp⟩ : ∃ p, p = (nxAt l k).1 := ⟨_, rfl⟩
      obtain ⟨d, hd⟩ : ∃ p, p = (nxAt l k).2 := ⟨_, rfl⟩
      rw [← hp, ← hd] at hcs
      have hiff := okR_iff l k
      rw [← hp, ← hd] at hiff
      have HI := Lib.hid hiff
      have HNO := Lib.hid (show okR l k = false → mayF l = false from fun e => by rw [Bool.eq_false_iff]; intro hm; have := okR_of_may hm (i := k) (by rw [HN.out]; exact hlt); rw [e] at this; cases this)
      have x1 := fun (dd : Nat) (os : Array Obj) => (hcs _ (HB.out.trans ((below_regrown wr dd os).mono HB.out.size))).1
      have x2 := fun (dd : Nat) (os : Array Obj) => (hcs _ (HB.out.trans ((below_regrown wr dd os).mono HB.out.size))).2
      have hd0 : decide ((k : Int) < (n : Int)) = true := decide_eq_true (by omega)
      have hd1 : decide (k < n) = true := decide_eq_true hlt
      have i0 : (0 : Int) ≤ k := by omega
      have i1 : (k : Int) < n := by omega
      have i2 : (k : Int) < 1000000 := by omega
      have HPV := Lib.hid (fun (h0 : 0 < k) => (nx_cells HR.out HN.out (D := w.heap.size) (fun _ hj => hj.2) (k := k - 1) (by omega)))
      clear hcs hp hd hiff
      by_cases c1 : p < 0
      · have e1 : decide (p < 0) = true := decide_eq_true c1
        have HRES := Lib.hid (HNO.out (by rw [Bool.eq_false_iff]; intro e; have := HI.out.1 e; omega))
        clear c1
        go_upto_region 6 with (fail)
        refine wp_region_quiet_below (by kernel_rfl) (by kernel_rfl) ?_
        repeat (go_big_quiet_step (fail))
        refine wpQuiet_nil ?_
        intro _ hw'
        obtain ⟨⟨dq, osq⟩, hw''⟩ := hw'
        subst hw''
        have HB2 := Lib.hid (HB.out.trans ((below_regrown wr dq osq).mono HB.out.size))
        clear x1 x2
        generalize grow (redrawn wr dq) osq = wq at HB2 ⊢
        go_wp2_with fail
        go_ret
        exact ⟨by rw [HRES.out]; rfl, HB2.out⟩
      have e1 : decide (p < 0) = false := decide_eq_false c1
      by_cases c2 : 8 ≤ p
      · have e2 : decide (8 ≤ p) = true := decide_eq_true c2
        have HRES := Lib.hid (HNO.out (by rw [Bool.eq_false_iff]; intro e; have := HI.out.1 e; omega))
        clear c1 c2
        go_upto_region 6 with (fail)
        refine wp_region_quiet_below (by kernel_rfl) (by kernel_rfl) ?_
        repeat (go_big_quiet_step (fail))
        refine wpQuiet_nil ?_
        intro _ hw'
        obtain ⟨⟨dq, osq⟩, hw''⟩ := hw'
        subst hw''
        have HB2 := Lib.hid (HB.out.trans ((below_regrown wr dq osq).mono HB.out.size))
        clear x1 x2
        generalize grow (redrawn wr dq) osq = wq at HB2 ⊢
        go_wp2_with fail
        go_ret
        exact ⟨by rw [HRES.out]; rfl, HB2.out⟩
      have e2 : decide (8 ≤ p) = false := decide_eq_false c2
      by_cases c0 : 0 < k
      · have e0 : decide ((0 : Int) < (k : Int)) = true := decide_eq_true (by omega)
        have e0' : decide (0 < k) = true := decide_eq_true c0
        obtain ⟨ad', ea, hcp⟩ := HPV.out c0
        injection ea with ea
        subst ea
        obtain ⟨m, hm⟩ : ∃ m, m = k - 1 := ⟨_, rfl⟩
        obtain ⟨q, hq⟩ : ∃ q, q = (nxAt l (k - 1)).1 := ⟨_, rfl⟩
        rw [← hq] at hcp
        rw [← hm] at hcp
        have e3 : IntKind.i64.wrap ((k : Int) - 1) = (m : Int) := by rw [IntWalk.i64_in _ (by omega)]; omega
        have x3 := fun (dd : Nat) (os : Array Obj) => (hcp _ (HB.out.trans ((below_regrown wr dd os).mono HB.out.size))).1
        have m0 : (0 : Int) ≤ m := by omega
        have m1 : (m : Int) < n := by omega
        have HI2 := Lib.hid HI.out
        rw [← hq] at HI
        clear hcp hm hq
        by_cases c3 : p ≤ q
        · have d3 : decide (p ≤ q) = true := decide_eq_true c3
          have HRES := Lib.hid (HNO.out (by rw [Bool.eq_false_iff]; intro e; have := (HI.out.1 e).2.2.1 c0; omega))
          clear c1 c2 c3 c0
          go_upto_region 6 with (fail)
          refine wp_region_quiet_below (by kernel_rfl) (by kernel_rfl) ?_
          repeat (go_big_quiet_step (fail))
          refine wpQuiet_nil ?_
          intro _ hw'
          obtain ⟨⟨dq, osq⟩, hw''⟩ := hw'
          subst hw''
          have HB2 := Lib.hid (HB.out.trans ((below_regrown wr dq osq).mono HB.out.size))
          clear x1 x2
          generalize grow (redrawn wr dq) osq = wq at HB2 ⊢
          go_wp2_with fail
          go_ret
          exact ⟨by rw [HRES.out]; rfl, HB2.out⟩
        have d3 : decide (p ≤ q) = false := decide_eq_false c3
        by_cases c4 : d < 0
        · have d4 : decide (d < 0) = true := decide_eq_true c4
          have HRES := Lib.hid (HNO.out (by rw [Bool.eq_false_iff]; intro e; have := HI.out.1 e; omega))
          clear c1 c2 c4 c3 c0
          go_upto_region 6 with (fail)
          refine wp_region_quiet_below (by kernel_rfl) (by kernel_rfl) ?_
          repeat (go_big_quiet_step (fail))
          refine wpQuiet_nil ?_
          intro _ hw'
          obtain ⟨⟨dq, osq⟩, hw''⟩ := hw'
          subst hw''
          have HB2 := Lib.hid (HB.out.trans ((below_regrown wr dq osq).mono HB.out.size))
          clear x1 x2
          generalize grow (redrawn wr dq) osq = wq at HB2 ⊢
          go_wp2_with fail
          go_ret
          exact ⟨by rw [HRES.out]; rfl, HB2.out⟩
        have d4 : decide (d < 0) = false := decide_eq_false c4
        by_cases c5 : 255 ≤ d
        · have d5 : decide ((255 : Int) ≤ d) = true := decide_eq_true c5
          have HRES := Lib.hid (HNO.out (by rw [Bool.eq_false_iff]; intro e; have := HI.out.1 e; omega))
          clear c1 c2 c4 c5 c3 c0
          go_upto_region 6 with (fail)
          refine wp_region_quiet_below (by kernel_rfl) (by kernel_rfl) ?_
          repeat (go_big_quiet_step (fail))
          refine wpQuiet_nil ?_
          intro _ hw'
          obtain ⟨⟨dq, osq⟩, hw''⟩ := hw'
          subst hw''
          have HB2 := Lib.hid (HB.out.trans ((below_regrown wr dq osq).mono HB.out.size))
          clear x1 x2
          generalize grow (redrawn wr dq) osq = wq at HB2 ⊢
          go_wp2_with fail
          go_ret
          exact ⟨by rw [HRES.out]; rfl, HB2.out⟩
        have d5 : decide ((255 : Int) ≤ d) = false := decide_eq_false c5
        have HOK2 := Lib.hid (HI.out.2 ⟨by omega, by omega, fun _ => by omega, by omega, by omega⟩)
        clear c1 c2 c4 c5 c3 c0
        go_upto_region 6 with (fail)
        refine wp_region_quiet_below (by kernel_rfl) (by kernel_rfl) ?_
        repeat (go_big_quiet_step (fail))
        refine wpQuiet_nil ?_
        intro _ hw'
        obtain ⟨⟨dq, osq⟩, hw''⟩ := hw'
        subst hw''
        have HB2 := Lib.hid (HB.out.trans ((below_regrown wr dq osq).mono HB.out.size))
        clear x1 x2
        generalize grow (redrawn wr dq) osq = wq at HB2 ⊢
        go_wp2_with fail
        go_roundw
        case rel => exact ⟨k + 1, hlt, rfl, fun j hj => by
          by_cases e : j = k
          · subst e; exact HOK2.out
          · exact HOK.out j (by omega), HB2.out⟩
        case measure => simp [intOf]; omega
      have e0 : decide ((0 : Int) < (k : Int)) = false := decide_eq_false (by omega)
      have e0' : decide (0 < k) = false := decide_eq_false c0
      by_cases c4 : d < 0
      · have d4 : decide (d < 0) = true := decide_eq_true c4
        have HRES := Lib.hid (HNO.out (by rw [Bool.eq_false_iff]; intro e; have := HI.out.1 e; omega))
        clear c1 c2 c4 c0
        go_upto_region 6 with (fail)
        refine wp_region_quiet_below (by kernel_rfl) (by kernel_rfl) ?_
        repeat (go_big_quiet_step (fail))
        refine wpQuiet_nil ?_
        intro _ hw'
        obtain ⟨⟨dq, osq⟩, hw''⟩ := hw'
        subst hw''
        have HB2 := Lib.hid (HB.out.trans ((below_regrown wr dq osq).mono HB.out.size))
        clear x1 x2
        generalize grow (redrawn wr dq) osq = wq at HB2 ⊢
        go_wp2_with fail
        go_ret
        exact ⟨by rw [HRES.out]; rfl, HB2.out⟩
      have d4 : decide (d < 0) = false := decide_eq_false c4
      by_cases c5 : 255 ≤ d
      · have d5 : decide ((255 : Int) ≤ d) = true := decide_eq_true c5
        have HRES := Lib.hid (HNO.out (by rw [Bool.eq_false_iff]; intro e; have := HI.out.1 e; omega))
        clear c1 c2 c4 c5 c0
        go_upto_region 6 with (fail)
        refine wp_region_quiet_below (by kernel_rfl) (by kernel_rfl) ?_
        repeat (go_big_quiet_step (fail))
        refine wpQuiet_nil ?_
        intro _ hw'
        obtain ⟨⟨dq, osq⟩, hw''⟩ := hw'
        subst hw''
        have HB2 := Lib.hid (HB.out.trans ((below_regrown wr dq osq).mono HB.out.size))
        clear x1 x2
        generalize grow (redrawn wr dq) osq = wq at HB2 ⊢
        go_wp2_with fail
        go_ret
        exact ⟨by rw [HRES.out]; rfl, HB2.out⟩
      have d5 : decide ((255 : Int) ≤ d) = false := decide_eq_false c5
      have HOK2 := Lib.hid (HI.out.2 ⟨by omega, by omega, fun _ => by omega, by omega, by omega⟩)
      clear c1 c2 c4 c5 c0
      go_upto_region 6 with (fail)
      refine wp_region_quiet_below (by kernel_rfl) (by kernel_rfl) ?_
      repeat (go_big_quiet_step (fail))
      refine wpQuiet_nil ?_
      intro _ hw'
      obtain ⟨⟨dq, osq⟩, hw''⟩ := hw'
      subst hw''
      have HB2 := Lib.hid (HB.out.trans ((below_regrown wr dq osq).mono HB.out.size))
      clear x1 x2
      generalize grow (redrawn wr dq) osq = wq at HB2 ⊢
      go_wp2_with fail
      go_roundw
      case rel => exact ⟨k + 1, hlt, rfl, fun j hj => by
        by_cases e : j = k
        · subst e; exact HOK2.out
        · exact HOK.out j (by omega), HB2.out⟩
      case measure => simp [intOf]; omega
    · obtain rfl : k = n := by omega
      have hd0 : decide ((k : Int) < (k : Int)) = false := decide_eq_false (by omega)
      have hd1 : decide (k < k) = false := decide_eq_false (by omega)
      have HRES := Lib.hid (show mayF l = true from may_of_okR HN1.out fun i hi => HOK.out i (by rw [← HN.out]; exact hi))
      clear hk hlt
      go_wp2_with fail
      go_ret
      exact ⟨by rw [HRES.out]; rfl, HB.out⟩
end Go.Proofs.YthlommalbkhcjaaGreat
