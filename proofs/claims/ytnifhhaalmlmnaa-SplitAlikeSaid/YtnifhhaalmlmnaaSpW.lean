/- split: weights, and which ways may be. -/
import Derived.Test.YtnifhhaalmlmnaaSpM
import Derived.Test.YtnifhhaalmlmnaaRgX
import Derived.Test.YtnifhhaalmlmnaaRgN
import Derived.Deep.DeepCutAuto
import Derived.Deep.Cut
namespace Go.Proofs.Ytnifhhaalmlmnaa
open Go.RowKit Go.Sort
def nxC (n : Nx) : List Value := [.int .i64 n.1, .int .i64 n.2]
def nxV (n : Nx) : Value := .agg #[.int .i64 n.1, .int .i64 n.2]
theorem nxC_get : ∀ {l : List Nx} {k : Nat}, k < l.length → (l.flatMap nxC)[k * 2]? = some (.int .i64 (nxAt l k).1) ∧ (l.flatMap nxC)[k * 2 + 1]? = some (.int .i64 (nxAt l k).2)
  | [], _, h => absurd h (by simp)
  | n :: r, 0, _ => ⟨rfl, rfl⟩
  | n :: r, k + 1, h => by
    have h1 := nxC_get (l := r) (k := k) (by simpa using h)
    have e : (n :: r).flatMap nxC = .int .i64 n.1 :: .int .i64 n.2 :: r.flatMap nxC := rfl
    have e2 : nxAt (n :: r) (k + 1) = nxAt r k := rfl
    rw [e, e2]
    have e3 : (k + 1) * 2 = k * 2 + 1 + 1 := by omega
    rw [e3]
    simpa using h1
/-- The cells of way k, in every world that is as w below D. -/
theorem nx_cells {D : Nat} {w : World} {J : Nat → Prop} {A : Option Addr} {N : Nat} {l : List Nx} (hr : Reads w J 2 A N (l.flatMap nxC)) (hN : l.length = N) (hJ : ∀ k, J k → k < D) {k : Nat} (hk : k < N) :
    ∃ ad, A = some ad ∧ ∀ wx, Below D w wx → wx.cell? (ad.add (k * 2)) = some (.int .i64 (nxAt l k).1) ∧ wx.cell? ⟨(ad.add (k * 2)).block, (ad.add (k * 2)).off + 1, none⟩ = some (.int .i64 (nxAt l k).2) := by
  obtain ⟨g0, g1⟩ := nxC_get (l := l) (k := k) (by omega)
  obtain ⟨ad, e, hj, hadl, hc⟩ := hr.2 (by omega)
  refine ⟨ad, e, fun wx hx => ⟨(hx.cell (by rw [block_of_add]; exact hJ _ hj)).trans (hc _ _ g0), ?_⟩⟩
  have e : ad.add (k * 2 + 1) = ⟨(ad.add (k * 2)).block, (ad.add (k * 2)).off + 1, none⟩ := by rw [← add_of_add]; rfl
  rw [← e]
  exact (hx.cell (by rw [block_of_add]; exact hJ _ hj)).trans (hc _ _ g1)
theorem weight_any (n : Nx) (w : World) : Calls Try.prog 10 #[nxV n] w fun e w' => e = .returned (.int .i64 (wtF n : Int)) ∧ Below w.heap.size w w' := by
  obtain ⟨p, d⟩ := n
  unfold nxV
  have hb : Below w.heap.size w (w.alloc (.cells #[.int .i64 p, .int .i64 d] 30)) := (Below.refl _ _).alloc (Nat.le_refl _) _
  have HB := Lib.hid hb
  clear hb
  by_cases h0 : d < 0
  · have e : wtF (p, d) = 0 := wtF_no (.inl h0)
    rw [e]
    have hd : decide (d < 0) = true := decide_eq_true h0
    clear e
    go_enter Try.func10, Try.ntmps10
    go_wp2_with fail
    go_ret
    exact ⟨rfl, HB.out⟩
  have hd : decide (d < 0) = false := decide_eq_false h0
  by_cases h1 : 255 ≤ d
  · have e : wtF (p, d) = 0 := wtF_no (.inr h1)
    rw [e]
    have hd2 : decide ((255 : Int) ≤ d) = true := decide_eq_true h1
    clear e h0
    go_enter Try.func10, Try.ntmps10
    go_wp2_with fail
    go_ret
    exact ⟨rfl, HB.out⟩
  have hd2 : decide ((255 : Int) ≤ d) = false := decide_eq_false h1
  have b0 : 0 ≤ d := by omega
  have b1 : d ≤ 254 := by omega
  have e := (wtF_pos (n := (p, d)) b0 (by omega)).2.2
  rw [e]
  clear e h0 h1
  go_enter Try.func10, Try.ntmps10
  go_wp2_with fail
  go_ret
  exact ⟨rfl, HB.out⟩
set_option maxRecDepth 20000 in
set_option maxHeartbeats 1600000 in
theorem may_any (A : Option Addr) (n c : Nat) (l : List Nx) (I : Nat → Prop) (w : World) (h : Reads w I 2 A n (l.flatMap nxC)) (hn : l.length = n) (hsm : n ≤ 1000000) :
    Calls Try.prog 13 #[.slice A n c] w fun e w' => e = .returned (.bool (mayF l)) ∧ Below w.heap.size w w' := by
  have HR := Lib.hid h.lt
  have HN := Lib.hid hn
  have HM := Lib.hid (mayF_iff l)
  clear h hn
  go_enter Try.func13, Try.ntmps13
  go_wp2_with fail
  go_loopw [3, 8] (fun v i wr => ∃ k : Nat, k ≤ n ∧ i = .int .i64 (k : Int) ∧ v = .int .i64 (lastP l k) ∧ (∀ j, j < k → okN l j = true) ∧ Below w.heap.size w wr) (fun _ i _ => n - (intOf i).toNat)
  case atStart => exact ⟨0, Nat.zero_le _, rfl, rfl, fun j hj => absurd hj (by omega), Below.refl _ _⟩
  case round =>
    obtain ⟨k, hk, rfl, rfl, hok, hb⟩ := hrel
    have HB := Lib.hid hb
    have HOK := Lib.hid hok
    clear hok
    by_cases hlt : k < n
    · obtain ⟨ad, rfl, hcs⟩ := nx_cells HR.out HN.out (D := w.heap.size) (fun _ hj => hj.2) hlt
      obtain ⟨p, hp⟩ : ∃ p, p = (nxAt l k).1 := ⟨_, rfl⟩
      obtain ⟨d, hd⟩ : ∃ p, p = (nxAt l k).2 := ⟨_, rfl⟩
      obtain ⟨la, hla⟩ : ∃ p, p = lastP l k := ⟨_, rfl⟩
      have hiff := okN_iff l k
      rw [← hp, ← hd, ← hla] at hiff
      rw [← hp, ← hd] at hcs
      rw [← hla]
      obtain ⟨g0, g1⟩ := hcs wr hb
      have HLN := Lib.hid (show lastP l (k + 1) = p by unfold lastP; rw [if_neg (by omega), hp]; rfl)
      have HI := Lib.hid hiff
      have hl0 : decide ((k : Int) < (n : Int)) = true := decide_eq_true (by omega)
      have hl1 : decide (k < n) = true := decide_eq_true hlt
      have hi0 : (0 : Int) ≤ k := by omega
      have hi1 : (k : Int) < n := by omega
      have hi2 : (k : Int) < 1000000 := by omega
      clear hp hd hla hiff hcs hb
      obtain ⟨W1, hW1⟩ : ∃ W, W = wr.alloc (.cells #[.int .i64 p, .int .i64 d] 30) := ⟨_, rfl⟩
      have hk1 : Blk W1 wr.heap.size 30 #[.int .i64 p, .int .i64 d] := by rw [hW1]; exact Blk.new wr _ _
      have hb1 : Below w.heap.size w W1 := by rw [hW1]; exact HB.out.alloc HB.out.size _
      have HK1 := Lib.hid hk1
      have HB1 := Lib.hid hb1
      have HW1 := Lib.hid hW1
      clear hk1 hb1 hW1
      go_upto_region 5 with (fail)
      rw [← HW1.out]
      have f0 := HK1.out.cell 0
      have f1 := HK1.out.cell 1
      by_cases c1 : p ≤ la
      · have d1 : decide (p ≤ la) = true := decide_eq_true c1
        have hres : mayF l = false := by
          rw [Bool.eq_false_iff]; intro hm
          have := HI.out.1 ((HM.out.1 hm).2 k (by rw [HN.out]; exact hlt)); omega
        have HRES := Lib.hid hres
        clear hres c1
        go_wp2_with fail
        go_ret
        exact ⟨by rw [HRES.out]; rfl, HB1.out⟩
      have d1 : decide (p ≤ la) = false := decide_eq_false c1
      by_cases c2 : 8 ≤ p
      · have d2 : decide (8 ≤ p) = true := decide_eq_true c2
        have hres : mayF l = false := by
          rw [Bool.eq_false_iff]; intro hm
          have := HI.out.1 ((HM.out.1 hm).2 k (by rw [HN.out]; exact hlt)); omega
        have HRES := Lib.hid hres
        clear hres c1 c2
        go_wp2_with fail
        go_ret
        exact ⟨by rw [HRES.out]; rfl, HB1.out⟩
      have d2 : decide (8 ≤ p) = false := decide_eq_false c2
      have hwt := weight_any (p, d) W1
      unfold nxV at hwt
      have HWT := Lib.hid hwt
      clear hwt
      by_cases c3 : d < 0 ∨ 255 ≤ d
      · have hw0 : wtF (p, d) = 0 := wtF_no c3
        have hres : mayF l = false := by
          rw [Bool.eq_false_iff]; intro hm
          have := HI.out.1 ((HM.out.1 hm).2 k (by rw [HN.out]; exact hlt)); omega
        have HRES := Lib.hid hres
        rw [hw0] at HWT
        clear hres c1 c2 c3 hw0
        go_wp2_with fail
        refine HWT.out.mono ?_
        rintro e w2 ⟨rfl, hb2⟩
        have HB2 := Lib.hid (HB1.out.trans (hb2.mono HB1.out.size))
        clear hb2
        go_wp2_with fail
        go_ret
        exact ⟨by rw [HRES.out]; rfl, HB2.out⟩
      have hwp := (wtF_pos (n := (p, d)) (by omega) (by omega)).1
      obtain ⟨x, hx⟩ : ∃ x, x = wtF (p, d) := ⟨_, rfl⟩
      rw [← hx] at HWT hwp
      have hne : ((x : Int) == 0) = false := by rw [beq_eq_false_iff_ne]; omega
      have HOK2 := Lib.hid (HI.out.2 (by omega))
      clear hx hwp c1 c2 c3
      go_wp2_with fail
      refine HWT.out.mono ?_
      rintro e w2 ⟨rfl, hb2⟩
      have HB2 := Lib.hid (HB1.out.trans (hb2.mono HB1.out.size))
      have f2 := (HK1.out.below hb2 HK1.out.lt).cell 0
      clear hb2 f0 f1
      go_wp2_with fail
      go_roundw
      case rel => exact ⟨k + 1, hlt, rfl, by rw [HLN.out], fun j hj => by
        by_cases e : j = k
        · subst e; exact HOK2.out
        · exact HOK.out j (by omega), HB2.out⟩
      case measure => simp [intOf]; omega
    · obtain rfl : k = n := by omega
      have hl0 : decide ((k : Int) < (k : Int)) = false := decide_eq_false (by omega)
      have hl1 : decide (k < k) = false := decide_eq_false (by omega)
      clear hk hlt hb
      have HRES := Lib.hid (show decide (0 < k) = mayF l by
        rcases hm : mayF l with _ | _
        · rw [decide_eq_false_iff_not]
          intro h0
          have := HM.out.2 ⟨by rw [HN.out]; exact h0, fun i hi => HOK.out i (by rw [← HN.out]; exact hi)⟩
          rw [hm] at this; cases this
        · rw [decide_eq_true_eq, ← HN.out]
          exact (HM.out.1 hm).1)
      go_wp2_with fail
      go_ret
      exact ⟨by rw [← HRES.out]; rfl, HB.out⟩
end Go.Proofs.Ytnifhhaalmlmnaa
