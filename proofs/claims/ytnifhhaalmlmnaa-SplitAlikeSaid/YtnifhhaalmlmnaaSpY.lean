/- split: the ways' order is laid. -/
import Derived.Test.YtnifhhaalmlmnaaSpX
import Derived.Test.YtnifhhaalmlmnaaSpN
import Derived.BigRegion
import Derived.Laws.OwnMore
namespace Go.Proofs.Ytnifhhaalmlmnaa
open Go.RowKit Go.Sort
def natsV (xs : List Nat) : List Value := xs.map fun (k : Nat) => Value.int .i64 (k : Int)
theorem natsV_set (xs : List Nat) (i k : Nat) : natsV (xs.set i k) = (natsV xs).set i (.int .i64 (k : Int)) := by simp [natsV, List.map_set]
theorem natsV_get {xs : List Nat} {i k : Nat} (h : xs[i]? = some k) : (natsV xs)[i]? = some (.int .i64 (k : Int)) := by simp [natsV, h]
structure SrtW (D bl ba bf g : Nat) (A : Option Addr) (n c c0 : Nat) (l : List Nx) (w0 : World) (xs : List Nat) (wr : World) : Prop where
  row : wr.ownsRow D 3 1 (.slice (some ⟨g, 0, none⟩) n c0) n (natsV xs)
  rst : RstW D bl ba A n c l wr
  fn : Blk wr bf 44 #[bfV bl ba]
  upd : Upd (only g) w0 wr
section
variable {D bl ba bf g : Nat} {A : Option Addr} {n c c0 : Nat} {l : List Nx} {w0 : World} {xs : List Nat} {wr w2 : World}
theorem SrtW.later (h : SrtW D bl ba bf g A n c c0 l w0 xs wr) (hb : Below wr.heap.size wr w2) : SrtW D bl ba bf g A n c c0 l w0 xs w2 :=
  ⟨own_below h.row hb, h.rst.later hb, h.fn.below hb h.fn.lt, h.upd.trans_ (Upd.ofBelow hb _)⟩
theorem SrtW.set (h : SrtW D bl ba bf g A n c c0 l w0 xs wr) (i k : Nat) : SrtW D bl ba bf g A n c c0 l w0 (xs.set i k) (wr.setCell ⟨g, i, none⟩ (.int .i64 (k : Int))) := by
  have hg := own_lt h.row (g := g) rfl
  have hne := own_blk_ne h.row h.fn (by decide)
  refine ⟨?_, ?_, ?_, ?_⟩
  · rw [natsV_set]; exact (h.row.stored i _).1
  · exact h.rst.keep ((Below.refl D wr).setCell (p := ⟨g, i, none⟩) hg.1 _)
  · exact h.fn.far (p := ⟨g, i, none⟩) (fun e => hne (by rw [e]; rfl)) _
  · exact h.upd.setCell (p := ⟨g, i, none⟩) (.inl rfl) _
theorem SrtW.cell (h : SrtW D bl ba bf g A n c c0 l w0 xs wr) {i k : Nat} (hi : i < n) (hk : xs[i]? = some k) : wr.cell? ⟨g, i, none⟩ = some (.int .i64 (k : Int)) := by
  rw [h.row.cellAt i (by omega), natsV_get hk]
end
theorem cmpI_lt {a b : Int} : decide (cmpI a b < 0) = decide (a < b) := by
  unfold cmpI
  split
  · rename_i h; simp [h]
  · rename_i h; split <;> simp [h]
set_option maxRecDepth 20000 in
set_option maxHeartbeats 3200000 in
theorem insort_any (D bl ba bf g : Nat) (A : Option Addr) (n c c0 : Nat) (l : List Nx) (w : World) (h : SrtW D bl ba bf g A n c c0 l w (List.range n) w) (hn : l.length = n) (h1 : 1 ≤ n) (hc : n ≤ c0) (hsm : n ≤ 1000000) (hW : 0 < allF l) (hW2 : allF l ≤ 524288) :
    Calls Try.prog 24 #[.slice (some ⟨g, 0, none⟩) n c0, .int .i64 0, .int .i64 (n : Int), .func (.func 20) #[] #[.pointer (some ⟨bf, 0, none⟩)]] w fun e w' => e = .returned (.tuple #[]) ∧ ∃ xs, SrtW D bl ba bf g A n c c0 l w xs w' ∧ xs.Perm (List.range n) ∧ xs.Pairwise fun a b => bef (rmF l) a b = true := by
  have HN := Lib.hid hn
  have HS := Lib.hid h
  have HW := Lib.hid hW
  have HW2 := Lib.hid hW2
  clear h hn hW hW2
  go_enter Try.func24, Try.ntmps24
  go_wp2_with fail
  go_loopw [8] (fun v wr => ∃ i : Nat, 1 ≤ i ∧ i ≤ n ∧ v = .int .i64 (i : Int) ∧ ∃ xs, SrtW D bl ba bf g A n c c0 l w xs wr ∧ Ins (rmF l) n i xs) (fun v _ => n - (intOf v).toNat)
  case atStart => exact ⟨1, Nat.le_refl _, h1, rfl, _, HS.out, Ins.start _ h1⟩
  case round =>
    obtain ⟨i, hi1, hi, rfl, xs, hs, hin⟩ := hrel
    by_cases hlt : i < n
    · have hd0 : decide ((i : Int) < (n : Int)) = true := decide_eq_true (by omega)
      have hd1 : decide (i < n) = true := decide_eq_true hlt
      have HJ := Lib.hid (hin.begin_ hlt)
      have HSS := Lib.hid hs
      clear hs hin
      go_wp2_with fail
      go_loopw [9] (fun v wr => ∃ j : Nat, v = .int .i64 (j : Int) ∧ ∃ xs, SrtW D bl ba bf g A n c c0 l w xs wr ∧ InsJ (rmF l) n i j xs) (fun v _ => (intOf v).toNat)
      case atStart => exact ⟨i, rfl, xs, HSS.out, HJ.out⟩
      case round =>
        obtain ⟨j, rfl, ys, hs, hin⟩ := hrel
        obtain ⟨hyl, hji, hyj⟩ := hin.len hlt
        have HI := Lib.hid hin
        have HSY := Lib.hid hs
        have hrow := hs.row
        clear hs hin
        by_cases hj : 0 < j
        · obtain ⟨a, hya, hai⟩ := HI.out.lt hj
          have c1 := HSY.out.cell (by omega) hyj
          have c2 := HSY.out.cell (by omega) hya
          have hor := fun wx (hb : Below wr.heap.size wr wx) => order_any D bl ba bf A n c l wx (HSY.out.rst.later hb) (HSY.out.fn.below hb HSY.out.fn.lt) HN.out hsm HW.out HW2.out i a hlt (by omega)
          obtain ⟨m, rfl⟩ : ∃ m, j = m + 1 := ⟨j - 1, by omega⟩
          rw [Nat.add_sub_cancel] at hya c2
          have HYA := Lib.hid hya
          have HCV := Lib.hid (cmpI_lt (a := (rmF l a : Int)) (b := (rmF l i : Int)))
          obtain ⟨cv, hcv⟩ : ∃ x, x = cmpI (rmF l a) (rmF l i) := ⟨_, rfl⟩
          rw [← hcv] at HCV
          rw [← hcv] at hor
          have x1 := fun (dd : Nat) (os : Array Obj) => cell_regrown c1 dd os
          have x2 := fun (dd : Nat) (os : Array Obj) => cell_regrown c2 dd os
          have cA := fun (dd : Nat) (os : Array Obj) => Calls.regrown_of (hor _ (below_regrown wr dd os))
          obtain ⟨j, hje⟩ : ∃ j, j = m + 1 := ⟨_, rfl⟩
          rw [← hje] at x1 HI hji hyj hj ⊢
          have HJE := Lib.hid hje
          have g0 : decide ((0 : Int) < (j : Int)) = true := decide_eq_true (by omega)
          have g1 : decide (0 < j) = true := decide_eq_true hj
          have i0 : (0 : Int) ≤ (j : Int) := by omega
          have i1 : (j : Int) < (n : Int) := by omega
          have i2 : (j : Int) < 1000000 := by omega
          have e1 : IntKind.i64.wrap ((j : Int) - 1) = (m : Int) := by rw [IntWalk.i64_in _ (by omega)]; omega
          have i3 : (0 : Int) ≤ (m : Int) := by omega
          have i4 : (m : Int) < (n : Int) := by omega
          have HYJ := Lib.hid hyj
          have HYL := Lib.hid hyl
          have HAI := Lib.hid hai
          clear hyj hya hai hcv hor c1 c2 hje hyl hrow
          by_cases hcmp : cv < 0
          · have d0 : decide (cv < 0) = true := decide_eq_true hcmp
            have HLT := Lib.hid (show rmF l a < rmF l i by have := HCV.out; rw [d0] at this; have := of_decide_eq_true this.symm; omega)
            clear hcmp
            go_upto_region 4 with (fail)
            refine wp_region_quiet_below (by kernel_rfl) (by kernel_rfl) ?_
            repeat (go_big_quiet_step (first | with_reducible exact cA _ _))
            refine wpQuiet_nil ?_
            intro _ hw'
            obtain ⟨⟨dq, osq⟩, hw''⟩ := hw'
            subst hw''
            have hs2 := HSY.out.later (below_regrown wr dq osq)
            clear x1 x2 cA
            generalize grow (redrawn wr dq) osq = wq at hs2 ⊢
            have c1 := hs2.cell (by omega) HYJ.out
            have c2 := hs2.cell (i := m) (by omega) HYA.out
            have f1 := hs2.row.frozenAt j
            have f2 := hs2.row.frozenAt m
            have HS2 := Lib.hid hs2
            have hs3 := hs2.set j a
            have c3 := hs3.cell (i := m) (k := a) (by omega) (by rw [List.getElem?_set_ne (by have := HJE.out; omega)]; exact HYA.out)
            have f3 := hs3.row.frozenAt m
            have HS4 := Lib.hid (hs3.set m i)
            clear hs2 hs3
            go_wp2_with fail
            go_region
            clear c1 c2 c3 f1 f2 f3
            have HS5 := Lib.hid (HS4.out.later (Below.refl _ _).drew)
            have HSW := Lib.hid (show InsJ (rmF l) n i m ((ys.set j a).set m i) from by
              have := HI.out.swap (a := a) hj (by rw [HJE.out]; exact HYA.out) HLT.out
              have e : j - 1 = m := by have := HJE.out; omega
              rw [e] at this
              exact this)
            have hmj : m < j := by have := HJE.out; omega
            obtain ⟨w5, hw5⟩ : ∃ x, x = ((wq.setCell { block := g, off := j } (Value.int IntKind.i64 ↑a)).setCell { block := g, off := m } (Value.int IntKind.i64 ↑i)).drew := ⟨_, rfl⟩
            rw [← hw5] at HS5 ⊢
            clear hw5 HS4
            go_wp2_with fail
            go_roundw
            case rel => exact ⟨m, rfl, _, HS5.out, HSW.out⟩
            case measure => simp [intOf]; omega
          · have d0 : decide (cv < 0) = false := decide_eq_false hcmp
            have HLT := Lib.hid (show ¬ rmF l a < rmF l i by have := HCV.out; rw [d0] at this; have := of_decide_eq_false this.symm; omega)
            clear hcmp
            go_upto_region 4 with (fail)
            refine wp_region_quiet_below (by kernel_rfl) (by kernel_rfl) ?_
            repeat (go_big_quiet_step (first | with_reducible exact cA _ _))
            refine wpQuiet_nil ?_
            intro _ hw'
            obtain ⟨⟨dq, osq⟩, hw''⟩ := hw'
            subst hw''
            have HS2 := Lib.hid (HSY.out.later (below_regrown wr dq osq))
            clear x1 x2 cA
            generalize grow (redrawn wr dq) osq = wq at HS2 ⊢
            have HD := Lib.hid (HI.out.done hlt (.inr ⟨a, by rw [HJE.out]; exact HYA.out, HLT.out⟩))
            go_wp2_with fail
            go_roundw
            case rel => exact ⟨i + 1, by omega, hlt, rfl, ys, HS2.out, HD.out⟩
            case measure => simp [intOf]; omega
        · obtain rfl : j = 0 := by omega
          have HD := Lib.hid (HI.out.done hlt (.inl rfl))
          clear hj hji hyj hyl hrow
          go_upto_region 4 with (fail)
          refine wp_region_quiet_below (by kernel_rfl) (by kernel_rfl) ?_
          repeat (go_big_quiet_step (fail))
          refine wpQuiet_nil ?_
          intro _ hw'
          obtain ⟨⟨dq, osq⟩, hw''⟩ := hw'
          subst hw''
          have HS2 := Lib.hid (HSY.out.later (below_regrown wr dq osq))
          generalize grow (redrawn wr dq) osq = wq at HS2 ⊢
          go_wp2_with fail
          go_roundw
          case rel => exact ⟨i + 1, by omega, hlt, rfl, ys, HS2.out, HD.out⟩
          case measure => simp [intOf]; omega
    · obtain rfl : i = n := by omega
      have hd0 : decide ((i : Int) < (i : Int)) = false := decide_eq_false (by omega)
      have hd1 : decide (i < i) = false := decide_eq_false (by omega)
      have HR := Lib.hid (show ∃ xs, SrtW D bl ba bf g A i c c0 l w xs wr ∧ xs.Perm (List.range i) ∧ xs.Pairwise fun a b => bef (rmF l) a b = true from ⟨xs, hs, hin.end_⟩)
      clear hs hin hi hlt
      go_wp2_with fail
      go_end0
      exact ⟨rfl, HR.out⟩
end Go.Proofs.Ytnifhhaalmlmnaa
