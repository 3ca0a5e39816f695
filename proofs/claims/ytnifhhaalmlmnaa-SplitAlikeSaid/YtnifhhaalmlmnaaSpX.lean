/- split: what orders the ways. -/
import Derived.Test.YtnifhhaalmlmnaaSpW
import Derived.Laws.EntriesVeiled
import Derived.RegionTactic
import Derived.ChangeAlike
namespace Go.Proofs.Ytnifhhaalmlmnaa
open Go.RowKit Go.Sort
def cmpI (a b : Int) : Int := if a < b then -1 else if b < a then 1 else 0
set_option maxRecDepth 20000 in
theorem compare_any (a b : Int) (w : World) : Calls Try.prog 21 #[.int .i64 a, .int .i64 b] w fun e w' => e = .returned (.int .i64 (cmpI a b)) ∧ w = w' := by
  have e1 : (a != a) = false := bne_self_eq_false a
  have e2 : (b != b) = false := bne_self_eq_false b
  by_cases h1 : a < b
  · have HE := Lib.hid (show cmpI a b = -1 by unfold cmpI; rw [if_pos h1])
    have d1 : decide (a < b) = true := decide_eq_true h1
    clear h1
    go_enter Try.func21, Try.ntmps21
    go_wp2
    go_ret
    exact ⟨by rw [HE.out]; rfl, rfl⟩
  have d1 : decide (a < b) = false := decide_eq_false h1
  by_cases h2 : b < a
  · have HE := Lib.hid (show cmpI a b = 1 by unfold cmpI; rw [if_neg h1, if_pos h2])
    have d2 : decide (b < a) = true := decide_eq_true h2
    clear h1 h2
    go_enter Try.func21, Try.ntmps21
    go_wp2
    go_ret
    exact ⟨by rw [HE.out]; rfl, rfl⟩
  have HE := Lib.hid (show cmpI a b = 0 by unfold cmpI; rw [if_neg h1, if_neg h2])
  have d2 : decide (b < a) = false := decide_eq_false h2
  clear h1 h2
  go_enter Try.func21, Try.ntmps21
  go_wp2
  go_ret
  exact ⟨by rw [HE.out]; rfl, rfl⟩
/-- What the closures see. -/
structure RstW (D bl ba : Nat) (A : Option Addr) (n c : Nat) (l : List Nx) (w : World) : Prop where
  kl : Blk w bl 22 #[.slice A n c]
  ka : Blk w ba 3 #[.int .i64 (allF l : Int)]
  rd : Reads w (fun k => k < D) 2 A n (l.flatMap nxC)
  hl : bl < D
  ha : ba < D
  hD : D ≤ w.heap.size
theorem RstW.keep {D bl ba : Nat} {A : Option Addr} {n c : Nat} {l : List Nx} {w w2 : World} (h : RstW D bl ba A n c l w) (hb : Below D w w2) : RstW D bl ba A n c l w2 :=
  ⟨h.kl.below hb h.hl, h.ka.below hb h.ha, h.rd.keep (Same.ofBelow hb fun _ hk => hk), h.hl, h.ha, Nat.le_trans h.hD hb.size⟩
theorem RstW.later {D bl ba : Nat} {A : Option Addr} {n c : Nat} {l : List Nx} {w w2 : World} (h : RstW D bl ba A n c l w) (hb : Below w.heap.size w w2) : RstW D bl ba A n c l w2 := h.keep (hb.mono h.hD)
theorem rem_eq (x a : Nat) : (256 * (x : Int)).tmod (a : Int) = ((256 * x % a : Nat) : Int) := by
  have : (256 * (x : Int)) = ((256 * x : Nat) : Int) := by rw [Int.natCast_mul]; rfl
  rw [this, ← Int.ofNat_tmod]
set_option maxRecDepth 20000 in
set_option maxHeartbeats 1600000 in
theorem rest_any (D bl ba : Nat) (A : Option Addr) (n c : Nat) (l : List Nx) (w : World) (h : RstW D bl ba A n c l w) (hn : l.length = n) (hsm : n ≤ 1000000) (hW : 0 < allF l) (hW2 : allF l ≤ 524288) (i : Nat) (hi : i < n) :
    Calls Try.prog 18 #[.int .i64 (i : Int), .pointer (some ⟨bl, 0, none⟩), .pointer (some ⟨ba, 0, none⟩)] w fun e w' => e = .returned (.int .i64 (rmF l i : Int)) ∧ Below w.heap.size w w' := by
  obtain ⟨ad, rfl, hcs⟩ := nx_cells h.rd hn (D := D) (fun _ hj => hj) hi
  obtain ⟨p, hp⟩ : ∃ p, p = (nxAt l i).1 := ⟨_, rfl⟩
  obtain ⟨d, hd⟩ : ∃ p, p = (nxAt l i).2 := ⟨_, rfl⟩
  rw [← hp, ← hd] at hcs
  obtain ⟨x, hx⟩ : ∃ x, x = wAt l i := ⟨_, rfl⟩
  have hwt := fun wx => weight_any (p, d) wx
  have hpd : (p, d) = nxAt l i := by rw [hp, hd]
  have hxe : wtF (p, d) = x := by rw [hx, hpd]; rfl
  rw [hxe] at hwt
  unfold nxV at hwt
  obtain ⟨al, hal⟩ : ∃ a, a = allF l := ⟨_, rfl⟩
  obtain ⟨r, hr⟩ : ∃ r, r = rmF l i := ⟨_, rfl⟩
  have hx3 : x ≤ 65536 := by rw [hx]; exact wAt_le l i
  have hre : (256 * (x : Int)).tmod (al : Int) = (r : Int) := by rw [rem_eq, hr, hx, hal]; rfl
  have hwr : IntKind.i64.wrap (256 * (x : Int)) = 256 * (x : Int) := IntWalk.i64_in _ (by omega)
  have hnz : ¬ al = 0 := by omega
  rw [← hr]
  have x1 := fun (dd : Nat) (os : Array Obj) => cell_regrown (h.kl.cell 0) dd os
  have x2 := fun (dd : Nat) (os : Array Obj) => cell_regrown (h.ka.cell 0) dd os
  rw [← hal] at x2
  have x3 := fun (dd : Nat) (os : Array Obj) => (hcs _ ((below_regrown w dd os).mono h.hD)).1
  have x4 := fun (dd : Nat) (os : Array Obj) => (hcs _ ((below_regrown w dd os).mono h.hD)).2
  have cA := fun (dd : Nat) (os : Array Obj) => Calls.regrown_of (hwt (grow (redrawn w dd) os))
  have i0 : (0 : Int) ≤ i := by omega
  have i1 : (i : Int) < n := by omega
  have i2 : (i : Int) < 1000000 := by omega
  clear h hn hW hW2 hi hcs hp hd hx hwt hpd hxe hal hr hx3
  go_enter Try.func18, Try.ntmps18
  go_wp2_with fail
  refine wp_region_quiet_below (by kernel_rfl) (by kernel_rfl) ?_
  repeat (go_big_quiet_step (first | with_reducible exact cA _ _))
  refine wpQuiet_nil ?_
  intro _ hw'
  obtain ⟨⟨dq, osq⟩, hw''⟩ := hw'
  subst hw''
  have HB := Lib.hid (below_regrown w dq osq)
  go_wp2_with fail
  go_ret
  exact ⟨rfl, HB.out⟩
/-- The order's state. -/
def bfV (bl ba : Nat) : Value := .func (.func 18) #[] #[.pointer (some ⟨bl, 0, none⟩), .pointer (some ⟨ba, 0, none⟩)]
set_option maxRecDepth 20000 in
set_option maxHeartbeats 1600000 in
theorem order_any (D bl ba bf : Nat) (A : Option Addr) (n c : Nat) (l : List Nx) (w : World) (h : RstW D bl ba A n c l w) (hf : Blk w bf 44 #[bfV bl ba]) (hn : l.length = n) (hsm : n ≤ 1000000) (hW : 0 < allF l) (hW2 : allF l ≤ 524288) (i j : Nat) (hi : i < n) (hj : j < n) :
    Calls Try.prog 20 #[.int .i64 (i : Int), .int .i64 (j : Int), .pointer (some ⟨bf, 0, none⟩)] w fun e w' => e = .returned (.int .i64 (cmpI (rmF l j) (rmF l i))) ∧ Below w.heap.size w w' := by
  have x1 := fun (dd : Nat) (os : Array Obj) => cell_regrown (hf.cell 0) dd os
  have hh := fun wx (hx : Below w.heap.size w wx) => h.later hx
  have cA := fun (dd : Nat) (os : Array Obj) => Calls.regrown_of (rest_any D bl ba A n c l _ (hh _ (below_regrown w dd os)) hn hsm hW hW2 j hj)
  have cB := fun (dd : Nat) (os : Array Obj) => Calls.regrown_of (rest_any D bl ba A n c l _ (hh _ (below_regrown w dd os)) hn hsm hW hW2 i hi)
  obtain ⟨ri, hri⟩ : ∃ r, r = rmF l i := ⟨_, rfl⟩
  obtain ⟨rj, hrj⟩ : ∃ r, r = rmF l j := ⟨_, rfl⟩
  rw [← hri] at cB ⊢
  rw [← hrj] at cA ⊢
  have cC := fun (dd : Nat) (os : Array Obj) => Calls.regrown_of (w := w) (d := dd) (os := os) ((compare_any (rj : Int) (ri : Int) (grow (redrawn w dd) os)).mono fun e w' he => ⟨he.1, he.2 ▸ Below.refl _ _⟩)
  unfold bfV at x1
  clear h hf hn hsm hW hW2 hi hj hri hrj hh
  go_enter Try.func20, Try.ntmps20
  go_wp2_with fail
  refine wp_region_quiet_below (by kernel_rfl) (by kernel_rfl) ?_
  repeat (go_big_quiet_step (first | with_reducible exact cA _ _ | with_reducible exact cB _ _ | with_reducible exact cC _ _))
  refine wpQuiet_nil ?_
  intro _ hw'
  obtain ⟨⟨dq, osq⟩, hw''⟩ := hw'
  subst hw''
  have HB := Lib.hid (below_regrown w dq osq)
  go_wp2_with fail
  go_ret
  exact ⟨rfl, HB.out⟩
end Go.Proofs.Ytnifhhaalmlmnaa
