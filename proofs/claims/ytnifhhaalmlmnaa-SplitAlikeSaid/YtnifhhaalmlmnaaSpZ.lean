/- split: slices.SortStableFunc, of few. -/
import Derived.Test.YtnifhhaalmlmnaaSpY
import Derived.LoopN
namespace Go.Proofs.Ytnifhhaalmlmnaa
open Go.RowKit Go.Sort
def SrtPost (D bl ba bf g : Nat) (A : Option Addr) (n c c0 : Nat) (l : List Nx) (w : World) (e : Ending) (w' : World) : Prop := e = .returned (.tuple #[]) ∧ ∃ xs, SrtW D bl ba bf g A n c c0 l w xs w' ∧ xs.Perm (List.range n) ∧ xs.Pairwise fun a b => bef (rmF l) a b = true
set_option maxRecDepth 20000 in
set_option maxHeartbeats 3200000 in
theorem stable_any (D bl ba bf g : Nat) (A : Option Addr) (n c c0 : Nat) (l : List Nx) (w : World) (h : SrtW D bl ba bf g A n c c0 l w (List.range n) w) (hn : l.length = n) (h1 : 1 ≤ n) (hc : n ≤ c0) (hsm : n ≤ 8) (hW : 0 < allF l) (hW2 : allF l ≤ 524288) :
    Calls Try.prog 22 #[.slice (some ⟨g, 0, none⟩) n c0, .int .i64 (n : Int), .func (.func 20) #[] #[.pointer (some ⟨bf, 0, none⟩)]] w (SrtPost D bl ba bf g A n c c0 l w) := by
  have HI := Lib.hid (insort_any D bl ba bf g A n c c0 l w h hn h1 hc (by omega) hW hW2)
  have d1 : decide ((20 : Int) ≤ (n : Int)) = false := decide_eq_false (by omega)
  have d2 : decide ((20 : Int) < (n : Int)) = false := decide_eq_false (by omega)
  clear h hn h1 hc hW hW2
  go_enter Try.func22, Try.ntmps22
  go_wp2_with fail
  refine wp_loop_rounds 1 ?_
  rw [rounds_succ]
  go_wp2_with fail
  refine HI.out.mono ?_
  rintro e w2 ⟨rfl, hx⟩
  have HX := Lib.hid hx
  clear hx
  go_wp2_with fail
  refine wp_loop_rounds 1 ?_
  rw [rounds_succ]
  go_wp2_with fail
  go_end0
  exact ⟨rfl, HX.out⟩
set_option maxRecDepth 20000 in
theorem sortstable_any (D bl ba bf g : Nat) (A : Option Addr) (n c c0 : Nat) (l : List Nx) (w : World) (h : SrtW D bl ba bf g A n c c0 l w (List.range n) w) (hn : l.length = n) (h1 : 1 ≤ n) (hc : n ≤ c0) (hsm : n ≤ 8) (hW : 0 < allF l) (hW2 : allF l ≤ 524288) :
    Calls Try.prog 19 #[.slice (some ⟨g, 0, none⟩) n c0, .func (.func 20) #[] #[.pointer (some ⟨bf, 0, none⟩)]] w (SrtPost D bl ba bf g A n c c0 l w) := by
  have HI := Lib.hid (stable_any D bl ba bf g A n c c0 l w h hn h1 hc hsm hW hW2)
  clear h hn h1 hc hW hW2 hsm
  go_enter Try.func19, Try.ntmps19
  go_wp2_with fail
  refine HI.out.mono ?_
  rintro e w2 ⟨rfl, hx⟩
  have HX := Lib.hid hx
  clear hx
  go_wp2_with fail
  go_end0
  exact ⟨rfl, HX.out⟩
end Go.Proofs.Ytnifhhaalmlmnaa
