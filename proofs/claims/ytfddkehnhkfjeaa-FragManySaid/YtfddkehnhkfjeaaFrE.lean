/- Lists of rows of bytes: SameLists; law15's num. -/
import Derived.Test.YtfddkehnhkfjeaaFrA
import Derived.Deep.QuietTactic
import Derived.BigQuiet
namespace Go.Proofs.Ytfddkehnhkfjeaa
open Go.RowKit Go.Sort Go.BigFrame
theorem num15_any (n : Int) (w : World) : Calls Try.prog 43 #[.int .i64 n] w fun e w' => e = .returned (.int .i64 n) ∧ w = w' := by
  go_enter Try.func43, Try.ntmps43
  go_wp2_with fail
  go_ret
  exact ⟨rfl, rfl⟩
/-- The row us of slices reads as the rows xs. -/
def Lst8 (w : World) (I : Nat → Prop) (A : Option Addr) (n : Nat) (us : List Value) (xs : List By) : Prop :=
  Reads w I 1 A n us ∧ xs.length = n ∧ ∀ (k : Nat) (x : By), xs[k]? = some x → ∃ A' c', us[k]? = some (.slice A' x.length c') ∧ x.length ≤ c' ∧ Reads w I 1 A' x.length (bytesV x)
theorem Lst8.keep {w w2 : World} {I : Nat → Prop} {A : Option Addr} {n : Nat} {us : List Value} {xs : List By} (h : Lst8 w I A n us xs) (hs : Same I w w2) : Lst8 w2 I A n us xs :=
  ⟨h.1.keep hs, h.2.1, fun k x hx => by obtain ⟨A', c', h1, h2, h3⟩ := h.2.2 k x hx; exact ⟨A', c', h1, h2, h3.keep hs⟩⟩
theorem Lst8.mono {w : World} {I J : Nat → Prop} {A : Option Addr} {n : Nat} {us : List Value} {xs : List By} (h : Lst8 w I A n us xs) (hs : ∀ k, I k → J k) : Lst8 w J A n us xs :=
  ⟨h.1.mono hs, h.2.1, fun k x hx => by obtain ⟨A', c', h1, h2, h3⟩ := h.2.2 k x hx; exact ⟨A', c', h1, h2, h3.mono hs⟩⟩
theorem Lst8.lt {w : World} {I : Nat → Prop} {A : Option Addr} {n : Nat} {us : List Value} {xs : List By} (h : Lst8 w I A n us xs) : Lst8 w (fun k => I k ∧ k < w.heap.size) A n us xs :=
  ⟨h.1.lt, h.2.1, fun k x hx => by obtain ⟨A', c', h1, h2, h3⟩ := h.2.2 k x hx; exact ⟨A', c', h1, h2, h3.lt⟩⟩

set_option maxRecDepth 100000 in
set_option maxHeartbeats 4000000 in
theorem samelists_any (A B : Option Addr) (n c1 c2 : Nat) (us vs : List Value) (xs : List By) (I J : Nat → Prop) (w : World) (ha : Lst8 w I A n us xs) (hb : Lst8 w J B n vs xs) (hn : n ≤ 1000000) :
    Calls Try.prog 48 #[.slice A n c1, .slice B n c2] w fun e w' => e = .returned (.bool true) ∧ Below w.heap.size w w' := by
  have HA := Lib.hid ha.lt
  have HB := Lib.hid hb.lt
  clear ha hb
  go_enter Try.func48, Try.ntmps48
  go_wp2_with fail
  go_loopw [5] (fun i wr => ∃ k : Nat, k ≤ n ∧ i = .int .i64 (k : Int) ∧ Below w.heap.size w wr) (fun i _ => n - (intOf i).toNat)
  case atStart => exact ⟨0, Nat.zero_le _, rfl, Below.refl _ _⟩
  case round =>
    obtain ⟨k, hk, rfl, hbr⟩ := hrel
    by_cases hlt : k < n
    · have a1 := HA.out.keep (Same.ofBelow hbr fun k hk => hk.2)
      have b1 := HB.out.keep (Same.ofBelow hbr fun k hk => hk.2)
      obtain ⟨x, hx⟩ : ∃ x, xs[k]? = some x := ⟨_, List.getElem?_eq_getElem (by rw [a1.2.1]; exact hlt)⟩
      obtain ⟨A1, d1, e1, _, r1⟩ := a1.2.2 k x hx
      obtain ⟨B1, d2, e2, _, r2⟩ := b1.2.2 k x hx
      obtain ⟨ad, rfl, _, _, q1⟩ := a1.1.2 (by omega)
      obtain ⟨bd, rfl, _, _, q2⟩ := b1.1.2 (by omega)
      have hc1 : wr.cell? (ad.add k) = some (.slice A1 x.length d1) := by have := q1 _ _ e1; simpa using this
      have hc2 : wr.cell? (bd.add k) = some (.slice B1 x.length d2) := by have := q2 _ _ e2; simpa using this
      have s1 := fun wx (e : wx.heap = wr.heap) => run_str wx _ A1 x d1 (r1.keep (Same.ofHeap _ e))
      have s2 := fun wx (e : wx.heap = wr.heap) => run_str wx _ B1 x d2 (r2.keep (Same.ofHeap _ e))
      have hi0 : (0 : Int) ≤ k := by omega
      have hi1 : (k : Int) < n := by omega
      have HBR := Lib.hid hbr
      clear a1 b1 hx e1 e2 r1 r2 q1 q2 hbr
      go_upto_region 6 with fail
      go_quiet (first | (rw [s1 (wr.drewN _) rfl]; exact ⟨rfl, rfl⟩) | (rw [s2 (wr.drewN _) rfl]; exact ⟨rfl, rfl⟩))
      go_wp2_with fail
      go_roundw
      case rel => exact ⟨k + 1, by omega, by simp, HBR.out.trans ⟨rfl, rfl, rfl, Nat.le_refl _, fun _ _ => rfl⟩⟩
      case measure => simp [intOf]; omega
    · obtain rfl : k = n := by omega
      have HBR := Lib.hid hbr
      clear hbr
      go_wp2_with fail
      go_ret
      exact ⟨rfl, HBR.out⟩
end Go.Proofs.Ytfddkehnhkfjeaa
