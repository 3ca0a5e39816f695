/- Tries: going over entries. -/
import Derived.Test.YtejiecebckjflaaTrW
import Derived.RangeFuncNested
import Derived.RangeFuncBound
import Derived.RangeFuncCalls
import Derived.RangeFuncLeaves
import Derived.Shelf.Abstract
import Derived.OwnWalkIn
import Derived.TacticsInMore
import Derived.LoopNIn
import Derived.LoopIn
namespace Go.Proofs.Ytejiecebckjflaa
open Go.RowKit

attribute [local go_sem] Oper.semAt_some

theorem add_after (ad : Addr) (i j : Nat) (h : 0 < j) : ad.add (i + j) = ⟨(ad.add i).block, (ad.add i).off + j, none⟩ := by
  unfold Addr.add
  rw [if_neg (by omega)]
  split
  · subst_vars; simp
  · simp; omega
/-- An entry's cells. -/
def entC (e : Bs × Int) : List Value := [.int .u32 (padB e.1 : Int), .int .i64 (e.1.length : Int), .int .i64 e.2]
/-- What is handed to a round. -/
def entV (e : Bs × Int) : Array Value := #[pxV (padB e.1) e.1.length, .int .i64 e.2]
theorem entC_get : ∀ (L : List (Bs × Int)) (k : Nat) (e : Bs × Int), L[k]? = some e → (L.flatMap entC)[k * 3]? = some (.int .u32 (padB e.1 : Int)) ∧ (L.flatMap entC)[k * 3 + 1]? = some (.int .i64 (e.1.length : Int)) ∧ (L.flatMap entC)[k * 3 + 2]? = some (.int .i64 e.2)
  | a :: r, 0, e, h => by
    obtain rfl : a = e := by simpa using h
    simp [entC]
  | a :: r, k + 1, e, h => by
    have ih := entC_get r k e (by simpa using h)
    have ee : (a :: r).flatMap entC = .int .u32 (padB a.1 : Int) :: .int .i64 (a.1.length : Int) :: .int .i64 a.2 :: r.flatMap entC := rfl
    rw [ee, show (k + 1) * 3 = k * 3 + 1 + 1 + 1 from by omega]
    simpa using ih
theorem entC_len (L : List (Bs × Int)) : (L.flatMap entC).length = L.length * 3 := by
  induction L with
  | nil => rfl
  | cons a r ih => simp [List.flatMap_cons, entC, ih]; omega
theorem take_snocE {L : List (Bs × Int)} {k : Nat} {e : Bs × Int} (h : L[k]? = some e) : L.take (k + 1) = L.take k ++ [e] := by
  rw [List.take_add_one, h]; rfl

set_option maxRecDepth 100000 in
set_option maxHeartbeats 2000000 in
theorem over1_in (F : Fence) (n : Nat) (hf : F.fn 52) (hro : F.round = none) (hn : 1 ≤ n) (l Bx : Nat) (I : Nat → Prop) (A : Option Addr) (cap : Nat) (L : List (Bs × Int)) (hsm : L.length ≤ 1000000000) (J Jx : List (Bs × Int) → World → Prop)
    (W : World) (hI : ∀ k, I k → k < W.heap.size) (hJa : AbidesFrom W.heap.size J)
    (hY : ∀ pre x W, J pre W → pre ++ [x] <+: L → YieldAt F (n - 1) Try.prog l (entV x) W fun e W' =>
      (e = .returned (.bool true) ∧ J (pre ++ [x]) W' ∧ Same I W W') ∨ (e = .returned (.bool false) ∧ Jx (pre ++ [x]) W'))
    (hBs : W.cell? ⟨Bx, 0, none⟩ = some (.slice A L.length cap)) (hr : Reads W I 3 A L.length (L.flatMap entC)) (h0 : J [] W) :
    CallsIn F n Try.prog 52 #[.func (.yield l) #[] #[], .pointer (some ⟨Bx, 0, none⟩)] W fun e W' => (∃ v, e = .returned v) ∧
      ((∃ ys, ys = L ∧ J ys W') ∨ (∃ pre, pre <+: L ∧ Jx pre W')) := by
  have R := Lib.hid hr
  obtain ⟨m, hm⟩ : ∃ m, m = L.length := ⟨_, rfl⟩
  rw [← hm] at hBs hsm
  have HM := Lib.hid hm
  clear hr hm
  refine callsIn_of_wp Try.func52 rfl hf ?_ hro
  simp only [Try.ntmps52, List.size_toArray, List.length_cons, List.length_nil, Nat.reduceAdd, Nat.reduceSub, Array.replicate_succ, Array.replicate_zero, List.push_toArray, List.append_toArray, List.nil_append, List.cons_append]
  gi_wp2
  gi_loopw [7] (fun i wr => ∃ k : Nat, k ≤ m ∧ i = .int .i64 (k : Int) ∧ J (L.take k) wr ∧ Same I W wr) (fun i _ => m - (intOf i).toNat)
  case atStart => exact ⟨0, Nat.zero_le _, rfl, h0, Same.refl _ _⟩
  case round =>
    obtain ⟨k, hk, rfl, hJs, hnx⟩ := hrel
    by_cases hlt : k < m
    · obtain ⟨e, he⟩ : ∃ e, L[k]? = some e := ⟨_, List.getElem?_eq_getElem (by rw [← HM.out]; exact hlt)⟩
      obtain ⟨ad, hA, _, _, hc⟩ := (R.out.keep hnx).2 (by rw [← HM.out]; omega)
      subst hA
      obtain ⟨e0, e1, e2⟩ := entC_get L k e he
      have hcc0 : wr.cell? (ad.add (k * 3)) = some (.int .u32 (padB e.1 : Int)) := hc _ _ e0
      have hcc1 : wr.cell? ⟨(ad.add (k * 3)).block, (ad.add (k * 3)).off + 1, none⟩ = some (.int .i64 (e.1.length : Int)) := by
        rw [← add_after ad (k * 3) 1 (by omega)]
        exact hc _ _ e1
      have hcc2 : wr.cell? ⟨(ad.add (k * 3)).block, (ad.add (k * 3)).off + 2, none⟩ = some (.int .i64 e.2) := by
        rw [← add_after ad (k * 3) 2 (by omega)]
        exact hc _ _ e2
      obtain ⟨pa, hpa⟩ : ∃ pa, pa = padB e.1 := ⟨_, rfl⟩
      obtain ⟨pn, hpn⟩ : ∃ pn, pn = e.1.length := ⟨_, rfl⟩
      obtain ⟨ev, hev⟩ : ∃ ev, ev = e.2 := ⟨_, rfl⟩
      have hsz : W.heap.size ≤ wr.heap.size := hnx.1
      have hJ2 : J (L.take k) (wr.alloc (.cells #[.int .u32 (pa : Int), .int .i64 (pn : Int), .int .i64 ev] 87)) := hJa _ _ _ _ hJs (World.grownBy_alloc wr _ none) (fun r hr => by cases hr)
      have hyy := hY _ e (wr.alloc (.cells #[.int .u32 (pa : Int), .int .i64 (pn : Int), .int .i64 ev] 87)) hJ2 (by rw [← take_snocE he]; exact List.take_prefix _ _)
      unfold entV at hyy
      rw [← hpa, ← hpn, ← hev] at hyy
      rw [← hpa] at hcc0
      rw [← hpn] at hcc1
      rw [← hev] at hcc2
      obtain ⟨fn, tmps, assign, body, hy, hR⟩ := hyy
      have hi0 : (0 : Int) ≤ k := by omega
      have hi1 : (k : Int) < m := by omega
      have HNX := Lib.hid hnx
      have HE := Lib.hid he
      clear hJ2 hJs hJa hY hnx hc e0 e1 e2 he hpa hpn hev
      gi_wp2
      refine hR.mono ?_
      rintro e3 W3 (⟨rfl, hJ3, hk3⟩ | ⟨rfl, hJx3⟩)
      · gi_wp2
        go_roundw
        case rel => exact ⟨k + 1, by omega, by simp, by rw [take_snocE HE.out]; exact hJ3, (HNX.out.trans (Same.ofBelow ((Below.refl _ wr).alloc (Nat.le_refl _) _) fun k hk => Nat.lt_of_lt_of_le (hI k hk) hsz)).trans hk3⟩
        case measure => simp [intOf]; omega
      · gi_wp2
        refine bodyPost_ret (results_none rfl _ _ _) rfl ?_
        exact ⟨⟨_, rfl⟩, .inr ⟨_, by rw [← take_snocE HE.out]; exact List.take_prefix _ _, hJx3⟩⟩
    · obtain rfl : k = m := by omega
      gi_wp2
      go_end0
      exact ⟨⟨_, rfl⟩, .inl ⟨_, List.take_of_length_le (by rw [HM.out]; exact Nat.le_refl _), hJs⟩⟩
end Go.Proofs.Ytejiecebckjflaa
