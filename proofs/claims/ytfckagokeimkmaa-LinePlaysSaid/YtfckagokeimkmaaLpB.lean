/- The line's Copy and All, with the closure of All as an iterator. -/
import Derived.Test.YtfckagokeimkmaaLnX
import Derived.Test.YtfckagokeimkmaaRgA
import Derived.Deep.MidRow
namespace Go.Proofs.Ytfckagokeimkmaa
open Go.RowKit
attribute [local go_sem] Oper.semAt_some

theorem grown_of {w w2 : World} (h : Below w.heap.size w w2) : w.grownBy w2 none := ⟨h.os, h.tape, h.output, h.size, fun k hk _ => h.block k hk⟩

/-- An item as it is handed to a round: its place, its bytes' address and capacity, its bytes. -/
abbrev Ln := Nat × Option Addr × Nat × List UInt8
def lnV (x : Ln) : Array Value := #[.int .i64 (x.1 : Int), .slice x.2.1 x.2.2.2.length x.2.2.1]
def LnFit (xs : List (List UInt8)) (pre : List Ln) (x : Ln) (V : World) : Prop :=
  x.1 = pre.length ∧ xs[pre.length]? = some x.2.2.2 ∧ V.ownsRow 0 5 1 (.slice x.2.1 x.2.2.2.length x.2.2.1) x.2.2.2.length (bytesV x.2.2.2)

theorem Items.get {w : World} {I : Nat → Prop} : ∀ {us : List Value} {xs : List (List UInt8)} (k : Nat) (x : List UInt8), Items w I us xs → xs[k]? = some x → ∃ u, us[k]? = some u ∧ w.ownsRow 0 5 1 u x.length (bytesV x) ∧ ∀ g, u.ownBlock = some g → I g
  | u :: us, y :: ys, 0, x, h, e => by
    obtain rfl : y = x := by simpa using e
    exact ⟨u, rfl, h.1.1, h.1.2⟩
  | u :: us, y :: ys, k + 1, x, h, e => by
    obtain ⟨v, hv, r⟩ := Items.get (us := us) (xs := ys) k x h.2 (by simpa using e)
    exact ⟨v, by simpa using hv, r⟩
  | [], [], k, x, _, e => by simp at e
  | [], _ :: _, _, _, h, _ => h.elim
  | _ :: _, [], _, _, h, _ => h.elim

set_option maxRecDepth 100000 in
set_option maxHeartbeats 2000000 in
theorem all1_in (l Bx : Nat) (I : Nat → Prop) (A : Option Addr) (cap m : Nat) (us : List Value) (xs : List (List UInt8)) (hm : us.length = m) (hsm : m ≤ 1000000000) (hsx : ∀ x ∈ xs, x.length ≤ 1000000) (J Jx : List Ln → World → Prop)
    (W : World) (hI : ∀ k, I k → k < W.heap.size) (hJa : AbidesFrom W.heap.size J)
    (hY : ∀ pre x V, J pre V → LnFit xs pre x V → YieldAt Fence.wide 3 Try.prog l (lnV x) V fun e V' =>
      (e = .returned (.bool true) ∧ J (pre ++ [x]) V' ∧ Same I V V') ∨ (e = .returned (.bool false) ∧ Jx (pre ++ [x]) V'))
    (hBs : W.cell? ⟨Bx, 0, none⟩ = some (.slice A m cap)) (hr : Reads W I 1 A m us) (hit : Items W I us xs) (h0 : J [] W) :
    CallsIn Fence.wide 4 Try.prog 24 #[.func (.yield l) #[] #[], .pointer (some ⟨Bx, 0, none⟩)] W fun e W' => (∃ v, e = .returned v) ∧
      ((∃ ys : List Ln, ys.length = xs.length ∧ J ys W') ∨ (∃ pre, True ∧ Jx pre W')) := by
  have R := Lib.hid hr
  have T := Lib.hid hit
  have HM := Lib.hid hm
  have HSX := Lib.hid hsx
  clear hr hit hm hsx
  refine callsIn_of_wp Try.func24 rfl trivial ?_ rfl
  simp only [Try.ntmps24, List.size_toArray, List.length_cons, List.length_nil, Nat.reduceAdd, Nat.reduceSub, Array.replicate_succ, Array.replicate_zero, List.push_toArray, List.append_toArray, List.nil_append, List.cons_append]
  gi_wp2
  gi_loopw [7] (fun i wr => ∃ (k : Nat) (pre : List Ln), k ≤ m ∧ i = .int .i64 (k : Int) ∧ pre.length = k ∧ J pre wr ∧ Same I W wr) (fun i _ => m - (intOf i).toNat)
  case atStart => exact ⟨0, [], Nat.zero_le _, rfl, rfl, h0, Same.refl _ _⟩
  case round =>
    obtain ⟨k, pre, hk, rfl, hpk, hJs, hnx⟩ := hrel
    by_cases hlt : k < m
    · obtain ⟨u, hu, x, hx, A2, c2, rfl, hown, hui⟩ : ∃ u, us[k]? = some u ∧ ∃ x, xs[k]? = some x ∧ (∃ A2 c2, u = .slice A2 x.length c2 ∧ W.ownsRow 0 5 1 u x.length (bytesV x) ∧ ∀ g, u.ownBlock = some g → I g) := by
        obtain ⟨x, hx⟩ : ∃ x, xs[k]? = some x := ⟨_, List.getElem?_eq_getElem (by rw [← T.out.len, HM.out]; exact hlt)⟩
        obtain ⟨u, hu, ho, hi⟩ := Items.get k x T.out hx
        obtain ⟨A2, c2, rfl, _⟩ := own_form ho
        exact ⟨_, hu, x, hx, A2, c2, rfl, ho, hi⟩
      obtain ⟨ad, hA, _, _, hc⟩ := (R.out.keep hnx).2 (by omega)
      subst hA
      have hcc : wr.cell? (ad.add k) = some (.slice A2 x.length c2) := by have := hc _ _ hu; simpa using this
      have hrd : Reads wr I 1 A2 x.length (bytesV x) := (Reads.of_own hown hui).keep hnx
      have hx1 := HSX.out x (List.mem_of_getElem? hx)
      have HC := Lib.hid (clone8_any A2 x.length c2 (bytesV x) I wr hrd (bytesV_one x) (by omega))
      have hsz : W.heap.size ≤ wr.heap.size := hnx.1
      have hi0 : (0 : Int) ≤ k := by omega
      have hi1 : (k : Int) < m := by omega
      have HX := Lib.hid hx
      have HNX := Lib.hid hnx
      have HP := Lib.hid hpk
      have HJ := Lib.hid hJs
      have HY := Lib.hid hY
      have HJA := Lib.hid hJa
      have HI := Lib.hid hI
      clear hx hnx hpk hJs hY hJa hc hrd hown hui hu hI
      gi_wp2_with fail
      refine ⟨trivial, ?_⟩
      refine (callsIn_wide.2 HC.out).mono ?_
      rintro e w3 ⟨v3, rfl, ho3, hb3⟩
      obtain ⟨A3, c3, rfl, _⟩ := own_form ho3
      have hJ3 := HJA.out _ _ _ _ HJ.out (grown_of hb3) (fun r hr => by cases hr)
      have hfit : LnFit xs pre (k, A3, c3, x) w3 := ⟨HP.out.symm, by rw [HP.out]; exact HX.out, own_base ho3 (Nat.zero_le _)⟩
      have hs3 : Same I wr w3 := Same.ofBelow hb3 fun k hk => Nat.lt_of_lt_of_le (HI.out k hk) hsz
      have hyy := HY.out pre (k, A3, c3, x) w3 hJ3 hfit
      unfold lnV at hyy
      have HS3 := Lib.hid hs3
      clear ho3 hb3 hJ3 hfit hs3
      obtain ⟨fn, tmps, assign, body, hy, hR⟩ := hyy
      gi_wp2_with fail
      refine hR.mono ?_
      rintro e3 W3 (⟨rfl, hJ3, hk3⟩ | ⟨rfl, hJx3⟩)
      · gi_wp2
        go_roundw
        case rel => exact ⟨k + 1, _, by omega, by simp, by simp [HP.out], hJ3, (HNX.out.trans HS3.out).trans hk3⟩
        case measure => simp [intOf]; omega
      · gi_wp2
        refine bodyPost_ret (results_none rfl _ _ _) rfl ?_
        exact ⟨⟨_, rfl⟩, .inr ⟨_, trivial, hJx3⟩⟩
    · obtain rfl : k = m := by omega
      gi_wp2
      go_end0
      exact ⟨⟨_, rfl⟩, .inl ⟨pre, by rw [hpk, ← HM.out, T.out.len], hJs⟩⟩
end Go.Proofs.Ytfckagokeimkmaa
