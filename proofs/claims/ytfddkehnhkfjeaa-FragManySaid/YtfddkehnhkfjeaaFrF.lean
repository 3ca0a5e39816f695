/- Frag: the iterators over nothing, and over the packet itself. -/
import Derived.Test.YtfddkehnhkfjeaaFrE
import Derived.Test.YtfddkehnhkfjeaaRgA
namespace Go.Proofs.Ytfddkehnhkfjeaa
open Go.RowKit
attribute [local go_sem] Oper.semAt_some

/-- A piece as it is handed to a round: its address and capacity, its bytes. -/
abbrev Pc := Option Addr × Nat × By
def pcV (x : Pc) : Array Value := #[.slice x.1 x.2.2.length x.2.1]
/-- What a round is handed: the next of the pieces, in a row of its own, from block B on. -/
def PcFit (L : List By) (B : Nat) (pre : List Pc) (x : Pc) (V : World) : Prop :=
  L[pre.length]? = some x.2.2 ∧ V.ownsRow B 5 1 (.slice x.1 x.2.2.length x.2.1) x.2.2.length (bytesV x.2.2)
theorem grown_none {w w2 : World} (h : Below w.heap.size w w2) : w.grownBy w2 none := ⟨h.os, h.tape, h.output, h.size, fun k hk _ => h.block k hk⟩

set_option maxRecDepth 100000 in
/-- none. -/
theorem none_fits (w : World) (Kp : World → World → Prop) (Fit : List Pc → Pc → World → Prop) (S Sp : List Pc → Prop) (hS : S []) :
    SeqFit Fence.wide 4 Try.prog 92 #[] pcV Kp S Sp Fit w := fun l J Jx W _ _ _ h0 _ => by
  refine callsIn_of_wp Try.func92 rfl trivial ?_ rfl
  simp only [Try.ntmps92, List.size_toArray, List.length_cons, List.length_nil, Nat.reduceAdd, Nat.reduceSub, Array.replicate_succ, Array.replicate_zero, List.push_toArray, List.append_toArray, List.nil_append, List.cons_append]
  gi_wp2
  go_end0
  exact ⟨⟨_, rfl⟩, .inl ⟨[], hS, h0⟩⟩

set_option maxRecDepth 100000 in
set_option maxHeartbeats 2000000 in
/-- Pieces$1: the packet's own bytes, once. -/
theorem one_fits (w : World) (Bx : Nat) (ad : Addr) (cap : Nat) (x : By) (J0 : Nat → Prop) (hJ : ∀ k, J0 k → k < w.heap.size) (hB : Blk w Bx 22 #[.slice (some ad) x.length cap]) (hr : Reads w J0 1 (some ad) x.length (bytesV x)) (hsm : x.length ≤ 1000000) :
    SeqFit Fence.wide 4 Try.prog 93 #[.pointer (some ⟨Bx, 0, none⟩)] pcV (Same J0) (fun ys => ys.length = 1) (fun _ => True) (PcFit [x] w.heap.size) w := fun l J Jx W hW hJa _ h0 hY => by
  have hs : Same J0 w W := Same.ofBelow hW hJ
  have hcB : W.cell? ⟨Bx, 0, none⟩ = some (.slice (some ad) x.length cap) := (hB.below hW hB.lt).cell 0
  obtain ⟨i0, hi, hz0, hz1, hz2⟩ := info_parts info_u8
  have hrW := hr.keep hs
  obtain ⟨n, hn⟩ : ∃ n, n = x.length := ⟨_, rfl⟩
  rw [← hn] at hcB
  have hcells : ∀ (j : Nat) u, (bytesV x)[j]? = some u → W.cell? (ad.add j) = some u := fun j u hu => by
    obtain ⟨ad', e, _, _, hc⟩ := hrW.2 (by
      have := (List.getElem?_eq_some_iff.1 hu).1
      unfold bytesV at this
      simp at this
      omega)
    injection e with e
    subst e
    exact hc j u hu
  have hlen : (bytesV x).length = n * 1 := by rw [hn]; unfold bytesV; simp
  have HC := Lib.hid hcells
  have HLN := Lib.hid hlen
  have H1 := Lib.hid (bytesV_one x)
  have HN := Lib.hid hn
  have HY := Lib.hid hY
  have HJA := Lib.hid hJa
  have HH0 := Lib.hid h0
  have HWZ := Lib.hid hW.size
  have hmx : 0 + n ≤ maxLen := by unfold maxLen; omega
  have hmb : (0 + n) * 1 ≤ 140737488355328 := by omega
  clear hcells hlen hn hrW hs hY hJa h0 hr hB hW
  refine callsIn_of_wp Try.func93 rfl trivial ?_ rfl
  simp only [Try.ntmps93, List.size_toArray, List.length_cons, List.length_nil, Nat.reduceAdd, Nat.reduceSub, Array.replicate_succ, Array.replicate_zero, List.push_toArray, List.append_toArray, List.nil_append, List.cons_append]
  gi_wp2_with (refine wpListIn_append_own _ rfl (.const (.slice none 0 0)) (.tmp 4) 22 rfl W.heap.size 5 i0 _ 1 1 Try.underlying22 hi hz0 hz1 hz2 rfl Nat.one_pos (.slice none 0 0) 0 [] rfl (World.ownsRow_nil _ _ _ _) ad n cap (bytesV x) rfl HLN.out HC.out H1.out hmx hmb (Nat.le_refl _) ?_; intro v3 w3 hown3 hg3 hat3; have ho3 : w3.ownsRow W.heap.size 5 1 v3 n (bytesV x) := (by simpa using hown3); obtain ⟨A3, c3, rfl, _⟩ := own_form ho3; have hJ3 := HJA.out _ _ _ _ HH0.out hg3 (fun r hr => by cases hr); have hfit : PcFit [x] w.heap.size [] (A3, c3, x) w3 := ⟨rfl, by rw [← HN.out]; exact own_base ho3 HWZ.out⟩; have hyy := HY.out [] (A3, c3, x) w3 hJ3 hfit; unfold pcV at hyy; simp only at hyy; rw [← HN.out] at hyy; clear hown3 hat3 ho3 hJ3 hfit; obtain ⟨fn, tmps, assign, body, hy, hR⟩ := hyy)
  refine hR.mono ?_
  rintro e3 W3 (⟨rfl, hJ3, hk3⟩ | ⟨rfl, hJx3⟩)
  · gi_wp2
    go_end0
    exact ⟨⟨_, rfl⟩, .inl ⟨_, rfl, hJ3⟩⟩
  · gi_wp2
    go_end0
    exact ⟨⟨_, rfl⟩, .inr ⟨_, trivial, hJx3⟩⟩
end Go.Proofs.Ytfddkehnhkfjeaa
