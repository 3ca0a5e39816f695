/- ip.wrong. -/
import Derived.Test.YtihfihehiifdkaaIpK
import Derived.Test.YtihfihehiifdkaaIpT
import Derived.BigQuiet
namespace Go.Proofs.Ytihfihehiifdkaa
open Go.RowKit
theorem wrap_i64 (n : Int) (h0 : -9223372036854775808 ≤ n) (h1 : n < 9223372036854775808) : IntKind.i64.wrap n = n := by
  exact IntWalk.i64_in _ (by omega)
/-- byte `k` of a row of at least `k + 1` bytes -/
theorem byte_getD {w : World} {I : Nat → Prop} {A : Option Addr} {n k : Nat} {x : By} (h : Reads w I 1 A n (bytesV x)) (hk : k < n) : ∃ ad, A = some ad ∧ w.cell? (ad.add k) = some (.int .u8 ((x.getD k 0).toNat : Int)) := by
  have hn : x.length = n := by have := h.1; rw [bytesV_len] at this; omega
  obtain ⟨ad, hA, _, hc⟩ := byte_at h (k := k) (by omega)
  refine ⟨ad, hA, ?_⟩
  rw [hc, List.getD_eq_getElem?_getD, List.getElem?_eq_getElem (by omega)]
  rfl
set_option maxRecDepth 20000 in
set_option maxHeartbeats 1600000 in
theorem wrong_any (A : Option Addr) (n c : Nat) (x : By) (I : Nat → Prop) (w : World) (h : Reads w I 1 A n (bytesV x)) (hn : x.length = n) (hc : n ≤ c) (hsm : n ≤ 1000000) :
    Calls Try.prog 76 #[.slice A n c] w fun e w' => e = .returned (.int .i64 (wrongF x : Int)) ∧ Below w.heap.size w w' := by
  by_cases h20 : n < 20
  · have hw : wrongF x = 1 := by unfold wrongF; rw [if_pos (by omega)]
    rw [hw]
    clear h hn
    go_enter Try.func76, Try.ntmps76
    go_wp2_with fail
    go_ret
    exact ⟨rfl, Below.refl _ _⟩
  · obtain ⟨ad, rfl, hb0⟩ := byte_getD h (k := 0) (by omega)
    rw [show ad.add 0 = ad from by unfold Addr.add; simp] at hb0
    have q24 := cut_lohi (a := 2) (b := 4) (cap := c) (by rw [hn]; exact h) (by omega) (by omega) (by omega)
    obtain ⟨cv, hcv⟩ : ∃ cv, cv = Value.slice (if c = 2 then some ad else (some ad).map (·.add 2)) (4 - 2) (c - 2) := ⟨_, rfl⟩
    rw [← hcv] at q24
    have e24 : ∀ wx : World, (Instr.slice 22 (.slice (some ad) n c) (some (.int .i64 2)) (some (.int .i64 4)) none).run Try.prog wx = .ok cv wx := fun wx => by rw [hcv]; exact sl_lohi (some ad) n c wx 2 4 (by omega) (by omega)
    clear hcv
    have HGE := Lib.hid (fun (v : Value) (hv : Sl8 w I v (partF x 2 4)) => (show ∀ nq, Calls Try.prog 77 #[v] (w.drewN nq) fun e w' => e = .returned (.int .u64 (getF (partF x 2 4) : Int)) ∧ ∃ k, w' = w.drewN k from fun nq => by
      obtain ⟨A1, c1, rfl, _, h1⟩ := hv
      exact (number_any A1 _ c1 _ I (w.drewN nq) h1 rfl (by rw [part_len (by omega)]; omega) (by rw [part_len (by omega)]; omega)).mono (by rintro e w' ⟨rfl, rfl⟩; exact ⟨rfl, _, rfl⟩)))
    have hl24 := getF_lt (partF x 2 4)
    rw [part_len (by omega)] at hl24
    have HNUM := Lib.hid (HGE.out _ q24)
    obtain ⟨t, ht⟩ : ∃ t, t = getF (partF x 2 4) := ⟨_, rfl⟩
    obtain ⟨b0, hb0e⟩ : ∃ b0, b0 = (x.getD 0 0).toNat := ⟨_, rfl⟩
    have hb0l : b0 < 256 := by rw [hb0e]; exact UInt8.toNat_lt _
    rw [← ht] at HNUM hl24
    rw [← hb0e] at hb0
    have h0 : 0 < n := by omega
    have h0i : (0 : Int) < (n : Int) := by omega
    have a15 : bits .and .u8 (b0 : Int) 15 = ((b0 % 16 : Nat) : Int) := by
      have : ∀ b : Fin 256, bits .and .u8 (b.val : Int) 15 = ((b.val % 16 : Nat) : Int) := by decide +kernel
      exact this ⟨b0, hb0l⟩
    obtain ⟨s, hs⟩ : ∃ s, s = b0 % 16 := ⟨_, rfl⟩
    rw [← hs] at a15
    have hsl : s < 16 := by omega
    obtain ⟨m, hm⟩ : ∃ m, m = 4 * s := ⟨_, rfl⟩
    have w1 : IntKind.i64.wrap (s : Int) = (s : Int) := wrap_i64 _ (by omega) (by omega)
    have w2 : IntKind.i64.wrap (4 * (s : Int)) = (m : Int) := by rw [wrap_i64 _ (by omega) (by omega), hm]; push_cast; rfl
    have w3 : IntKind.i64.wrap (t : Int) = (t : Int) := wrap_i64 _ (by omega) (by omega)
    have hml : m < 64 := by omega
    have HM := Lib.hid hm
    clear hm
    have HT := Lib.hid ht
    have HB0 := Lib.hid hb0e
    have HS := Lib.hid hs
    have HN := Lib.hid hn
    have HR := Lib.hid h
    clear q24 HGE h ht hb0e hs hn
    go_enter Try.func76, Try.ntmps76
    go_wp2_with fail
    go_quiet (first | (go_at_call 77; exact HNUM.out _))
    have hbq : Below w.heap.size w (w.drewN nq) := ⟨rfl, rfl, rfl, Nat.le_refl _, fun _ _ => rfl⟩
    have hcq : (w.drewN nq).cell? ad = some (.int .u8 (b0 : Int)) := hb0
    have hrq : Reads (w.drewN nq) (fun k => I k ∧ k < w.heap.size) 1 (some ad) n (bytesV x) := HR.out.lt
    generalize w.drewN nq = W at hbq hcq hrq ⊢
    have HBQ := Lib.hid hbq
    have HRQ := Lib.hid hrq
    have hw : wrongF x = if b0 / 16 ≠ 4 then 2 else if m < 20 ∨ n < m then 3 else if t < m ∨ n < t then 4 else if totalF (x.take m) ≠ 65535 then 5 else if goodF (partF x 20 m) = true then 0 else 6 := by
      unfold wrongF
      have e1 : sizeF x = m := by rw [HM.out, HS.out, HB0.out]; rfl
      have e2 : lenF x = t := HT.out.symm
      rw [e1, e2, ← HB0.out, HN.out, if_neg h20]
    have HW := Lib.hid hw
    clear hw hb0 hbq hrq HNUM e24 a15 w1 w2 w3
    by_cases hv : b0 / 16 = 4
    case neg =>
      go_wp2_with fail
      go_ret
      exact ⟨by rw [HW.out, if_pos hv]; rfl, HBQ.out⟩
    by_cases h31 : m < 20
    · go_wp2_with fail
      go_ret
      exact ⟨by rw [HW.out, if_neg (fun h => h hv), if_pos (.inl h31)]; rfl, HBQ.out⟩
    by_cases h32 : n < m
    · go_wp2_with fail
      go_ret
      exact ⟨by rw [HW.out, if_neg (fun h => h hv), if_pos (.inr h32)]; rfl, HBQ.out⟩
    by_cases h41 : t < m
    · go_wp2_with fail
      go_ret
      exact ⟨by rw [HW.out, if_neg (fun h => h hv), if_neg (not_or.2 ⟨h31, h32⟩), if_pos (.inl h41)]; rfl, HBQ.out⟩
    by_cases h42 : n < t
    · go_wp2_with fail
      go_ret
      exact ⟨by rw [HW.out, if_neg (fun h => h hv), if_neg (not_or.2 ⟨h31, h32⟩), if_pos (.inr h42)]; rfl, HBQ.out⟩
    have ht1 : (x.take m).length = m := by rw [List.length_take, HN.out]; omega
    have HG := Lib.hid (good_any (some ad) m c (x.take m) (fun k => I k ∧ k < w.heap.size) W (by
      have := (cut_hi (k := m) (cap := c) (x := x) (by rw [HN.out]; exact HRQ.out) (by rw [HN.out]; omega) (by omega)).len.2.2
      rw [ht1] at this
      exact this) ht1 (by omega))
    have hw := HW.out
    rw [if_neg (fun h => h hv), if_neg (not_or.2 ⟨h31, h32⟩), if_neg (not_or.2 ⟨h41, h42⟩)] at hw
    have q3 := cut_lohi (a := 20) (b := m) (cap := c) (x := x) (by rw [HN.out]; exact HRQ.out) (by omega) (by rw [HN.out]; omega) (by rw [HN.out]; omega)
    obtain ⟨cv3, hcv3⟩ : ∃ cv, cv = Value.slice (if c = 20 then some ad else (some ad).map (·.add 20)) (m - 20) (c - 20) := ⟨_, rfl⟩
    rw [← hcv3] at q3
    have e3 : ∀ wx : World, (Instr.slice 22 (.slice (some ad) n c) (some (.int .i64 20)) (some (.int .i64 (m : Int))) none).run Try.prog wx = .ok cv3 wx := fun wx => by rw [hcv3]; exact sl_lohi (some ad) n c wx 20 m (by omega) (by omega)
    have hol : (partF x 20 m).length ≤ 1000000 := by rw [part_len (by rw [HN.out]; omega)]; omega
    have HOC := Lib.hid (fun (wq : World) (hq : Below w.heap.size W wq) => options_any cv3 (partF x 20 m) (fun k => I k ∧ k < w.heap.size) wq (q3.keep (Same.ofBelow hq fun k hk => hk.2)) hol)
    obtain ⟨G, hG⟩ : ∃ G, G = goodF (partF x 20 m) := ⟨_, rfl⟩
    unfold OptPost at HOC
    rw [← hG] at hw HOC
    obtain ⟨T, hT⟩ : ∃ T, T = totalF (x.take m) := ⟨_, rfl⟩
    rw [← hT] at hw HG
    have HW2 := Lib.hid hw
    clear hw hT ht1 hcv3 q3 hol hG
    go_wp2_with fail
    refine HG.out.mono ?_
    rintro e W2 ⟨rfl, hb2⟩
    have HB2 := Lib.hid hb2
    have HB3 := Lib.hid (HBQ.out.trans (hb2.mono HBQ.out.size))
    clear hb2
    by_cases h5 : T = 65535
    case neg =>
      have h5d : decide (T = 65535) = false := decide_eq_false h5
      go_wp2_with fail
      go_ret
      exact ⟨by rw [HW2.out, if_pos h5]; rfl, HB3.out⟩
    have h5d : decide (T = 65535) = true := decide_eq_true h5
    have HOC2 := Lib.hid (HOC.out W2 (HB2.out.mono HBQ.out.size))
    go_wp2_with fail
    refine HOC2.out.mono ?_
    rintro e W3 ⟨v, rfl, _, hb4⟩
    have HB4 := Lib.hid (HB3.out.trans (hb4.mono HB3.out.size))
    clear hb4
    cases G with
    | true =>
      go_wp2_with fail
      go_ret
      exact ⟨by rw [HW2.out, if_neg (fun h => h h5)]; rfl, HB4.out⟩
    | false =>
      go_wp2_with fail
      go_ret
      exact ⟨by rw [HW2.out, if_neg (fun h => h h5)]; rfl, HB4.out⟩
end Go.Proofs.Ytihfihehiifdkaa
