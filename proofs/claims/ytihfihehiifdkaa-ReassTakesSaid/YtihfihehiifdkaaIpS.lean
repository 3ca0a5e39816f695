/- The checksum: the document's and the program's. -/
import Derived.Test.YtihfihehiifdkaaIpQ
import Derived.RegionTactic
import Derived.ChangeAlike
namespace Go.Proofs.Ytihfihehiifdkaa
open Go.RowKit
theorem info_u16 : (Try.prog.info? 30).map (fun i => (i.zero, i.size, i.bytes)) = some (some (.int .u16 0), 1, 2) := by kernel_rfl
def u16V (l : List Nat) : List Value := l.map fun (n : Nat) => Value.int .u16 (n : Int)
theorem words_get : ∀ (x : By) (k : Nat), k < (wordsF x).length → 2 * k < x.length ∧ (wordsF x)[k]? = some (256 * (x.getD (2 * k) 0).toNat + (x.getD (2 * k + 1) 0).toNat)
  | [], k, h => by simp [wordsF] at h
  | [a], k, h => by
    obtain rfl : k = 0 := by simp [wordsF] at h; omega
    simp [wordsF]
  | a :: b :: r, 0, h => by simp [wordsF]
  | a :: b :: r, k + 1, h => by
    have ih := words_get r k (by simp [wordsF] at h; omega)
    have e1 : 2 * (k + 1) = 2 * k + 1 + 1 := by omega
    have e2 : 2 * (k + 1) + 1 = 2 * k + 1 + 1 + 1 := by omega
    rw [e1]
    refine ⟨by simp; exact ih.1, ?_⟩
    show (wordsF r)[k]? = _
    rw [ih.2]
    rfl
theorem words_len : ∀ x : By, (wordsF x).length = (x.length + 1) / 2
  | [] => rfl
  | [a] => by simp [wordsF]
  | a :: b :: r => by
    show (wordsF r).length + 1 = _
    rw [words_len r]; simp; omega
theorem byte_at {w : World} {I : Nat → Prop} {A : Option Addr} {n k : Nat} {x : By} (h : Reads w I 1 A n (bytesV x)) (hk : k < x.length) : ∃ ad, A = some ad ∧ ad.block < w.heap.size ∧ w.cell? (ad.add k) = some (.int .u8 (x[k].toNat : Int)) := by
  have hn : x.length = n := by have := h.1; rw [bytesV_len] at this; omega
  obtain ⟨ad, hA, _, hb, hc⟩ := h.2 (by omega)
  exact ⟨ad, hA, hb, hc _ _ (bytes_get hk)⟩
theorem add_pos (a : Addr) (k : Nat) (h : 0 < k) : a.add k = ⟨a.block, a.off + k, none⟩ := by
  unfold Addr.add
  rw [if_neg (by omega)]
set_option maxRecDepth 20000 in
set_option maxHeartbeats 1600000 in
theorem words_any (A : Option Addr) (n c : Nat) (x : By) (I : Nat → Prop) (w : World) (h : Reads w I 1 A n (bytesV x)) (hn : x.length = n) (hsm : n ≤ 1000000) :
    Calls Try.prog 91 #[.slice A n c] w fun e w' => ∃ v, e = .returned v ∧ w'.ownsRow w.heap.size 30 1 v (wordsF x).length (u16V (wordsF x)) ∧ Below w.heap.size w w' := by
  have HR := Lib.hid h.lt
  have HL := Lib.hid hn
  obtain ⟨m, hm⟩ : ∃ m, m = (wordsF x).length := ⟨_, rfl⟩
  have hmn : m = (n + 1) / 2 := by rw [hm, words_len, hn]
  have HM := Lib.hid hm
  clear h hn hm
  go_enter Try.func91, Try.ntmps91
  go_wp2_with fail
  go_loopw [3, 4] (fun v i wr => ∃ k : Nat, k ≤ m ∧ i = .int .i64 (2 * k : Nat) ∧ wr.ownsRow w.heap.size 30 1 v k (u16V ((wordsF x).take k)) ∧ Below w.heap.size w wr) (fun _ i _ => n + 1 - (intOf i).toNat)
  case atStart => exact ⟨0, by omega, rfl, World.ownsRow_nil _ _ _ _, Below.refl _ _⟩
  case round =>
    obtain ⟨k, hk, rfl, hv, hb⟩ := hrel
    have HV := Lib.hid hv
    have HB := Lib.hid hb
    have hrd := HR.out.keep (Same.ofBelow hb fun k hk => hk.2)
    clear hv hb
    by_cases hlt : k < m
    · obtain ⟨hk2, hword⟩ := words_get x k (by rw [← HM.out]; exact hlt)
      have hkn : 2 * k < n := by rw [← HL.out]; exact hk2
      obtain ⟨ad, rfl, _, hc0⟩ := byte_at hrd hk2
      have hw0 : (x.getD (2 * k) 0).toNat = x[2 * k].toNat := by rw [List.getD_eq_getElem?_getD, List.getElem?_eq_getElem hk2]; rfl
      have hb0 := x[2 * k].toNat_lt
      obtain ⟨b0, hbe⟩ : ∃ b0, b0 = x[2 * k].toNat := ⟨_, rfl⟩
      rw [← hbe] at hc0 hw0 hb0
      obtain ⟨q, hq⟩ : ∃ q, q = 2 * k := ⟨_, rfl⟩
      have HQ := Lib.hid hq
      rw [← hq] at hc0 hkn hw0 ⊢
      have hd0 : decide ((q : Int) < (n : Int)) = true := decide_eq_true (by omega)
      have hd1 : decide (q < n) = true := decide_eq_true (by omega)
      have hi0 : (0 : Int) ≤ q := by omega
      have hi1 : (q : Int) < n := by omega
      have hql : q ≤ 1000000 := by omega
      obtain ⟨i0, hi, hz0, hz1, hz2⟩ := info_parts info_u16
      have hmx : k + 1 ≤ maxLen := by unfold maxLen; omega
      have hmb : (k + 1) * 2 ≤ 140737488355328 := by omega
      by_cases h2 : q + 1 < n
      · have hk3 : q + 1 < x.length := by rw [HL.out]; exact h2
        obtain ⟨ad', he, _, hc1⟩ := byte_at hrd hk3
        injection he with he
        subst he
        have hw1 : (x.getD (q + 1) 0).toNat = x[q + 1].toNat := by rw [List.getD_eq_getElem?_getD, List.getElem?_eq_getElem hk3]; rfl
        have hb1 := x[q + 1].toNat_lt
        obtain ⟨b1, hbe1⟩ : ∃ b1, b1 = x[q + 1].toNat := ⟨_, rfl⟩
        rw [← hbe1] at hc1 hw1 hb1
        rw [← hq, hw0, hw1] at hword
        have HWD := Lib.hid (show u16V ((wordsF x).take (k + 1)) = u16V ((wordsF x).take k) ++ [.int .u16 (256 * (b0 : Int) + (b1 : Int))] by
          rw [List.take_succ_eq_append_getElem (by rw [← HM.out]; exact hlt)]
          have e := List.getElem?_eq_some_iff.1 hword
          rw [e.2]
          simp [u16V])
        have hd2 : decide ((q : Int) + 1 < (n : Int)) = true := decide_eq_true (by omega)
        have hd3 : decide (q + 1 < n) = true := decide_eq_true (by omega)
        have hi2 : (0 : Int) ≤ (q : Int) + 1 := by omega
        have hi3 : (q : Int) + 1 < n := by omega
        have hc2 : wr.cell? ⟨ad.block, ad.off + (q + 1), none⟩ = some (.int .u8 (b1 : Int)) := by rw [← add_pos ad (q + 1) (by omega)]; exact hc1
        clear hk hk2 hw0 hbe hq hk3 hw1 hbe1 hrd hword hmn hc1
        go_wp2_with (at_builtin; refine wpList_push1 wr rfl (.tmp 22) (.tmp 32) _ 30 rfl rfl i0 _ 2 Try.underlying127 hi hz0 hz1 hz2 rfl w.heap.size u3 k _ (.int .u16 (256 * (b0 : Int) + (b1 : Int))) rfl rfl HV.out rfl hmx hmb HB.out.size ?_; intro v2 w2 h2 hg2 hat2)
        have hb2 := HB.out.grown hg2 HB.out.size fun g hg => (own_lt HV.out hg).1
        rw [← HWD.out] at h2
        have H2 := Lib.hid h2
        have HB2 := Lib.hid hb2
        clear h2 hg2 hat2 hb2
        go_wp2_with fail
        go_roundw
        case rel => exact ⟨k + 1, by omega, congrArg (Value.int .i64) (by have := HQ.out; omega), H2.out, HB2.out⟩
        case measure => simp [intOf]; omega
      · have hw1 : (x.getD (q + 1) 0).toNat = 0 := by rw [List.getD_eq_getElem?_getD, List.getElem?_eq_none (by rw [HL.out]; omega)]; rfl
        rw [← hq, hw0, hw1, Nat.add_zero] at hword
        have HWD := Lib.hid (show u16V ((wordsF x).take (k + 1)) = u16V ((wordsF x).take k) ++ [.int .u16 (256 * (b0 : Int))] by
          rw [List.take_succ_eq_append_getElem (by rw [← HM.out]; exact hlt)]
          have e := List.getElem?_eq_some_iff.1 hword
          rw [e.2]
          simp [u16V])
        have hd2 : decide ((q : Int) + 1 < (n : Int)) = false := decide_eq_false (by omega)
        have hd3 : decide (q + 1 < n) = false := decide_eq_false (by omega)
        clear hk hk2 hw0 hbe hq hw1 hrd hword hmn
        go_wp2_with (at_builtin; refine wpList_push1 wr rfl (.tmp 22) (.tmp 32) _ 30 rfl rfl i0 _ 2 Try.underlying127 hi hz0 hz1 hz2 rfl w.heap.size u3 k _ (.int .u16 (256 * (b0 : Int))) rfl rfl HV.out rfl hmx hmb HB.out.size ?_; intro v2 w2 h2 hg2 hat2)
        have hb2 := HB.out.grown hg2 HB.out.size fun g hg => (own_lt HV.out hg).1
        rw [← HWD.out] at h2
        have H2 := Lib.hid h2
        have HB2 := Lib.hid hb2
        clear h2 hg2 hat2 hb2
        go_wp2_with fail
        go_roundw
        case rel => exact ⟨k + 1, by omega, congrArg (Value.int .i64) (by have := HQ.out; omega), H2.out, HB2.out⟩
        case measure => simp [intOf]; omega
    · obtain rfl : k = m := by omega
      have hx := HV.out
      rw [List.take_of_length_le (by rw [← HM.out]; exact Nat.le_refl _)] at hx
      have hd0 : decide (((2 * k : Nat) : Int) < (n : Int)) = false := decide_eq_false (by omega)
      have hd1 : decide (2 * k < n) = false := decide_eq_false (by omega)
      have HX := Lib.hid hx
      clear hrd hx
      go_wp2_with fail
      go_ret
      exact ⟨_, rfl, by rw [← HM.out]; exact HX.out, HB.out⟩
end Go.Proofs.Ytihfihehiifdkaa
