/- slices.Equal on bytes. -/
import Derived.Test.YtihfihehiifdkaaHdP
namespace Go.Proofs.Ytihfihehiifdkaa
open Go.RowKit
set_option maxHeartbeats 800000 in
theorem equal_any (A : Option Addr) (n c : Nat) (x : By) (A2 : Option Addr) (n2 c2 : Nat) (y : By) (I J : Nat → Prop) (w : World) (h : Reads w I 1 A n (bytesV x)) (h2 : Reads w J 1 A2 n2 (bytesV y)) (hn : x.length = n) (hn2 : y.length = n2) (hsm : n ≤ 1000000) :
    Calls Try.prog 73 #[.slice A n c, .slice A2 n2 c2] w fun e w' => e = .returned (.bool (x == y)) ∧ Below w.heap.size w w' := by
  have HR := Lib.hid h
  have HR2 := Lib.hid h2
  have HL := Lib.hid hn
  have HL2 := Lib.hid hn2
  by_cases hnn : n = n2
  · subst hnn
    clear h h2 hn hn2
    go_enter Try.func73, Try.ntmps73
    go_wp2_with fail
    go_loopw [13] (fun i wr => ∃ k : Nat, k ≤ n ∧ i = .int .i64 (k : Int) ∧ x.take k = y.take k ∧ Below w.heap.size w wr) (fun i _ => n - (intOf i).toNat)
    case atStart => exact ⟨0, Nat.zero_le _, rfl, rfl, Below.refl _ _⟩
    case round =>
      obtain ⟨k, hk, rfl, ht, hb⟩ := hrel
      have HT := Lib.hid ht
      have HB := Lib.hid hb
      have hrd := (HR.out.lt).keep (Same.ofBelow hb fun k hk => hk.2)
      have hrd2 := (HR2.out.lt).keep (Same.ofBelow hb fun k hk => hk.2)
      clear ht hb
      by_cases hlt : k < n
      · have hx : k < x.length := by rw [HL.out]; exact hlt
        have hy : k < y.length := by rw [HL2.out]; exact hlt
        obtain ⟨ad, rfl, _, hc0⟩ := byte_at hrd hx
        obtain ⟨ae, rfl, _, hc1⟩ := byte_at hrd2 hy
        obtain ⟨b0, hb0⟩ : ∃ b0, b0 = x[k].toNat := ⟨_, rfl⟩
        obtain ⟨b1, hb1⟩ : ∃ b1, b1 = y[k].toNat := ⟨_, rfl⟩
        rw [← hb0] at hc0
        rw [← hb1] at hc1
        have hi0 : (0 : Int) ≤ k := by omega
        have hi1 : (k : Int) < n := by omega
        have hd0 : decide ((k : Int) < (n : Int)) = true := decide_eq_true (by omega)
        have hd1 : decide (k < n) = true := decide_eq_true hlt
        by_cases he : b0 = b1
        · have hxy : x[k] = y[k] := UInt8.toNat_inj.1 (by rw [← hb0, ← hb1, he])
          have HT2 := Lib.hid (take_eq_succ hx hy HT.out hxy)
          have hne : ((b0 : Int) != (b1 : Int)) = false := by rw [bne_eq_false_iff_eq]; omega
          have hne2 : (b0 != b1) = false := by rw [bne_eq_false_iff_eq]; exact he
          clear hb0 hb1 hxy he hx hy hrd hrd2
          go_wp2_with fail
          go_quiet (fail)
          have HBW := Lib.hid (HB.out.trans ⟨rfl, rfl, rfl, Nat.le_refl _, fun _ _ => rfl⟩ : Below w.heap.size w (wr.drewN nq))
          go_wp2_with fail
          go_roundw
          case rel => exact ⟨k + 1, by omega, rfl, HT2.out, HBW.out⟩
          case measure => simp [intOf]; omega
        · have hres : (x == y) = false := by
            rw [beq_eq_false_iff_ne]
            rintro rfl
            exact he (by rw [hb0, hb1])
          have hne : ((b0 : Int) != (b1 : Int)) = true := by rw [bne_iff_ne]; omega
          have hne2 : (b0 != b1) = true := by rw [bne_iff_ne]; exact he
          have HRES := Lib.hid hres
          clear hb0 hb1 he hx hy hrd hrd2 hres
          go_wp2_with fail
          go_quiet (fail)
          have HBW := Lib.hid (HB.out.trans ⟨rfl, rfl, rfl, Nat.le_refl _, fun _ _ => rfl⟩ : Below w.heap.size w (wr.drewN nq))
          go_wp2_with fail
          go_ret
          exact ⟨by rw [HRES.out]; rfl, HBW.out⟩
      · obtain rfl : k = n := by omega
        have hd0 : decide ((k : Int) < (k : Int)) = false := decide_eq_false (by omega)
        have hd1 : decide (k < k) = false := decide_eq_false (by omega)
        have hres : (x == y) = true := by
          have := HT.out
          rw [List.take_of_length_le (by rw [HL.out]; exact Nat.le_refl _), List.take_of_length_le (by rw [HL2.out]; exact Nat.le_refl _)] at this
          rw [this]
          exact beq_self_eq_true _
        have HRES := Lib.hid hres
        clear hres hd0 hrd hrd2
        go_wp2_with fail
        go_ret
        exact ⟨by rw [HRES.out]; rfl, HB.out⟩
  · have hres : (x == y) = false := by
      rw [beq_eq_false_iff_ne]
      rintro rfl
      exact hnn (by rw [← hn, ← hn2])
    have hne : ((n : Int) != (n2 : Int)) = true := by rw [bne_iff_ne]; omega
    have hne2 : (n != n2) = true := by rw [bne_iff_ne]; exact hnn
    have HRES := Lib.hid hres
    clear h h2 hn hn2 hnn hres
    go_enter Try.func73, Try.ntmps73
    go_wp2_with fail
    go_ret
    exact ⟨by rw [HRES.out]; rfl, Below.refl _ _⟩

/-! ### Same -/
end Go.Proofs.Ytihfihehiifdkaa
