/- Tries: common. -/
import Derived.Test.YthlommalbkhcjaaGreatNl02
import Derived.Test.YthlommalbkhcjaaGreatNl17
import Derived.Test.YthlommalbkhcjaaGreatNl16
import Derived.Laws.BitsLemmas
import Derived.IntWalk
import Derived.Lib.Strings
import Derived.Lib.Slices
import Derived.Lib.Small
import Derived.Lib.Walk
import Derived.Deep.RegionWith
namespace Go.Proofs.YthlommalbkhcjaaGreat
open Go.RowKit
theorem ret_intT {k : IntKind} {a b : Int} (h : a = b) : Ending.returned (.int k a) = .returned (.int k b) := by rw [h]
theorem ret_boolT {a b : Bool} (h : a = b) : Ending.returned (.bool a) = .returned (.bool b) := by rw [h]
/-! ### Bits of 32 -/
theorem twraps_u32 (n : Int) (h₀ : 0 ≤ n) (h₁ : n < 2 ^ 32) : IntKind.u32.wrap n = n := by
  simp [IntKind.wrap, IntKind.bits, IntKind.signed]; omega
theorem and_u32 (a b : Nat) (ha : a < 2 ^ 32) (hb : b < 2 ^ 32) : bits .and .u32 (a : Int) (b : Int) = ((a &&& b : Nat) : Int) :=
  (bits_nat .u32 32 (by decide) twraps_u32 a b ha hb).1
theorem txor_u32 (a b : Nat) (ha : a < 2 ^ 32) (hb : b < 2 ^ 32) : bits .xor .u32 (a : Int) (b : Int) = ((a ^^^ b : Nat) : Int) := by
  have h1 : (BitVec.ofInt 32 (a : Int)).toNat = a := by
    rw [BitVec.ofInt_natCast, BitVec.toNat_ofNat]; exact Nat.mod_eq_of_lt (by omega)
  have h2 : (BitVec.ofInt 32 (b : Int)).toNat = b := by
    rw [BitVec.ofInt_natCast, BitVec.toNat_ofNat]; exact Nat.mod_eq_of_lt (by omega)
  have hx : a ^^^ b < 2 ^ 32 := Nat.xor_lt_two_pow ha hb
  show IntKind.u32.wrap ((BitVec.ofInt 32 (a : Int) ^^^ BitVec.ofInt 32 (b : Int)).toNat : Int) = _
  rw [BitVec.toNat_xor, h1, h2]
  exact twraps_u32 _ (by omega) (by omega)
theorem andNot_u32 (a b : Nat) (ha : a < 2 ^ 32) (hb : b < 2 ^ 32) : bits .andNot .u32 (a : Int) (b : Int) = ((a &&& (2 ^ 32 - 1 - b) : Nat) : Int) := by
  have h1 : (BitVec.ofInt 32 (a : Int)).toNat = a := by
    rw [BitVec.ofInt_natCast, BitVec.toNat_ofNat]; exact Nat.mod_eq_of_lt (by omega)
  have h2 : (BitVec.ofInt 32 (b : Int)).toNat = b := by
    rw [BitVec.ofInt_natCast, BitVec.toNat_ofNat]; exact Nat.mod_eq_of_lt (by omega)
  have hx : a &&& (2 ^ 32 - 1 - b) < 2 ^ 32 := Nat.lt_of_le_of_lt Nat.and_le_left ha
  show IntKind.u32.wrap ((BitVec.ofInt 32 (a : Int) &&& ~~~BitVec.ofInt 32 (b : Int)).toNat : Int) = _
  rw [BitVec.toNat_and, BitVec.toNat_not, h1, h2]
  exact twraps_u32 _ (by omega) (by omega)
theorem maskN_eq : ∀ n : Fin 33, IntKind.u64.wrap (18446744073709551615 * 2 ^ (32 - n.val)) % 4294967296 = ((2 ^ 32 - 2 ^ (32 - n.val) : Nat) : Int) := by decide +kernel
def maskN (n : Nat) : Nat := 2 ^ 32 - 2 ^ (32 - n)
theorem maskN_lt {n : Nat} (_ : n ≤ 32) : maskN n < 2 ^ 32 := by have := Nat.two_pow_pos (32 - n); unfold maskN; omega
theorem and_maskN {a n : Nat} (ha : a < 2 ^ 32) (hn : n ≤ 32) : bits .and .u32 (a : Int) (maskN n : Int) = ((firstB a n : Nat) : Int) := by
  rw [and_u32 a _ ha (maskN_lt hn)]
  unfold maskN
  rw [and_mask ha hn]
theorem andNot_maskN {a n : Nat} (ha : a < 2 ^ 32) (hn : n ≤ 32) : bits .andNot .u32 (a : Int) (maskN n : Int) = ((a % 2 ^ (32 - n) : Nat) : Int) := by
  rw [andNot_u32 a _ ha (maskN_lt hn)]
  have hle : 2 ^ (32 - n) ≤ 2 ^ 32 := Nat.pow_le_pow_right (by decide) (by omega)
  have h0 := Nat.two_pow_pos (32 - n)
  have e : 2 ^ 32 - 1 - maskN n = 2 ^ (32 - n) - 1 := by unfold maskN; omega
  rw [e, Nat.and_two_pow_sub_one_eq_mod]
theorem mask_any (n : Nat) (w : World) (hn : n ≤ 32) :
    Calls Tryz.prog 153 #[.int .i64 n] w fun e w' => e = .returned (.int .u32 (maskN n : Int)) ∧ w = w' := by
  have he := maskN_eq ⟨n, by omega⟩
  have HE := Lib.hid he
  clear he
  go_enter Tryz.func153, Tryz.ntmps153
  go_wp2
  go_ret
  exact ⟨ret_intT HE.out, rfl⟩
def bitI (a n : Nat) : Int := if bitB a n then 1 else 0
theorem bitI_eq (a n : Nat) (ha : a < 2 ^ 32) : wrap64 (bits .and .u32 ((a : Int) / 2 ^ (31 - n)) 1) = bitI a n := by
  have e : ((a : Int) / 2 ^ (31 - n)) = ((a / 2 ^ (31 - n) : Nat) : Int) := by simp
  have hd : a / 2 ^ (31 - n) < 2 ^ 32 := Nat.lt_of_le_of_lt (Nat.div_le_self _ _) ha
  have e2 := and_u32 (a / 2 ^ (31 - n)) 1 hd (by decide)
  rw [e, show (1 : Int) = ((1 : Nat) : Int) from rfl, e2, Nat.and_one_is_mod]
  unfold bitI bitB
  rw [Nat.testBit_eq_decide_div_mod_eq]
  have h2 : a / 2 ^ (31 - n) % 2 = 0 ∨ a / 2 ^ (31 - n) % 2 = 1 := by omega
  rcases h2 with h2 | h2 <;> rw [h2] <;> decide +kernel
theorem tbit_any (a n : Nat) (w : World) (hn : n ≤ 31) (ha : a < 2 ^ 32) :
    Calls Tryz.prog 107 #[.int .u32 a, .int .i64 n] w fun e w' => e = .returned (.int .i64 (bitI a n)) ∧ w = w' := by
  have HE := Lib.hid (bitI_eq a n ha)
  go_enter Tryz.func107, Tryz.ntmps107
  go_wp2
  go_ret
  exact ⟨ret_intT HE.out, rfl⟩
abbrev pxV (a : Nat) (n : Int) : Value := .agg #[.int .u32 (a : Int), .int .i64 n]
def mayB (a : Nat) (n : Int) : Bool := decide (0 ≤ n ∧ n ≤ 32 ∧ a % 2 ^ (32 - n.toNat) = 0)
theorem may_bits {a : Nat} {n : Int} (ha : a < 2 ^ 32) (h : mayB a n = true) : ∃ p : Bs, p.length ≤ 32 ∧ padB p = a ∧ (p.length : Int) = n := by
  obtain ⟨h0, h1, h2⟩ := of_decide_eq_true h
  refine ⟨bitsB a n.toNat, by rw [bitsB_len]; omega, ((mod_iff ha (by omega)).1 h2).symm, by rw [bitsB_len]; omega⟩
theorem bits_may {p : Bs} (h : p.length ≤ 32) : mayB (padB p) p.length = true := by
  unfold mayB
  refine decide_eq_true ⟨by omega, by omega, ?_⟩
  rw [Int.toNat_natCast, mod_iff (padB_lt p h) h, bits_pad p h]
theorem below_box (w : World) (o : Obj) (n : Nat) : Below w.heap.size w ((w.alloc o).drewN n) :=
  let h := (Below.refl w.heap.size w).alloc (Nat.le_refl _) o
  ⟨h.os, h.tape, h.output, h.size, h.block⟩
theorem tmay_any (a : Nat) (n : Int) (w : World) (ha : a < 2 ^ 32) :
    Calls Tryz.prog 104 #[pxV a n] w fun e w' => e = .returned (.bool (mayB a n)) ∧ ∃ m, w' = (w.alloc (.cells #[.int .u32 (a : Int), .int .i64 n] 37)).drewN m := by
  by_cases h0 : 0 ≤ n
  case neg =>
    have hb : mayB a n = false := decide_eq_false fun h => h0 h.1
    rw [hb]
    have d0 : decide ((0 : Int) ≤ n) = false := decide_eq_false h0
    clear hb
    go_enter Tryz.func104, Tryz.ntmps104
    go_wp2
    go_quiet (fail)
    go_wp2
    go_ret
    exact ⟨rfl, _, rfl⟩
  by_cases h1 : n ≤ 32
  case neg =>
    have hb : mayB a n = false := decide_eq_false fun h => h1 h.2.1
    rw [hb]
    have d1 : decide (n ≤ 32) = false := decide_eq_false h1
    clear hb
    go_enter Tryz.func104, Tryz.ntmps104
    go_wp2
    go_quiet (fail)
    go_wp2
    go_ret
    exact ⟨rfl, _, rfl⟩
  obtain ⟨k, rfl⟩ : ∃ k : Nat, n = (k : Int) := ⟨n.toNat, by omega⟩
  have hk : k ≤ 32 := by omega
  have hm : mayB a k = ((((a % 2 ^ (32 - k) : Nat) : Int)) == 0) := by
    unfold mayB
    rw [Bool.eq_iff_iff, decide_eq_true_iff, beq_iff_eq, Int.toNat_natCast]
    constructor
    · intro h; omega
    · intro h; exact ⟨by omega, by omega, by omega⟩
  have hb := andNot_maskN ha hk
  have HM := Lib.hid hm
  have HC := Lib.hid (fun (w : World) => mask_any k w hk)
  clear hm
  go_enter Tryz.func104, Tryz.ntmps104
  go_wp2
  go_quiet ((go_at_call 153; exact Calls.quiet_of_same ((HC.out _).mono fun _ _ ⟨h, hw⟩ => ⟨h, hw.symm⟩)))
  go_wp2
  go_ret
  exact ⟨ret_boolT HM.out.symm, _, rfl⟩
end Go.Proofs.YthlommalbkhcjaaGreat
namespace Go.Proofs.YthlommalbkhcjaaGreat
open Go.RowKit
def lzN (x : Nat) : Nat := 32 - Lib.bitLen x
theorem lz_any (x : Nat) (w : World) (h : x < 2 ^ 32) :
    Calls Tryz.prog 154 #[.int .u32 (x : Int)] w fun e w' => e = .returned (.int .i64 (lzN x : Int)) ∧ w' = w := by
  have l : Lib.bitLen x ≤ 32 := Lib.bitLen_le x 32 (by omega) h
  refine (lz32_any (x : Int) w (by omega) (by omega)).mono fun e w' ⟨he, hw⟩ => ⟨?_, hw⟩
  rw [he]
  refine ret_intT ?_
  rw [Int.toNat_natCast]
  unfold lzN
  omega
set_option maxHeartbeats 1000000 in
theorem common_any (P Q : Bs) (w : World) (hP : P.length ≤ 32) (hQ : Q.length ≤ 32) :
    Calls Tryz.prog 106 #[pxV (padB P) P.length, pxV (padB Q) Q.length] w fun e w' => e = .returned (pxV (padB (lcpB P Q)) (lcpB P Q).length) ∧ Below w.heap.size w w' := by
  obtain ⟨a, ha⟩ : ∃ a, a = padB P := ⟨_, rfl⟩
  obtain ⟨b, hb⟩ : ∃ b, b = padB Q := ⟨_, rfl⟩
  obtain ⟨m, hm⟩ : ∃ m, m = P.length := ⟨_, rfl⟩
  obtain ⟨n, hn⟩ : ∃ n, n = Q.length := ⟨_, rfl⟩
  obtain ⟨k, hk⟩ : ∃ k, k = (lcpB P Q).length := ⟨_, rfl⟩
  have la : a < 2 ^ 32 := by rw [ha]; exact padB_lt P hP
  have lb : b < 2 ^ 32 := by rw [hb]; exact padB_lt Q hQ
  have hx : bits .xor .u32 (a : Int) (b : Int) = ((a ^^^ b : Nat) : Int) := txor_u32 a b la lb
  have hx2 : a ^^^ b < 2 ^ 32 := Nat.xor_lt_two_pow la lb
  obtain ⟨x, hxx⟩ : ∃ x, x = a ^^^ b := ⟨_, rfl⟩
  have hlen : min (min m n) (lzN x) = k := by rw [hk, hm, hn, hxx, ha, hb]; exact common_len hP hQ
  have hfirst : firstB a k = padB (lcpB P Q) := by rw [ha, hk]; exact common_addr hP
  have hk32 : k ≤ 32 := by rw [← hlen]; omega
  have hand := and_maskN la hk32
  rw [hfirst] at hand
  rw [← hxx] at hx hx2
  rw [← ha, ← hb, ← hm, ← hn, ← hk]
  obtain ⟨z, hz⟩ : ∃ z, z = lzN x := ⟨_, rfl⟩
  rw [← hz] at hlen
  have HL := Lib.hid (fun (w : World) => lz_any x w hx2)
  rw [← hz] at HL
  have HM := Lib.hid (fun (w : World) => mask_any k w hk32)
  have hm32 : m ≤ 32 := by omega
  have hn32 : n ≤ 32 := by omega
  have hz32 : z ≤ 32 := by unfold lzN at hz; omega
  have HLEN := Lib.hid hlen
  have HZ := Lib.hid hz
  clear ha hb hm hn hk hxx hfirst hlen hz
  go_enter Tryz.func106, Tryz.ntmps106
  go_wp2
  go_quiet ((go_at_call 154; exact Calls.quiet_of_same (HL.out _)))
  have hmin : (if (z : Int) < (if n < m then (n : Int) else (m : Int)) then (z : Int) else (if n < m then (n : Int) else (m : Int))) = (k : Int) := by
    rw [← HLEN.out]
    split <;> split <;> omega
  rw [hmin]
  clear hmin
  go_wp2_with fail
  go_region_with (go_at_call 153; refine (HM.out _).mono ?_; rintro e w' ⟨rfl, rfl⟩)
  all_goals
    go_wp2_with fail
    refine bodyPost_ret (v := pxV (padB (lcpB P Q)) k) (by simp [results, Tryz.results106, go_sem]) rfl ⟨rfl, ?_⟩
    exact (((((((Upd.refl (fun _ => False) w).alloc _).alloc _).alloc _).drewN _).setCell (p := ⟨w.heap.size + 1 + 1, 0, none⟩) (.inr (by show w.heap.size ≤ w.heap.size + 1 + 1; omega)) _).setCell (p := ⟨w.heap.size + 1 + 1, 1, none⟩) (.inr (by show w.heap.size ≤ w.heap.size + 1 + 1; omega)) _).below (fun _ h => h.elim) (Nat.le_refl _)
end Go.Proofs.YthlommalbkhcjaaGreat
