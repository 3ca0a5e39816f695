/- Tries: common. -/
import Derived.Test.YthlommalbkhcjaaGreatTrZ
import Derived.Test.YthlommalbkhcjaaGreatTrC
import Derived.Deep.RegionWith
namespace Go.Proofs.YthlommalbkhcjaaGreat
open Go.RowKit

/-- 32 - bitLen: as a number of its own. -/
def lzN (x : Nat) : Nat := 32 - Lib.bitLen x
theorem lz_any (x : Nat) (w : World) (h : x < 2 ^ 32) :
    Calls Tryz.prog 154 #[.int .u32 (x : Int)] w fun e w' => e = .returned (.int .i64 (lzN x : Int)) ∧ w' = w := by
  have l : Lib.bitLen x ≤ 32 := Lib.bitLen_le x 32 (by omega) h
  refine (lz32_any (x : Int) w (by omega) (by omega)).mono fun e w' ⟨he, hw⟩ => ⟨?_, hw⟩
  rw [he]
  refine ret_intT ?_
  rw [Int.toNat_natCast]
  unfold lzN
  omega
set_option maxHeartbeats 1000000 in
theorem common_any (P Q : Bs) (w : World) (hP : P.length ≤ 32) (hQ : Q.length ≤ 32) :
    Calls Tryz.prog 106 #[pxV (padB P) P.length, pxV (padB Q) Q.length] w fun e w' => e = .returned (pxV (padB (lcpB P Q)) (lcpB P Q).length) ∧ Below w.heap.size w w' := by
  obtain ⟨a, ha⟩ : ∃ a, a = padB P := ⟨_, rfl⟩
  obtain ⟨b, hb⟩ : ∃ b, b = padB Q := ⟨_, rfl⟩
  obtain ⟨m, hm⟩ : ∃ m, m = P.length := ⟨_, rfl⟩
  obtain ⟨n, hn⟩ : ∃ n, n = Q.length := ⟨_, rfl⟩
  obtain ⟨k, hk⟩ : ∃ k, k = (lcpB P Q).length := ⟨_, rfl⟩
  have la : a < 2 ^ 32 := by rw [ha]; exact padB_lt P hP
  have lb : b < 2 ^ 32 := by rw [hb]; exact padB_lt Q hQ
  have hx : bits .xor .u32 (a : Int) (b : Int) = ((a ^^^ b : Nat) : Int) := xor_u32 a b la lb
  have hx2 : a ^^^ b < 2 ^ 32 := Nat.xor_lt_two_pow la lb
  obtain ⟨x, hxx⟩ : ∃ x, x = a ^^^ b := ⟨_, rfl⟩
  have hlen : min (min m n) (lzN x) = k := by rw [hk, hm, hn, hxx, ha, hb]; exact common_len hP hQ
  have hfirst : firstB a k = padB (lcpB P Q) := by rw [ha, hk]; exact common_addr hP
  have hk32 : k ≤ 32 := by rw [← hlen]; omega
  have hand := and_maskN la hk32
  rw [hfirst] at hand
  rw [← hxx] at hx hx2
  rw [← ha, ← hb, ← hm, ← hn, ← hk]
  obtain ⟨z, hz⟩ : ∃ z, z = lzN x := ⟨_, rfl⟩
  rw [← hz] at hlen
  have HL := Lib.hid (fun (w : World) => lz_any x w hx2)
  rw [← hz] at HL
  have HM := Lib.hid (fun (w : World) => mask_any k w hk32)
  have hm32 : m ≤ 32 := by omega
  have hn32 : n ≤ 32 := by omega
  have hz32 : z ≤ 32 := by unfold lzN at hz; omega
  have HLEN := Lib.hid hlen
  have HZ := Lib.hid hz
  clear ha hb hm hn hk hxx hfirst hlen hz
  go_enter Tryz.func106, Tryz.ntmps106
  go_wp2
  go_quiet ((go_at_call 154; exact Calls.quiet_of_same (HL.out _)))
  have hmin : (if (z : Int) < (if n < m then (n : Int) else (m : Int)) then (z : Int) else (if n < m then (n : Int) else (m : Int))) = (k : Int) := by
    rw [← HLEN.out]
    split <;> split <;> omega
  rw [hmin]
  clear hmin
  go_wp2_with fail
  go_region_with (go_at_call 153; refine (HM.out _).mono ?_; rintro e w' ⟨rfl, rfl⟩)
  all_goals
    go_wp2_with fail
    refine bodyPost_ret (v := pxV (padB (lcpB P Q)) k) (by simp [results, Tryz.results106, go_sem]) rfl ⟨rfl, ?_⟩
    exact (((((((Upd.refl (fun _ => False) w).alloc _).alloc _).alloc _).drewN _).setCell (p := ⟨w.heap.size + 1 + 1, 0, none⟩) (.inr (by show w.heap.size ≤ w.heap.size + 1 + 1; omega)) _).setCell (p := ⟨w.heap.size + 1 + 1, 1, none⟩) (.inr (by show w.heap.size ≤ w.heap.size + 1 + 1; omega)) _).below (fun _ h => h.elim) (Nat.le_refl _)
end Go.Proofs.YthlommalbkhcjaaGreat
