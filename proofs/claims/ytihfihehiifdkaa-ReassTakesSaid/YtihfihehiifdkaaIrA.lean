/- Fragment, Multicast, the document's May, bit, Fits. -/
import Derived.Test.YtihfihehiifdkaaHdP
import Derived.Test.YtihfihehiifdkaaIpA
namespace Go.Proofs.Ytihfihehiifdkaa
open Go.RowKit Go.Sort Go.BigFrame
theorem frag_any (h : Hd) (A : Option Addr) (n c : Nat) (w : World) :
    Calls Try.prog 74 #[hdV h (.slice A n c)] w fun e w' => e = .returned (.bool (fragH h)) ∧ Below w.heap.size w w' := by
  have HB := Lib.hid ((Below.refl w.heap.size w).alloc (Nat.le_refl _) (.cells (hdC h (.slice A n c)) 32))
  unfold hdC at HB
  unfold hdV fragH
  cases hm : h.mf with
  | true =>
    rw [hm] at HB
    clear hm
    go_enter Try.func74, Try.ntmps74
    go_wp2_with fail
    go_ret
    exact ⟨rfl, HB.out⟩
  | false =>
    rw [hm] at HB
    clear hm
    obtain ⟨b, hb⟩ : ∃ b, b = decide (0 < h.off) := ⟨_, rfl⟩
    rw [← hb]
    have e := hb.symm
    have HBB := Lib.hid hb
    clear hb
    go_enter Try.func74, Try.ntmps74
    go_wp2_with fail
    go_ret
    exact ⟨rfl, HB.out⟩
theorem rfrag_any (h : Hd) (A : Option Addr) (n c : Nat) (w : World) :
    Calls Try.prog 75 #[hdV h (.slice A n c)] w fun e w' => e = .returned (.bool (fragH h)) ∧ Below w.heap.size w w' := by
  have HB := Lib.hid ((Below.refl w.heap.size w).alloc (Nat.le_refl _) (.cells (hdC h (.slice A n c)) 32))
  unfold hdC at HB
  unfold hdV fragH
  cases hm : h.mf with
  | true =>
    rw [hm] at HB
    clear hm
    go_enter Try.func75, Try.ntmps75
    go_wp2_with fail
    go_ret
    exact ⟨rfl, HB.out⟩
  | false =>
    rw [hm] at HB
    clear hm
    obtain ⟨b, hb⟩ : ∃ b, b = decide (0 < h.off) := ⟨_, rfl⟩
    rw [← hb]
    have e := hb.symm
    have HBB := Lib.hid hb
    clear hb
    go_enter Try.func75, Try.ntmps75
    go_wp2_with fail
    go_ret
    exact ⟨rfl, HB.out⟩
theorem bit_any (b : Bool) (n : Nat) (w : World) : Calls Try.prog 79 #[.bool b, .int .u64 (n : Int)] w fun e w' => e = .returned (.int .u64 (bitF b n : Int)) ∧ w = w' := by
  cases b with
  | true =>
    go_enter Try.func79, Try.ntmps79
    go_wp2_with fail
    go_ret
    exact ⟨rfl, rfl⟩
  | false =>
    go_enter Try.func79, Try.ntmps79
    go_wp2_with fail
    go_ret
    exact ⟨rfl, rfl⟩
set_option maxRecDepth 20000 in
set_option maxHeartbeats 1600000 in
theorem rmay_any (h : Hd) (v : Value) (I : Nat → Prop) (w : World) (hv : Sl8 w I v h.opts) (hsm : h.opts.length ≤ 1000000) :
    Calls Try.prog 37 #[hdV h v] w fun e w' => e = .returned (.bool (mayH h)) ∧ Below w.heap.size w w' := by
  obtain ⟨A, c, rfl, hc, hr⟩ := hv
  have hb0 : Below w.heap.size w (w.alloc (.cells (hdC h (.slice A h.opts.length c)) 32)) := (Below.refl _ _).alloc (Nat.le_refl _) _
  have hk0 := Blk.new w 32 (hdC h (.slice A h.opts.length c))
  have HO := Lib.hid (parts_any A h.opts.length c h.opts (fun k => I k ∧ k < w.heap.size) _ (hr.lt.keep (Same.ofBelow hb0 fun k hk => hk.2)) rfl hsm)
  have HB0 := Lib.hid hb0
  have HK0 := Lib.hid hk0
  obtain ⟨G, hG⟩ : ∃ G, G = goodF h.opts := ⟨_, rfl⟩
  obtain ⟨M, hM⟩ : ∃ M, M = mayH h := ⟨_, rfl⟩
  obtain ⟨n, hn⟩ : ∃ n, n = h.opts.length := ⟨_, rfl⟩
  unfold PartsPost at HO
  rw [← hM]
  unfold mayH at hM
  rw [show decide (h.off ≤ 8191) = decide (h.off < 8192) from by rw [decide_eq_decide]; omega] at hM
  rw [← hG] at HO hM
  rw [← hn] at HO hM HB0 HK0 hsm ⊢
  unfold hdC at HO HB0 HK0
  unfold hdV
  have HM := Lib.hid hM
  clear hb0 hk0 hr hc hG hM hn
  go_enter Try.func37, Try.ntmps37
  go_wp2_with fail
  refine HO.out.mono ?_
  rintro e w1 ⟨u, rfl, _, hb1⟩
  have hk1 := HK0.out.below hb1 HK0.out.lt
  have g5 : w1.cell? ⟨w.heap.size, 5, none⟩ = some (.int .i64 h.off) := hk1.cell 5
  have g10 : w1.cell? ⟨w.heap.size, 10, none⟩ = some (.slice A n c) := hk1.cell 10
  have HB1 := Lib.hid (HB0.out.trans (hb1.mono HB0.out.size))
  clear hb1 hk1
  cases G with
  | false =>
    go_wp2_with fail
    go_ret
    exact ⟨by rw [HM.out]; rfl, HB1.out⟩
  | true =>
    obtain ⟨r, hr⟩ : ∃ r, r = n % 4 := ⟨_, rfl⟩
    have hrm : ((n : Int).tmod 4) = (r : Int) := by rw [hr]; exact (Int.ofNat_tmod n 4).symm
    by_cases c1 : n ≤ 40
    · by_cases c2 : n % 4 = 0
      · have c2b : (((n : Int).tmod 4) == 0) = true := by rw [hrm, hr, c2]; rfl
        by_cases c3 : 0 ≤ h.off
        · go_wp2_with fail
          go_ret
          exact ⟨by rw [HM.out]; simp [c1, c2]; omega, HB1.out⟩
        · go_wp2_with fail
          go_ret
          exact ⟨by rw [HM.out]; first | (simp [c1, c2]; done) | (simp [c1, c2]; omega), HB1.out⟩
      · go_wp2_with fail
        go_ret
        exact ⟨by rw [HM.out]; simp [c1, c2], HB1.out⟩
    · go_wp2_with fail
      go_ret
      exact ⟨by rw [HM.out]; simp [c1], HB1.out⟩
set_option maxRecDepth 20000 in
set_option maxHeartbeats 1600000 in
theorem fits_any (h : Hd) (v vp : Value) (p : By) (I : Nat → Prop) (w : World) (hv : Sl8 w I v h.opts) (hp : Sl8 w I vp p) (hsm : h.opts.length ≤ 1000000) :
    Calls Try.prog 104 #[hdV h v, vp] w fun e w' => e = .returned (.bool (fitsH h p)) ∧ Below w.heap.size w w' := by
  have hb0 : Below w.heap.size w (w.alloc (.cells (hdC h v) 32)) := (Below.refl _ _).alloc (Nat.le_refl _) _
  have hk0 := Blk.new w 32 (hdC h v)
  have HO := Lib.hid (rmay_any h v (fun k => I k ∧ k < w.heap.size) _ (hv.lt.keep (Same.ofBelow hb0 fun k hk => hk.2)) hsm)
  obtain ⟨A, c, rfl, hc, hr⟩ := hv
  obtain ⟨Ap, cp, rfl, hcp, hrp⟩ := hp
  have HB0 := Lib.hid hb0
  have HK0 := Lib.hid hk0
  obtain ⟨M, hM⟩ : ∃ M, M = fitsH h p := ⟨_, rfl⟩
  obtain ⟨G, hG⟩ : ∃ G, G = mayH h := ⟨_, rfl⟩
  rw [← hM]
  unfold fitsH at hM
  rw [← hG] at HO hM
  obtain ⟨n, hn⟩ : ∃ n, n = h.opts.length := ⟨_, rfl⟩
  obtain ⟨q, hq⟩ : ∃ q, q = p.length := ⟨_, rfl⟩
  have hn40 : G = true → n ≤ 40 := fun e => by rw [hn]; exact (may_of (by rw [← hG]; exact e)).l40
  rw [← hn] at HO hM HB0 HK0 hsm ⊢
  rw [← hq] at hM ⊢
  unfold hdC at HO HB0 HK0
  unfold hdV at HO ⊢
  have HM := Lib.hid hM
  clear hb0 hk0 hr hc hrp hcp hM hn hq hG
  go_enter Try.func104, Try.ntmps104
  go_wp2_with fail
  refine HO.out.mono ?_
  rintro e w1 ⟨rfl, hb1⟩
  have hk1 := HK0.out.below hb1 HK0.out.lt
  have g10 : w1.cell? ⟨w.heap.size, 10, none⟩ = some (.slice A n c) := hk1.cell 10
  have HB1 := Lib.hid (HB0.out.trans (hb1.mono HB0.out.size))
  clear hb1 hk1
  cases G with
  | false =>
    clear hn40
    go_wp2_with fail
    go_ret
    exact ⟨by rw [HM.out]; rfl, HB1.out⟩
  | true =>
    have h40 := hn40 rfl
    clear hn40
    obtain ⟨b, hb⟩ : ∃ b, b = decide (q ≤ 65535 - 20 - n) := ⟨_, rfl⟩
    have e : decide ((q : Int) ≤ (65515 : Int) - (n : Int)) = b := by rw [hb, decide_eq_decide]; omega
    have HBB := Lib.hid hb
    clear hb
    go_wp2_with fail
    go_ret
    exact ⟨by rw [HM.out, ← HBB.out]; rfl, HB1.out⟩
end Go.Proofs.Ytihfihehiifdkaa
