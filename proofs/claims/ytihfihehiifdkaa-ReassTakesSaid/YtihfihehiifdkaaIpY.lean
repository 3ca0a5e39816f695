/- ip.May, ip.Size. -/
import Derived.Test.YtihfihehiifdkaaIpX
namespace Go.Proofs.Ytihfihehiifdkaa
open Go.RowKit Go.Sort Go.BigFrame
def hdC (h : Hd) (v : Value) : Array Value := #[.int .u8 (h.tos : Int), .int .u16 (h.id : Int), .bool h.evil, .bool h.df, .bool h.mf, .int .i64 h.off, .int .u8 (h.ttl : Int), .int .u8 (h.proto : Int), .int .u32 (h.src : Int), .int .u32 (h.dst : Int), v]
theorem hdV_eq (h : Hd) (v : Value) : hdV h v = .agg (hdC h v) := rfl
set_option maxRecDepth 20000 in
set_option maxHeartbeats 1600000 in
theorem may_any (h : Hd) (v : Value) (I : Nat → Prop) (w : World) (hv : Sl8 w I v h.opts) (hsm : h.opts.length ≤ 1000000) :
    Calls Try.prog 90 #[hdV h v] w fun e w' => e = .returned (.bool (mayH h)) ∧ Below w.heap.size w w' := by
  obtain ⟨A, c, rfl, hc, hr⟩ := hv
  have hb0 : Below w.heap.size w (w.alloc (.cells (hdC h (.slice A h.opts.length c)) 32)) := (Below.refl _ _).alloc (Nat.le_refl _) _
  have hk0 := Blk.new w 32 (hdC h (.slice A h.opts.length c))
  have HO := Lib.hid (options_any (.slice A h.opts.length c) h.opts (fun k => I k ∧ k < w.heap.size) _ ⟨A, c, rfl, hc, hr.lt.keep (Same.ofBelow hb0 fun k hk => hk.2)⟩ hsm)
  have HB0 := Lib.hid hb0
  have HK0 := Lib.hid hk0
  obtain ⟨G, hG⟩ : ∃ G, G = goodF h.opts := ⟨_, rfl⟩
  obtain ⟨M, hM⟩ : ∃ M, M = mayH h := ⟨_, rfl⟩
  obtain ⟨n, hn⟩ : ∃ n, n = h.opts.length := ⟨_, rfl⟩
  unfold OptPost at HO
  rw [← hM]
  unfold mayH at hM
  rw [← hG] at HO hM
  rw [← hn] at HO hM HB0 HK0 hsm ⊢
  unfold hdC at HO HB0 HK0
  unfold hdV
  have HM := Lib.hid hM
  clear hb0 hk0 hr hc hG hM hn
  go_enter Try.func90, Try.ntmps90
  go_wp2_with fail
  refine HO.out.mono ?_
  rintro e w1 ⟨u, rfl, _, hb1⟩
  have hk1 := HK0.out.below hb1 HK0.out.lt
  have g5 : w1.cell? ⟨w.heap.size, 5, none⟩ = some (.int .i64 h.off) := hk1.cell 5
  have g10 : w1.cell? ⟨w.heap.size, 10, none⟩ = some (.slice A n c) := hk1.cell 10
  have HB1 := Lib.hid (HB0.out.trans (hb1.mono HB0.out.size))
  clear hb1 hk1
  cases G with
  | false =>
    go_wp2_with fail
    go_ret
    exact ⟨by rw [HM.out]; rfl, HB1.out⟩
  | true =>
    obtain ⟨r, hr⟩ : ∃ r, r = n % 4 := ⟨_, rfl⟩
    have hrm : ((n : Int).tmod 4) = (r : Int) := by rw [hr]; exact (Int.ofNat_tmod n 4).symm
    by_cases c1 : n ≤ 40
    · by_cases c2 : n % 4 = 0
      · have c2b : (((n : Int).tmod 4) == 0) = true := by rw [hrm, hr, c2]; rfl
        by_cases c3 : 0 ≤ h.off
        · go_wp2_with fail
          go_ret
          exact ⟨by rw [HM.out]; first | (simp [c1, c2]; done) | (simp [c1, c2]; omega), HB1.out⟩
        · go_wp2_with fail
          go_ret
          exact ⟨by rw [HM.out]; first | (simp [c1, c2]; done) | (simp [c1, c2]; omega), HB1.out⟩
      · go_wp2_with fail
        go_ret
        exact ⟨by rw [HM.out]; simp [c1, c2], HB1.out⟩
    · go_wp2_with fail
      go_ret
      exact ⟨by rw [HM.out]; simp [c1], HB1.out⟩
/-- How many bytes a header has; 0: it may not be. -/
def sizeH (h : Hd) : Nat := if mayH h = true then 20 + h.opts.length else 0
set_option maxRecDepth 20000 in
set_option maxHeartbeats 1600000 in
theorem size_any (h : Hd) (v : Value) (I : Nat → Prop) (w : World) (hv : Sl8 w I v h.opts) (hsm : h.opts.length ≤ 1000000) :
    Calls Try.prog 58 #[hdV h v] w fun e w' => e = .returned (.int .i64 (sizeH h : Int)) ∧ Below w.heap.size w w' := by
  have hb0 : Below w.heap.size w (w.alloc (.cells (hdC h v) 32)) := (Below.refl _ _).alloc (Nat.le_refl _) _
  have hk0 := Blk.new w 32 (hdC h v)
  have HO := Lib.hid (may_any h v (fun k => I k ∧ k < w.heap.size) _ (hv.lt.keep (Same.ofBelow hb0 fun k hk => hk.2)) hsm)
  obtain ⟨A, c, rfl, hc, hr⟩ := hv
  have HB0 := Lib.hid hb0
  have HK0 := Lib.hid hk0
  obtain ⟨M, hM⟩ : ∃ M, M = sizeH h := ⟨_, rfl⟩
  obtain ⟨G, hG⟩ : ∃ G, G = mayH h := ⟨_, rfl⟩
  rw [← hM]
  unfold sizeH at hM
  rw [← hG] at HO hM
  obtain ⟨n, hn⟩ : ∃ n, n = h.opts.length := ⟨_, rfl⟩
  rw [← hn] at HO hM HB0 HK0 hsm ⊢
  unfold hdC at HO HB0 HK0
  unfold hdV at HO ⊢
  have HM := Lib.hid hM
  clear hb0 hk0 hr hc hM hn hG
  go_enter Try.func58, Try.ntmps58
  go_wp2_with fail
  refine HO.out.mono ?_
  rintro e w1 ⟨rfl, hb1⟩
  have hk1 := HK0.out.below hb1 HK0.out.lt
  have g10 : w1.cell? ⟨w.heap.size, 10, none⟩ = some (.slice A n c) := hk1.cell 10
  have HB1 := Lib.hid (HB0.out.trans (hb1.mono HB0.out.size))
  clear hb1 hk1
  cases G with
  | false =>
    go_wp2_with fail
    go_ret
    exact ⟨by rw [HM.out]; rfl, HB1.out⟩
  | true =>
    go_wp2_with fail
    go_ret
    refine ⟨?_, HB1.out⟩
    have hM := HM.out
    rw [if_pos trivial] at hM
    rw [hM]
    rfl
end Go.Proofs.Ytihfihehiifdkaa
