/- The document's Common. -/
import Derived.Test.YtejiecebckjflaaTcL
import Derived.Test.YtejiecebckjflaaTqF
import Derived.Test.YtejiecebckjflaaTqG
import Derived.Deep.LoopGhost
import Derived.BigGuard
namespace Go.Proofs.Ytejiecebckjflaa
open Go.RowKit Go.Sort Go.BigFrame
set_option maxRecDepth 20000 in
set_option maxHeartbeats 4000000 in
theorem tabcommon_any (e f : Bs × Int) (w : World) (he : e.1.length ≤ 32) (hf : f.1.length ≤ 32) :
    Calls Try.prog 53 #[pxV (padB e.1) e.1.length, pxV (padB f.1) f.1.length] w fun r w' => r = .returned (pxV (padB (lcpB e.1 f.1)) (lcpB e.1 f.1).length) ∧ Below w.heap.size w w' := by
  obtain ⟨W0, hW0⟩ : ∃ W0, W0 = ((w.alloc (.cells #[.int .u32 (padB e.1 : Int), .int .i64 (e.1.length : Int)] 31)).alloc (.cells #[.int .u32 (padB f.1 : Int), .int .i64 (f.1.length : Int)] 31)).alloc (.cells #[.int .u32 0, .int .i64 0] 31) := ⟨_, rfl⟩
  have HW0 := Lib.hid hW0
  clear hW0
  go_enter Try.func53, Try.ntmps53
  go_wp2_with fail
  rw [← HW0.out]
  go_loopg [5] 32 (fun g s5 wr => ∃ k : Nat, k ≤ g ∧ k ≤ 32 ∧ s5 = .int .i64 (k : Int) ∧ (lcpB e.1 f.1).length ≤ k ∧ Below w.heap.size w wr ∧ Blk wr w.heap.size 31 #[.int .u32 (padB e.1 : Int), .int .i64 (e.1.length : Int)] ∧ Blk wr (w.heap.size + 1) 31 #[.int .u32 (padB f.1 : Int), .int .i64 (f.1.length : Int)] ∧ Blk wr (w.heap.size + 1 + 1) 31 #[.int .u32 0, .int .i64 0])
  case atStart =>
    have hl := (lcp_left e.1 f.1).length_le
    refine ⟨32, Nat.le_refl _, Nat.le_refl _, rfl, by omega, ?_, ?_, ?_, ?_⟩
    · rw [HW0.out]
      exact (((Below.refl _ _).alloc (Nat.le_refl _) _).alloc (by simp) _).alloc (by simp; omega) _
    · rw [HW0.out]
      exact ((Blk.new _ _ _).alloc _).alloc _
    · rw [HW0.out]
      have := (Blk.new (w.alloc (.cells #[.int .u32 (padB e.1 : Int), .int .i64 (e.1.length : Int)] 31)) 31 #[.int .u32 (padB f.1 : Int), .int .i64 (f.1.length : Int)]).alloc (.cells #[.int .u32 0, .int .i64 0] 31)
      simpa using this
    · rw [HW0.out]
      have := Blk.new ((w.alloc (.cells #[.int .u32 (padB e.1 : Int), .int .i64 (e.1.length : Int)] 31)).alloc (.cells #[.int .u32 (padB f.1 : Int), .int .i64 (f.1.length : Int)] 31)) 31 #[.int .u32 0, .int .i64 0]
      simpa using this
  case round =>
    obtain ⟨k, hg, hk32, rfl, hlk, hb, k0, k1, k2⟩ := hrel
    have a0 : wr.cell? ⟨w.heap.size, 0, none⟩ = some (.int .u32 (padB e.1 : Int)) := k0.cell 0
    have a1 : wr.cell? ⟨w.heap.size, 1, none⟩ = some (.int .i64 (e.1.length : Int)) := k0.cell 1
    have r0 : wr.cell? ⟨w.heap.size + 1 + 1, 0, none⟩ = some (.int .u32 0) := k2.cell 0
    have r1 : wr.cell? ⟨w.heap.size + 1 + 1, 1, none⟩ = some (.int .i64 0) := k2.cell 1
    have f0 : wr.frozen? ⟨w.heap.size + 1 + 1, 0, none⟩ = false := k2.frozen 0
    have f1 : wr.frozen? ⟨w.heap.size + 1 + 1, 1, none⟩ = false := k2.frozen 1
    have HB := Lib.hid hb
    have K0 := Lib.hid k0
    have K1 := Lib.hid k1
    have K2 := Lib.hid k2
    clear hb k0 k1 k2
    by_cases hk : 0 < k
    · have hd : decide ((0 : Int) < (k : Int)) = true := decide_eq_true (by omega)
      have hd2 : decide (0 < k) = true := decide_eq_true hk
      go_wp2_with fail
      refine (first_any (padB e.1) k _ (padB_lt _ he) hk32).mono ?_
      rintro _ w2 ⟨rfl, rfl⟩
      have hal : Below wr.heap.size wr (wr.alloc (.cells #[.int .u32 (firstB (padB e.1) k : Int), .int .i64 (k : Int)] 31)) := (Below.refl _ _).alloc (Nat.le_refl _) _
      have c0 : (wr.alloc (.cells #[.int .u32 (firstB (padB e.1) k : Int), .int .i64 (k : Int)] 31)).cell? ⟨w.heap.size, 0, none⟩ = some (.int .u32 (padB e.1 : Int)) := (K0.out.below hal K0.out.lt).cell 0
      have c1 : (wr.alloc (.cells #[.int .u32 (firstB (padB e.1) k : Int), .int .i64 (k : Int)] 31)).cell? ⟨w.heap.size, 1, none⟩ = some (.int .i64 (e.1.length : Int)) := (K0.out.below hal K0.out.lt).cell 1
      have HAL := Lib.hid hal
      have hp0 : Blk (wr.alloc (.cells #[.int .u32 (firstB (padB e.1) k : Int), .int .i64 (k : Int)] 31)) wr.heap.size 31 #[.int .u32 (firstB (padB e.1) k : Int), .int .i64 (k : Int)] := Blk.new _ _ _
      have HP0 := Lib.hid hp0
      have htp : firstB (padB e.1) k < 2 ^ 32 := Nat.lt_of_le_of_lt (firstB_le _ _) (padB_lt _ he)
      have hboth := top_both he hf hk32
      have q1 := fun wx => within_any (topP e k) (pxE e) wx htp (pxE_lt he)
      have q2 := fun wx => within_any (topP e k) (pxE f) wx htp (pxE_lt hf)
      obtain ⟨b1, hb1⟩ : ∃ b1, b1 = withinP (topP e k) (pxE e) := ⟨_, rfl⟩
      obtain ⟨b2, hb2⟩ : ∃ b2, b2 = withinP (topP e k) (pxE f) := ⟨_, rfl⟩
      rw [← hb1] at q1 hboth
      rw [← hb2] at q2 hboth
      have Q1 := Lib.hid q1
      have Q2 := Lib.hid q2
      have HBO := Lib.hid hboth
      clear hal a0 a1 hp0 q1 q2 hb1 hb2 hboth htp
      go_wp2_with fail
      refine (Q1.out _).mono ?_
      rintro _ w3 ⟨rfl, hb3⟩
      have hbz := HAL.out.trans (hb3.mono HAL.out.size)
      have HBZ := Lib.hid hbz
      have hp3 := HP0.out.below hb3 HP0.out.lt
      have k03 := K0.out.below hbz K0.out.lt
      have k13 := K1.out.below hbz K1.out.lt
      have k23 := K2.out.below hbz K2.out.lt
      have p0 : w3.cell? ⟨wr.heap.size, 0, none⟩ = some (.int .u32 (firstB (padB e.1) k : Int)) := hp3.cell 0
      have p1 : w3.cell? ⟨wr.heap.size, 1, none⟩ = some (.int .i64 (k : Int)) := hp3.cell 1
      have d0 : w3.cell? ⟨w.heap.size + 1, 0, none⟩ = some (.int .u32 (padB f.1 : Int)) := k13.cell 0
      have d1 : w3.cell? ⟨w.heap.size + 1, 1, none⟩ = some (.int .i64 (f.1.length : Int)) := k13.cell 1
      have K03 := Lib.hid k03
      have K13 := Lib.hid k13
      have K23 := Lib.hid k23
      have HP3 := Lib.hid hp3
      clear hbz hp3 k03 k13 k23 hb3 c0 c1 r0 r1 f0 f1
      cases b1 with
      | false =>
        have hne : ¬ k ≤ (lcpB e.1 f.1).length := of_decide_eq_false HBO.out.symm
        go_wp2_with fail
        go_roundg (k - 1)
        case measure => omega
        case rel => exact ⟨k - 1, Nat.le_refl _, by omega, congrArg (Value.int .i64) (by omega), by omega, HB.out.trans (HBZ.out.mono HB.out.size), K03.out, K13.out, K23.out⟩
      | true =>
        go_wp2_with fail
        refine (Q2.out _).mono ?_
        rintro _ w4 ⟨rfl, hb4⟩
        have hbz := HBZ.out.trans (hb4.mono HBZ.out.size)
        have HB4 := Lib.hid (HB.out.trans (hbz.mono HB.out.size))
        have k24 := K23.out.below hb4 K23.out.lt
        have hp4 := HP3.out.below hb4 HP3.out.lt
        have K04 := Lib.hid (K03.out.below hb4 K03.out.lt)
        have K14 := Lib.hid (K13.out.below hb4 K13.out.lt)
        have p40 : w4.cell? ⟨wr.heap.size, 0, none⟩ = some (.int .u32 (firstB (padB e.1) k : Int)) := hp4.cell 0
        have p41 : w4.cell? ⟨wr.heap.size, 1, none⟩ = some (.int .i64 (k : Int)) := hp4.cell 1
        have r40 : w4.cell? ⟨w.heap.size + 1 + 1, 0, none⟩ = some (.int .u32 0) := k24.cell 0
        have r41 : w4.cell? ⟨w.heap.size + 1 + 1, 1, none⟩ = some (.int .i64 0) := k24.cell 1
        have f40 : w4.frozen? ⟨w.heap.size + 1 + 1, 0, none⟩ = false := k24.frozen 0
        have f41 : w4.frozen? ⟨w.heap.size + 1 + 1, 1, none⟩ = false := k24.frozen 1
        have K24 := Lib.hid k24
        clear k24 hp4 hb4 hbz p0 p1 d0 d1
        cases b2 with
        | false =>
          have hne : ¬ k ≤ (lcpB e.1 f.1).length := of_decide_eq_false HBO.out.symm
          go_wp2_with fail
          go_roundg (k - 1)
          case measure => omega
          case rel => exact ⟨k - 1, Nat.le_refl _, by omega, congrArg (Value.int .i64) (by omega), by omega, HB4.out, K04.out, K14.out, K24.out⟩
        | true =>
          have hle : k ≤ (lcpB e.1 f.1).length := of_decide_eq_true HBO.out.symm
          go_wp2_with fail
          have kz : Blk ((w4.setCell ⟨w.heap.size + 1 + 1, 0, none⟩ (.int .u32 (firstB (padB e.1) k : Int))).setCell ⟨w.heap.size + 1 + 1, 1, none⟩ (.int .i64 (k : Int))) (w.heap.size + 1 + 1) 31 #[.int .u32 (firstB (padB e.1) k : Int), .int .i64 (k : Int)] := (K24.out.set_ 0 (.int .u32 (firstB (padB e.1) k : Int))).set_ 1 (.int .i64 (k : Int))
          have z0 := kz.cell 0
          have z1 := kz.cell 1
          have hkk : k = (lcpB e.1 f.1).length := by omega
          have hpre : lcpB e.1 f.1 <+: bitsB (padB e.1) 32 := (lcp_left e.1 f.1).trans (by
            have h3 := bits_pad e.1 he
            rw [← bitsB_take (padB e.1) e.1.length 32 he] at h3
            conv => lhs; rw [← h3]
            exact List.take_prefix _ _)
          have hfi : firstB (padB e.1) k = padB (lcpB e.1 f.1) := by rw [hkk]; exact (has_iff (by omega) (padB_lt _ he)).2 hpre
          refine bodyPost_ret (v := pxV (firstB (padB e.1) k) k) (by simp [results, Try.f53, go_sem, z0, z1]) rfl ⟨by rw [hfi, hkk], (HB4.out.setCell (p := ⟨w.heap.size + 1 + 1, 0, none⟩) (by simp; omega) _).setCell (p := ⟨w.heap.size + 1 + 1, 1, none⟩) (by simp; omega) _⟩
    · obtain rfl : k = 0 := by omega
      have hn : lcpB e.1 f.1 = [] := List.eq_nil_of_length_eq_zero (by omega)
      have HN := Lib.hid hn
      clear hn
      go_wp2_with fail
      have kz : Blk ((wr.setCell ⟨w.heap.size + 1 + 1, 0, none⟩ (.int .u32 0)).setCell ⟨w.heap.size + 1 + 1, 1, none⟩ (.int .i64 0)) (w.heap.size + 1 + 1) 31 #[.int .u32 0, .int .i64 0] := (K2.out.set_ 0 (.int .u32 0)).set_ 1 (.int .i64 0)
      have z0 := kz.cell 0
      have z1 := kz.cell 1
      refine bodyPost_ret (v := pxV 0 0) (by simp [results, Try.f53, go_sem, z0, z1]) rfl ⟨by rw [HN.out]; rfl, (HB.out.setCell (p := ⟨w.heap.size + 1 + 1, 0, none⟩) (by simp; omega) _).setCell (p := ⟨w.heap.size + 1 + 1, 1, none⟩) (by simp; omega) _⟩
end Go.Proofs.Ytejiecebckjflaa
