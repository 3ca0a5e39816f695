/- Contracts of the bucket's functions. -/
import Derived.Test.YtfckagokeimkmaaMem
namespace Go.Proofs.Ytfckagokeimkmaa
open Go.RowKit

/-- block b is a bucket -/
def IsBk (w : World) (b : Nat) (most refill has ticks : Int) : Prop :=
  Blk w b 54 #[.int .i64 most, .int .i64 refill, .int .i64 has, .int .i64 ticks]

def BkOk (most refill has ticks : Int) : Prop := 0 ≤ most ∧ most ≤ 64 ∧ 1 ≤ refill ∧ refill ≤ 100 ∧ 0 ≤ has ∧ has ≤ most ∧ 0 ≤ ticks ∧ ticks < refill

def takeN (has : Int) : Int := if 0 < has then has - 1 else has
def tickT (refill ticks : Int) : Int := if ticks + 1 = refill then 0 else ticks + 1
def tickH (most refill has ticks : Int) : Int := if ticks + 1 = refill then min (has + 1) most else has

theorem take_ok {most refill has ticks : Int} (h : BkOk most refill has ticks) : BkOk most refill (takeN has) ticks := by
  obtain ⟨o1, o2, o3, o4, o5, o6, o7, o8⟩ := h
  unfold takeN
  split <;> exact ⟨o1, o2, o3, o4, by omega, by omega, o7, o8⟩
theorem tick_ok {most refill has ticks : Int} (h : BkOk most refill has ticks) : BkOk most refill (tickH most refill has ticks) (tickT refill ticks) := by
  obtain ⟨o1, o2, o3, o4, o5, o6, o7, o8⟩ := h
  unfold tickH tickT
  split <;> exact ⟨o1, o2, o3, o4, by omega, by omega, by omega, by omega⟩

set_option maxHeartbeats 400000 in
theorem take_any (b : Nat) (most refill has ticks : Int) (w : World) (h : IsBk w b most refill has ticks) (ok : BkOk most refill has ticks) :
    Calls Try.prog 14 #[.pointer (some ⟨b, 0, none⟩)] w fun e w' => e = .returned (.bool (decide (0 < has))) ∧ IsBk w' b most refill (takeN has) ticks ∧ Upd (only b) w w' := by
  obtain ⟨o1, o2, o3, o4, o5, o6, o7, o8⟩ := ok
  have hc : w.cell? ⟨b, 2, none⟩ = some (.int .i64 has) := h.cell 2
  have hf : w.frozen? ⟨b, 2, none⟩ = false := h.frozen 2
  have H := Lib.hid h
  clear h
  by_cases h0 : 0 < has
  · have hb : (has == 0) = false := by simp; omega
    go_enter Try.func14, Try.ntmps14
    go_wp2
    go_ret
    refine ⟨by simp [h0], ?_, upd_set _ _ _ _⟩
    have := Blk.set_ H.out 2 (.int .i64 (has - 1))
    simpa [IsBk, takeN, h0] using this
  · obtain rfl : has = 0 := by omega
    clear o5 o6 h0
    go_enter Try.func14, Try.ntmps14
    go_wp2
    go_ret
    exact ⟨rfl, H.out, Upd.refl _ _⟩

theorem has_any (b : Nat) (most refill has ticks : Int) (w : World) (h : IsBk w b most refill has ticks) :
    Calls Try.prog 16 #[.pointer (some ⟨b, 0, none⟩)] w fun e w' => e = .returned (.int .i64 has) ∧ w = w' := by
  have hc : w.cell? ⟨b, 2, none⟩ = some (.int .i64 has) := h.cell 2
  clear h
  go_enter Try.func16, Try.ntmps16
  go_wp2
  go_ret
  exact ⟨rfl, rfl⟩

set_option maxHeartbeats 1000000 in
theorem tick_any (b : Nat) (most refill has ticks : Int) (w : World) (h : IsBk w b most refill has ticks) (ok : BkOk most refill has ticks) :
    Calls Try.prog 15 #[.pointer (some ⟨b, 0, none⟩)] w fun e w' => e = .returned (.tuple #[]) ∧ IsBk w' b most refill (tickH most refill has ticks) (tickT refill ticks) ∧ Upd (only b) w w' := by
  obtain ⟨o1, o2, o3, o4, o5, o6, o7, o8⟩ := ok
  have h0 : w.cell? ⟨b, 0, none⟩ = some (.int .i64 most) := h.cell 0
  have h1 : w.cell? ⟨b, 1, none⟩ = some (.int .i64 refill) := h.cell 1
  have h2 : w.cell? ⟨b, 2, none⟩ = some (.int .i64 has) := h.cell 2
  have h3 : w.cell? ⟨b, 3, none⟩ = some (.int .i64 ticks) := h.cell 3
  have f2 : w.frozen? ⟨b, 2, none⟩ = false := h.frozen 2
  have f3 : w.frozen? ⟨b, 3, none⟩ = false := h.frozen 3
  have hr : (refill == 0) = false := by simp; omega
  have H := Lib.hid h
  clear h
  by_cases ht : ticks + 1 = refill
  · have hb : (ticks + 1 == refill) = true := by simp [ht]
    have HT := Lib.hid ht
    clear ht
    go_enter Try.func15, Try.ntmps15
    go_wp2
    go_quiet (fail)
    go_wp2
    go_region
    go_wp2
    all_goals
      go_end0
      refine ⟨rfl, ?_, (((upd_set _ _ _ _).drewN _).set_ _ _).set_ _ _⟩
      have e2 : tickT refill ticks = 0 := by simp [tickT, HT.out]
      rw [e2]
    · have hT := (((Blk.set_ H.out 3 (.int .i64 (ticks + 1))).drewN (nq + 1)).set_ 3 (.int .i64 0)).set_ 2 (.int .i64 most)
      rw [show tickH most refill has ticks = most from by simp [tickH, HT.out]; omega]
      simpa [IsBk] using hT
    · have hT := (((Blk.set_ H.out 3 (.int .i64 (ticks + 1))).drewN (nq + 1)).set_ 3 (.int .i64 0)).set_ 2 (.int .i64 (has + 1))
      rw [show tickH most refill has ticks = has + 1 from by simp [tickH, HT.out]; omega]
      simpa [IsBk] using hT
  · have hb : (ticks + 1 == refill) = false := by simp [ht]
    go_enter Try.func15, Try.ntmps15
    go_wp2
    go_quiet (fail)
    go_wp2
    go_end0
    refine ⟨rfl, ?_, (upd_set _ _ _ _).drewN _⟩
    have := (Blk.set_ H.out 3 (.int .i64 (ticks + 1))).drewN nq
    simpa [IsBk, tickT, tickH, ht] using this

theorem bcopy_any (b : Nat) (most refill has ticks : Int) (w : World) (h : IsBk w b most refill has ticks) (ok : BkOk most refill has ticks) :
    Calls Try.prog 17 #[.pointer (some ⟨b, 0, none⟩)] w fun e w' => e = .returned (.pointer (some ⟨w.heap.size, 0, none⟩)) ∧ w' = w.alloc (.cells #[.int .i64 most, .int .i64 refill, .int .i64 has, .int .i64 ticks] 54) := by
  obtain ⟨o1, o2, o3, o4, o5, o6, o7, o8⟩ := ok
  have h0 : w.cell? ⟨b, 0, none⟩ = some (.int .i64 most) := h.cell 0
  have h1 : w.cell? ⟨b, 1, none⟩ = some (.int .i64 refill) := h.cell 1
  have h2 : w.cell? ⟨b, 2, none⟩ = some (.int .i64 has) := h.cell 2
  have h3 : w.cell? ⟨b, 3, none⟩ = some (.int .i64 ticks) := h.cell 3
  have hr : (refill == 0) = false := by simp; omega
  clear h
  go_enter Try.func17, Try.ntmps17
  go_wp2
  go_ret
  exact ⟨rfl, rfl⟩

theorem newbk_yes (most refill : Int) (w : World) (o1 : 0 ≤ most) (o2 : most ≤ 64) (o3 : 1 ≤ refill) (o4 : refill ≤ 100) :
    Calls Try.prog 13 #[.int .i64 most, .int .i64 refill] w fun e w' => e = .returned (.tuple #[.pointer (some ⟨w.heap.size, 0, none⟩), .int .i64 0]) ∧ w' = w.alloc (.cells #[.int .i64 most, .int .i64 refill, .int .i64 most, .int .i64 0] 54) := by
  go_enter Try.func13, Try.ntmps13
  go_wp2
  go_ret2
  exact ⟨rfl, rfl⟩

theorem newbk_no (most refill : Int) (w : World) (h : most < 0 ∨ 64 < most ∨ refill < 1 ∨ 100 < refill) :
    Calls Try.prog 13 #[.int .i64 most, .int .i64 refill] w fun e w' => e = .returned (.tuple #[.pointer none, .int .i64 2]) ∧ w' = w := by
  have H := Lib.hid h
  clear h
  by_cases a1 : most < 0
  case pos =>
    go_enter Try.func13, Try.ntmps13
    go_wp2
    go_ret2
    exact ⟨rfl, rfl⟩
  by_cases a2 : 64 < most
  case pos =>
    go_enter Try.func13, Try.ntmps13
    go_wp2
    go_ret2
    exact ⟨rfl, rfl⟩
  by_cases a3 : refill < 1
  case pos =>
    go_enter Try.func13, Try.ntmps13
    go_wp2
    go_ret2
    exact ⟨rfl, rfl⟩
  have a4 : 100 < refill := by rcases H.out with h | h | h | h <;> omega
  go_enter Try.func13, Try.ntmps13
  go_wp2
  go_ret2
  exact ⟨rfl, rfl⟩
end Go.Proofs.Ytfckagokeimkmaa
