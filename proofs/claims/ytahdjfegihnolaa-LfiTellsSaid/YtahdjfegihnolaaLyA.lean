/- Layer 12: prefixes compared; prefixes as keys of a map. -/
import Derived.Test.YtahdjfegihnolaaLyS
import Derived.Test.YtahdjfegihnolaaLfN
import Derived.Test.YtahdjfegihnolaaMpV
import Derived.Test.YtahdjfegihnolaaRgA
import Derived.DeepKeys4
import Derived.StillTailTactics
namespace Go.Proofs.Ytahdjfegihnolaa
open Go.RowKit Go.Sort Go.Lib
def cmpI (a b : Int) : Int := if a < b then -1 else if b < a then 1 else 0
def ordF (a b : Pf) : Int := if cmpI (a.1 : Int) (b.1 : Int) ≠ 0 then cmpI (a.1 : Int) (b.1 : Int) else cmpI a.2 b.2
theorem ord_lt (a b : Pf) : ltOf ordF a b = decide (lessP a b) := by
  unfold ltOf
  rw [Bool.eq_iff_iff, decide_eq_true_eq, decide_eq_true_eq]
  unfold ordF lessP cmpI
  by_cases h1 : (a.1 : Int) < (b.1 : Int)
  · simp [h1]; omega
  · by_cases h2 : (b.1 : Int) < (a.1 : Int)
    · simp [h1, h2]; omega
    · by_cases h3 : a.2 < b.2
      · simp [h1, h2, h3]; omega
      · by_cases h4 : b.2 < a.2
        · simp [h1, h2, h3, h4]; omega
        · simp [h1, h2, h3, h4]; omega
theorem ord_swo : SWO (ltOf ordF) where
  irrefl x := by rw [ord_lt]; exact decide_eq_false (lessP_irrefl x)
  trans x y z h1 h2 := by rw [ord_lt] at *; exact decide_eq_true (lessP_trans (of_decide_eq_true h1) (of_decide_eq_true h2))
  ntrans x y z h1 h2 := by
    rw [ord_lt] at *
    refine decide_eq_false fun h => ?_
    have a1 := of_decide_eq_false h1
    have a2 := of_decide_eq_false h2
    unfold lessP at *
    omega
theorem ord_tot (x y : Pf) (h1 : ltOf ordF x y = false) (h2 : ltOf ordF y x = false) : x = y := by
  rw [ord_lt] at *
  rcases lessP_tri x y with h | h | h
  · exact absurd h (of_decide_eq_false h1)
  · exact h
  · exact absurd h (of_decide_eq_false h2)
theorem nan_addr (a : Int) (w : World) : Calls Try.prog 72 #[.int .u32 a] w fun e w' => e = .returned (.bool false) ∧ w = w' := by
  go_enter Try.func72, Try.ntmps72
  go_wp2_with fail
  go_ret
  exact ⟨rfl, rfl⟩
theorem nan_int (a : Int) (w : World) : Calls Try.prog 73 #[.int .i64 a] w fun e w' => e = .returned (.bool false) ∧ w = w' := by
  go_enter Try.func73, Try.ntmps73
  go_wp2_with fail
  go_ret
  exact ⟨rfl, rfl⟩
theorem cmp_addr (a b : Int) (w : World) : Calls Try.prog 67 #[.int .u32 a, .int .u32 b] w fun e w' => e = .returned (.int .i64 (cmpI a b)) ∧ w = w' := by
  unfold cmpI
  by_cases h1 : a < b
  · have d1 : decide (a < b) = true := decide_eq_true h1
    rw [if_pos h1]
    clear h1
    go_enter Try.func67, Try.ntmps67
    go_wp2_with (go_at_call 72; refine (nan_addr _ _).mono ?_; rintro e w' ⟨rfl, rfl⟩)
    go_ret
    exact ⟨rfl, rfl⟩
  · have d1 : decide (a < b) = false := decide_eq_false h1
    rw [if_neg h1]
    by_cases h2 : b < a
    · have d2 : decide (b < a) = true := decide_eq_true h2
      rw [if_pos h2]
      clear h1 h2
      go_enter Try.func67, Try.ntmps67
      go_wp2_with (go_at_call 72; refine (nan_addr _ _).mono ?_; rintro e w' ⟨rfl, rfl⟩)
      go_ret
      exact ⟨rfl, rfl⟩
    · have d2 : decide (b < a) = false := decide_eq_false h2
      rw [if_neg h2]
      clear h1 h2
      go_enter Try.func67, Try.ntmps67
      go_wp2_with (go_at_call 72; refine (nan_addr _ _).mono ?_; rintro e w' ⟨rfl, rfl⟩)
      go_ret
      exact ⟨rfl, rfl⟩
theorem cmp_int (a b : Int) (w : World) : Calls Try.prog 68 #[.int .i64 a, .int .i64 b] w fun e w' => e = .returned (.int .i64 (cmpI a b)) ∧ w = w' := by
  unfold cmpI
  by_cases h1 : a < b
  · have d1 : decide (a < b) = true := decide_eq_true h1
    rw [if_pos h1]
    clear h1
    go_enter Try.func68, Try.ntmps68
    go_wp2_with (go_at_call 73; refine (nan_int _ _).mono ?_; rintro e w' ⟨rfl, rfl⟩)
    go_ret
    exact ⟨rfl, rfl⟩
  · have d1 : decide (a < b) = false := decide_eq_false h1
    rw [if_neg h1]
    by_cases h2 : b < a
    · have d2 : decide (b < a) = true := decide_eq_true h2
      rw [if_pos h2]
      clear h1 h2
      go_enter Try.func68, Try.ntmps68
      go_wp2_with (go_at_call 73; refine (nan_int _ _).mono ?_; rintro e w' ⟨rfl, rfl⟩)
      go_ret
      exact ⟨rfl, rfl⟩
    · have d2 : decide (b < a) = false := decide_eq_false h2
      rw [if_neg h2]
      clear h1 h2
      go_enter Try.func68, Try.ntmps68
      go_wp2_with (go_at_call 73; refine (nan_int _ _).mono ?_; rintro e w' ⟨rfl, rfl⟩)
      go_ret
      exact ⟨rfl, rfl⟩
/-- cmp.Or of two. -/
theorem or_any (g : Nat) (a b : Int) (w : World) (c0 : w.cell? ⟨g, 0, none⟩ = some (.int .i64 a)) (c1 : w.cell? ⟨g, 1, none⟩ = some (.int .i64 b)) :
    Calls Try.prog 66 #[.slice (some ⟨g, 0, none⟩) 2 2] w fun e w' => e = .returned (.int .i64 (if a ≠ 0 then a else b)) ∧ w = w' := by
  by_cases ha : a = 0
  · subst ha
    rw [if_neg (by simp)]
    by_cases hb : b = 0
    · subst hb
      go_enter Try.func66, Try.ntmps66
      go_wp2_with fail
      refine wp_loop_rounds 3 ?_
      rw [rounds_succ]; go_wp2_with fail
      rw [rounds_succ]; go_wp2_with fail
      rw [rounds_succ]; go_wp2_with fail
      go_ret
      exact ⟨rfl, rfl⟩
    · have b1 : ((b : Int) != 0) = true := by rw [bne_iff_ne]; exact hb
      clear hb
      go_enter Try.func66, Try.ntmps66
      go_wp2_with fail
      refine wp_loop_rounds 3 ?_
      rw [rounds_succ]; go_wp2_with fail
      rw [rounds_succ]; go_wp2_with fail
      go_ret
      exact ⟨rfl, rfl⟩
  · rw [if_pos ha]
    have b1 : ((a : Int) != 0) = true := by rw [bne_iff_ne]; exact ha
    clear ha
    go_enter Try.func66, Try.ntmps66
    go_wp2_with fail
    refine wp_loop_rounds 3 ?_
    rw [rounds_succ]; go_wp2_with fail
    go_ret
    exact ⟨rfl, rfl⟩
theorem three_grow (w : World) (a b c : Obj) : ((w.alloc a).alloc b).drew.alloc c = grow (w.drewN 1) #[a, b, c] := by
  have h : ∀ (h : Array Obj), ((h.push a).push b).push c = h ++ #[a, b, c] := fun h => by apply Array.ext'; simp
  unfold grow World.alloc World.drew World.drewN
  show ({ heap := ((w.heap.push a).push b).push c, .. } : World) = _
  rw [h]
def pfE (p : Pf) : List Value := [.int .u32 (p.1 : Int), .int .i64 p.2]
def pfC (p : Pf) : Array Value := #[.int .u32 (p.1 : Int), .int .i64 p.2]
def pfV (p : Pf) : Value := .agg (pfC p)
set_option maxRecDepth 20000 in
theorem order_any (a b : Pf) (w : World) : Calls Try.prog 58 #[pfV a, pfV b] w fun e w' => e = .returned (.int .i64 (ordF a b)) ∧ ∃ q os', w' = grow (w.drewN q) os' := by
  have h1 := fun wx => cmp_addr (a.1 : Int) (b.1 : Int) wx
  have h2 := fun wx => cmp_int a.2 b.2 wx
  unfold ordF pfV pfC
  obtain ⟨x, hx⟩ : ∃ x, x = cmpI (a.1 : Int) (b.1 : Int) := ⟨_, rfl⟩
  obtain ⟨y, hy⟩ : ∃ y, y = cmpI a.2 b.2 := ⟨_, rfl⟩
  rw [← hx, ← hy]
  rw [← hx] at h1
  rw [← hy] at h2
  have H1 := Lib.hid h1
  have H2 := Lib.hid h2
  obtain ⟨z, hz⟩ : ∃ z, z = if x ≠ 0 then x else y := ⟨_, rfl⟩
  rw [← hz]
  have HZ := Lib.hid hz
  clear hx hy h1 h2 hz
  obtain ⟨W, hW⟩ : ∃ W, W = (w.alloc (.cells #[.int .u32 (a.1 : Int), .int .i64 a.2] 36)).alloc (.cells #[.int .u32 (b.1 : Int), .int .i64 b.2] 36) := ⟨_, rfl⟩
  have HW := Lib.hid hW
  have k0 : Blk W w.heap.size 36 #[.int .u32 (a.1 : Int), .int .i64 a.2] := by rw [hW]; exact (Blk.new _ _ _).alloc _
  have k1 : Blk W (w.heap.size + 1) 36 #[.int .u32 (b.1 : Int), .int .i64 b.2] := by
    rw [hW]
    have := Blk.new (w.alloc (.cells #[.int .u32 (a.1 : Int), .int .i64 a.2] 36)) 36 #[.int .u32 (b.1 : Int), .int .i64 b.2]
    simpa using this
  have c0 := k0.cell 0
  have c1 := k0.cell 1
  have c2 := k1.cell 0
  have c3 := k1.cell 1
  clear k0 k1 hW
  go_enter Try.func58, Try.ntmps58
  go_upto_region 1 with (fail)
  rw [← HW.out]
  go_still_tail 10, (by kernel_rfl)
  still_call ((H1.out W.drew).mono fun _ _ ⟨h, hw⟩ => ⟨h, hw.symm⟩)
  repeat still_step
  still_call ((H2.out W.drew).mono fun _ _ ⟨h, hw⟩ => ⟨h, hw.symm⟩)
  repeat still_step
  refine wpStill_nil ?_
  have hk := Blk.new W.drew 3 #[.int .i64 x, .int .i64 y]
  have ho := or_any W.drew.heap.size x y _ (hk.cell 0) (hk.cell 1)
  rw [← HZ.out] at ho
  have HO := Lib.hid ho
  clear c0 c1 c2 c3 hk ho
  go_wp2_with (go_at_call 66; refine HO.out.mono ?_; rintro e w' ⟨rfl, rfl⟩)
  go_ret
  refine ⟨rfl, 1, #[.cells #[.int .u32 (a.1 : Int), .int .i64 a.2] 36, .cells #[.int .u32 (b.1 : Int), .int .i64 b.2] 36, .cells #[.int .i64 x, .int .i64 y] 3], ?_⟩
  rw [HW.out]
  exact three_grow _ _ _ _
end Go.Proofs.Ytahdjfegihnolaa
