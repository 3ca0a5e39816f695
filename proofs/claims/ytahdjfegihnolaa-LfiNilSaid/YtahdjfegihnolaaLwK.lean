/- Layer 12: LfiNil, the walk (printed by gen_lwk.py). -/
import Derived.Test.YtahdjfegihnolaaLwJ
import Derived.Test.YtahdjfegihnolaaLwF
import Derived.RangeFuncNested
import Derived.RangeFuncBound
import Derived.RangeFuncLeaves
import Derived.Shelf.Abstract
import Derived.OwnWalkIn
import Derived.TacticsInMore
import Derived.LoopNIn
import Derived.LoopIn
namespace Go.Proofs.Ytahdjfegihnolaa
open Go.RowKit Go.Sort
attribute [local go_sem] Oper.semAt_some
structure NkSt (w W : World) : Prop where
  below : Below w.heap.size w W
  r : Blk W w.heap.size 4 #[.bool false]
  c : Blk W (w.heap.size + 1) 81 coZ
  ls : Blk W (w.heap.size + 1 + 1) 25 #[.pointer none, .pointer (some ⟨w.heap.size + 1, 0, none⟩)]
theorem NkSt.later {w W W2 : World} (h : NkSt w W) (hb : Below W.heap.size W W2) : NkSt w W2 :=
  ⟨h.below.trans (hb.mono h.below.size), h.r.below hb h.r.lt, h.c.below hb h.c.lt, h.ls.below hb h.ls.lt⟩
def viY : Array Value := viZ
theorem entry_nilY {w : World} {pv : Value} (h : NilC w pv) (a b : Int) : Calls Try.prog 14 #[pv, .agg #[.int .u32 a, .int .i64 b]] w fun e w' => e = .returned (.tuple #[.agg viY, .bool false]) ∧ Below w.heap.size w w' := entry_nil h a b
theorem ld_cp {w : World} {b o : Nat} {u : Option Addr} (hu : w.cell? ⟨b, o, none⟩ = some (.pointer u)) : (Instr.loadAt 25 (.pointer (some ⟨b, o, none⟩))).run Try.prog w = .ok (.pointer u) w := by simp [go_sem, hu]
theorem viY_one : viY.all (·.oneCell') = true := by simp [viY, viZ, Value.oneCell']
set_option maxRecDepth 100000 in
set_option maxHeartbeats 8000000 in
attribute [-go_sem] Instr.storeAt Instr.loadAt in
theorem lnil_any (w : World) : Calls Try.prog 9 #[] w fun e w' => e = .returned (.bool true) ∧ Below w.heap.size w w' := by
  refine (callsIn_wide (n := 5)).1 ?_
  refine callsIn_of_wp_marks Try.func9 rfl trivial ?_ rfl
  simp only [Try.ntmps9, List.size_toArray, List.length_nil, Nat.reduceSub, Array.replicate_succ, Array.replicate_zero, List.push_toArray, List.append_toArray, List.nil_append, List.cons_append]
  gi_wp2_with fail
  obtain ⟨W0, hW0⟩ : ∃ W0, W0 = ((w.alloc (.cells #[.bool false] 4)).alloc (.cells #[.int .i64 0, .bool false, .bool false, .bool false, .bool false, .bool false, .bool false, .bool false, .bool false, .int .i64 0, .int .i64 0, .int .i64 0, .int .i64 0, .int .i64 0, .int .i64 0, .int .i64 0, .int .i64 0, .map none, .slice none 0 0] 81)).alloc (.cells #[.pointer none, .pointer (some ⟨w.heap.size + 1, 0, none⟩)] 25) := ⟨_, rfl⟩
  have st : NkSt w W0 := by
    rw [hW0]
    refine ⟨(((Below.refl _ _).alloc (Nat.le_refl _) _).alloc (by simp) _).alloc (by simp; omega) _, ((Blk.new _ _ _).alloc _).alloc _, ?_, ?_⟩
    · have := (Blk.new (w.alloc (.cells #[.bool false] 4)) 81 coZ).alloc (.cells #[.pointer none, .pointer (some ⟨w.heap.size + 1, 0, none⟩)] 25)
      rw [show (w.alloc (.cells #[.bool false] 4)).heap.size = w.heap.size + 1 by simp] at this
      exact this
    · have := Blk.new ((w.alloc (.cells #[.bool false] 4)).alloc (.cells coZ 81)) 25 #[.pointer none, .pointer (some ⟨w.heap.size + 1, 0, none⟩)]
      rw [show ((w.alloc (.cells #[.bool false] 4)).alloc (.cells coZ 81)).heap.size = w.heap.size + 1 + 1 by simp] at this
      exact this
  have ST := Lib.hid st
  rw [← hW0]
  clear hW0 st
  have hfn : ∀ (w2 : World) (b : Nat), (binOp .eql 72 (.func (.func 45) #[] #[.pointer (some ⟨b, 0, none⟩)]) Value.nilFunc).run Try.prog w2 = .ok (.bool false) w2 := fun w2 b => by kernel_rfl
  refine wpIn_loop_rounds 3 ?_
  rw [roundsIn_succ]
  have lc0 := ld_cp (w := W0) (ST.out.ls.cell 0)
  have NL0 := Lib.hid (show NilC W0 (.pointer none) from .inl rfl)
  gi_wp2_with fail
  refine ⟨trivial, ?_⟩
  gi_at_call 12
  refine (callsIn_wide.2 (do_nil NL0.out 1 0 1 0 0 0)).mono ?_
  rintro e A1 ⟨rfl, hb01⟩
  have S01 := Lib.hid (ST.out.later hb01)
  have C01 := Lib.hid hb01
  have N01 := Lib.hid (NL0.out.below hb01)
  clear hb01 lc0
  gi_wp2_with fail
  refine ⟨trivial, ?_⟩
  gi_at_call 14
  refine (callsIn_wide.2 (entry_nilY N01.out 0 0)).mono ?_
  rintro e A2 ⟨rfl, hb02⟩
  have S02 := Lib.hid (S01.out.later hb02)
  have C02 := Lib.hid (C01.out.trans (hb02.mono C01.out.size))
  have N02 := Lib.hid (N01.out.below hb02)
  have st0 := stc_store vi_info (Blk.new A2 43 viZ) rfl (vs := viY) rfl viY_one
  obtain ⟨A3, h03⟩ : ∃ Z, Z = (A2.alloc (.cells viZ 43)).setCells A2.heap.size 0 viY.toList := ⟨_, rfl⟩
  rw [← h03] at st0
  unfold viZ at st0
  have hb03 : Below A2.heap.size A2 A3 := by
    rw [h03]
    exact below_setCells (Nat.le_refl _) _ _ _ ((Below.refl _ _).alloc (Nat.le_refl _) _)
  have S03 := Lib.hid (S02.out.later hb03)
  have C03 := Lib.hid (C02.out.trans (hb03.mono C02.out.size))
  have N03 := Lib.hid (N02.out.below hb03)
  clear hb02 hb03 h03
  gi_wp2_with (first
    | (refine ⟨trivial, ?_⟩; gi_at_call 15; refine (callsIn_wide.2 (up_nil N03.out)).mono ?_; rintro e w' ⟨rfl, rfl⟩)
    | (refine ⟨trivial, ?_⟩; gi_at_call 13; refine (callsIn_wide.2 (routes_nil N03.out)).mono ?_; rintro e w' ⟨rfl, rfl⟩)
    | (refine ⟨trivial, ?_⟩; gi_at_call 17; refine (callsIn_wide.2 (passive_nil N03.out)).mono ?_; rintro e w' ⟨rfl, rfl⟩)
    | (refine ⟨trivial, ?_⟩; gi_at_call 20; refine (callsIn_wide.2 (copy_nil N03.out)).mono ?_; rintro e w' ⟨rfl, rfl⟩))
  clear st0
  refine ⟨trivial, ?_⟩
  gi_at_call 23
  refine (callsIn_wide.2 (all_nil N03.out)).mono ?_
  rintro e A4 ⟨rfl, h04⟩
  have hb04 : Below A3.heap.size A3 A4 := by rw [h04]; exact (Below.refl _ _).alloc (Nat.le_refl _) _
  have S04 := Lib.hid (S03.out.later hb04)
  have C04 := Lib.hid (C03.out.trans (hb04.mono C03.out.size))
  have N04 := Lib.hid (N03.out.below hb04)
  clear h04 hb04
  gi_wp2_with fail
  refine ⟨trivial, ?_⟩
  gi_at_call 23
  refine (callsIn_wide.2 (all_nil N04.out)).mono ?_
  rintro e A5 ⟨rfl, h05⟩
  have hb05 : Below A4.heap.size A4 A5 := by rw [h05]; exact (Below.refl _ _).alloc (Nat.le_refl _) _
  have hc0 : A5.cell? ⟨A4.heap.size, 0, none⟩ = some (.slice none 0 0) := by rw [h05]; exact (Blk.new _ _ _).cell 0
  have hl0 : A4.heap.size < A5.heap.size := by rw [h05]; simp
  have S05 := Lib.hid (S04.out.later hb05)
  have C05 := Lib.hid (C04.out.trans (hb05.mono C04.out.size))
  clear h05 hb05
  gi_wp2_with fail
  refine wpIn_rangeFunc_ownF rfl (by omega) (gf := 45) (lb := #[.pointer (some ⟨A4.heap.size, 0, none⟩)]) rfl trivial (enters_of Try.func45 (by kernel_rfl) rfl)
    (lall_stops_nil Fence.wide _ trivial rfl A4.heap.size A5 hl0 hc0) walksK_t walksK_b (Below.refl _ _) (fun _ => rfl)
    (fun _ W => Below A5.heap.size A5 W) (fun _ _ _ => False) (ownFrom_below (Nat.le_refl _) (Nat.le_refl _)) (fun _ _ _ _ _ hs _ _ => hs) (Below.refl _ _) (fun _ => ?act0) ?assign0 ?body0 ?done0 ?stop0
  case assign0 =>
    intro l x W K hK
    gi_wp2
    exact hK
  case body0 =>
    intro l pre x W _ h
    exact absurd h (Nat.not_lt_zero _)
  case stop0 =>
    rintro D c pre W hD h
    exact h.elim
  case done0 =>
  rintro D0 ys U0 hD0 rfl hu0 hK0
  have T0 := Lib.hid (S05.out.later hu0)
  gi_wp2_with fail
  rw [roundsIn_succ]
  have lc1 := ld_cp (w := U0) (T0.out.ls.cell 1)
  have NL1 := Lib.hid (show NilC U0 (.pointer (some ⟨w.heap.size + 1, 0, none⟩)) from .inr ⟨_, rfl, T0.out.c⟩)
  gi_wp2_with fail
  refine ⟨trivial, ?_⟩
  gi_at_call 12
  refine (callsIn_wide.2 (do_nil NL1.out 1 0 1 0 0 0)).mono ?_
  rintro e B1 ⟨rfl, hb11⟩
  have S11 := Lib.hid (T0.out.later hb11)
  have C11 := Lib.hid hb11
  have N11 := Lib.hid (NL1.out.below hb11)
  clear hb11 lc1
  gi_wp2_with fail
  refine ⟨trivial, ?_⟩
  gi_at_call 14
  refine (callsIn_wide.2 (entry_nilY N11.out 0 0)).mono ?_
  rintro e B2 ⟨rfl, hb12⟩
  have S12 := Lib.hid (S11.out.later hb12)
  have C12 := Lib.hid (C11.out.trans (hb12.mono C11.out.size))
  have N12 := Lib.hid (N11.out.below hb12)
  have st1 := stc_store vi_info (Blk.new B2 43 viZ) rfl (vs := viY) rfl viY_one
  obtain ⟨B3, h13⟩ : ∃ Z, Z = (B2.alloc (.cells viZ 43)).setCells B2.heap.size 0 viY.toList := ⟨_, rfl⟩
  rw [← h13] at st1
  unfold viZ at st1
  have hb13 : Below B2.heap.size B2 B3 := by
    rw [h13]
    exact below_setCells (Nat.le_refl _) _ _ _ ((Below.refl _ _).alloc (Nat.le_refl _) _)
  have S13 := Lib.hid (S12.out.later hb13)
  have C13 := Lib.hid (C12.out.trans (hb13.mono C12.out.size))
  have N13 := Lib.hid (N12.out.below hb13)
  clear hb12 hb13 h13
  gi_wp2_with (first
    | (refine ⟨trivial, ?_⟩; gi_at_call 15; refine (callsIn_wide.2 (up_nil N13.out)).mono ?_; rintro e w' ⟨rfl, rfl⟩)
    | (refine ⟨trivial, ?_⟩; gi_at_call 13; refine (callsIn_wide.2 (routes_nil N13.out)).mono ?_; rintro e w' ⟨rfl, rfl⟩)
    | (refine ⟨trivial, ?_⟩; gi_at_call 17; refine (callsIn_wide.2 (passive_nil N13.out)).mono ?_; rintro e w' ⟨rfl, rfl⟩)
    | (refine ⟨trivial, ?_⟩; gi_at_call 20; refine (callsIn_wide.2 (copy_nil N13.out)).mono ?_; rintro e w' ⟨rfl, rfl⟩))
  clear st1
  refine ⟨trivial, ?_⟩
  gi_at_call 23
  refine (callsIn_wide.2 (all_nil N13.out)).mono ?_
  rintro e B4 ⟨rfl, h14⟩
  have hb14 : Below B3.heap.size B3 B4 := by rw [h14]; exact (Below.refl _ _).alloc (Nat.le_refl _) _
  have S14 := Lib.hid (S13.out.later hb14)
  have C14 := Lib.hid (C13.out.trans (hb14.mono C13.out.size))
  have N14 := Lib.hid (N13.out.below hb14)
  clear h14 hb14
  gi_wp2_with fail
  refine ⟨trivial, ?_⟩
  gi_at_call 23
  refine (callsIn_wide.2 (all_nil N14.out)).mono ?_
  rintro e B5 ⟨rfl, h15⟩
  have hb15 : Below B4.heap.size B4 B5 := by rw [h15]; exact (Below.refl _ _).alloc (Nat.le_refl _) _
  have hc1 : B5.cell? ⟨B4.heap.size, 0, none⟩ = some (.slice none 0 0) := by rw [h15]; exact (Blk.new _ _ _).cell 0
  have hl1 : B4.heap.size < B5.heap.size := by rw [h15]; simp
  have S15 := Lib.hid (S14.out.later hb15)
  have C15 := Lib.hid (C14.out.trans (hb15.mono C14.out.size))
  clear h15 hb15
  gi_wp2_with fail
  refine wpIn_rangeFunc_ownF rfl (by omega) (gf := 45) (lb := #[.pointer (some ⟨B4.heap.size, 0, none⟩)]) rfl trivial (enters_of Try.func45 (by kernel_rfl) rfl)
    (lall_stops_nil Fence.wide _ trivial rfl B4.heap.size B5 hl1 hc1) walksK_t walksK_b (Below.refl _ _) (fun _ => rfl)
    (fun _ W => Below B5.heap.size B5 W) (fun _ _ _ => False) (ownFrom_below (Nat.le_refl _) (Nat.le_refl _)) (fun _ _ _ _ _ hs _ _ => hs) (Below.refl _ _) (fun _ => ?act1) ?assign1 ?body1 ?done1 ?stop1
  case assign1 =>
    intro l x W K hK
    gi_wp2
    exact hK
  case body1 =>
    intro l pre x W _ h
    exact absurd h (Nat.not_lt_zero _)
  case stop1 =>
    rintro D c pre W hD h
    exact h.elim
  case done1 =>
  rintro D1 ys U1 hD1 rfl hu1 hK1
  have T1 := Lib.hid (S15.out.later hu1)
  gi_wp2_with fail
  have hD0' : A5.heap.size ≤ D0 := hD0
  have hK0' : U1.heap[D0]? = some (.deferred (some [])) := by
    have e1 : D0 < U0.heap.size := (Array.getElem?_eq_some_iff.1 hK0).1
    rw [(C15.out.trans (hu1.mono C15.out.size)).block D0 e1]
    exact hK0
  have r6 := T1.out.r.cell 0
  have hsz : w.heap.size < D0 := by have h1 := S05.out.ls.lt; omega
  have hDD : D0 < D1 := by
    have e1 : D0 < U0.heap.size := (Array.getElem?_eq_some_iff.1 hK0).1
    have := C15.out.size
    have h9 : B5.heap.size ≤ D1 := hD1
    omega
  rw [roundsIn_succ]
  gi_wp2_with (refine ⟨trivial, ?_⟩; gi_at_call 10; refine (callsIn_wide.2 (known12_any _)).mono ?_; rintro e w' ⟨rfl, hbk⟩; have r7 := st_bC ((T1.out.later hbk).r.cell 0) ((T1.out.later hbk).r.frozen 0) true)
  have r8 : w'.cell? ⟨w.heap.size, 0, none⟩ = some (.bool false) := (T1.out.later hbk).r.cell 0
  have hk1 : (w'.setCell ⟨w.heap.size, 0, none⟩ (.bool true)).heap[D1]? = some (.deferred (some [])) := by
    rw [Below.heap_setCell _ _ _ _ (by show D1 ≠ w.heap.size; omega), hbk.block D1 (Array.getElem?_eq_some_iff.1 hK1).1]
    exact hK1
  have hk0 : (w'.setCell ⟨w.heap.size, 0, none⟩ (.bool true)).heap[D0]? = some (.deferred (some [])) := by
    rw [Below.heap_setCell _ _ _ _ (by show D0 ≠ w.heap.size; omega), hbk.block D0 (Array.getElem?_eq_some_iff.1 hK0').1]
    exact hK0'
  have hB := (T1.out.below.trans (hbk.mono T1.out.below.size)).setCell (p := ⟨w.heap.size, 0, none⟩) (Nat.le_refl _) (.bool true)
  have hc0 := World.cell?_setCell_same' w' ⟨w.heap.size, 0, none⟩ (.bool true) (by rw [r8]; rfl)
  generalize w'.setCell ⟨w.heap.size, 0, none⟩ (.bool true) = wz at *
  have hc1 := cell_kept hc0 (grownBy_putObj' wz D1 (.deferred none)) (fun r e => by cases e; exact ⟨_, hk1, rfl⟩)
  have hB1 := hB.trans (belowK_b (w := w) (Nat.le_refl _) wz D1 _ (.deferred none) (by omega) hk1 rfl rfl)
  have hk0' : (wz.putObj D1 (.deferred none)).heap[D0]? = some (.deferred (some [])) := by
    rw [← hk0]
    simp only [World.putObj]
    exact Array.getElem?_setIfInBounds_ne (by omega)
  have hc2 := cell_kept hc1 (grownBy_putObj' (wz.putObj D1 (.deferred none)) D0 (.deferred none)) (fun r e => by cases e; exact ⟨_, hk0', rfl⟩)
  have hB2 := hB1.trans (belowK_b (w := w) (Nat.le_refl _) (wz.putObj D1 (.deferred none)) D0 _ (.deferred none) (by omega) hk0' rfl rfl)
  refine ⟨by simp, .inl ⟨_, _, rfl, run_takeDeferred hk1, by simp, .inl ⟨_, _, rfl, run_takeDeferred hk0', ?_⟩⟩⟩
  refine ⟨.bool true, ?_, rfl, hB2⟩
  simp [results, Try.f9, go_sem, hc2]
end Go.Proofs.Ytahdjfegihnolaa
