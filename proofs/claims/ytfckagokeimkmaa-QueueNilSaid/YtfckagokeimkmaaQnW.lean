/- The walk of QueueNil. -/
import Derived.Test.YtfckagokeimkmaaQnC
import Derived.Test.YtfckagokeimkmaaKn
namespace Go.Proofs.Ytfckagokeimkmaa
open Go.RowKit

attribute [local go_sem] Oper.semAt_some

structure QnSt (w W : World) : Prop where
  below : Below w.heap.size w W
  r : Blk W w.heap.size 4 #[.bool false]
  l : Blk W (w.heap.size + 1) 52 #[.int .i64 0, .slice none 0 0, .int .i64 0, .bool false]
  b : Blk W (w.heap.size + 1 + 1) 54 #[.int .i64 0, .int .i64 0, .int .i64 0, .int .i64 0]
  ls : Blk W (w.heap.size + 1 + 1 + 1) 25 #[.pointer none, .pointer (some ⟨w.heap.size + 1, 0, none⟩)]
  bs : Blk W (w.heap.size + 1 + 1 + 1 + 1) 37 #[.pointer none, .pointer (some ⟨w.heap.size + 1 + 1, 0, none⟩)]
theorem QnSt.later {w W W2 : World} (h : QnSt w W) (hb : Below W.heap.size W W2) : QnSt w W2 :=
  ⟨h.below.trans (hb.mono h.below.size), h.r.below hb h.r.lt, h.l.below hb h.l.lt, h.b.below hb h.b.lt, h.ls.below hb h.ls.lt, h.bs.below hb h.bs.lt⟩

set_option maxRecDepth 100000 in
set_option maxHeartbeats 4000000 in
theorem qnil_any (w : World) : Calls Try.prog 7 #[] w fun e w' => e = .returned (.bool true) ∧ Below w.heap.size w w' := by
  refine (callsIn_wide (n := 5)).1 ?_
  refine callsIn_of_wp_marks Try.func7 rfl trivial ?_ rfl
  simp only [Try.ntmps7, List.size_toArray, List.length_nil, Nat.reduceSub, Array.replicate_succ, Array.replicate_zero, List.push_toArray, List.append_toArray, List.nil_append, List.cons_append]
  gi_wp2_with fail
  obtain ⟨W0, hW0⟩ : ∃ W0, W0 = ((((w.alloc (.cells #[.bool false] 4)).alloc (.cells #[.int .i64 0, .slice none 0 0, .int .i64 0, .bool false] 52)).alloc (.cells #[.int .i64 0, .int .i64 0, .int .i64 0, .int .i64 0] 54)).alloc (.cells #[.pointer none, .pointer (some ⟨w.heap.size + 1, 0, none⟩)] 25)).alloc (.cells #[.pointer none, .pointer (some ⟨w.heap.size + 1 + 1, 0, none⟩)] 37) := ⟨_, rfl⟩
  have st : QnSt w W0 := by
    rw [hW0]
    refine ⟨((((((Below.refl _ _).alloc (Nat.le_refl _) _).alloc (by simp) _).alloc (by simp; omega) _).alloc (by simp; omega) _).alloc (by simp; omega) _), ?_, ?_, ?_, ?_, ?_⟩
    · exact ((((Blk.new _ _ _).alloc _).alloc _).alloc _).alloc _
    · have := ((((Blk.new (w.alloc (.cells #[.bool false] 4)) 52 #[.int .i64 0, .slice none 0 0, .int .i64 0, .bool false]).alloc (.cells #[.int .i64 0, .int .i64 0, .int .i64 0, .int .i64 0] 54)).alloc (.cells #[.pointer none, .pointer (some ⟨w.heap.size + 1, 0, none⟩)] 25)).alloc (.cells #[.pointer none, .pointer (some ⟨w.heap.size + 1 + 1, 0, none⟩)] 37))
      simpa using this
    · have := (((Blk.new ((w.alloc (.cells #[.bool false] 4)).alloc (.cells #[.int .i64 0, .slice none 0 0, .int .i64 0, .bool false] 52)) 54 #[.int .i64 0, .int .i64 0, .int .i64 0, .int .i64 0]).alloc (.cells #[.pointer none, .pointer (some ⟨w.heap.size + 1, 0, none⟩)] 25)).alloc (.cells #[.pointer none, .pointer (some ⟨w.heap.size + 1 + 1, 0, none⟩)] 37))
      simpa using this
    · have := ((Blk.new (((w.alloc (.cells #[.bool false] 4)).alloc (.cells #[.int .i64 0, .slice none 0 0, .int .i64 0, .bool false] 52)).alloc (.cells #[.int .i64 0, .int .i64 0, .int .i64 0, .int .i64 0] 54)) 25 #[.pointer none, .pointer (some ⟨w.heap.size + 1, 0, none⟩)]).alloc (.cells #[.pointer none, .pointer (some ⟨w.heap.size + 1 + 1, 0, none⟩)] 37))
      simpa using this
    · have := (Blk.new ((((w.alloc (.cells #[.bool false] 4)).alloc (.cells #[.int .i64 0, .slice none 0 0, .int .i64 0, .bool false] 52)).alloc (.cells #[.int .i64 0, .int .i64 0, .int .i64 0, .int .i64 0] 54)).alloc (.cells #[.pointer none, .pointer (some ⟨w.heap.size + 1, 0, none⟩)] 25)) 37 #[.pointer none, .pointer (some ⟨w.heap.size + 1 + 1, 0, none⟩)])
      simpa using this
  have ST := Lib.hid st
  rw [← hW0]
  clear hW0 st
  have l0 : W0.cell? ⟨w.heap.size + 1 + 1 + 1, 0, none⟩ = some (.pointer none) := ST.out.ls.cell 0
  have b0 : W0.cell? ⟨w.heap.size + 1 + 1 + 1 + 1, 0, none⟩ = some (.pointer none) := ST.out.bs.cell 0
  refine wpIn_loop_rounds 3 ?_
  rw [roundsIn_succ]
  have hfn : ∀ (w2 : World) (b : Nat), (binOp .eql 46 (.func (.func 24) #[] #[.pointer (some ⟨b, 0, none⟩)]) Value.nilFunc).run Try.prog w2 = .ok (.bool false) w2 := fun w2 b => by kernel_rfl
  have NL0 : Hid (NilL W0 (.pointer none)) := Lib.hid (.inl rfl)
  have NB0 : Hid (NilB W0 (.pointer none)) := Lib.hid (.inl rfl)
  gi_wp2_with (first
    | (refine ⟨trivial, ?_⟩; gi_at_call 11; refine (callsIn_wide.2 (getL_nil W0 _ NL0.out)).mono ?_; rintro e w' ⟨rfl, rfl⟩)
    | (refine ⟨trivial, ?_⟩; gi_at_call 15; refine (callsIn_wide.2 (tickB_nil W0 _ NB0.out)).mono ?_; rintro e w' ⟨rfl, rfl⟩)
    | (refine ⟨trivial, ?_⟩; gi_at_call 10; refine (callsIn_wide.2 (putL_nil W0 _ NL0.out)).mono ?_; rintro e w' ⟨rfl, rfl⟩)
    | (refine ⟨trivial, ?_⟩; gi_at_call 19; refine (callsIn_wide.2 (lenL_nil W0 _ NL0.out)).mono ?_; rintro e w' ⟨rfl, rfl⟩)
    | (refine ⟨trivial, ?_⟩; gi_at_call 12; refine (callsIn_wide.2 (droppedL_nil W0 _ NL0.out)).mono ?_; rintro e w' ⟨rfl, rfl⟩)
    | (refine ⟨trivial, ?_⟩; gi_at_call 18; refine (callsIn_wide.2 (copyL_nil W0 _ NL0.out)).mono ?_; rintro e w' ⟨rfl, rfl⟩)
    | (refine ⟨trivial, ?_⟩; gi_at_call 14; refine (callsIn_wide.2 (takeB_nil W0 _ NB0.out)).mono ?_; rintro e w' ⟨rfl, rfl⟩)
    | (refine ⟨trivial, ?_⟩; gi_at_call 16; refine (callsIn_wide.2 (hasB_nil W0 _ NB0.out)).mono ?_; rintro e w' ⟨rfl, rfl⟩)
    | (refine ⟨trivial, ?_⟩; gi_at_call 17; refine (callsIn_wide.2 (copyB_nil W0 _ NB0.out)).mono ?_; rintro e w' ⟨rfl, rfl⟩))
  refine ⟨trivial, ?_⟩
  gi_at_call 20
  refine (callsIn_wide.2 (allL_nil W0 _ NL0.out)).mono ?_
  rintro e w' ⟨rfl, hw'⟩
  have hb1 : Below W0.heap.size W0 w' := by rw [hw']; exact (Below.refl _ _).alloc (Nat.le_refl _) _
  obtain ⟨V1, hV1⟩ : ∃ V1, V1 = w' := ⟨_, rfl⟩
  have hc1 : V1.cell? ⟨W0.heap.size, 0, none⟩ = some (.slice none 0 0) := by rw [hV1, hw']; exact (Blk.new _ _ _).cell 0
  have hl1 : W0.heap.size < V1.heap.size := by rw [hV1, hw']; simp
  rw [← hV1] at hb1 ⊢
  clear hV1 hw' w'
  have ST1 := Lib.hid (ST.out.later hb1)
  have l1 : V1.cell? ⟨w.heap.size + 1 + 1 + 1, 0, none⟩ = some (.pointer none) := ST1.out.ls.cell 0
  have b1 : V1.cell? ⟨w.heap.size + 1 + 1 + 1 + 1, 0, none⟩ = some (.pointer none) := ST1.out.bs.cell 0
  have NL1 : Hid (NilL V1 (.pointer none)) := Lib.hid (.inl rfl)
  have NB1 : Hid (NilB V1 (.pointer none)) := Lib.hid (.inl rfl)
  gi_wp2_with (first
    | (refine ⟨trivial, ?_⟩; gi_at_call 11; refine (callsIn_wide.2 (getL_nil V1 _ NL1.out)).mono ?_; rintro e w' ⟨rfl, rfl⟩)
    | (refine ⟨trivial, ?_⟩; gi_at_call 15; refine (callsIn_wide.2 (tickB_nil V1 _ NB1.out)).mono ?_; rintro e w' ⟨rfl, rfl⟩)
    | (refine ⟨trivial, ?_⟩; gi_at_call 10; refine (callsIn_wide.2 (putL_nil V1 _ NL1.out)).mono ?_; rintro e w' ⟨rfl, rfl⟩)
    | (refine ⟨trivial, ?_⟩; gi_at_call 19; refine (callsIn_wide.2 (lenL_nil V1 _ NL1.out)).mono ?_; rintro e w' ⟨rfl, rfl⟩)
    | (refine ⟨trivial, ?_⟩; gi_at_call 12; refine (callsIn_wide.2 (droppedL_nil V1 _ NL1.out)).mono ?_; rintro e w' ⟨rfl, rfl⟩)
    | (refine ⟨trivial, ?_⟩; gi_at_call 18; refine (callsIn_wide.2 (copyL_nil V1 _ NL1.out)).mono ?_; rintro e w' ⟨rfl, rfl⟩)
    | (refine ⟨trivial, ?_⟩; gi_at_call 14; refine (callsIn_wide.2 (takeB_nil V1 _ NB1.out)).mono ?_; rintro e w' ⟨rfl, rfl⟩)
    | (refine ⟨trivial, ?_⟩; gi_at_call 16; refine (callsIn_wide.2 (hasB_nil V1 _ NB1.out)).mono ?_; rintro e w' ⟨rfl, rfl⟩)
    | (refine ⟨trivial, ?_⟩; gi_at_call 17; refine (callsIn_wide.2 (copyB_nil V1 _ NB1.out)).mono ?_; rintro e w' ⟨rfl, rfl⟩))
  refine ⟨trivial, ?_⟩
  gi_at_call 20
  refine (callsIn_wide.2 (allL_nil V1 _ NL1.out)).mono ?_
  rintro e w' ⟨rfl, hw'⟩
  have hb2 : Below V1.heap.size V1 w' := by rw [hw']; exact (Below.refl _ _).alloc (Nat.le_refl _) _
  obtain ⟨V2, hV2⟩ : ∃ V2, V2 = w' := ⟨_, rfl⟩
  have hc2 : V2.cell? ⟨V1.heap.size, 0, none⟩ = some (.slice none 0 0) := by rw [hV2, hw']; exact (Blk.new _ _ _).cell 0
  have hl2 : V1.heap.size < V2.heap.size := by rw [hV2, hw']; simp
  rw [← hV2] at hb2 ⊢
  clear hV2 hw' w'
  have ST2 := Lib.hid (ST1.out.later hb2)
  have l2 : V2.cell? ⟨w.heap.size + 1 + 1 + 1, 0, none⟩ = some (.pointer none) := ST2.out.ls.cell 0
  have b2 : V2.cell? ⟨w.heap.size + 1 + 1 + 1 + 1, 0, none⟩ = some (.pointer none) := ST2.out.bs.cell 0
  gi_wp2_with fail
  refine wpIn_rangeFunc_ownF rfl (by omega) (gf := 24) (lb := #[.pointer (some ⟨V1.heap.size, 0, none⟩)]) rfl trivial (enters_of Try.func24 (by kernel_rfl) rfl)
    (all_stops_nil Fence.wide _ trivial rfl V1.heap.size V2 hl2 hc2) walksK_t walksK_b (Below.refl _ _) (fun _ => rfl)
    (fun _ W => Below V2.heap.size V2 W) (fun _ _ _ => False) (ownFrom_below (Nat.le_refl _) (Nat.le_refl _)) (fun _ _ _ _ _ hs _ _ => hs) (Below.refl _ _) (fun _ => ?act2) ?assign2 ?body2 ?done2 ?stop2
  case assign2 =>
    intro l x W K hK
    gi_wp2
    exact hK
  case body2 =>
    intro l pre x W _ h
    exact absurd h (Nat.not_lt_zero _)
  case stop2 =>
    rintro D c pre W hD h
    exact h.elim
  case done2 =>
  rintro D2 ys U2 hD2 rfl hb3 hK2
  have ST3 := Lib.hid (ST2.out.later hb3)
  have l3 : U2.cell? ⟨w.heap.size + 1 + 1 + 1, 1, none⟩ = some (.pointer (some ⟨w.heap.size + 1, 0, none⟩)) := ST3.out.ls.cell 1
  have b3 : U2.cell? ⟨w.heap.size + 1 + 1 + 1 + 1, 1, none⟩ = some (.pointer (some ⟨w.heap.size + 1 + 1, 0, none⟩)) := ST3.out.bs.cell 1
  have NL3 : Hid (NilL U2 (.pointer (some ⟨w.heap.size + 1, 0, none⟩))) := Lib.hid (.inr ⟨_, rfl, ST3.out.l⟩)
  have NB3 : Hid (NilB U2 (.pointer (some ⟨w.heap.size + 1 + 1, 0, none⟩))) := Lib.hid (.inr ⟨_, rfl, ST3.out.b⟩)
  gi_wp2_with fail
  rw [roundsIn_succ]
  gi_wp2_with (first
    | (refine ⟨trivial, ?_⟩; gi_at_call 11; refine (callsIn_wide.2 (getL_nil U2 _ NL3.out)).mono ?_; rintro e w' ⟨rfl, rfl⟩)
    | (refine ⟨trivial, ?_⟩; gi_at_call 15; refine (callsIn_wide.2 (tickB_nil U2 _ NB3.out)).mono ?_; rintro e w' ⟨rfl, rfl⟩)
    | (refine ⟨trivial, ?_⟩; gi_at_call 10; refine (callsIn_wide.2 (putL_nil U2 _ NL3.out)).mono ?_; rintro e w' ⟨rfl, rfl⟩)
    | (refine ⟨trivial, ?_⟩; gi_at_call 19; refine (callsIn_wide.2 (lenL_nil U2 _ NL3.out)).mono ?_; rintro e w' ⟨rfl, rfl⟩)
    | (refine ⟨trivial, ?_⟩; gi_at_call 12; refine (callsIn_wide.2 (droppedL_nil U2 _ NL3.out)).mono ?_; rintro e w' ⟨rfl, rfl⟩)
    | (refine ⟨trivial, ?_⟩; gi_at_call 18; refine (callsIn_wide.2 (copyL_nil U2 _ NL3.out)).mono ?_; rintro e w' ⟨rfl, rfl⟩)
    | (refine ⟨trivial, ?_⟩; gi_at_call 14; refine (callsIn_wide.2 (takeB_nil U2 _ NB3.out)).mono ?_; rintro e w' ⟨rfl, rfl⟩)
    | (refine ⟨trivial, ?_⟩; gi_at_call 16; refine (callsIn_wide.2 (hasB_nil U2 _ NB3.out)).mono ?_; rintro e w' ⟨rfl, rfl⟩)
    | (refine ⟨trivial, ?_⟩; gi_at_call 17; refine (callsIn_wide.2 (copyB_nil U2 _ NB3.out)).mono ?_; rintro e w' ⟨rfl, rfl⟩))
  refine ⟨trivial, ?_⟩
  gi_at_call 20
  refine (callsIn_wide.2 (allL_nil U2 _ NL3.out)).mono ?_
  rintro e w' ⟨rfl, hw'⟩
  have hb4 : Below U2.heap.size U2 w' := by rw [hw']; exact (Below.refl _ _).alloc (Nat.le_refl _) _
  obtain ⟨V3, hV3⟩ : ∃ V3, V3 = w' := ⟨_, rfl⟩
  have hc4 : V3.cell? ⟨U2.heap.size, 0, none⟩ = some (.slice none 0 0) := by rw [hV3, hw']; exact (Blk.new _ _ _).cell 0
  have hl4 : U2.heap.size < V3.heap.size := by rw [hV3, hw']; simp
  rw [← hV3] at hb4 ⊢
  clear hV3 hw' w'
  have ST4 := Lib.hid (ST3.out.later hb4)
  have l4 : V3.cell? ⟨w.heap.size + 1 + 1 + 1, 1, none⟩ = some (.pointer (some ⟨w.heap.size + 1, 0, none⟩)) := ST4.out.ls.cell 1
  have b4 : V3.cell? ⟨w.heap.size + 1 + 1 + 1 + 1, 1, none⟩ = some (.pointer (some ⟨w.heap.size + 1 + 1, 0, none⟩)) := ST4.out.bs.cell 1
  have NL4 : Hid (NilL V3 (.pointer (some ⟨w.heap.size + 1, 0, none⟩))) := Lib.hid (.inr ⟨_, rfl, ST4.out.l⟩)
  have NB4 : Hid (NilB V3 (.pointer (some ⟨w.heap.size + 1 + 1, 0, none⟩))) := Lib.hid (.inr ⟨_, rfl, ST4.out.b⟩)
  gi_wp2_with (first
    | (refine ⟨trivial, ?_⟩; gi_at_call 11; refine (callsIn_wide.2 (getL_nil V3 _ NL4.out)).mono ?_; rintro e w' ⟨rfl, rfl⟩)
    | (refine ⟨trivial, ?_⟩; gi_at_call 15; refine (callsIn_wide.2 (tickB_nil V3 _ NB4.out)).mono ?_; rintro e w' ⟨rfl, rfl⟩)
    | (refine ⟨trivial, ?_⟩; gi_at_call 10; refine (callsIn_wide.2 (putL_nil V3 _ NL4.out)).mono ?_; rintro e w' ⟨rfl, rfl⟩)
    | (refine ⟨trivial, ?_⟩; gi_at_call 19; refine (callsIn_wide.2 (lenL_nil V3 _ NL4.out)).mono ?_; rintro e w' ⟨rfl, rfl⟩)
    | (refine ⟨trivial, ?_⟩; gi_at_call 12; refine (callsIn_wide.2 (droppedL_nil V3 _ NL4.out)).mono ?_; rintro e w' ⟨rfl, rfl⟩)
    | (refine ⟨trivial, ?_⟩; gi_at_call 18; refine (callsIn_wide.2 (copyL_nil V3 _ NL4.out)).mono ?_; rintro e w' ⟨rfl, rfl⟩)
    | (refine ⟨trivial, ?_⟩; gi_at_call 14; refine (callsIn_wide.2 (takeB_nil V3 _ NB4.out)).mono ?_; rintro e w' ⟨rfl, rfl⟩)
    | (refine ⟨trivial, ?_⟩; gi_at_call 16; refine (callsIn_wide.2 (hasB_nil V3 _ NB4.out)).mono ?_; rintro e w' ⟨rfl, rfl⟩)
    | (refine ⟨trivial, ?_⟩; gi_at_call 17; refine (callsIn_wide.2 (copyB_nil V3 _ NB4.out)).mono ?_; rintro e w' ⟨rfl, rfl⟩))
  refine ⟨trivial, ?_⟩
  gi_at_call 20
  refine (callsIn_wide.2 (allL_nil V3 _ NL4.out)).mono ?_
  rintro e w' ⟨rfl, hw'⟩
  have hb5 : Below V3.heap.size V3 w' := by rw [hw']; exact (Below.refl _ _).alloc (Nat.le_refl _) _
  obtain ⟨V4, hV4⟩ : ∃ V4, V4 = w' := ⟨_, rfl⟩
  have hc5 : V4.cell? ⟨V3.heap.size, 0, none⟩ = some (.slice none 0 0) := by rw [hV4, hw']; exact (Blk.new _ _ _).cell 0
  have hl5 : V3.heap.size < V4.heap.size := by rw [hV4, hw']; simp
  rw [← hV4] at hb5 ⊢
  clear hV4 hw' w'
  have ST5 := Lib.hid (ST4.out.later hb5)
  have l5 : V4.cell? ⟨w.heap.size + 1 + 1 + 1, 1, none⟩ = some (.pointer (some ⟨w.heap.size + 1, 0, none⟩)) := ST5.out.ls.cell 1
  have b5 : V4.cell? ⟨w.heap.size + 1 + 1 + 1 + 1, 1, none⟩ = some (.pointer (some ⟨w.heap.size + 1 + 1, 0, none⟩)) := ST5.out.bs.cell 1
  gi_wp2_with fail
  refine wpIn_rangeFunc_ownF rfl (by omega) (gf := 24) (lb := #[.pointer (some ⟨V3.heap.size, 0, none⟩)]) rfl trivial (enters_of Try.func24 (by kernel_rfl) rfl)
    (all_stops_nil Fence.wide _ trivial rfl V3.heap.size V4 hl5 hc5) walksK_t walksK_b (Below.refl _ _) (fun _ => rfl)
    (fun _ W => Below V4.heap.size V4 W) (fun _ _ _ => False) (ownFrom_below (Nat.le_refl _) (Nat.le_refl _)) (fun _ _ _ _ _ hs _ _ => hs) (Below.refl _ _) (fun _ => ?act5) ?assign5 ?body5 ?done5 ?stop5
  case assign5 =>
    intro l x W K hK
    gi_wp2
    exact hK
  case body5 =>
    intro l pre x W _ h
    exact absurd h (Nat.not_lt_zero _)
  case stop5 =>
    rintro D c pre W hD h
    exact h.elim
  case done5 =>
  rintro D5 ys U5 hD5 rfl hb6 hK5
  have ST6 := Lib.hid (ST5.out.later hb6)
  have hD2' : V2.heap.size ≤ D2 := hD2
  have hK2' : U5.heap[D2]? = some (.deferred (some [])) := by
    have e1 : D2 < U2.heap.size := (Array.getElem?_eq_some_iff.1 hK2).1
    rw [hb6.block D2 (by have := hb4.size; have := hb5.size; omega), hb5.block D2 (by have := hb4.size; omega), hb4.block D2 e1]
    exact hK2
  have r6 := ST6.out.r.cell 0
  have hsz : w.heap.size + 1 + 1 + 1 + 1 < W0.heap.size := ST.out.bs.lt
  have hD5' : w.heap.size + 5 < D5 := by have := hb1.size; have := hb2.size; have := hb3.size; have := hb4.size; have := hb5.size; have := ST.out.below.size; omega
  have hD2'' : w.heap.size < D2 := by have := hb1.size; have := hb2.size; omega
  have hDD : D2 < D5 := by have e1 : D2 < U2.heap.size := (Array.getElem?_eq_some_iff.1 hK2).1; have := hb4.size; have := hb5.size; omega
  gi_wp2_with fail
  rw [roundsIn_succ]
  gi_wp2_with (refine ⟨trivial, ?_⟩; gi_at_call 8; refine (callsIn_wide.2 (known_any _)).mono ?_; rintro e w' ⟨rfl, hbk⟩; have r7 : w'.cell? ⟨w.heap.size, 0, none⟩ = some (.bool false) := (ST6.out.later hbk).r.cell 0; have f7 : w'.frozen? ⟨w.heap.size, 0, none⟩ = false := (ST6.out.later hbk).r.frozen 0)
  have hk5 : (w'.setCell ⟨w.heap.size, 0, none⟩ (.bool true)).heap[D5]? = some (.deferred (some [])) := by
    rw [Below.heap_setCell _ _ _ _ (by show D5 ≠ w.heap.size; omega), hbk.block D5 (Array.getElem?_eq_some_iff.1 hK5).1]
    exact hK5
  have hk2 : (w'.setCell ⟨w.heap.size, 0, none⟩ (.bool true)).heap[D2]? = some (.deferred (some [])) := by
    rw [Below.heap_setCell _ _ _ _ (by show D2 ≠ w.heap.size; omega), hbk.block D2 (Array.getElem?_eq_some_iff.1 hK2').1]
    exact hK2'
  have hB := (ST6.out.below.trans (hbk.mono ST6.out.below.size)).setCell (p := ⟨w.heap.size, 0, none⟩) (Nat.le_refl _) (.bool true)
  have hc0 := World.cell?_setCell_same' w' ⟨w.heap.size, 0, none⟩ (.bool true) (by rw [r7]; rfl)
  generalize w'.setCell ⟨w.heap.size, 0, none⟩ (.bool true) = wz at *
  have hc1 := cell_kept hc0 (grownBy_putObj' wz D5 (.deferred none)) (fun r e => by cases e; exact ⟨_, hk5, rfl⟩)
  have hB1 := hB.trans (belowK_b (w := w) (Nat.le_refl _) wz D5 _ (.deferred none) (by omega) hk5 rfl rfl)
  have hk2' : (wz.putObj D5 (.deferred none)).heap[D2]? = some (.deferred (some [])) := by
    rw [← hk2]
    simp only [World.putObj]
    exact Array.getElem?_setIfInBounds_ne (by omega)
  have hc2 := cell_kept hc1 (grownBy_putObj' (wz.putObj D5 (.deferred none)) D2 (.deferred none)) (fun r e => by cases e; exact ⟨_, hk2', rfl⟩)
  have hB2 := hB1.trans (belowK_b (w := w) (Nat.le_refl _) (wz.putObj D5 (.deferred none)) D2 _ (.deferred none) (by omega) hk2' rfl rfl)
  refine ⟨by simp, .inl ⟨_, _, rfl, run_takeDeferred hk5, by simp, .inl ⟨_, _, rfl, run_takeDeferred hk2', ?_⟩⟩⟩
  refine ⟨.bool true, ?_, rfl, hB2⟩
  simp [results, Try.f7, go_sem, hc2]
end Go.Proofs.Ytfckagokeimkmaa
