/- Tables of flows that are not there: contracts; nothing. -/
import Derived.Test.YtihfihehiifdkaaRvA
namespace Go.Proofs.Ytihfihehiifdkaa
open Go.RowKit Go.Sort
/-- A table that is not there. -/
def GoneT (w : World) (tv : Value) : Prop := tv = .pointer none ∨ ∃ tb, tv = .pointer (some ⟨tb, 0, none⟩) ∧ Blk w tb 88 #[.map none]
theorem GoneT.below {w w' : World} {tv : Value} (h : GoneT w tv) (hb : Below w.heap.size w w') : GoneT w' tv := by
  rcases h with h | ⟨tb, e, hk⟩
  · exact .inl h
  · exact .inr ⟨tb, e, hk.below hb hk.lt⟩
theorem there_gone {w : World} {tv : Value} (h : GoneT w tv) : Calls Try.prog 82 #[tv] w fun e w' => e = .returned (.bool false) ∧ w = w' := by
  have qT : ∀ (w : World) (r : Option Nat), (binOp .neq 86 (.map r) (.map none)).run Try.prog w = .ok (.bool (!r.isNone)) w := fun w r => run_neq_map_nil w _ _ _ r Try.underlying86
  rcases h with rfl | ⟨tb, rfl, hk⟩
  · clear qT
    go_enter Try.func82, Try.ntmps82
    go_wp2_with fail
    go_ret
    exact ⟨rfl, rfl⟩
  · have c0 := hk.cell 0
    clear hk
    go_enter Try.func82, Try.ntmps82
    go_wp2_with fail
    go_ret
    exact ⟨rfl, rfl⟩
theorem take_gone {w : World} {tv : Value} (h : GoneT w tv) : Calls Try.prog 41 #[tv, .slice none 0 0] w fun e w' => e = .returned (.tuple #[.slice none 0 0, .int .i64 1]) ∧ Below w.heap.size w w' := by
  have HT := Lib.hid (there_gone h)
  clear h
  go_enter Try.func41, Try.ntmps41
  go_wp2_with (go_at_call 82; refine HT.out.mono ?_; rintro e w' ⟨rfl, rfl⟩)
  go_ret2
  exact ⟨rfl, Below.refl _ _⟩
theorem len_gone {w : World} {tv : Value} (h : GoneT w tv) : Calls Try.prog 46 #[tv] w fun e w' => e = .returned (.int .i64 0) ∧ w = w' := by
  have HT := Lib.hid (there_gone h)
  clear h
  go_enter Try.func46, Try.ntmps46
  go_wp2_with (go_at_call 82; refine HT.out.mono ?_; rintro e w' ⟨rfl, rfl⟩)
  go_ret
  exact ⟨rfl, rfl⟩
theorem copy_gone {w : World} {tv : Value} (h : GoneT w tv) : Calls Try.prog 50 #[tv] w fun e w' => e = .returned (.pointer none) ∧ w = w' := by
  have HT := Lib.hid (there_gone h)
  clear h
  go_enter Try.func50, Try.ntmps50
  go_wp2_with (go_at_call 82; refine HT.out.mono ?_; rintro e w' ⟨rfl, rfl⟩)
  go_ret
  exact ⟨rfl, rfl⟩
set_option maxRecDepth 20000 in
theorem miss_gone {w : World} {tv : Value} (h : GoneT w tv) : Calls Try.prog 48 #[tv, .agg #[.int .u32 0, .int .u32 0, .int .u8 0, .int .u16 0]] w fun e w' => e = .returned (.slice none 0 0) ∧ Below w.heap.size w w' := by
  obtain ⟨W, hW⟩ : ∃ W, W = w.alloc (.cells #[.int .u32 0, .int .u32 0, .int .u8 0, .int .u16 0] 68) := ⟨_, rfl⟩
  have hb0 : Below w.heap.size w W := by rw [hW]; exact (Below.refl _ _).alloc (Nat.le_refl _) _
  have HTH := Lib.hid (fun n => there_gone (w := W.drewN n) ((h.below hb0).below (below_drewN W n)))
  have HW := Lib.hid hW
  have HB := Lib.hid hb0
  clear h hW hb0
  go_enter Try.func48, Try.ntmps48
  go_upto_region 1 with (fail)
  rw [← HW.out]
  go_quiet ((go_at_call 82; exact Calls.quiet_of_same (calls_quiet (HTH.out _))))
  go_wp2_with fail
  go_ret
  exact ⟨rfl, HB.out.trans ((below_drewN W nq).mono HB.out.size)⟩
set_option maxRecDepth 20000 in
theorem drop_gone {w : World} {tv : Value} (h : GoneT w tv) : Calls Try.prog 54 #[tv, .agg #[.int .u32 0, .int .u32 0, .int .u8 0, .int .u16 0]] w fun e w' => e = .returned (.bool false) ∧ Below w.heap.size w w' := by
  obtain ⟨W, hW⟩ : ∃ W, W = w.alloc (.cells #[.int .u32 0, .int .u32 0, .int .u8 0, .int .u16 0] 68) := ⟨_, rfl⟩
  have hb0 : Below w.heap.size w W := by rw [hW]; exact (Below.refl _ _).alloc (Nat.le_refl _) _
  have HTH := Lib.hid (fun n => there_gone (w := W.drewN n) ((h.below hb0).below (below_drewN W n)))
  have HW := Lib.hid hW
  have HB := Lib.hid hb0
  clear h hW hb0
  go_enter Try.func54, Try.ntmps54
  go_upto_region 1 with (fail)
  rw [← HW.out]
  go_quiet ((go_at_call 82; exact Calls.quiet_of_same (calls_quiet (HTH.out _))))
  go_wp2_with fail
  go_ret
  exact ⟨rfl, HB.out.trans ((below_drewN W nq).mono HB.out.size)⟩
set_option maxRecDepth 20000 in
set_option maxHeartbeats 1600000 in
theorem nothing_any {w : World} {tv : Value} (h : GoneT w tv) : Calls Try.prog 57 #[tv] w fun e w' => e = .returned (.bool true) ∧ Below w.heap.size w w' := by
  have H0 := Lib.hid h
  have HNM := Lib.hid (fun n wx => num16_any n wx)
  have bp := fun (wx : World) => (show (Instr.build 68 #[]).run Try.prog wx = .ok (.agg #[.int .u32 0, .int .u32 0, .int .u8 0, .int .u16 0]) wx by kernel_rfl)
  clear h
  go_enter Try.func57, Try.ntmps57
  go_wp2_with (first
    | (go_at_call 41; refine (take_gone H0.out).mono ?_; rintro e w1 ⟨rfl, hb1⟩; have H1 := Lib.hid (H0.out.below hb1); have HB1 := Lib.hid hb1; clear hb1)
    | (go_at_call 43; refine (HNM.out _ _).mono ?_; rintro e w' ⟨rfl, rfl⟩)
    | (go_at_call 46; refine (len_gone H1.out).mono ?_; rintro e w' ⟨rfl, rfl⟩)
    | (go_at_call 48; refine (miss_gone H1.out).mono ?_; rintro e w2 ⟨rfl, hb2⟩; have H2 := Lib.hid (H1.out.below hb2); have HB2 := Lib.hid (HB1.out.trans (hb2.mono HB1.out.size)); clear hb2)
    | (go_at_call 54; refine (drop_gone H2.out).mono ?_; rintro e w3 ⟨rfl, hb3⟩; have H3 := Lib.hid (H2.out.below hb3); have HB3 := Lib.hid (HB2.out.trans (hb3.mono HB2.out.size)); clear hb3)
    | (go_at_call 50; refine (copy_gone H3.out).mono ?_; rintro e w' ⟨rfl, rfl⟩))
  go_ret
  exact ⟨rfl, HB3.out⟩
end Go.Proofs.Ytihfihehiifdkaa
