/- Tables that are not there. -/
import Derived.Test.YthlommalbkhcjaaGreatFuP
namespace Go.Proofs.YthlommalbkhcjaaGreat
open Go.RowKit Go.Sort
attribute [local go_sem] Oper.semAt_some
/-- A table that is not there: nil, or one of nothing. -/
def GoneF (w : World) (v : Value) : Prop := v = .pointer none ∨ ∃ b, v = .pointer (some ⟨b, 0, none⟩) ∧ Blk w b 114 #[.pointer none]
theorem GoneF.later {w w' : World} {v : Value} (h : GoneF w v) (hb : Below w.heap.size w w') : GoneF w' v := by
  rcases h with h | ⟨b, h1, h2⟩
  · exact .inl h
  · exact .inr ⟨b, h1, h2.below hb h2.lt⟩
theorem fthere_no {w : World} {v : Value} (h : GoneF w v) : Calls Tryz.prog 54 #[v] w fun e w' => e = .returned (.bool false) ∧ w = w' := by
  rcases h with rfl | ⟨b, rfl, h⟩
  · go_enter Tryz.func54, Tryz.ntmps54
    go_wp2
    go_ret
    exact ⟨rfl, rfl⟩
  · have hc : w.cell? ⟨b, 0, none⟩ = some (.pointer none) := h.cell 0
    clear h
    go_enter Tryz.func54, Tryz.ntmps54
    go_wp2
    go_ret
    exact ⟨rfl, rfl⟩
theorem px_build0 (w : World) : (Instr.build 37 #[]).run Tryz.prog w = .ok (.agg #[.int .u32 0, .int .i64 0]) w := by kernel_rfl
set_option maxRecDepth 20000 in
set_option maxHeartbeats 8000000 in
attribute [-go_sem] Instr.storeAt Instr.loadAt Instr.alloc Instr.build in
theorem flook_no (a : Nat) {w : World} {v : Value} (h : GoneF w v) : Calls Tryz.prog 14 #[v, .int .u32 (a : Int)] w fun e w' => e = .returned (.tuple #[.agg #[.int .u32 0, .int .i64 0], .agg wy0, .bool false]) ∧ Below w.heap.size w w' := by
  obtain ⟨W0, hW0⟩ : ∃ Z, Z = (w.alloc (.cells #[.int .u32 0, .int .i64 0] 37)).alloc (.cells wy0 41) := ⟨_, rfl⟩
  have hz1 : (w.alloc (.cells #[.int .u32 0, .int .i64 0] 37)).heap.size = w.heap.size + 1 := by simp
  have hb0 : Below w.heap.size w W0 := by rw [hW0]; exact ((Below.refl _ _).alloc (Nat.le_refl _) _).alloc (by simp) _
  obtain ⟨w1, w2, st1, st2, hp2, hv2, hb2⟩ := box_pw w 0 0 wy0 wy0_size wy0_one
  rw [← hW0] at st1
  have HT := Lib.hid (fthere_no (h.later hb0))
  have HP2 := Lib.hid hp2
  have HV2 := Lib.hid hv2
  have HB2 := Lib.hid hb2
  have HW0 := Lib.hid hW0
  have a1 := px_alloc
  have a2 := way_alloc
  have b1 := px_build0
  have b2 := way_build
  clear h hb0 hp2 hv2 hb2 hW0
  go_enter Tryz.func14, Tryz.ntmps14
  go_upto_region 1 with (fail)
  rw [← HW0.out]
  clear a1 a2 hz1
  go_wp2_with (go_at_call 54; refine HT.out.mono ?_; rintro e w' ⟨rfl, rfl⟩)
  refine bodyPost_ret_by (res_px_wy rfl _ rfl rfl HP2.out HV2.out wy0_size) rfl ?_
  exact ⟨rfl, HB2.out⟩
set_option maxRecDepth 20000 in
set_option maxHeartbeats 8000000 in
attribute [-go_sem] Instr.storeAt Instr.loadAt Instr.alloc in
theorem fpick_no (a hash : Nat) {w : World} {v : Value} (h : GoneF w v) : Calls Tryz.prog 16 #[v, .int .u32 (a : Int), .int .u32 (hash : Int)] w fun e w' => e = .returned (.tuple #[.int .i64 0, .int .i64 0]) ∧ Below w.heap.size w w' := by
  have HL := Lib.hid (flook_no a h)
  have a1 := px_alloc
  have a2 := way_alloc
  clear h
  go_enter Tryz.func16, Tryz.ntmps16
  go_wp2_with fail
  refine HL.out.mono ?_
  rintro e w1 ⟨rfl, hb1⟩
  obtain ⟨v1, v2, st1, st2, hp2, hv2, hb2⟩ := box_pw w1 0 0 wy0 wy0_size wy0_one
  have HB2 := Lib.hid (hb1.trans (hb2.mono hb1.size))
  clear hb1 hp2 hv2 hb2
  go_wp2_with fail
  go_ret2
  exact ⟨rfl, HB2.out⟩
set_option maxRecDepth 20000 in
set_option maxHeartbeats 8000000 in
attribute [-go_sem] Instr.storeAt Instr.loadAt Instr.alloc in
theorem fports_no (a : Nat) {w : World} {v : Value} (h : GoneF w v) : Calls Tryz.prog 19 #[v, .int .u32 (a : Int)] w fun e w' => e = .returned (.slice none 0 0) ∧ Below w.heap.size w w' := by
  have HL := Lib.hid (flook_no a h)
  have a1 := px_alloc
  have a2 := way_alloc
  clear h
  go_enter Tryz.func19, Tryz.ntmps19
  go_wp2_with fail
  refine HL.out.mono ?_
  rintro e w1 ⟨rfl, hb1⟩
  obtain ⟨v1, v2, st1, st2, hp2, hv2, hb2⟩ := box_pw w1 0 0 wy0 wy0_size wy0_one
  have HB2 := Lib.hid (hb1.trans (hb2.mono hb1.size))
  rw [← wyC_zero] at hv2
  have lk := ld_kd hv2
  clear hb1 hp2 hv2 hb2
  go_wp2_with fail
  go_ret
  exact ⟨rfl, HB2.out⟩
theorem fall_no {w : World} {v : Value} (h : GoneF w v) : Calls Tryz.prog 61 #[v] w fun e w' => e = .returned (.func (.func 116) #[] #[]) ∧ w = w' := by
  have HT := Lib.hid (fthere_no h)
  clear h
  go_enter Tryz.func61, Tryz.ntmps61
  go_wp2_with (go_at_call 54; refine HT.out.mono ?_; rintro e w' ⟨rfl, rfl⟩)
  go_ret
  exact ⟨rfl, rfl⟩
theorem flen_no {w : World} {v : Value} (h : GoneF w v) : Calls Tryz.prog 22 #[v] w fun e w' => e = .returned (.int .i64 0) ∧ w = w' := by
  have HT := Lib.hid (fthere_no h)
  clear h
  go_enter Tryz.func22, Tryz.ntmps22
  go_wp2_with (go_at_call 54; refine HT.out.mono ?_; rintro e w' ⟨rfl, rfl⟩)
  go_ret
  exact ⟨rfl, rfl⟩
variable {dc : Int → Array Value}
theorem flen_any {w wx : World} {fb : Nat} {T : TT} {lim : Int} (h : KF dc w wx fb T lim) (n : Nat) (hn : T.list.length = n) : Calls Tryz.prog 22 #[.pointer (some ⟨fb, 0, none⟩)] wx fun e w' => e = .returned (.int .i64 (n : Int)) ∧ wx = w' := by
  obtain ⟨M, tb, h1, h2, h3, h4⟩ := h
  have HT := Lib.hid (fthere_any h1.f)
  obtain ⟨pv, hk, _⟩ := h1.t.ex
  rw [hn] at hk
  have HL := Lib.hid (len_any tb _ _ _ wx hk)
  have hc : wx.cell? ⟨fb, 0, none⟩ = some (.pointer (some ⟨tb, 0, none⟩)) := h1.f.cell 0
  clear h1 h2 h3 h4 hn hk
  go_enter Tryz.func22, Tryz.ntmps22
  go_wp2_with (first
    | (go_at_call 54; refine HT.out.mono ?_; rintro e w' ⟨rfl, rfl⟩)
    | (go_at_call 62; refine HL.out.mono ?_; rintro e w' ⟨rfl, rfl⟩))
  go_ret
  exact ⟨rfl, rfl⟩
/-- There or not. -/
def HereF (w : World) (v : Value) (b : Bool) : Prop := (b = false ∧ GoneF w v) ∨ (b = true ∧ ∃ fb tb, v = .pointer (some ⟨fb, 0, none⟩) ∧ Blk w fb 114 #[.pointer (some ⟨tb, 0, none⟩)])
theorem HereF.later {w w' : World} {v : Value} {b : Bool} (h : HereF w v b) (hb : Below w.heap.size w w') : HereF w' v b := by
  rcases h with ⟨h1, h2⟩ | ⟨h1, fb, tb, h2, h3⟩
  · exact .inl ⟨h1, h2.later hb⟩
  · exact .inr ⟨h1, fb, tb, h2, h3.below hb h3.lt⟩
theorem fthere_b {w : World} {v : Value} {b : Bool} (h : HereF w v b) : Calls Tryz.prog 54 #[v] w fun e w' => e = .returned (.bool b) ∧ w = w' := by
  rcases h with ⟨rfl, h2⟩ | ⟨rfl, fb, tb, rfl, h3⟩
  · exact fthere_no h2
  · exact fthere_any h3
theorem ld_fbp {w : World} {b : Nat} {u : Option Addr} (h : w.cell? ⟨b, 0, none⟩ = some (.pointer u)) : (Instr.loadAt 27 (.pointer (some ⟨b, 0, none⟩))).run Tryz.prog w = .ok (.pointer u) w := by simp [go_sem, h]
theorem here_ptr {w : World} {v : Value} {b : Bool} (h : HereF w v b) : ∃ u, v = .pointer u := by
  rcases h with ⟨_, rfl | ⟨b, rfl, _⟩⟩ | ⟨_, fb, tb, rfl, _⟩ <;> exact ⟨_, rfl⟩
set_option maxRecDepth 20000 in
set_option maxHeartbeats 8000000 in
attribute [-go_sem] Instr.storeAt Instr.loadAt Instr.alloc in
theorem fsame_no {w : World} {x y : Value} {bx bz : Bool} (hx : HereF w x bx) (hy : HereF w y bz) (h : bx = false ∨ bz = false) : Calls Tryz.prog 21 #[x, y] w fun e w' => e = .returned (.bool (bx == bz)) ∧ Below w.heap.size w w' := by
  obtain ⟨u, rfl⟩ := here_ptr hy
  obtain ⟨W0, hW0⟩ : ∃ Z, Z = (w.alloc (.cells #[.pointer u] 27)).alloc (.cells #[.bool false] 4) := ⟨_, rfl⟩
  have hz1 : (w.alloc (.cells #[.pointer u] 27)).heap.size = w.heap.size + 1 := by simp
  have hb0 : Below w.heap.size w W0 := by rw [hW0]; exact ((Below.refl _ _).alloc (Nat.le_refl _) _).alloc (by simp) _
  have hp0 : Blk W0 w.heap.size 27 #[.pointer u] := by rw [hW0]; exact (Blk.new w _ _).alloc _
  have hr0 : Blk W0 (w.heap.size + 1) 4 #[.bool false] := by
    rw [hW0]
    have := Blk.new (w.alloc (.cells #[.pointer u] 27)) 4 #[.bool false]
    rwa [hz1] at this
  have HX := Lib.hid (hx.later hb0)
  have HY := Lib.hid (hy.later hb0)
  have HT1 := Lib.hid (fthere_b (hx.later hb0))
  have HT2 := Lib.hid (fthere_b (hy.later hb0))
  have lp := ld_fbp (hp0.cell 0)
  have HP0 := Lib.hid hp0
  have HR0 := Lib.hid hr0
  have HB0 := Lib.hid hb0
  have HW0 := Lib.hid hW0
  have a3 := bt_alloc
  have hor : bx = true → bz = false := fun e => by rcases h with h | h; rw [e] at h; cases h; exact h
  clear hx hy hb0 hp0 hr0 hW0 h
  go_enter Tryz.func21, Tryz.ntmps21
  go_upto_region 1 with (fail)
  rw [← HW0.out]
  clear a3 hz1
  cases bx with
  | false =>
    clear hor
    go_wp2_with fail
    refine HT1.out.mono ?_
    rintro e w' ⟨rfl, rfl⟩
    go_wp2_with fail
    refine wp_region_stages [(true, 5), (false, 1)] (by kernel_rfl) (by kernel_rfl) fun wz hz hz2 => ?_
    have ZX := Lib.hid (HX.out.later hz)
    have ZY := Lib.hid (HY.out.later hz)
    have ZP := Lib.hid (HP0.out.below hz HP0.out.lt)
    have ZR := Lib.hid (HR0.out.below hz HR0.out.lt)
    have ZB := Lib.hid (HB0.out.trans (hz.mono HB0.out.size))
    clear hz hz2 lp
    have q0 := fun (dd : Nat) (os : Array Obj) => ld_fbp ((ZP.out.below (below_regrown wz dd os) ZP.out.lt).cell 0)
    have q1 := fun (dd : Nat) (os : Array Obj) => Calls.regrown_of ((fthere_b (ZX.out.later (below_regrown wz dd os))).mono fun _ _ ⟨h, hw⟩ => ⟨h, hw ▸ Below.refl _ _⟩)
    have q2 := fun (dd : Nat) (os : Array Obj) => Calls.regrown_of ((fthere_b (ZY.out.later (below_regrown wz dd os))).mono fun _ _ ⟨h, hw⟩ => ⟨h, hw ▸ Below.refl _ _⟩)
    refine wpSt_q ?_
    simp only [List.take_succ_cons, List.take_zero, List.drop_succ_cons, List.drop_zero]
    repeat (go_big_quiet_step (first | with_reducible exact q1 _ _ | with_reducible exact q2 _ _))
    refine wpQuiet_nil ?_
    intro _ hw'
    obtain ⟨⟨dq, osq⟩, hw''⟩ := hw'
    subst hw''
    have hrq := ZR.out.below (below_regrown wz dq osq) ZR.out.lt
    have HBQ := Lib.hid (ZB.out.trans ((below_regrown wz dq osq).mono ZB.out.size))
    clear q0 q1 q2
    generalize grow (redrawn wz dq) osq = wq at hrq HBQ ⊢
    have st := st_btN (hrq.cell 0) (hrq.frozen 0) (!bz)
    have hr9 := hrq.set_ 0 (.bool (!bz))
    have HR9 := Lib.hid hr9
    clear hrq hr9
    refine wpSt_l ?_
    simp only [List.take_succ_cons, List.take_zero, List.drop_succ_cons, List.drop_zero]
    go_wp2_with fail
    refine wpSt_end ?_
    go_wp2_with fail
    refine bodyPost_ret_by (res_bt rfl _ rfl HR9.out) rfl ?_
    exact ⟨by cases bz <;> rfl, HBQ.out.setCell (p := ⟨w.heap.size + 1, 0, none⟩) (Nat.le_succ _) _⟩
  | true =>
    obtain rfl := hor rfl
    clear hor
    go_wp2_with fail
    refine HT1.out.mono ?_
    rintro e w' ⟨rfl, rfl⟩
    go_wp2_with fail
    refine HT2.out.mono ?_
    rintro e w' ⟨rfl, rfl⟩
    go_wp2_with fail
    refine wp_region_stages [(true, 5), (false, 1)] (by kernel_rfl) (by kernel_rfl) fun wz hz hz2 => ?_
    have ZX := Lib.hid (HX.out.later hz)
    have ZY := Lib.hid (HY.out.later hz)
    have ZP := Lib.hid (HP0.out.below hz HP0.out.lt)
    have ZR := Lib.hid (HR0.out.below hz HR0.out.lt)
    have ZB := Lib.hid (HB0.out.trans (hz.mono HB0.out.size))
    clear hz hz2 lp
    have q0 := fun (dd : Nat) (os : Array Obj) => ld_fbp ((ZP.out.below (below_regrown wz dd os) ZP.out.lt).cell 0)
    have q1 := fun (dd : Nat) (os : Array Obj) => Calls.regrown_of ((fthere_b (ZX.out.later (below_regrown wz dd os))).mono fun _ _ ⟨h, hw⟩ => ⟨h, hw ▸ Below.refl _ _⟩)
    have q2 := fun (dd : Nat) (os : Array Obj) => Calls.regrown_of ((fthere_b (ZY.out.later (below_regrown wz dd os))).mono fun _ _ ⟨h, hw⟩ => ⟨h, hw ▸ Below.refl _ _⟩)
    refine wpSt_q ?_
    simp only [List.take_succ_cons, List.take_zero, List.drop_succ_cons, List.drop_zero]
    repeat (go_big_quiet_step (first | with_reducible exact q1 _ _ | with_reducible exact q2 _ _))
    refine wpQuiet_nil ?_
    intro _ hw'
    obtain ⟨⟨dq, osq⟩, hw''⟩ := hw'
    subst hw''
    have hrq := ZR.out.below (below_regrown wz dq osq) ZR.out.lt
    have HBQ := Lib.hid (ZB.out.trans ((below_regrown wz dq osq).mono ZB.out.size))
    clear q0 q1 q2
    generalize grow (redrawn wz dq) osq = wq at hrq HBQ ⊢
    have st := st_btN (hrq.cell 0) (hrq.frozen 0) false
    have hr9 := hrq.set_ 0 (.bool false)
    have HR9 := Lib.hid hr9
    clear hrq hr9
    refine wpSt_l ?_
    simp only [List.take_succ_cons, List.take_zero, List.drop_succ_cons, List.drop_zero]
    go_wp2_with fail
    refine wpSt_end ?_
    go_wp2_with fail
    refine bodyPost_ret_by (res_bt rfl _ rfl HR9.out) rfl ?_
    exact ⟨rfl, HBQ.out.setCell (p := ⟨w.heap.size + 1, 0, none⟩) (Nat.le_succ _) _⟩
end Go.Proofs.YthlommalbkhcjaaGreat
