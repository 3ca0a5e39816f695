/- The walk of FibEntries. -/
import Derived.Test.YthlommalbkhcjaaFuM
namespace Go.Proofs.Ythlommalbkhcjaa
open Go.RowKit Go.Sort
/-- An answer (a prefix, a way) is put into variables of the call's own. -/
theorem box_pw (w : World) (a n : Int) (X : Array Value) (h1 : X.size = 257) (h2 : X.all (·.oneCell') = true) : ∃ w1 w2,
    (Instr.storeAt 25 (.pointer (some ⟨w.heap.size, 0, none⟩)) (.agg #[.int .u32 a, .int .i64 n])).run Try.prog ((w.alloc (.cells #[.int .u32 0, .int .i64 0] 25)).alloc (.cells wy0 33)) = .ok () w1 ∧
    (Instr.storeAt 33 (.pointer (some ⟨w.heap.size + 1, 0, none⟩)) (.agg X)).run Try.prog w1 = .ok () w2 ∧
    Blk w2 w.heap.size 25 #[.int .u32 a, .int .i64 n] ∧ Blk w2 (w.heap.size + 1) 33 X ∧ Below w.heap.size w w2 := by
  obtain ⟨W8, hW8⟩ : ∃ Z, Z = (w.alloc (.cells #[.int .u32 0, .int .i64 0] 25)).alloc (.cells wy0 33) := ⟨_, rfl⟩
  have hz1 : (w.alloc (.cells #[.int .u32 0, .int .i64 0] 25)).heap.size = w.heap.size + 1 := by simp
  have hb8 : Below w.heap.size w W8 := by rw [hW8]; exact ((Below.refl _ _).alloc (Nat.le_refl _) _).alloc (by simp) _
  have hp8 : Blk W8 w.heap.size 25 #[.int .u32 0, .int .i64 0] := by rw [hW8]; exact (Blk.new w _ _).alloc _
  have hv8 : Blk W8 (w.heap.size + 1) 33 wy0 := by
    rw [hW8]
    have := Blk.new (w.alloc (.cells #[.int .u32 0, .int .i64 0] 25)) 33 wy0
    rwa [hz1] at this
  rw [← hW8]
  have hv9 : Blk (W8.setCells w.heap.size 0 [.int .u32 a, .int .i64 n]) (w.heap.size + 1) 33 wy0 := blk_far_setCells (by omega) _ _ _ hv8
  have hp9 : Blk (W8.setCells w.heap.size 0 [.int .u32 a, .int .i64 n]) w.heap.size 25 #[.int .u32 a, .int .i64 n] := blk_setCells hp8 rfl
  exact ⟨_, _, stc_store px_info hp8 rfl rfl (by simp [Value.oneCell']), st_wyB hv9 wy0_size h1 h2, blk_far_setCells (by omega) _ _ _ hp9, blk_setCells hv9 (by rw [h1, wy0_size]), below_setCells (Nat.le_succ _) _ _ _ (below_setCells (Nat.le_refl _) _ _ _ hb8)⟩
/-- A way is put into a variable of the call's own. -/
theorem box_wy (w : World) (X : Array Value) (h1 : X.size = 257) (h2 : X.all (·.oneCell') = true) : ∃ w2,
    (Instr.storeAt 33 (.pointer (some ⟨w.heap.size, 0, none⟩)) (.agg X)).run Try.prog (w.alloc (.cells wy0 33)) = .ok () w2 ∧ Blk w2 w.heap.size 33 X ∧ Below w.heap.size w w2 :=
  ⟨_, st_wyB (Blk.new w _ _) wy0_size h1 h2, blk_setCells (Blk.new w _ _) (by rw [h1, wy0_size]), below_setCells (Nat.le_refl _) _ _ _ ((Below.refl _ _).alloc (Nat.le_refl _) _)⟩
theorem wayC_ok {r : Rt} (h : mayR r = true) : (wayC (wayR r)).size = 257 ∧ (wayC (wayR r)).all (·.oneCell') = true := ⟨wyC_size (wayR_len h), wyC_one _ _⟩
set_option maxRecDepth 20000 in
set_option maxHeartbeats 8000000 in
attribute [-go_sem] Instr.storeAt Instr.loadAt Instr.alloc Instr.build in
theorem entries_any (r : Rt) (w : World) (ha : r.a < 2 ^ 32) (hl : r.nx.length = r.n) (hrd : Reads w (fun k => k < w.heap.size) 2 r.A r.n (r.nx.flatMap nxC)) :
    Calls Try.prog 3 #[rtV r] w fun e w' => e = .returned (.bool true) ∧ Below w.heap.size w w' := by
  have HKN := Lib.hid (fun wx => known14_any wx)
  obtain ⟨W1, hW1⟩ : ∃ Z, Z = w.alloc (.cells #[.int .u32 (r.a : Int), .int .i64 r.m, .bool r.own, .bool r.tk, .int .i64 r.d, .slice r.A r.n r.c] 28) := ⟨_, rfl⟩
  have hx1 : RtB W1 w.heap.size r := by rw [hW1]; exact Blk.new _ _ _
  have hb1 : Below w.heap.size w W1 := by rw [hW1]; exact (Below.refl _ _).alloc (Nat.le_refl _) _
  have HX1 := Lib.hid hx1
  have HB1 := Lib.hid hb1
  have HW1 := Lib.hid hW1
  have ln := ld_nxs (hx1.cell 5)
  have al := way_alloc
  clear hW1
  by_cases hbig : 9000 < r.n
  · have d1 : decide ((9000 : Int) < (r.n : Int)) = true := decide_eq_true (by omega)
    clear hx1 hb1 ha hl hrd hbig
    unfold rtV
    go_enter Try.func3, Try.ntmps3
    go_upto_region 1 with (fail)
    rw [← HW1.out]
    go_wp2_with fail
    refine (HKN.out _).mono ?_
    rintro e w2 ⟨rfl, hb2⟩
    have HB2 := Lib.hid (HB1.out.trans (hb2.mono HB1.out.size))
    clear hb2
    go_wp2_with fail
    go_ret
    exact ⟨rfl, HB2.out⟩
  have d1 : decide ((9000 : Int) < (r.n : Int)) = false := decide_eq_false (by omega)
  have hok : RtOk w (fun k => k < w.heap.size) r := ⟨ha, hl, by omega, hrd⟩
  have HOK := Lib.hid (fun (wx : World) (hb : Below w.heap.size w wx) => show RtOk wx (fun k => k < wx.heap.size) r from (hok.keep (Same.ofBelow hb fun k hk => hk)).mono fun k hk => Nat.lt_of_lt_of_le hk hb.size)
  have lr := ld_rt hx1
  have HEN := Lib.hid (entry_any r W1 (HOK.out W1 hb1))
  have hEv : ∃ (ec : Array Value) (cd : Int), (if mayR r = true then Value.tuple #[.agg (wayC (wayR r)), .int .i64 0] else .tuple #[.agg wy0, .int .i64 2]) = .tuple #[.agg ec, .int .i64 cd] ∧ ec.size = 257 ∧ ec.all (·.oneCell') = true ∧ ((mayR r = true ∧ cd = 0 ∧ ec = wayC (wayR r)) ∨ (mayR r = false ∧ cd = 2 ∧ ec = wyC 0 zs0)) := by
    by_cases hmr : mayR r = true
    · rw [if_pos hmr]
      exact ⟨_, 0, rfl, (wayC_ok hmr).1, (wayC_ok hmr).2, .inl ⟨hmr, rfl, rfl⟩⟩
    · rw [if_neg hmr]
      exact ⟨_, 2, rfl, wy0_size, wy0_one, .inr ⟨by simpa using hmr, rfl, wyC_zero.symm⟩⟩
  obtain ⟨ec, cd, hev, hec1, hec2, hcase⟩ := hEv
  have HEV := Lib.hid hev
  have HCASE := Lib.hid hcase
  clear hx1 hb1 ha hl hrd hbig hok hev hcase
  obtain ⟨rv, hrv⟩ : ∃ v, v = rtV r := ⟨_, rfl⟩
  have HRV := Lib.hid hrv
  unfold rtV
  go_enter Try.func3, Try.ntmps3
  go_upto_region 1 with (fail)
  rw [← HW1.out]
  go_wp2_with fail
  refine HEN.out.mono ?_
  rintro e w2 ⟨he, hb2⟩
  rw [HEV.out] at he
  subst he
  have HB2 := Lib.hid (HB1.out.trans (hb2.mono HB1.out.size))
  have HX2 := Lib.hid (show RtB w2 w.heap.size r from Blk.below HX1.out hb2 HX1.out.lt)
  clear hb2 ln lr
  obtain ⟨w3, st3, hv3, hb3⟩ := box_wy w2 ec hec1 hec2
  have HX3 := Lib.hid (show RtB w3 w.heap.size r from Blk.below HX2.out hb3 HX2.out.lt)
  have HV3 := Lib.hid hv3
  have HB3 := Lib.hid (HB2.out.trans (hb3.mono HB2.out.size))
  clear hv3 hb3
  go_upto_region 4 with (fail)
  clear st3
  have HM1 := Lib.hid (fun (wx : World) (hb : Below w.heap.size w wx) => fmay_any r wx (HOK.out wx hb))
  have HM2 := Lib.hid (fun (wx : World) (hb : Below w.heap.size w wx) => rmay_any r wx (HOK.out wx hb))
  refine wp_region_stages [(true, 5)] (by kernel_rfl) (by kernel_rfl) fun wz hz hz2 => ?_
  have ZX := Lib.hid (show RtB wz w.heap.size r from Blk.below HX3.out hz HX3.out.lt)
  have ZV := Lib.hid (HV3.out.below hz HV3.out.lt)
  have ZB := Lib.hid (HB3.out.trans (hz.mono HB3.out.size))
  clear hz hz2
  have q0 := fun (dd : Nat) (os : Array Obj) => ld_rt (r := r) (Blk.below ZX.out (below_regrown wz dd os) ZX.out.lt)
  have q1 := fun (dd : Nat) (os : Array Obj) => Calls.regrown_of (HM1.out (grow (redrawn wz dd) os) (ZB.out.trans ((below_regrown wz dd os).mono ZB.out.size)))
  have q2 := fun (dd : Nat) (os : Array Obj) => Calls.regrown_of (HM2.out (grow (redrawn wz dd) os) (ZB.out.trans ((below_regrown wz dd os).mono ZB.out.size)))
  refine wpSt_q ?_
  simp only [List.take_succ_cons, List.take_zero, List.drop_succ_cons, List.drop_zero]
  repeat (go_big_quiet_step (first | with_reducible exact q1 _ _ | with_reducible exact q2 _ _))
  refine wpQuiet_nil ?_
  intro _ hw'
  obtain ⟨⟨dq, osq⟩, hw''⟩ := hw'
  subst hw''
  have hbq := below_regrown wz dq osq
  have HX4 := Lib.hid (show RtB (grow (redrawn wz dq) osq) w.heap.size r from Blk.below ZX.out hbq ZX.out.lt)
  have HV4 := Lib.hid (ZV.out.below hbq ZV.out.lt)
  have HB4 := Lib.hid (ZB.out.trans (hbq.mono ZB.out.size))
  clear q0 q1 q2 hbq
  generalize grow (redrawn wz dq) osq = w4 at HX4 HV4 HB4 ⊢
  refine wpSt_end ?_
  have lr := ld_rt HX4.out
  rcases HCASE.out with ⟨hmr, hcd, hec⟩ | ⟨hmr, hcd, hec⟩
  · subst hcd
    have hbne : (mayR r != mayR r) = false := by simp
    have HM3 := Lib.hid (HM2.out w4 HB4.out)
    rw [hmr] at HM3
    have HMR := Lib.hid hmr
    have HEC := Lib.hid hec
    clear hmr hec
    have hlen : (wayR r).2.length = 256 := wayR_len HMR.out
    have e1 : ∀ w, (Op.equalIn 10000 33 (.agg ec) (.agg ec)).run Try.prog w = .ok true w := fun w => by rw [HEC.out]; exact eqs_wy _ hlen w
    have e2 : ∀ w, (binOp .eql 33 (.agg ec) (.agg ec)).run Try.prog w = .ok (.bool true) w := fun w => by rw [run_eql_struct, e1]; rfl
    have HWY := Lib.hid (fun (wx : World) (hb : Below w.heap.size w wx) => (show Calls Try.prog 12 #[rtV r] wx fun e w' => e = .returned (.agg ec) ∧ Below wx.heap.size wx w' from (rway_any r wx (HOK.out wx hb) HMR.out).mono fun e w' ⟨h1, h2⟩ => ⟨by rw [h1, HEC.out], h2⟩))
    clear hlen hbne
    go_wp2_with fail
    refine HM3.out.mono ?_
    rintro e w5 ⟨rfl, hb5⟩
    have HX5 := Lib.hid (show RtB w5 w.heap.size r from Blk.below HX4.out hb5 HX4.out.lt)
    have HV5 := Lib.hid (HV4.out.below hb5 HV4.out.lt)
    have HB5 := Lib.hid (HB4.out.trans (hb5.mono HB4.out.size))
    clear hb5 lr
    go_wp2_with fail
    refine wp_region_stages [(true, 13)] (by kernel_rfl) (by kernel_rfl) fun wz hz hz2 => ?_
    have ZX := Lib.hid (show RtB wz w.heap.size r from Blk.below HX5.out hz HX5.out.lt)
    have ZV := Lib.hid (HV5.out.below hz HV5.out.lt)
    have ZB := Lib.hid (HB5.out.trans (hz.mono HB5.out.size))
    clear hz hz2
    have q0 := fun (dd : Nat) (os : Array Obj) => ld_rt (r := r) (Blk.below ZX.out (below_regrown wz dd os) ZX.out.lt)
    have q1 := fun (dd : Nat) (os : Array Obj) => ld_wyB (ZV.out.below (below_regrown wz dd os) ZV.out.lt) hec1
    have q2 := fun (dd : Nat) (os : Array Obj) => Calls.regrown_of (HWY.out (grow (redrawn wz dd) os) (ZB.out.trans ((below_regrown wz dd os).mono ZB.out.size)))
    have q3 := fun (dd : Nat) (os : Array Obj) => Calls.regrown_of ((num14_any 0 (grow (redrawn wz dd) os)).mono fun _ _ ⟨h, hw⟩ => ⟨h, hw ▸ Below.refl _ _⟩)
    have q4 := fun (dd : Nat) (os : Array Obj) => Calls.regrown_of (HKN.out (grow (redrawn wz dd) os))
    refine wpSt_q ?_
    simp only [List.take_succ_cons, List.take_zero, List.drop_succ_cons, List.drop_zero]
    repeat (go_big_quiet_step (first | with_reducible exact q2 _ _ | with_reducible exact q3 _ _ | with_reducible exact q4 _ _))
    refine wpQuiet_nil ?_
    intro _ hw'
    obtain ⟨⟨dq, osq⟩, hw''⟩ := hw'
    subst hw''
    have HBQ := Lib.hid (ZB.out.trans ((below_regrown wz dq osq).mono ZB.out.size))
    clear q0 q1 q2 q3 q4
    generalize grow (redrawn wz dq) osq = wq at HBQ ⊢
    refine wpSt_end ?_
    go_wp2_with fail
    go_ret
    exact ⟨rfl, HBQ.out⟩
  · subst hcd
    have HM3 := Lib.hid (HM2.out w4 HB4.out)
    rw [hmr] at HM3
    have HMR := Lib.hid hmr
    have HEC := Lib.hid hec
    clear hmr hec
    have e1 : ∀ w, (Op.equalIn 10000 33 (.agg ec) (.agg ec)).run Try.prog w = .ok true w := fun w => by rw [HEC.out]; exact eqs_wy (0, zs0) zs0_len w
    have e2 : ∀ w, (binOp .eql 33 (.agg ec) (.agg ec)).run Try.prog w = .ok (.bool true) w := fun w => by rw [run_eql_struct, e1]; rfl
    have b9 : ∀ w, (Instr.build 33 #[]).run Try.prog w = .ok (.agg ec) w := fun w => by rw [HEC.out, wyC_zero]; exact way_build w
    go_wp2_with fail
    refine HM3.out.mono ?_
    rintro e w5 ⟨rfl, hb5⟩
    have HX5 := Lib.hid (show RtB w5 w.heap.size r from Blk.below HX4.out hb5 HX4.out.lt)
    have HV5 := Lib.hid (HV4.out.below hb5 HV4.out.lt)
    have HB5 := Lib.hid (HB4.out.trans (hb5.mono HB4.out.size))
    clear hb5 lr
    have lv := ld_wyB HV5.out hec1
    go_wp2_with (first
      | (go_at_call 11; refine (num14_any _ _).mono ?_; rintro e w6 ⟨rfl, rfl⟩)
      | (go_at_call 7; refine (HKN.out _).mono ?_; rintro e w6 ⟨rfl, hb6⟩; have HB6 := Lib.hid (HB5.out.trans (hb6.mono HB5.out.size)); clear hb6))
    go_ret
    exact ⟨rfl, HB6.out⟩
end Go.Proofs.Ythlommalbkhcjaa
