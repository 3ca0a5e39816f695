/- Layer 12: a core that is not there, or a zero one. -/
import Derived.Test.YtahdjfegihnolaaLwI
import Derived.RangeFuncCalls
namespace Go.Proofs.Ytahdjfegihnolaa
open Go.RowKit Go.Sort
def coZ : Array Value := #[.int .i64 0, .bool false, .bool false, .bool false, .bool false, .bool false, .bool false, .bool false, .bool false, .int .i64 0, .int .i64 0, .int .i64 0, .int .i64 0, .int .i64 0, .int .i64 0, .int .i64 0, .int .i64 0, .map none, .slice none 0 0]
def NilC (w : World) (pv : Value) : Prop := pv = .pointer none ∨ ∃ b, pv = .pointer (some ⟨b, 0, none⟩) ∧ Blk w b 81 coZ
theorem NilC.below {w w' : World} {pv : Value} (h : NilC w pv) (hb : Below w.heap.size w w') : NilC w' pv := by
  rcases h with rfl | ⟨b, rfl, k⟩
  · exact .inl rfl
  · exact .inr ⟨b, rfl, k.below hb k.lt⟩
theorem cthere_nil {w : World} {pv : Value} (h : NilC w pv) : Calls Try.prog 27 #[pv] w fun e w' => e = .returned (.bool false) ∧ w = w' := by
  rcases h with rfl | ⟨b, rfl, h⟩
  · go_enter Try.func27, Try.ntmps27
    go_wp2
    go_ret
    exact ⟨rfl, rfl⟩
  · have hc1 : w.cell? ⟨b, 17, none⟩ = some (.map none) := h.cell 17
    have qT : ∀ (w : World) (r : Option Nat), (binOp .neq 79 (.map r) (.map none)).run Try.prog w = .ok (.bool (!r.isNone)) w := fun w r => run_neq_map_nil w _ _ _ r Try.underlying79
    clear h
    go_enter Try.func27, Try.ntmps27
    go_wp2
    go_ret
    exact ⟨rfl, rfl⟩
theorem do_nil {w : World} {pv : Value} (h : NilC w pv) (a b c d e f : Int) : Calls Try.prog 12 #[pv, .agg #[.int .i64 a, .int .i64 b, .int .i64 c, .int .u32 d, .int .i64 e, .int .i64 f]] w fun e w' => e = .returned (.tuple #[.slice none 0 0, .int .i64 1]) ∧ Below w.heap.size w w' := by
  have hb : Below w.heap.size w (w.alloc (.cells #[.int .i64 a, .int .i64 b, .int .i64 c, .int .u32 d, .int .i64 e, .int .i64 f] 38)) := (Below.refl _ _).alloc (Nat.le_refl _) _
  have HT := Lib.hid (cthere_nil (h.below hb))
  have HB := Lib.hid hb
  clear h hb
  go_enter Try.func12, Try.ntmps12
  go_wp2_with (go_at_call 27; refine (HT.out).mono ?_; rintro e w' ⟨rfl, rfl⟩)
  go_ret2
  exact ⟨rfl, HB.out⟩
set_option maxRecDepth 100000 in
attribute [-go_sem] Instr.storeAt Instr.loadAt Instr.build in
theorem entry_nil {w : World} {pv : Value} (h : NilC w pv) (a b : Int) : Calls Try.prog 14 #[pv, .agg #[.int .u32 a, .int .i64 b]] w fun e w' => e = .returned (.tuple #[.agg viZ, .bool false]) ∧ Below w.heap.size w w' := by
  obtain ⟨W1, hW1⟩ : ∃ Z, Z = w.alloc (.cells #[.int .u32 a, .int .i64 b] 36) := ⟨_, rfl⟩
  obtain ⟨W2, hW2⟩ : ∃ Z, Z = W1.alloc (.cells viZ 43) := ⟨_, rfl⟩
  have hsz : W1.heap.size = w.heap.size + 1 := by rw [hW1]; simp
  have hb1 : Below w.heap.size w W1 := by rw [hW1]; exact (Below.refl _ _).alloc (Nat.le_refl _) _
  have hb2 : Below w.heap.size w W2 := by rw [hW2]; exact hb1.alloc hb1.size _
  have hkr : Blk W2 (w.heap.size + 1) 43 viZ := by rw [hW2, ← hsz]; exact Blk.new _ _ _
  have HN := Lib.hid (h.below hb2)
  have HB := Lib.hid hb2
  have HK := Lib.hid hkr
  have HW1 := Lib.hid hW1
  have HW2 := Lib.hid hW2
  clear h hW1 hW2 hsz hb1 hb2 hkr
  go_enter Try.func14, Try.ntmps14
  go_upto_region 1 with (fail)
  rw [← HW1.out]
  have hW2' := HW2.out
  unfold viZ at hW2'
  rw [← hW2']
  clear hW2'
  have l4 := fun (dd : Nat) (os : Array Obj) => Calls.regrown_of (calls_below (cthere_nil (HN.out.below (below_regrown W2 dd os))))
  refine wp_region_quiet_below (by kernel_rfl) (by kernel_rfl) ?_
  repeat (go_big_quiet_step (with_reducible exact l4 _ _))
  refine wpQuiet_nil ?_
  intro _ hw'
  obtain ⟨⟨dq, osq⟩, hw''⟩ := hw'
  subst hw''
  have HBQ := Lib.hid (below_regrown W2 dq osq)
  generalize grow (redrawn W2 dq) osq = wq at HBQ ⊢
  clear l4
  have bz := fun wx => bd_vz wx
  have hkq := HK.out.below HBQ.out HK.out.lt
  have HKQ := Lib.hid hkq
  have st := stc_store vi_info hkq rfl (vs := viZ) rfl (by kernel_rfl)
  clear hkq
  go_wp2_with fail
  have hk : Blk (wq.setCells (w.heap.size + 1) 0 viZ.toList) (w.heap.size + 1) 43 viZ := blk_setCells HKQ.out rfl
  refine bodyPost_ret_by (res_cell2 Try.underlying43 rfl vi_info rfl _ rfl hk rfl) rfl ?_
  exact ⟨rfl, below_setCells (by omega) _ _ _ (HB.out.trans (HBQ.out.mono HB.out.size))⟩
theorem up_nil {w : World} {pv : Value} (h : NilC w pv) : Calls Try.prog 15 #[pv, .int .i64 0] w fun e w' => e = .returned (.tuple #[.int .i64 0, .bool false]) ∧ w = w' := by
  have HT := Lib.hid (cthere_nil h)
  clear h
  go_enter Try.func15, Try.ntmps15
  go_wp2_with (go_at_call 27; refine (HT.out).mono ?_; rintro e w' ⟨rfl, rfl⟩)
  go_ret2
  exact ⟨rfl, rfl⟩
theorem routes_nil {w : World} {pv : Value} (h : NilC w pv) : Calls Try.prog 13 #[pv] w fun e w' => e = .returned (.slice none 0 0) ∧ w = w' := by
  have HT := Lib.hid (cthere_nil h)
  clear h
  go_enter Try.func13, Try.ntmps13
  go_wp2_with (go_at_call 27; refine (HT.out).mono ?_; rintro e w' ⟨rfl, rfl⟩)
  go_ret
  exact ⟨rfl, rfl⟩
theorem passive_nil {w : World} {pv : Value} (h : NilC w pv) : Calls Try.prog 17 #[pv] w fun e w' => e = .returned (.bool false) ∧ w = w' := by
  have HT := Lib.hid (cthere_nil h)
  clear h
  go_enter Try.func17, Try.ntmps17
  go_wp2_with (go_at_call 27; refine (HT.out).mono ?_; rintro e w' ⟨rfl, rfl⟩)
  go_ret
  exact ⟨rfl, rfl⟩
theorem copy_nil {w : World} {pv : Value} (h : NilC w pv) : Calls Try.prog 20 #[pv] w fun e w' => e = .returned (.pointer none) ∧ w = w' := by
  have HT := Lib.hid (cthere_nil h)
  clear h
  go_enter Try.func20, Try.ntmps20
  go_wp2_with (go_at_call 27; refine (HT.out).mono ?_; rintro e w' ⟨rfl, rfl⟩)
  go_ret
  exact ⟨rfl, rfl⟩
theorem all_nil {w : World} {pv : Value} (h : NilC w pv) : Calls Try.prog 23 #[pv] w fun e w' => e = .returned (.func (.func 45) #[] #[.pointer (some ⟨w.heap.size, 0, none⟩)]) ∧ w' = w.alloc (.cells #[.slice none 0 0] 104) := by
  have HT := Lib.hid (cthere_nil (h.below ((Below.refl w.heap.size w).alloc (Nat.le_refl _) (.cells #[.slice none 0 0] 104))))
  clear h
  go_enter Try.func23, Try.ntmps23
  go_wp2_with (go_at_call 27; refine (HT.out).mono ?_; rintro e w' ⟨rfl, rfl⟩)
  go_ret
  exact ⟨rfl, rfl⟩
attribute [local go_sem] Oper.semAt_some
set_option maxRecDepth 100000 in
set_option maxHeartbeats 1000000 in
/-- The closure of All over no entries: no round. -/
theorem lall1_nil (F : Fence) (n : Nat) (hf : F.fn 45) (hro : F.round = none) (l Bs : Nat) (J : List (Nat × List UInt8) → World → Prop) (W : World) (hBs : W.cell? ⟨Bs, 0, none⟩ = some (.slice none 0 0)) (h0 : J [] W) :
    CallsIn F n Try.prog 45 #[.func (.yield l) #[] #[], .pointer (some ⟨Bs, 0, none⟩)] W fun e W' => (∃ v, e = .returned v) ∧ J [] W' := by
  refine callsIn_of_wp Try.func45 rfl hf ?_ hro
  simp only [Try.ntmps45, List.size_toArray, List.length_cons, List.length_nil, Nat.reduceAdd, Nat.reduceSub, Array.replicate_succ, Array.replicate_zero, List.push_toArray, List.append_toArray, List.nil_append, List.cons_append]
  gi_wp2
  gi_loopw [7] (fun i wr => i = .int .i64 0 ∧ J [] wr) (fun _ _ => 0)
  case atStart => exact ⟨rfl, h0⟩
  case round =>
    obtain ⟨rfl, hJs⟩ := hrel
    gi_wp2
    go_end0
    exact ⟨⟨_, rfl⟩, hJs⟩
theorem lall_stops_nil (F : Fence) (n : Nat) (hf : F.fn 45) (hro : F.round = none) (Bs : Nat) (w : World) (hBs : Bs < w.heap.size) (hc : w.cell? ⟨Bs, 0, none⟩ = some (.slice none 0 0)) :
    SeqStopsK F n Try.prog 45 #[.pointer (some ⟨Bs, 0, none⟩)] (fun _ : Nat × List UInt8 => #[.agg #[.int .u32 0, .int .i64 0], .agg viZ]) KeepsWalks (fun ys => ys = []) (fun _ => False) 0 w := fun l J _ W hW _ _ _ h0 =>
  (lall1_nil F n hf hro l Bs J W ((hW.cell (p := ⟨Bs, 0, none⟩) hBs).trans hc) h0).mono fun _ _ ⟨he, hj⟩ => ⟨he, .inl ⟨_, rfl, hj⟩⟩
end Go.Proofs.Ytahdjfegihnolaa
