/- Layer 12: Entry. -/
import Derived.Test.YtahdjfegihnolaaLzM
import Derived.Test.YtahdjfegihnolaaStC
import Derived.Test.YtahdjfegihnolaaLzV
namespace Go.Proofs.Ytahdjfegihnolaa
open Go.RowKit Go.Sort
/-- An entry as it is told: 16 cells. -/
def viC (c : Pc) (x : Le) : Array Value := #[.int .u32 (x.p.1 : Int), .int .i64 x.p.2, .bool x.own, .bool x.tk, .bool (actF x), .int .i64 (distF c x), .int .i64 x.told, .int .i64 x.feas, .int .i64 (x.said 0), .int .i64 (x.said 1), .int .i64 (x.said 2), .int .i64 (x.said 3), .int .i64 (x.said 4), .int .i64 (x.said 5), .int .i64 (x.said 6), .int .i64 (x.said 7)]
def viZ : Array Value := #[.int .u32 0, .int .i64 0, .bool false, .bool false, .bool false, .int .i64 0, .int .i64 0, .int .i64 0, .int .i64 0, .int .i64 0, .int .i64 0, .int .i64 0, .int .i64 0, .int .i64 0, .int .i64 0, .int .i64 0]
theorem vi_info : (Try.prog.info? 43).map (·.size) = some 16 := by kernel_rfl
theorem bd_vi (w : World) (a n : Int) (o t ac : Bool) (d tl f : Int) (s : Nat → Int) : (Instr.build 43 #[(0, .agg #[.int .u32 a, .int .i64 n]), (1, .bool o), (2, .bool t), (3, .bool ac), (4, .int .i64 d), (5, .int .i64 tl), (6, .int .i64 f), (7, .agg (arA s))]).run Try.prog w = .ok (.agg #[.int .u32 a, .int .i64 n, .bool o, .bool t, .bool ac, .int .i64 d, .int .i64 tl, .int .i64 f, .int .i64 (s 0), .int .i64 (s 1), .int .i64 (s 2), .int .i64 (s 3), .int .i64 (s 4), .int .i64 (s 5), .int .i64 (s 6), .int .i64 (s 7)]) w := by kernel_rfl
theorem bd_vz (w : World) : (Instr.build 43 #[]).run Try.prog w = .ok (.agg viZ) w := by kernel_rfl
theorem ld_ptrC {w : World} {b o : Nat} {u : Option Addr} (hu : w.cell? ⟨b, o, none⟩ = some (.pointer u)) : (Instr.loadAt 84 (.pointer (some ⟨b, o, none⟩))).run Try.prog w = .ok (.pointer u) w := by simp [go_sem, hu]
/-- What Entry answers. -/
def EnV (c : Pc) (G : List GE) (p : Pf) : Value := match findP G p with
  | none => .tuple #[.agg viZ, .bool false]
  | some g => .tuple #[.agg (viC c g.x), .bool true]
def EntC (cb pb rb : Nat) (C : Array Value) (p : Pf) (a : World) : Prop := Blk a cb 81 C ∧ Blk a pb 36 (pfC p) ∧ Blk a rb 43 viZ
theorem EntC.below {cb pb rb : Nat} {C : Array Value} {p : Pf} {a b : World} (h : EntC cb pb rb C p a) (hb : Below a.heap.size a b) : EntC cb pb rb C p b := ⟨h.1.below hb h.1.lt, h.2.1.below hb h.2.1.lt, h.2.2.below hb h.2.2.lt⟩
def EntD (cb pb rb eb : Nat) (C : Array Value) (p : Pf) (x : Le) (a : World) : Prop := EntC cb pb rb C p a ∧ Blk a eb 87 (enC x)
theorem EntD.below {cb pb rb eb : Nat} {C : Array Value} {p : Pf} {x : Le} {a b : World} (h : EntD cb pb rb eb C p x a) (hb : Below a.heap.size a b) : EntD cb pb rb eb C p x b := ⟨h.1.below hb, h.2.below hb h.2.lt⟩
set_option maxRecDepth 100000 in
set_option maxHeartbeats 4000000 in
attribute [-go_sem] Instr.storeAt Instr.loadAt Instr.build in
theorem entry_any {w : World} {cb mb : Nat} {ov : Value} {room : Int} {c : Pc} {G : List GE} (h : CoM w cb mb ov room c G) {p : Pf} (hp : pfOk p) (hs : ∀ g ∈ G, ∀ q, 0 ≤ g.x.said q ∧ g.x.said q ≤ 255) (hc : ∀ q, 0 ≤ c.cost q ∧ c.cost q ≤ 50) :
    Calls Try.prog 14 #[.pointer (some ⟨cb, 0, none⟩), .agg #[.int .u32 (p.1 : Int), .int .i64 p.2]] w fun e w' => e = .returned (EnV c G p) ∧ Below w.heap.size w w' := by
  obtain ⟨W1, hW1⟩ : ∃ Z, Z = w.alloc (.cells #[.int .u32 (p.1 : Int), .int .i64 p.2] 36) := ⟨_, rfl⟩
  obtain ⟨W2, hW2⟩ : ∃ Z, Z = W1.alloc (.cells viZ 43) := ⟨_, rfl⟩
  have hb1 : Below w.heap.size w W1 := by rw [hW1]; exact (Below.refl _ _).alloc (Nat.le_refl _) _
  have hb2 : Below w.heap.size w W2 := by rw [hW2]; exact hb1.alloc hb1.size _
  have hsz : W1.heap.size = w.heap.size + 1 := by rw [hW1]; simp
  have hkp : Blk W2 w.heap.size 36 (pfC p) := by rw [hW2, hW1]; exact (Blk.new _ _ _).alloc _
  have hkr : Blk W2 (w.heap.size + 1) 43 viZ := by rw [hW2, ← hsz]; exact Blk.new _ _ _
  have hm2 := h.below hb2
  have hec : EntC cb w.heap.size (w.heap.size + 1) (coC room c mb ov) p W2 := ⟨hm2.blk, hkp, hkr⟩
  have HEC := Lib.hid hec
  have HM2 := Lib.hid hm2
  have HB2 := Lib.hid hb2
  have HW1 := Lib.hid hW1
  have HW2 := Lib.hid hW2
  have HP := Lib.hid hp
  have HS := Lib.hid hs
  have HC := Lib.hid hc
  obtain ⟨rb, hrb⟩ : ∃ r, r = w.heap.size + 1 := ⟨_, rfl⟩
  rw [← hrb] at HEC
  have HRB := Lib.hid hrb
  clear hW1 hW2 hb1 hb2 hsz hkp hkr hm2 hec hp hs hc hrb h
  go_enter Try.func14, Try.ntmps14
  go_upto_region 1 with (fail)
  rw [← HW1.out]
  have hW2' := HW2.out
  unfold viZ at hW2'
  rw [← hW2', ← HRB.out]
  clear hW2'
  obtain ⟨F, hF⟩ := HM2.out.map
  have HF := Lib.hid hF
  clear hF
  cases hfp : findP G p with
  | none =>
    have HFP := Lib.hid hfp
    have l1 := fun (dd : Nat) (os : Array Obj) => ld_mC (w := grow (redrawn W2 dd) os) ((HEC.out.below (below_regrown W2 dd os)).1.cell 17)
    have l2 := fun (dd : Nat) (os : Array Obj) => ld_pf (HEC.out.below (below_regrown W2 dd os)).2.1
    have l3 := fun (dd : Nat) (os : Array Obj) => HF.out.look_none (below_regrown W2 dd os) HP.out HFP.out
    have l4 := fun (dd : Nat) (os : Array Obj) => Calls.regrown_of (calls_below (cthere_any (HEC.out.below (below_regrown W2 dd os)).1))
    clear hfp
    refine wp_region_quiet_below (by kernel_rfl) (by kernel_rfl) ?_
    repeat (go_big_quiet_step (with_reducible exact l4 _ _))
    refine wpQuiet_nil ?_
    intro _ hw'
    obtain ⟨⟨dq, osq⟩, hw''⟩ := hw'
    subst hw''
    have HBQ := Lib.hid (below_regrown W2 dq osq)
    generalize grow (redrawn W2 dq) osq = wq at HBQ ⊢
    clear l1 l2 l3 l4
    have bz := fun wx => bd_vz wx
    have st := stc_store vi_info (HEC.out.below HBQ.out).2.2 rfl (vs := viZ) rfl (by kernel_rfl)
    go_wp2_with fail
    have hk : Blk (wq.setCells rb 0 viZ.toList) rb 43 viZ := blk_setCells (HEC.out.below HBQ.out).2.2 rfl
    refine bodyPost_ret_by (res_cell2 Try.underlying43 rfl vi_info rfl _ rfl hk rfl) rfl ?_
    refine ⟨?_, below_setCells (by rw [HRB.out]; omega) _ _ _ (HB2.out.trans (HBQ.out.mono HB2.out.size))⟩
    unfold EnV
    rw [HFP.out]
    rfl
  | some g =>
    have HFP := Lib.hid hfp
    obtain ⟨hgm, hgp⟩ := findP_some hfp
    subst hgp
    have HG := Lib.hid (And.intro hgm hgm)
    have l1 := fun (dd : Nat) (os : Array Obj) => ld_mC (w := grow (redrawn W2 dd) os) ((HEC.out.below (below_regrown W2 dd os)).1.cell 17)
    have l2 := fun (dd : Nat) (os : Array Obj) => ld_pf (HEC.out.below (below_regrown W2 dd os)).2.1
    have l3 := fun (dd : Nat) (os : Array Obj) => HF.out.look_some (below_regrown W2 dd os) HP.out HFP.out
    have l4 := fun (dd : Nat) (os : Array Obj) => Calls.regrown_of (calls_below (cthere_any (HEC.out.below (below_regrown W2 dd os)).1))
    clear hfp hgm
    refine wp_region_quiet_below (by kernel_rfl) (by kernel_rfl) ?_
    repeat (go_big_quiet_step (with_reducible exact l4 _ _))
    refine wpQuiet_nil ?_
    intro _ hw'
    obtain ⟨⟨dq, osq⟩, hw''⟩ := hw'
    subst hw''
    have HBQ := Lib.hid (below_regrown W2 dq osq)
    generalize grow (redrawn W2 dq) osq = wq at HBQ ⊢
    clear l1 l2 l3 l4
    go_upto_region 3 with (fail)
    have l1 := fun (dd : Nat) (os : Array Obj) => ld_mC (w := grow (redrawn wq dd) os) (((HEC.out.below HBQ.out).below (below_regrown wq dd os)).1.cell 17)
    have l2 := fun (dd : Nat) (os : Array Obj) => ld_pf ((HEC.out.below HBQ.out).below (below_regrown wq dd os)).2.1
    have l3 := fun (dd : Nat) (os : Array Obj) => HF.out.look_some (HBQ.out.trans ((below_regrown wq dd os).mono HBQ.out.size)) HP.out HFP.out
    refine wp_region_quiet_below (by kernel_rfl) (by kernel_rfl) ?_
    repeat (go_big_quiet_step (fail))
    refine wpQuiet_nil ?_
    intro _ hw'
    obtain ⟨⟨dp, osp⟩, hw''⟩ := hw'
    subst hw''
    have HBP := Lib.hid (HBQ.out.trans ((below_regrown wq dp osp).mono HBQ.out.size))
    generalize grow (redrawn wq dp) osp = wp at HBP ⊢
    clear l1 l2 l3
    go_upto_region 4 with (fail)
    have HED := Lib.hid (show EntD cb w.heap.size rb g.b (coC room c mb ov) g.x.p g.x wp from ⟨HEC.out.below HBP.out, (HM2.out.below HBP.out).en g HG.out.1⟩)
    refine wp_region_mix [(true, 27), (false, 2)] 0 (by kernel_rfl) (EntD cb w.heap.size rb g.b (coC room c mb ov) g.x.p g.x) (fun _ _ h k => h.below k) (by kernel_rfl) HED.out (a' := ?_) (fun wz hz => ?_) fun wz hz => ?_
    rotate_left
    · have m1 := fun (dd : Nat) (os : Array Obj) => ld_pf (hz.below (below_regrown wz dd os)).1.2.1
      have m2 := fun (dd : Nat) (os : Array Obj) => ld_bC (b := g.b) (o := 0) (z := g.x.own) ((hz.below (below_regrown wz dd os)).2.cell 0)
      have m3 := fun (dd : Nat) (os : Array Obj) => ld_bC (b := g.b) (o := 1) (z := g.x.tk) ((hz.below (below_regrown wz dd os)).2.cell 1)
      have m4 := fun (dd : Nat) (os : Array Obj) => Calls.regrown_of (calls_below (active_any (hz.below (below_regrown wz dd os)).2))
      have m5 := fun (dd : Nat) (os : Array Obj) => Calls.regrown_of (calls_below (distance_any (hz.below (below_regrown wz dd os)).1.1 (hz.below (below_regrown wz dd os)).2 (HS.out g HG.out.1) HC.out))
      have m6 := fun (dd : Nat) (os : Array Obj) => ld_iC (b := g.b) (o := 10) (z := g.x.told) ((hz.below (below_regrown wz dd os)).2.cell 10)
      have m7 := fun (dd : Nat) (os : Array Obj) => ld_iC (b := g.b) (o := 11) (z := g.x.feas) ((hz.below (below_regrown wz dd os)).2.cell 11)
      have m8 := fun (dd : Nat) (os : Array Obj) => ld_said (hz.below (below_regrown wz dd os)).2
      have m9 := fun wx => bd_vi wx (g.x.p.1 : Int) g.x.p.2 g.x.own g.x.tk (actF g.x) (distF c g.x) g.x.told g.x.feas g.x.said
      clear hz
      simp only [pick_nil, pick_tt, pick_ft, List.take_succ_cons, List.take_zero, List.drop_succ_cons, List.drop_zero, List.append_nil]
      repeat (go_big_quiet_step (first | with_reducible exact m4 _ _ | with_reducible exact m5 _ _))
      refine wpQuiet_nil ?_
      rfl
    simp only [pick_nil, pick_ff, pick_tf, List.take_succ_cons, List.take_zero, List.drop_succ_cons, List.drop_zero, List.append_nil]
    have HZ := Lib.hid hz
    clear hz
    refine wpMix_step (HED.out.below HZ.out) fun wa ha => ?_
    have hea := (HED.out.below HZ.out).below ha
    have hba := (HBP.out.trans (HZ.out.mono HBP.out.size)).trans (ha.mono (Nat.le_trans HBP.out.size HZ.out.size))
    have st := stc_store vi_info hea.1.2.2 rfl (vs := viC c g.x) rfl (by simp [viC, Value.oneCell'])
    unfold viC at st
    have HEA := Lib.hid hea
    have HBA := Lib.hid hba
    clear ha hea hba
    go_wp2_with fail
    refine wpMix_plain ?_
    go_wp2_with fail
    have hk : Blk (wa.setCells rb 0 (viC c g.x).toList) rb 43 (viC c g.x) := blk_setCells HEA.out.1.2.2 rfl
    unfold viC at hk
    refine bodyPost_ret_by (res_cell2 Try.underlying43 rfl vi_info rfl _ rfl hk rfl) rfl ?_
    refine ⟨?_, below_setCells (by rw [HRB.out]; omega) _ _ _ (HB2.out.trans (HBA.out.mono HB2.out.size))⟩
    unfold EnV
    rw [HFP.out]
    rfl
end Go.Proofs.Ytahdjfegihnolaa
