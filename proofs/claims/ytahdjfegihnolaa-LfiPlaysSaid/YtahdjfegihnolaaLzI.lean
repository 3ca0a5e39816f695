/- Layer 12: costs, portDown. -/
import Derived.Test.YtahdjfegihnolaaLzH
namespace Go.Proofs.Ytahdjfegihnolaa
open Go.RowKit Go.Sort
def evA (k : Int) (q : Nat) (v : Int) (p : Pf) (d : Int) : Array Value := #[.int .i64 k, .int .i64 (q : Int), .int .i64 v, .int .u32 (p.1 : Int), .int .i64 p.2, .int .i64 d]
def DonePost (w : World) (cb mb B : Nat) (room : Int) (c : Pc) (G : List GE) (o : List Tl) (U : Nat → Prop) (e : Ending) (w' : World) : Prop := e = .returned (.int .i64 0) ∧ ∃ ov, TlM w cb mb B room c G o w' ov U
theorem CoM.setCore {w W : World} {cb mb : Nat} {ov ov' : Value} {room : Int} {c c' : Pc} {G : List GE} (h : CoM W cb mb ov room c G) {i : Nat} {u : Value} (he : (coC room c mb ov).setIfInBounds i u = coC room c' mb ov') (hw : w = W.setCell ⟨cb, i, none⟩ u) : CoM w cb mb ov' room c' G := by
  subst hw
  exact h.core (by rw [← he]; exact h.blk.set_ i u) (upd_set W cb i u) fun k (e : k = cb) => ⟨fun e2 => h.ne.1 (e.symm.trans e2), fun g hg e2 => (h.ne.2 g hg).1 (e2.symm.trans e)⟩
theorem OutM.setCore {w W : World} {cb mb B : Nat} {ov ov' : Value} {room : Int} {c : Pc} {G : List GE} {o : List Tl} (ho : OutM W B ov o) (h : CoM W cb mb ov' room c G) {i : Nat} {u : Value} (hw : w = W.setCell ⟨cb, i, none⟩ u) : OutM w B ov o := by
  subst hw
  exact ownsRow_setCell_other (a := ⟨cb, i, none⟩) ho (own_blk_ne ho h.blk (by decide)) _
set_option maxRecDepth 100000 in
set_option maxHeartbeats 4000000 in
attribute [-go_sem] Instr.storeAt Instr.loadAt in
theorem costs_any {w : World} {cb mb B : Nat} {ov : Value} {room : Int} {c c' : Pc} {G : List GE} (h : CoM w cb mb ov room c G) {q : Nat} (hq : q < 8) {v : Int} (hc' : c' = ⟨c.up, setAt c.cost q v⟩) (hpc : PcOk c') (hew : ∀ g ∈ G, EW c' g.x) {o : List Tl} (ho : OutM w B ov o) (hB : B ≤ w.heap.size) (hlen : o.length ≤ 800000) (k : Int) (p : Pf) (d : Int) :
    Calls Try.prog 50 #[.pointer (some ⟨cb, 0, none⟩), .agg #[.int .i64 k, .int .i64 (q : Int), .int .i64 v, .int .u32 (p.1 : Int), .int .i64 p.2, .int .i64 d]] w
      (DonePost w cb mb B room c' (lookG c' G) (o ++ lookO c' G) (CoU cb G ov)) := by
  obtain ⟨W1, hW1⟩ : ∃ Z, Z = w.alloc (.cells #[.int .i64 k, .int .i64 (q : Int), .int .i64 v, .int .u32 (p.1 : Int), .int .i64 p.2, .int .i64 d] 38) := ⟨_, rfl⟩
  have hb1 : Below w.heap.size w W1 := by rw [hW1]; exact (Below.refl _ _).alloc (Nat.le_refl _) _
  have hke : Blk W1 w.heap.size 38 (evA k q v p d) := by rw [hW1]; exact Blk.new _ _ _
  have HM1 := Lib.hid (show TlM w cb mb B room c G o W1 ov (CoU cb G ov) from ⟨h.below hb1, own_below ho hb1, Upd.ofBelow hb1 _, fun j hj => .inl (.inr (.inr hj))⟩)
  have HW1 := Lib.hid hW1
  have HKE := Lib.hid hke
  have HBW := Lib.hid (Below.refl W1.heap.size W1)
  have HQ := Lib.hid hq
  have HC' := Lib.hid hc'
  have HPC := Lib.hid hpc
  have HEW := Lib.hid hew
  have HB := Lib.hid hB
  have HLEN := Lib.hid (show o.length + 8 * G.length ≤ 900000 by have := h.len; omega)
  have hq0 : (0 : Int) ≤ q := by omega
  have hq1 : (q : Int) < 8 := by omega
  clear hW1 hb1 hke hc' hpc hew ho hB hlen h
  go_enter Try.func50, Try.ntmps50
  go_upto_region 1 with (fail)
  rw [← HW1.out]
  refine wp_region_mix [(true, 8), (false, 1)] 0 (by kernel_rfl) (fun wx => Below W1.heap.size W1 wx) (fun _ _ h k => h.trans (k.mono h.size)) (by kernel_rfl) HBW.out (a' := ?_) (fun wz hz => ?_) fun wz hz => ?_
  rotate_left
  · have l1 := fun (dd : Nat) (os : Array Obj) => ld_iC (b := w.heap.size) (o := 1) (z := (q : Int)) ((HKE.out.below (hz.trans ((below_regrown wz dd os).mono hz.size)) HKE.out.lt).cell 1)
    have l2 := fun (dd : Nat) (os : Array Obj) => ld_iC (b := w.heap.size) (o := 2) (z := v) ((HKE.out.below (hz.trans ((below_regrown wz dd os).mono hz.size)) HKE.out.lt).cell 2)
    clear hz
    simp only [pick_nil, pick_tt, pick_ft, List.take_succ_cons, List.take_zero, List.drop_succ_cons, List.drop_zero, List.append_nil]
    repeat (go_big_quiet_step (fail))
    refine wpQuiet_nil ?_
    rfl
  simp only [pick_nil, pick_ff, pick_tf, List.take_succ_cons, List.take_zero, List.drop_succ_cons, List.drop_zero, List.append_nil]
  have HZ := Lib.hid (HBW.out.trans (hz.mono HBW.out.size))
  clear hz
  refine wpMix_step HZ.out fun wa ha => ?_
  have hma := HM1.out.below (HZ.out.trans (ha.mono HZ.out.size))
  have st := st_iC ((hma.com.blk.cell (9 + q)).trans (coC_cost _ _ _ _ HQ.out)) (hma.com.blk.frozen (9 + q)) v
  obtain ⟨W2, hW2⟩ : ∃ Z, Z = wa.setCell ⟨cb, 9 + q, none⟩ (.int .i64 v) := ⟨_, rfl⟩
  rw [← hW2] at st
  have hm2 : TlM w cb mb B room c' G o W2 ov (CoU cb G ov) := ⟨hma.com.setCore (coC_set_cost _ _ _ _ HQ.out v |>.trans (by rw [HC'.out])) hW2, hma.out.setCore hma.com hW2, hma.upd.trans_ (by rw [hW2]; exact (upd_set wa cb (9 + q) _).mono fun k (e : k = cb) => .inl (.inl e)), hma.own⟩
  have HM2 := Lib.hid hm2
  have hla := lookAll_any (B := B) hm2.com HPC.out HEW.out hm2.out (by have := hm2.upd.size; have := HB.out; omega) HLEN.out
  have HLA := Lib.hid hla
  clear hma ha hW2 hm2 hla
  go_wp2_with fail
  refine wpMix_plain ?_
  clear st
  go_wp2_with (go_at_call 62; refine HLA.out.mono ?_; rintro e w5 ⟨rfl, ov3, hm⟩; have HM5 := Lib.hid hm; clear hm)
  go_ret
  exact ⟨rfl, ov3, HM2.out.trans HM5.out fun j hj => by
    rcases hj with hj | hj | hj
    · exact .inl (.inl hj)
    · exact .inl (.inr (.inl hj))
    · exact HM2.out.own j hj⟩
end Go.Proofs.Ytahdjfegihnolaa
