/- Tries of ways: walk, All. -/
import Derived.Test.YthlommalbkhcjaaGreatNl28
import Derived.RegionTactic
import Derived.ChangeAlike
import Derived.BigRegion
namespace Go.Proofs.YthlommalbkhcjaaGreat
open Go.RowKit Go.Sort
attribute [local go_sem] Oper.semAt_some
variable {dc : Int → Array Value}
theorem keeps_of_below {B : Nat} {W W' : World} (h : Below W.heap.size W W') : KeepsFrom B W W' := ⟨h.size, fun k _o _ hk _ => (h.block k (Array.getElem?_eq_some_iff.1 hk).1).trans hk⟩
theorem bt_alloc (w : World) : (Instr.alloc 4 true (.tuple #[])).run Tryz.prog w = .ok (.pointer (some ⟨w.heap.size, 0, none⟩)) (w.alloc (.cells #[.bool false] 4)) := by
  unfold Instr.alloc
  rw [Sem.run_bind, show (zeroValue 4).run Tryz.prog w = .ok (.bool false) w by kernel_rfl]
  rfl
theorem px_copy (W1 : World) (a n : Int) : ∃ W2, (Instr.storeAt 37 (.pointer (some ⟨W1.heap.size, 0, none⟩)) (.agg #[.int .u32 a, .int .i64 n])).run Tryz.prog (W1.alloc (.cells #[.int .u32 0, .int .i64 0] 37)) = .ok () W2 ∧ Blk W2 W1.heap.size 37 #[.int .u32 a, .int .i64 n] ∧ Below W1.heap.size W1 W2 := by
  have hk : Blk (W1.alloc (.cells #[.int .u32 0, .int .i64 0] 37)) W1.heap.size 37 #[.int .u32 0, .int .i64 0] := Blk.new _ _ _
  have st := stc_store px_info hk rfl (vs := #[.int .u32 a, .int .i64 n]) rfl (by simp [Value.oneCell'])
  exact ⟨_, st, blk_setCells hk rfl, below_setCells (Nat.le_refl _) _ _ _ ((Below.refl _ _).alloc (Nat.le_refl _) _)⟩
theorem wy_copy (W1 : World) (cs : Array Value) (hc : cs.size = 257) (h1 : cs.all (·.oneCell') = true) : ∃ W2, (Instr.storeAt 41 (.pointer (some ⟨W1.heap.size, 0, none⟩)) (.agg cs)).run Tryz.prog (W1.alloc (.cells wy0 41)) = .ok () W2 ∧ Blk W2 W1.heap.size 41 cs ∧ Below W1.heap.size W1 W2 := by
  have hk : Blk (W1.alloc (.cells wy0 41)) W1.heap.size 41 wy0 := Blk.new _ _ _
  have st := stc_store wy_info hk wy0_size (vs := cs) hc h1
  exact ⟨_, st, blk_setCells hk (by rw [wy0_size, hc]), below_setCells (Nat.le_refl _) _ _ _ ((Below.refl _ _).alloc (Nat.le_refl _) _)⟩
theorem res_match {w : World} {gp gv gi : Nat} {a n : Int} {cs : Array Value} {z : Bool} {fn : Func} {p u k : Tmp} (hf : fn.results = #[.cell p 37, .cell u 41, .cell k 4]) (tmps : Array Value) (e1 : tmps.getD p undef = .pointer (some ⟨gp, 0, none⟩)) (e2 : tmps.getD u undef = .pointer (some ⟨gv, 0, none⟩)) (e3 : tmps.getD k undef = .pointer (some ⟨gi, 0, none⟩))
    (b1 : Blk w gp 37 #[.int .u32 a, .int .i64 n]) (b2 : Blk w gv 41 cs) (hc : cs.size = 257) (b3 : Blk w gi 4 #[.bool z]) : (results fn tmps).run Tryz.prog w = .ok (.tuple #[.agg #[.int .u32 a, .int .i64 n], .agg cs, .bool z]) w := by
  have h1 := stc_loadVar Tryz.underlying37 rfl px_info b1 rfl
  have h2 := stc_loadVar Tryz.underlying41 rfl wy_info b2 hc
  have c3 : w.cell? ⟨gi, 0, none⟩ = some (.bool z) := b3.cell 0
  have h3 : (loadVar 4 ⟨gi, 0, none⟩).run Tryz.prog w = .ok (.bool z) w := by simp [go_sem, c3]
  have e1' : tmps[p]?.getD undef = .pointer (some ⟨gp, 0, none⟩) := by simpa using e1
  have e2' : tmps[u]?.getD undef = .pointer (some ⟨gv, 0, none⟩) := by simpa using e2
  have e3' : tmps[k]?.getD undef = .pointer (some ⟨gi, 0, none⟩) := by simpa using e3
  simp only [results, hf]
  simp [Result.andThen, e1', e2', e3', asAddr, h1, h2, h3]
def lastE (L : List (Bs × Int)) : Bs × Int := L.getLast?.getD ([], 0)
structure MR (w : World) (a n : Int) (cs : Array Value) (z : Bool) (W : World) : Prop where
  p : Blk W w.heap.size 37 #[.int .u32 a, .int .i64 n]
  v : Blk W (w.heap.size + 1) 41 cs
  i : Blk W (w.heap.size + 1 + 1) 4 #[.bool z]
def MU (w : World) (k : Nat) : Prop := k = w.heap.size ∨ k = w.heap.size + 1 ∨ k = w.heap.size + 1 + 1
section
variable {w W W' : World} {a n a2 n2 : Int} {cs vs : Array Value} {z z2 : Bool}
theorem MR.later (h : MR w a n cs z W) (hb : Below W.heap.size W W') : MR w a n cs z W' := ⟨h.p.below hb h.p.lt, h.v.below hb h.v.lt, h.i.below hb h.i.lt⟩
theorem MR.setP (h : MR w a n cs z W) : MR w a2 n2 cs z (W.setCells w.heap.size 0 [.int .u32 a2, .int .i64 n2]) ∧ Upd (MU w) W (W.setCells w.heap.size 0 [.int .u32 a2, .int .i64 n2]) :=
  ⟨⟨blk_setCells (vs := #[.int .u32 a2, .int .i64 n2]) h.p rfl, blk_far_setCells (by omega) _ _ _ h.v, blk_far_setCells (by omega) _ _ _ h.i⟩, Upd.setCells _ _ _ (Upd.refl _ _) (.inl (.inl rfl))⟩
theorem MR.setV (h : MR w a n cs z W) (he : cs.size = vs.size) : MR w a n vs z (W.setCells (w.heap.size + 1) 0 vs.toList) ∧ Upd (MU w) W (W.setCells (w.heap.size + 1) 0 vs.toList) :=
  ⟨⟨blk_far_setCells (by omega) _ _ _ h.p, blk_setCells h.v he, blk_far_setCells (by omega) _ _ _ h.i⟩, Upd.setCells _ _ _ (Upd.refl _ _) (.inl (.inr (.inl rfl)))⟩
theorem MR.setI (h : MR w a n cs z W) : MR w a n cs z2 (W.setCell ⟨w.heap.size + 1 + 1, 0, none⟩ (.bool z2)) ∧ Upd (MU w) W (W.setCell ⟨w.heap.size + 1 + 1, 0, none⟩ (.bool z2)) :=
  ⟨⟨h.p.far (p := ⟨w.heap.size + 1 + 1, 0, none⟩) (by show w.heap.size ≠ w.heap.size + 1 + 1; omega) _, h.v.far (p := ⟨w.heap.size + 1 + 1, 0, none⟩) (by show w.heap.size + 1 ≠ w.heap.size + 1 + 1; omega) _, h.i.set_ 0 (.bool z2)⟩, (Upd.refl _ _).setCell (p := ⟨w.heap.size + 1 + 1, 0, none⟩) (.inl (.inr (.inr rfl))) _⟩
theorem MR.own {row : Option Nat} (h : MR w a n cs z W) (hg : W.grownBy W' row) (hr : ∀ r, row = some r → ∃ o : Obj, W.heap[r]? = some o ∧ o.isCells = false) : MR w a n cs z W' := ⟨blk_own h.p hg hr, blk_own h.v hg hr, blk_own h.i hg hr⟩
theorem MR.stp (h : MR w a n cs z W) (a2 n2 : Int) : (Instr.storeAt 37 (.pointer (some ⟨w.heap.size, 0, none⟩)) (.agg #[.int .u32 a2, .int .i64 n2])).run Tryz.prog W = .ok () (W.setCells w.heap.size 0 [.int .u32 a2, .int .i64 n2]) := stc_store px_info h.p rfl (vs := #[.int .u32 a2, .int .i64 n2]) rfl (by simp [Value.oneCell'])
theorem MR.stv (h : MR w a n cs z W) (hc : cs.size = 257) (hv : vs.size = 257) (h1 : vs.all (·.oneCell') = true) : (Instr.storeAt 41 (.pointer (some ⟨w.heap.size + 1, 0, none⟩)) (.agg vs)).run Tryz.prog W = .ok () (W.setCells (w.heap.size + 1) 0 vs.toList) := st_wyB h.v hc hv h1
theorem MR.sti (h : MR w a n cs z W) (z2 : Bool) : (Instr.storeAt 4 (.pointer (some ⟨w.heap.size + 1 + 1, 0, none⟩)) (.bool z2)).run Tryz.prog W = .ok () (W.setCell ⟨w.heap.size + 1 + 1, 0, none⟩ (.bool z2)) := st_btN (h.i.cell 0) (h.i.frozen 0) z2
end
structure MI (dc : Int → Array Value) (w : World) (pre : List (Bs × Int)) (W : World) : Prop where
  below : Below w.heap.size w W
  r : MR w (padB (lastE pre).1 : Int) ((lastE pre).1.length : Int) (dc (lastE pre).2) (!pre.isEmpty) W
theorem MI.own {w W W' : World} {pre : List (Bs × Int)} {row : Option Nat} (h : MI dc w pre W) (hg : W.grownBy W' row) (hr : ∀ r, row = some r → w.heap.size ≤ r ∧ ∃ o : Obj, W.heap[r]? = some o ∧ o.isCells = false) : MI dc w pre W' :=
  ⟨h.below.grown hg h.below.size (fun k e => (hr k e).1), h.r.own hg fun r e => (hr r e).2⟩
def MatchPost (dc : Int → Array Value) (w : World) (L : List (Bs × Int)) (e : Ending) (w' : World) : Prop := e = .returned (.tuple #[pxV (padB (lastE L).1) ((lastE L).1.length : Int), .agg (dc (lastE L).2), .bool (!L.isEmpty)]) ∧ Below w.heap.size w w'
set_option maxRecDepth 100000 in
set_option maxHeartbeats 8000000 in
attribute [-go_sem] Instr.storeAt Instr.loadAt Instr.alloc in
theorem match_of (hd : Dc dc) (tv : Value) (a : Nat) (L : List (Bs × Int)) (w : World) (hlen : L.length ≤ 1000000)
    (hC : ∀ W0, Below w.heap.size w W0 → Calls Tryz.prog 111 #[tv, .int .u32 (a : Int)] W0 fun e w1 => ∃ f, e = .returned f ∧ SeqOf dc w1 (fun k => W0.heap.size ≤ k) f L ∧ Below W0.heap.size W0 w1) :
    Calls Tryz.prog 55 #[tv, .int .u32 (a : Int)] w (MatchPost dc w L) := by
  obtain ⟨W0, hW0⟩ : ∃ W0, W0 = ((w.alloc (.cells #[.int .u32 0, .int .i64 0] 37)).alloc (.cells wy0 41)).alloc (.cells #[.bool false] 4) := ⟨_, rfl⟩
  have hB0 : Below w.heap.size w W0 := by rw [hW0]; exact (((Below.refl _ _).alloc (Nat.le_refl _) _).alloc (by simp) _).alloc (by simp; omega) _
  have hz0 : W0.heap.size = w.heap.size + 1 + 1 + 1 := by rw [hW0]; simp
  have hz1 : (w.alloc (.cells #[.int .u32 0, .int .i64 0] 37)).heap.size = w.heap.size + 1 := by simp
  have hz2 : ((w.alloc (.cells #[.int .u32 0, .int .i64 0] 37)).alloc (.cells wy0 41)).heap.size = w.heap.size + 1 + 1 := by simp
  have hmi : MI dc w [] W0 := by
    refine ⟨hB0, ?_, ?_, ?_⟩
    · rw [hW0]; exact ((Blk.new _ _ _).alloc _).alloc _
    · rw [hW0, show (lastE []).2 = 0 from rfl, hd.z]
      have := (Blk.new (w.alloc (.cells #[.int .u32 0, .int .i64 0] 37)) 41 wy0).alloc (.cells #[.bool false] 4)
      rwa [hz1] at this
    · rw [hW0]
      have := Blk.new ((w.alloc (.cells #[.int .u32 0, .int .i64 0] 37)).alloc (.cells wy0 41)) 4 #[.bool false]
      rwa [hz2] at this
  have HC := Lib.hid (hC W0 hB0)
  have HMI := Lib.hid hmi
  have HZ0 := Lib.hid hz0
  have HCL := Lib.hid hlen
  have HW0 := Lib.hid hW0
  have HD := Lib.hid hd
  have a1 := px_alloc
  have a2 := way_alloc
  have a3 := bt_alloc
  clear hB0 hz0 hmi hlen hW0 hC hd
  refine (callsIn_wide (n := 5)).1 ?_
  refine callsIn_of_wp_marks Tryz.func55 rfl trivial ?_ rfl
  simp only [Tryz.ntmps55, List.size_toArray, List.length_cons, List.length_nil, Nat.reduceAdd, Nat.reduceSub, Array.replicate_succ, Array.replicate_zero, List.push_toArray, List.append_toArray, List.nil_append, List.cons_append]
  refine wpIn_wide.2 ?_
  go_upto_region 1 with (fail)
  rw [← HW0.out]
  clear a1 a2 a3 hz1 hz2
  go_wp2_with (go_at_call 111; refine HC.out.mono ?_; rintro e w1 ⟨f, rfl, hsq, hb1⟩; obtain ⟨Bx, rfl, hst⟩ := hsq.fits HD.out HCL.out Fence.wide 4 trivial rfl (by omega); have HST := Lib.hid hst; have HB1 := Lib.hid hb1; clear hsq hst hb1)
  have hm1 : MI dc w [] w1 := ⟨HMI.out.below.trans (HB1.out.mono HMI.out.below.size), HMI.out.r.later HB1.out⟩
  have HM1 := Lib.hid hm1
  have hsz1 : w.heap.size + 1 + 1 + 1 ≤ w1.heap.size := by have := HB1.out.size; have := HZ0.out; omega
  clear hm1
  refine (wpIn_wide (n := 5)).1 ?_
  refine wpIn_range_fit rfl (by omega) (gf := 192) (lb := #[.pointer (some ⟨Bx, 0, none⟩)]) rfl trivial (enters_of Tryz.func192 (by kernel_rfl) rfl) HST.out (fun h k => same_t h k) (fun W l o o' hl h h1 h2 => same_b (w := w1) (fun j hj => hj.2) W l o o' hl h h1 h2) (Below.refl _ _) (fun _ => rfl)
    (fun pre W => MI dc w pre W ∧ w1.heap.size ≤ W.heap.size) (fun _ _ _ => False) (fun s W W' row hs hg hr => ⟨hs.1.own hg (fun r e => ⟨Nat.le_trans (by omega) (hr r e).1, (hr r e).2⟩), Nat.le_trans hs.2 hg.size⟩) (fun _ _ _ _ _ hs _ _ => hs) ⟨HM1.out, Nat.le_refl _⟩
    (fun t pre x a' W => ∃ Bq Bw, w1.heap.size ≤ Bq ∧ w1.heap.size ≤ Bw ∧ Blk W Bq 37 #[.int .u32 (padB x.1 : Int), .int .i64 (x.1.length : Int)] ∧ Blk W Bw 41 (dc x.2) ∧ a' = { tmps := (((t.setIfInBounds 12 (pxV (padB x.1) x.1.length)).setIfInBounds 13 (.agg (dc x.2))).setIfInBounds 7 (.pointer (some ⟨Bq, 0, none⟩))).setIfInBounds 8 (.pointer (some ⟨Bw, 0, none⟩)), defers := [] })
    (fun pre x a' _ W W' row hs hg hr => by obtain ⟨Bq, Bw, g1, g2, h1, h2, h3⟩ := hs; exact ⟨Bq, Bw, g1, g2, blk_own h1 hg fun r e => (hr r e).2, blk_own h2 hg fun r e => (hr r e).2, h3⟩) ?assign ?body ?done ?stop
  case assign =>
    intro l pre x W K hi hfit hsz hK
    obtain ⟨V1, st1, hk1, hb1⟩ := px_copy W (padB x.1 : Int) (x.1.length : Int)
    obtain ⟨V3, st2, hk3, hb3⟩ := wy_copy V1 (dc x.2) (HD.out.sz _) (HD.out.one _)
    have hball : Below W.heap.size W V3 := hb1.trans (hb3.mono hb1.size)
    have hk1' := hk1.below hb3 hk1.lt
    have HBA := Lib.hid hball
    have HK1 := Lib.hid hk1'
    have HK3 := Lib.hid hk3
    have HS1 := Lib.hid hb1.size
    have HI := Lib.hid hi
    have a1 := px_alloc
    have a2 := way_alloc
    clear hb1 hk1 hball hk1' hk3 hb3 hi
    simp only [entV]
    gi_wp2
    refine hK _ _ (keeps_of_below HBA.out) (Same.ofBelow HBA.out fun j hj => Nat.lt_of_lt_of_le hj.2 hsz) ⟨HI.out.1.own (row := none) ⟨HBA.out.os, HBA.out.tape, HBA.out.output, HBA.out.size, fun j hj _ => HBA.out.block j hj⟩ (fun r e => by cases e), Nat.le_trans HI.out.2 HBA.out.size⟩ ⟨W.heap.size, V1.heap.size, hsz, Nat.le_trans hsz HS1.out, HK1.out, HK3.out, rfl⟩
  case body =>
    rintro l pre x a' W hl ⟨rr, hr⟩ ⟨hmi, hws⟩ ⟨Bq, Bw, g1, g2, hq, hy, rfl⟩
    obtain ⟨pa, hpa⟩ : ∃ z : Int, z = (padB x.1 : Int) := ⟨_, rfl⟩
    obtain ⟨pn, hpn⟩ : ∃ z : Int, z = (x.1.length : Int) := ⟨_, rfl⟩
    rw [← hpa, ← hpn] at hq
    have HQ := Lib.hid (And.intro hq hy)
    have HMW := Lib.hid hmi
    have HPA := Lib.hid hpa
    have HPN := Lib.hid hpn
    have hz0 := HZ0.out
    have hb1 := HB1.out.size
    have n1 : Bq ≠ w.heap.size := by omega
    have n2 : Bw ≠ w.heap.size := by omega
    have n3 : Bq ≠ w.heap.size + 1 := by omega
    have n4 : Bw ≠ w.heap.size + 1 := by omega
    have hst1 := HD.out.sz x.2
    have hst2 := HD.out.one x.2
    have hst3 := HD.out.sz (lastE pre).2
    clear hq hy hmi
    simp only [List.setIfInBounds_toArray, List.set_cons_zero, List.set_cons_succ]
    clear hpa hpn
    gi_wp2_with fail
    refine wpIn_region_mix [(true, 2), (false, 3)] 1 (by kernel_rfl) (by kernel_rfl) (fun V => Blk V Bq 37 #[.int .u32 pa, .int .i64 pn] ∧ Blk V Bw 41 (dc x.2)) (fun _ _ h k => ⟨h.1.below k h.1.lt, h.2.below k h.2.lt⟩) (by kernel_rfl) HQ.out (a' := ?_) (fun wz hz => ?_) fun wz hz => ?_
    rotate_left
    · have q0 := fun (dd : Nat) (os : Array Obj) => ld_pxB (hz.1.below (below_regrown wz dd os) hz.1.lt)
      have q1 := fun (dd : Nat) (os : Array Obj) => ld_wyB (hz.2.below (below_regrown wz dd os) hz.2.lt) hst1
      clear hz
      simp only [pick_nil, pick_tt, pick_ft, List.take_succ_cons, List.take_zero, List.drop_succ_cons, List.drop_zero, List.append_nil]
      repeat (go_big_quiet_step (fail))
      refine wpQuiet_nil ?_
      rfl
    simp only [pick_nil, pick_ff, pick_tf, List.take_succ_cons, List.take_zero, List.drop_succ_cons, List.drop_zero, List.append_nil]
    have QZ := Lib.hid (show Blk wz Bq 37 #[.int .u32 pa, .int .i64 pn] ∧ Blk wz Bw 41 (dc x.2) from ⟨HQ.out.1.below hz HQ.out.1.lt, HQ.out.2.below hz HQ.out.2.lt⟩)
    have RZ := Lib.hid (HMW.out.r.later hz)
    have UZ := Lib.hid (Upd.ofBelow hz (MU w))
    clear hz
    refine wpMix_step QZ.out fun wa ha => ?_
    have RA := Lib.hid (RZ.out.later ha)
    have UA := Lib.hid (UZ.out.trans_ (Upd.ofBelow ha (MU w)))
    have QA := Lib.hid (show Blk wa Bq 37 #[.int .u32 pa, .int .i64 pn] ∧ Blk wa Bw 41 (dc x.2) from ⟨QZ.out.1.below ha QZ.out.1.lt, QZ.out.2.below ha QZ.out.2.lt⟩)
    clear ha
    have st := RA.out.stp pa pn
    obtain ⟨wb, hwb⟩ : ∃ Z, Z = wa.setCells w.heap.size 0 [.int .u32 pa, .int .i64 pn] := ⟨_, rfl⟩
    rw [← hwb] at st
    have RB := Lib.hid (show MR w pa pn (dc (lastE pre).2) (!pre.isEmpty) wb by rw [hwb]; exact RA.out.setP.1)
    have UB := Lib.hid (UA.out.trans_ (show Upd (MU w) wa wb by rw [hwb]; exact RA.out.setP.2))
    have QB := Lib.hid (show Blk wb Bq 37 #[.int .u32 pa, .int .i64 pn] ∧ Blk wb Bw 41 (dc x.2) by rw [hwb]; exact ⟨blk_far_setCells n1 _ _ _ QA.out.1, blk_far_setCells n2 _ _ _ QA.out.2⟩)
    clear hwb
    go_wp2_with fail
    clear st
    refine wpMix_step QB.out fun wc hc => ?_
    have RC := Lib.hid (RB.out.later hc)
    have UC := Lib.hid (UB.out.trans_ (Upd.ofBelow hc (MU w)))
    clear hc
    have st := RC.out.stv hst3 hst1 hst2
    obtain ⟨wd, hwd⟩ : ∃ Z, Z = wc.setCells (w.heap.size + 1) 0 (dc x.2).toList := ⟨_, rfl⟩
    rw [← hwd] at st
    have RD := Lib.hid (show MR w pa pn (dc x.2) (!pre.isEmpty) wd by rw [hwd]; exact (RC.out.setV (by rw [hst3, hst1])).1)
    have UD := Lib.hid (UC.out.trans_ (show Upd (MU w) wc wd by rw [hwd]; exact (RC.out.setV (by rw [hst3, hst1])).2))
    clear hwd
    go_wp2_with fail
    clear st
    refine wpMix_plain ?_
    have st := RD.out.sti true
    go_wp2_with fail
    refine And.intro trivial ?_
    have hu := UD.out.trans_ (RD.out.setI (z2 := true)).2
    have hr9 := (RD.out.setI (z2 := true)).1
    have hle : lastE (pre ++ [x]) = x := by simp [lastE]
    refine ⟨keeps_of_cells _ hu fun j hj _ => ?_, hu.same fun j hj hi => ?_, ⟨HMW.out.below.trans (hu.below (fun j hj => by rcases hj with rfl | rfl | rfl <;> omega) HMW.out.below.size), ?_⟩, Nat.le_trans hws hu.size⟩
    · rcases hj with rfl | rfl | rfl
      · exact ⟨_, _, HMW.out.r.p⟩
      · exact ⟨_, _, HMW.out.r.v⟩
      · exact ⟨_, _, HMW.out.r.i⟩
    · have := hi.1
      rcases hj with rfl | rfl | rfl <;> omega
    · rw [hle, ← HPA.out, ← HPN.out, show (!(pre ++ [x]).isEmpty) = true by simp]
      exact hr9
  case done =>
    rintro D ys W hD rfl ⟨hmi, hws⟩ hdef
    obtain ⟨pa, hpa⟩ : ∃ z : Int, z = (padB (lastE ys).1 : Int) := ⟨_, rfl⟩
    obtain ⟨pn, hpn⟩ : ∃ z : Int, z = ((lastE ys).1.length : Int) := ⟨_, rfl⟩
    obtain ⟨cs, hcs⟩ : ∃ z, z = dc (lastE ys).2 := ⟨_, rfl⟩
    obtain ⟨bb, hbb⟩ : ∃ z, z = !ys.isEmpty := ⟨_, rfl⟩
    have HR := Lib.hid (show MR w pa pn cs bb W by rw [hpa, hpn, hcs, hbb]; exact hmi.r)
    have hc1 : cs.size = 257 := by rw [hcs]; exact HD.out.sz _
    have hc2 : cs.all (·.oneCell') = true := by rw [hcs]; exact HD.out.one _
    have HBW := Lib.hid hmi.below
    have HRES := Lib.hid (And.intro hpa (And.intro hpn (And.intro hcs hbb)))
    have HDF := Lib.hid hdef
    clear hmi hdef hpa hpn hcs hbb
    go_wp2_with fail
    refine wp_region_mix [(true, 3), (false, 3)] 2 (by kernel_rfl) (fun V => MR w pa pn cs bb V) (fun _ _ h k => h.later k) (by kernel_rfl) HR.out (a' := ?_) (fun wz hz => ?_) fun wz hz => ?_
    rotate_left
    · have q0 := fun (dd : Nat) (os : Array Obj) => ld_pxB (hz.later (below_regrown wz dd os)).p
      have q1 := fun (dd : Nat) (os : Array Obj) => ld_wyB (hz.later (below_regrown wz dd os)).v hc1
      have q2 := fun (dd : Nat) (os : Array Obj) => ld_btN ((hz.later (below_regrown wz dd os)).i.cell 0)
      clear hz
      simp only [pick_nil, pick_tt, pick_ft, List.take_succ_cons, List.take_zero, List.drop_succ_cons, List.drop_zero, List.append_nil]
      repeat (go_big_quiet_step (fail))
      refine wpQuiet_nil ?_
      rfl
    simp only [pick_nil, pick_ff, pick_tf, List.take_succ_cons, List.take_zero, List.drop_succ_cons, List.drop_zero, List.append_nil]
    have RZ := Lib.hid (HR.out.later hz)
    have UZ := Lib.hid (Upd.ofBelow hz (MU w))
    clear hz
    refine wpMix_step RZ.out fun wa ha => ?_
    have RA := Lib.hid (RZ.out.later ha)
    have UA := Lib.hid (UZ.out.trans_ (Upd.ofBelow ha (MU w)))
    clear ha
    have st := RA.out.stp pa pn
    obtain ⟨wb, hwb⟩ : ∃ Z, Z = wa.setCells w.heap.size 0 [.int .u32 pa, .int .i64 pn] := ⟨_, rfl⟩
    rw [← hwb] at st
    have RB := Lib.hid (show MR w pa pn cs bb wb by rw [hwb]; exact RA.out.setP.1)
    have UB := Lib.hid (UA.out.trans_ (show Upd (MU w) wa wb by rw [hwb]; exact RA.out.setP.2))
    clear hwb
    go_wp2_with fail
    clear st
    refine wpMix_step RB.out fun wc hc => ?_
    have RC := Lib.hid (RB.out.later hc)
    have UC := Lib.hid (UB.out.trans_ (Upd.ofBelow hc (MU w)))
    clear hc
    have st := RC.out.stv hc1 hc1 hc2
    obtain ⟨wd, hwd⟩ : ∃ Z, Z = wc.setCells (w.heap.size + 1) 0 cs.toList := ⟨_, rfl⟩
    rw [← hwd] at st
    have RD := Lib.hid (show MR w pa pn cs bb wd by rw [hwd]; exact (RC.out.setV rfl).1)
    have UD := Lib.hid (UC.out.trans_ (show Upd (MU w) wc wd by rw [hwd]; exact (RC.out.setV rfl).2))
    clear hwd
    go_wp2_with fail
    clear st
    refine wpMix_step RD.out fun we he => ?_
    have RE := Lib.hid (RD.out.later he)
    have UE := Lib.hid (UD.out.trans_ (Upd.ofBelow he (MU w)))
    clear he
    have st := RE.out.sti bb
    go_wp2_with fail
    refine wpMix_plain ?_
    go_wp2_with fail
    have hu := UE.out.trans_ (RE.out.setI (z2 := bb)).2
    have hr9 := (RE.out.setI (z2 := bb)).1
    generalize we.setCell ⟨w.heap.size + 1 + 1, 0, none⟩ (.bool bb) = w9 at hu hr9 ⊢
    have hz0 := HZ0.out
    have hb1 := HB1.out.size
    have hDl : D < W.heap.size := (Array.getElem?_eq_some_iff.1 HDF.out).1
    have hk9 : w9.heap[D]? = some (.deferred (some [])) := (hu.block D hDl (fun h => by rcases h with h | h | h <;> omega)).trans HDF.out
    have hno : ∀ r, some D = some r → ∃ o : Obj, w9.heap[r]? = some o ∧ o.isCells = false := fun r e => by cases e; exact ⟨_, hk9, rfl⟩
    have jr := hr9.own (grownBy_putObj' w9 D (.deferred none)) hno
    have hB9 := HBW.out.trans (hu.below (fun k hk => by rcases hk with rfl | rfl | rfl <;> omega) HBW.out.size)
    have hBz := hB9.trans (belowK_b (w := w) (Nat.le_refl _) w9 D _ (.deferred none) (by omega) hk9 rfl rfl)
    refine ⟨by simp, .inl ⟨_, _, rfl, run_takeDeferred hk9, ?_⟩⟩
    refine ⟨_, res_match rfl _ rfl rfl rfl jr.p jr.v hc1 jr.i, ?_, hBz⟩
    obtain ⟨e1, e2, e3, e4⟩ := HRES.out
    rw [e1, e2, e3, e4]
  case stop =>
    rintro D c pre W hD _ h
    exact h.elim
theorem match_any (hd : Dc dc) (a tb : Nat) (M : Nat → Prop) (limit : Int) (T : TT) (w : World) (h : IsTr dc w M tb limit T) (ha : a < 2 ^ 32) (hsm : T.list.length ≤ 1000000) :
    Calls Tryz.prog 55 #[.pointer (some ⟨tb, 0, none⟩), .int .u32 (a : Int)] w (MatchPost dc w (T.cov (bitsB a 32))) :=
  match_of hd _ a _ w (Nat.le_trans (cov_len T (bitsB a 32)) hsm) fun W0 hB0 => covers_any hd a tb M limit T W0 (h.keep ⟨hB0.size, fun k hm _ => hB0.block k (h.lt k hm)⟩) ha hsm
end Go.Proofs.YthlommalbkhcjaaGreat
namespace Go.Proofs.YthlommalbkhcjaaGreat
open Go.RowKit Go.Sort Go.BigFrame
variable {dc : Int → Array Value}
theorem new_any (limit : Int) (w : World) : Calls Tryz.prog 47 #[.int .i64 limit] w fun e w' => e = .returned (.pointer (some ⟨w.heap.size, 0, none⟩)) ∧ w' = w.alloc (.cells #[.pointer none, .int .i64 (max 0 limit), .int .i64 0, .bool true] 184) := by
  go_enter Tryz.func47, Tryz.ntmps47
  go_wp2
  go_ret
  exact ⟨rfl, rfl⟩
end Go.Proofs.YthlommalbkhcjaaGreat
