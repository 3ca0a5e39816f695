/- guidepostref14.Way; law14's num. -/
import Derived.Test.YthlommalbkhcjaaFuC
import Derived.Test.YthlommalbkhcjaaSaU
namespace Go.Proofs.Ythlommalbkhcjaa
open Go.RowKit Go.Sort
theorem res_cell1 {w : World} {g k : Nat} {cs : Array Value} {t : TypeId} {d : TypeDesc} (hu : Try.prog.underlying t = some d) (hd : d.isRow = true) (hi : (Try.prog.info? t).map (·.size) = some k) {fn : Func} {p : Tmp} (hf : fn.results = #[.cell p t]) (tmps : Array Value) (hp : tmps.getD p undef = .pointer (some ⟨g, 0, none⟩)) (h : Blk w g t cs) (hc : cs.size = k) :
    (results fn tmps).run Try.prog w = .ok (.agg cs) w := by
  have hl := stc_loadVar hu hd hi h hc
  have e1 : tmps[p]?.getD undef = .pointer (some ⟨g, 0, none⟩) := by simpa using hp
  simp only [results, hf]
  simp [e1, asAddr, hl]
theorem num14_any (n : Int) (w : World) : Calls Try.prog 11 #[.int .i64 n] w fun e w' => e = .returned (.int .i64 n) ∧ w = w' := by
  go_enter Try.func11, Try.ntmps11
  go_wp2_with fail
  go_ret
  exact ⟨rfl, rfl⟩
theorem bd_way1 (w : World) (k : Int) : (Instr.build 33 #[(0, .int .i64 k)]).run Try.prog w = .ok (.agg (wyC k zs0)) w := by kernel_rfl
theorem bd_way2' (w : World) (k : Int) (f : Nat → Value) : (Instr.build 33 #[(0, .int .i64 k), (1, .agg ((List.range 256).map f).toArray)]).run Try.prog w = .ok (.agg ([Value.int .i64 k] ++ ((List.range 256).map f).toArray.toList).toArray) w := by kernel_rfl
theorem bd_way2 (w : World) (k : Int) (zs : List Int) (h : zs.length = 256) : (Instr.build 33 #[(0, .int .i64 k), (1, .agg (arrV zs))]).run Try.prog w = .ok (.agg (wyC k zs)) w := by
  have e : arrV zs = ((List.range 256).map fun i => (arrV zs).getD i undef).toArray := by
    apply Array.ext
    · simp [arrV_size, h]
    · intro i h1 h2
      simp [h1]
  unfold wyC
  rw [e]
  exact bd_way2' w k _
set_option maxRecDepth 20000 in
set_option maxHeartbeats 8000000 in
attribute [-go_sem] Instr.storeAt Instr.loadAt Instr.alloc Instr.build in
theorem rway_any (r : Rt) (w : World) (h : RtOk w (fun k => k < w.heap.size) r) (hmr : mayR r = true) : Calls Try.prog 12 #[rtV r] w fun e w' => e = .returned (.agg (wayC (wayR r))) ∧ Below w.heap.size w w' := by
  obtain ⟨W0, hW0⟩ : ∃ Z, Z = (w.alloc (.cells #[.int .u32 (r.a : Int), .int .i64 r.m, .bool r.own, .bool r.tk, .int .i64 r.d, .slice r.A r.n r.c] 28)).alloc (.cells wy0 33) := ⟨_, rfl⟩
  have hz1 : (w.alloc (.cells #[.int .u32 (r.a : Int), .int .i64 r.m, .bool r.own, .bool r.tk, .int .i64 r.d, .slice r.A r.n r.c] 28)).heap.size = w.heap.size + 1 := by simp
  have hE : EnW w r wy0 W0 := by
    rw [hW0]
    refine ⟨(Blk.new w _ _).alloc _, ?_, ((Below.refl _ _).alloc (Nat.le_refl _) _).alloc (by simp) _⟩
    have := Blk.new (w.alloc (.cells #[.int .u32 (r.a : Int), .int .i64 r.m, .bool r.own, .bool r.tk, .int .i64 r.d, .slice r.A r.n r.c] 28)) 33 wy0
    rwa [hz1] at this
  have HE := Lib.hid hE
  have HW0 := Lib.hid hW0
  have HOK := Lib.hid h
  have lo := ld_btN (hE.x.cell 2)
  have lt := ld_btN (hE.x.cell 3)
  have ln := ld_nxs (hE.x.cell 5)
  have hal := way_alloc
  have HMR := Lib.hid hmr
  clear hE hW0 h hmr
  go_enter Try.func12, Try.ntmps12
  unfold rtV
  go_upto_region 1 with (fail)
  rw [← HW0.out]
  clear hal hz1
  by_cases how : r.own = true
  · have HWR := Lib.hid (show wayR r = (1, zs0) by unfold wayR; rw [if_pos how])
    have bd := fun (wx : World) => bd_way1 wx 1
    have st := st_wyB (vs := wyC 1 zs0) HE.out.v wy0_size (wyC_size zs0_len) (wyC_one _ _)
    rw [how] at lo
    go_wp2_with fail
    have hk9 := blk_setCells HE.out.v (show wy0.size = (wyC 1 zs0).size by rw [wy0_size, wyC_size zs0_len])
    refine bodyPost_ret_by (res_cell1 Try.underlying33 rfl wy_info rfl _ rfl hk9 (wyC_size zs0_len)) rfl ?_
    exact ⟨by rw [HWR.out]; rfl, below_setCells (Nat.le_succ _) _ _ _ HE.out.b⟩
  · have how' : r.own = false := by simpa using how
    rw [how'] at lo
    by_cases h2 : r.tk = false ∨ r.n = 0
    · have HWR := Lib.hid (show wayR r = (2, zs0) by unfold wayR; rw [if_neg how, if_pos h2])
      have bd := fun (wx : World) => bd_way1 wx 2
      have st := st_wyB (vs := wyC 2 zs0) HE.out.v wy0_size (wyC_size zs0_len) (wyC_one _ _)
      by_cases htk : r.tk = false
      · rw [htk] at lt
        go_wp2_with fail
        have hk9 := blk_setCells HE.out.v (show wy0.size = (wyC 2 zs0).size by rw [wy0_size, wyC_size zs0_len])
        refine bodyPost_ret_by (res_cell1 Try.underlying33 rfl wy_info rfl _ rfl hk9 (wyC_size zs0_len)) rfl ?_
        exact ⟨by rw [HWR.out]; rfl, below_setCells (Nat.le_succ _) _ _ _ HE.out.b⟩
      · have htk' : r.tk = true := by simpa using htk
        rw [htk'] at lt
        rw [h2.resolve_left htk] at ln
        go_wp2_with fail
        have hk9 := blk_setCells HE.out.v (show wy0.size = (wyC 2 zs0).size by rw [wy0_size, wyC_size zs0_len])
        refine bodyPost_ret_by (res_cell1 Try.underlying33 rfl wy_info rfl _ rfl hk9 (wyC_size zs0_len)) rfl ?_
        exact ⟨by rw [HWR.out]; rfl, below_setCells (Nat.le_succ _) _ _ _ HE.out.b⟩
    · have htk : ¬ r.tk = false := fun e => h2 (.inl e)
      have hn : ¬ r.n = 0 := fun e => h2 (.inr e)
      have htk' : r.tk = true := by simpa using htk
      have HWR := Lib.hid (show wayR r = (3, tableF r.nx) by unfold wayR; rw [if_neg how, if_neg h2])
      have hmf : mayF r.nx = true := by
        have hmr := HMR.out
        unfold mayR at hmr
        rw [decide_eq_false hn] at hmr
        simp at hmr
        exact hmr.2
      have hn1 : ((r.n : Int) == 0) = false := beq_eq_false_iff_ne.2 (by omega)
      have HTB := Lib.hid (rtable_any r.A r.n r.c r.nx (fun k => k < w.heap.size) W0 (HOK.out.rd.keep (Same.ofBelow HE.out.b fun k hk => hk)) HOK.out.l hmf)
      have htl := table_len hmf
      have bd := fun (wx : World) => bd_way2 wx 3 (tableF r.nx) htl
      rw [htk'] at lt
      go_wp2_with fail
      refine HTB.out.mono ?_
      rintro e w3 ⟨rfl, hb3⟩
      have hv3 := HE.out.v.below hb3 HE.out.v.lt
      have st := st_wyB (vs := wyC 3 (tableF r.nx)) hv3 wy0_size (wyC_size htl) (wyC_one _ _)
      have HV3 := Lib.hid hv3
      have HB3 := Lib.hid (HE.out.b.trans (hb3.mono HE.out.b.size))
      clear hb3 hv3
      go_wp2_with fail
      have hk9 := blk_setCells HV3.out (show wy0.size = (wyC 3 (tableF r.nx)).size by rw [wy0_size, wyC_size htl])
      refine bodyPost_ret_by (res_cell1 Try.underlying33 rfl wy_info rfl _ rfl hk9 (wyC_size htl)) rfl ?_
      exact ⟨by rw [HWR.out]; rfl, below_setCells (Nat.le_succ _) _ _ _ HB3.out⟩
end Go.Proofs.Ythlommalbkhcjaa
