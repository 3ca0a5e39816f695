/- fib.Entry. -/
import Derived.Test.YthlommalbkhcjaaGreatFuB
import Derived.Test.YthlommalbkhcjaaGreatSaT
namespace Go.Proofs.YthlommalbkhcjaaGreat
open Go.RowKit Go.Sort
/-- A way's cells. -/
def wyC (k : Int) (zs : List Int) : Array Value := ([Value.int .i64 k] ++ (arrV zs).toList).toArray
theorem wyC_size {k : Int} {zs : List Int} (h : zs.length = 256) : (wyC k zs).size = 257 := by
  unfold wyC
  simp [arrV_size, h]
theorem wyC_one (k : Int) (zs : List Int) : (wyC k zs).all (·.oneCell') = true := by
  rw [← Array.all_toList]
  show (([Value.int .i64 k] ++ (arrV zs).toList).all fun x => x.oneCell') = true
  have := arrV_one zs
  rw [← Array.all_toList] at this
  rw [List.all_append, this]
  rfl
theorem wyC_zero : wyC 0 zs0 = wy0 := by kernel_rfl
theorem wyC_setK (k k2 : Int) (zs : List Int) : (wyC k zs).setIfInBounds 0 (.int .i64 k2) = wyC k2 zs := by
  unfold wyC
  rw [List.setIfInBounds_toArray]
  rfl
theorem zs0_len : zs0.length = 256 := by unfold zs0; rw [List.length_replicate]
theorem wy0_k : wy0[0]? = some (.int .i64 0) := by kernel_rfl
/-- A route's way: what becomes of a packet, and the ports of the buckets. -/
def wayR (r : Rt) : Int × List Int := if r.own = true then (1, zs0) else if r.tk = false ∨ r.n = 0 then (2, zs0) else (3, tableF r.nx)
def wayC (w : Int × List Int) : Array Value := wyC w.1 w.2
theorem rt_info : (Tryz.prog.info? 54).map (·.size) = some 6 := by kernel_rfl
section
variable {w : World} {b : Nat}
theorem ld_rt {r : Rt} (h : Blk w b 54 #[.int .u32 (r.a : Int), .int .i64 r.m, .bool r.own, .bool r.tk, .int .i64 r.d, .slice r.A r.n r.c]) : (Instr.loadAt 54 (.pointer (some ⟨b, 0, none⟩))).run Tryz.prog w = .ok (rtV r) w := stc_load Tryz.underlying54 rfl rt_info h rfl
theorem ld_nxs {o : Nat} {A : Option Addr} {n c : Nat} (h : w.cell? ⟨b, o, none⟩ = some (.slice A n c)) : (Instr.loadAt 52 (.pointer (some ⟨b, o, none⟩))).run Tryz.prog w = .ok (.slice A n c) w := by simp [go_sem, h]
theorem st_kd {u : Value} (h : w.cell? ⟨b, 0, none⟩ = some u) (hf : w.frozen? ⟨b, 0, none⟩ = false) (z : Int) : (Instr.storeAt 38 (.pointer (some ⟨b, 0, none⟩)) (.int .i64 z)).run Tryz.prog w = .ok () (w.setCell ⟨b, 0, none⟩ (.int .i64 z)) := by simp [go_sem, h, hf]
/-- The buckets of a way are stored. -/
theorem st_bk {k : Int} {zs ys : List Int} (h : Blk w b 41 (wyC k zs)) (hz : zs.length = 256) (hy : ys.length = 256) : (Instr.storeAt 39 (.pointer (some ⟨b, 1, none⟩)) (.agg (arrV ys))).run Tryz.prog w = .ok () (w.setCells b 1 (arrV ys).toList) ∧ Blk (w.setCells b 1 (arrV ys).toList) b 41 (wyC k ys) := by
  have hsz := wyC_size (k := k) hz
  refine ⟨run_storeAt_mid w b 1 _ (arrV ys) (fun j hj => ⟨?_, h.frozen _⟩) (by rw [arrV_size, hy]; exact arr_info) (arrV_one ys), ?_⟩
  · rw [arrV_size, hy] at hj
    rw [h.cell, Array.getElem?_eq_getElem (by omega)]
    rfl
  · have := blk_setCells_mid (post := []) (arrV ys).toList [Value.int .i64 k] (arrV zs).toList w (by simp [arrV_size, hz, hy]) (by rw [List.append_nil]; exact h)
    rw [List.append_nil] at this
    exact this
end
/-- Entry's own blocks. -/
structure EnW (w : World) (r : Rt) (cs : Array Value) (wx : World) : Prop where
  x : Blk wx w.heap.size 54 #[.int .u32 (r.a : Int), .int .i64 r.m, .bool r.own, .bool r.tk, .int .i64 r.d, .slice r.A r.n r.c]
  v : Blk wx (w.heap.size + 1) 41 cs
  b : Below w.heap.size w wx
theorem EnW.later {w : World} {r : Rt} {cs : Array Value} {wx wy : World} (h : EnW w r cs wx) (hb : Below wx.heap.size wx wy) : EnW w r cs wy := ⟨h.x.below hb h.x.lt, h.v.below hb h.v.lt, h.b.trans (hb.mono h.b.size)⟩
def EntPost (w : World) (r : Rt) (e : Ending) (w' : World) : Prop := e = .returned (if mayR r = true then .tuple #[.agg (wayC (wayR r)), .int .i64 0] else .tuple #[.agg wy0, .int .i64 2]) ∧ Below w.heap.size w w'
set_option maxRecDepth 20000 in
set_option maxHeartbeats 8000000 in
attribute [-go_sem] Instr.storeAt Instr.loadAt Instr.alloc in
theorem entry_any (r : Rt) (w : World) (h : RtOk w (fun k => k < w.heap.size) r) : Calls Tryz.prog 48 #[rtV r] w (EntPost w r) := by
  obtain ⟨W0, hW0⟩ : ∃ Z, Z = (w.alloc (.cells #[.int .u32 (r.a : Int), .int .i64 r.m, .bool r.own, .bool r.tk, .int .i64 r.d, .slice r.A r.n r.c] 54)).alloc (.cells wy0 41) := ⟨_, rfl⟩
  have hz1 : (w.alloc (.cells #[.int .u32 (r.a : Int), .int .i64 r.m, .bool r.own, .bool r.tk, .int .i64 r.d, .slice r.A r.n r.c] 54)).heap.size = w.heap.size + 1 := by simp
  have hE : EnW w r wy0 W0 := by
    rw [hW0]
    refine ⟨(Blk.new w _ _).alloc _, ?_, ((Below.refl _ _).alloc (Nat.le_refl _) _).alloc (by simp) _⟩
    have := Blk.new (w.alloc (.cells #[.int .u32 (r.a : Int), .int .i64 r.m, .bool r.own, .bool r.tk, .int .i64 r.d, .slice r.A r.n r.c] 54)) 41 wy0
    rwa [hz1] at this
  have HMY := Lib.hid (fmay_any r W0 ((h.keep (Same.ofBelow hE.b fun k hk => hk)).mono fun k hk => Nat.lt_of_lt_of_le hk hE.b.size))
  have HE := Lib.hid hE
  have HW0 := Lib.hid hW0
  have HOK := Lib.hid h
  have lr := ld_rt hE.x
  have hal := way_alloc
  clear hE hW0 h
  go_enter Tryz.func48, Tryz.ntmps48
  unfold rtV
  go_upto_region 3 with (fail)
  rw [← HW0.out]
  clear hal hz1
  cases hmr : mayR r with
  | false =>
    rw [hmr] at HMY
    go_wp2_with (go_at_call 101; refine HMY.out.mono ?_; rintro e w1 ⟨rfl, hb1⟩; have HE1 := Lib.hid (HE.out.later hb1); have lv := ld_wyB HE1.out.v wy0_size; have st := st_wyB HE1.out.v wy0_size wy0_size wy0_one; clear hb1)
    have hk9 := blk_setCells HE1.out.v (show wy0.size = wy0.size from rfl)
    refine bodyPost_ret_by (res_cell2 Tryz.underlying41 rfl wy_info rfl _ rfl hk9 wy0_size) rfl ?_
    exact ⟨by rw [hmr]; rfl, below_setCells (Nat.le_succ _) _ _ _ HE1.out.b⟩
  | true =>
    rw [hmr] at HMY
    by_cases how : r.own = true
    · have HWR := Lib.hid (show wayR r = (1, zs0) by unfold wayR; rw [if_pos how])
      go_wp2_with fail
      refine HMY.out.mono ?_
      rintro e w1 ⟨rfl, hb1⟩
      have HE1 := Lib.hid (HE.out.later hb1)
      have lo := ld_btN (HE1.out.x.cell 2)
      have lt := ld_btN (HE1.out.x.cell 3)
      have ln := ld_nxs (HE1.out.x.cell 5)
      have sk := st_kd (HE1.out.v.cell 0 |>.trans wy0_k) (HE1.out.v.frozen 0) 1
      have hk2 := HE1.out.v.set_ 0 (.int .i64 1)
      rw [← wyC_zero, wyC_setK] at hk2
      have HK2 := Lib.hid hk2
      rw [how] at lo
      have lv := ld_wyB hk2 (wyC_size zs0_len)
      have st := st_wyB (vs := wyC 1 zs0) hk2 (wyC_size zs0_len) (wyC_size zs0_len) (wyC_one _ _)
      clear hb1 hk2
      go_wp2_with fail
      have hk9 := blk_setCells HK2.out (show (wyC 1 zs0).size = (wyC 1 zs0).size from rfl)
      refine bodyPost_ret_by (res_cell2 Tryz.underlying41 rfl wy_info rfl _ rfl hk9 (wyC_size zs0_len)) rfl ?_
      exact ⟨by rw [hmr, HWR.out]; rfl, below_setCells (Nat.le_succ _) _ _ _ (HE1.out.b.setCell (p := ⟨w.heap.size + 1, 0, none⟩) (Nat.le_succ _) _)⟩
    · have how' : r.own = false := by simpa using how
      by_cases htk : r.tk = false
      · have HWR := Lib.hid (show wayR r = (2, zs0) by unfold wayR; rw [if_neg how, if_pos (.inl htk)])
        go_wp2_with fail
        refine HMY.out.mono ?_
        rintro e w1 ⟨rfl, hb1⟩
        have HE1 := Lib.hid (HE.out.later hb1)
        have lo := ld_btN (HE1.out.x.cell 2)
        have lt := ld_btN (HE1.out.x.cell 3)
        have ln := ld_nxs (HE1.out.x.cell 5)
        have sk := st_kd (HE1.out.v.cell 0 |>.trans wy0_k) (HE1.out.v.frozen 0) 2
        have hk2 := HE1.out.v.set_ 0 (.int .i64 2)
        rw [← wyC_zero, wyC_setK] at hk2
        have HK2 := Lib.hid hk2
        rw [how'] at lo
        rw [htk] at lt
        have lv := ld_wyB hk2 (wyC_size zs0_len)
        have st := st_wyB (vs := wyC 2 zs0) hk2 (wyC_size zs0_len) (wyC_size zs0_len) (wyC_one _ _)
        clear hb1 hk2
        go_wp2_with fail
        have hk9 := blk_setCells HK2.out (show (wyC 2 zs0).size = (wyC 2 zs0).size from rfl)
        refine bodyPost_ret_by (res_cell2 Tryz.underlying41 rfl wy_info rfl _ rfl hk9 (wyC_size zs0_len)) rfl ?_
        exact ⟨by rw [hmr, HWR.out]; rfl, below_setCells (Nat.le_succ _) _ _ _ (HE1.out.b.setCell (p := ⟨w.heap.size + 1, 0, none⟩) (Nat.le_succ _) _)⟩
      · have htk' : r.tk = true := by simpa using htk
        by_cases hn : r.n = 0
        · have HWR := Lib.hid (show wayR r = (2, zs0) by unfold wayR; rw [if_neg how, if_pos (.inr hn)])
          go_wp2_with fail
          refine HMY.out.mono ?_
          rintro e w1 ⟨rfl, hb1⟩
          have HE1 := Lib.hid (HE.out.later hb1)
          have lo := ld_btN (HE1.out.x.cell 2)
          have lt := ld_btN (HE1.out.x.cell 3)
          have ln := ld_nxs (HE1.out.x.cell 5)
          have sk := st_kd (HE1.out.v.cell 0 |>.trans wy0_k) (HE1.out.v.frozen 0) 2
          have hk2 := HE1.out.v.set_ 0 (.int .i64 2)
          rw [← wyC_zero, wyC_setK] at hk2
          have HK2 := Lib.hid hk2
          rw [how'] at lo
          rw [htk'] at lt
          rw [hn] at ln
          have lv := ld_wyB hk2 (wyC_size zs0_len)
          have st := st_wyB (vs := wyC 2 zs0) hk2 (wyC_size zs0_len) (wyC_size zs0_len) (wyC_one _ _)
          clear hb1 hk2
          go_wp2_with fail
          have hk9 := blk_setCells HK2.out (show (wyC 2 zs0).size = (wyC 2 zs0).size from rfl)
          refine bodyPost_ret_by (res_cell2 Tryz.underlying41 rfl wy_info rfl _ rfl hk9 (wyC_size zs0_len)) rfl ?_
          exact ⟨by rw [hmr, HWR.out]; rfl, below_setCells (Nat.le_succ _) _ _ _ (HE1.out.b.setCell (p := ⟨w.heap.size + 1, 0, none⟩) (Nat.le_succ _) _)⟩
        · have HWR := Lib.hid (show wayR r = (3, tableF r.nx) by unfold wayR; rw [if_neg how, if_neg (by rintro (e | e); exact htk e; exact hn e)])
          have hmf : mayF r.nx = true := by
            unfold mayR at hmr
            rw [decide_eq_false hn] at hmr
            simp at hmr
            exact hmr.2
          have hn1 : ((r.n : Int) == 0) = false := beq_eq_false_iff_ne.2 (by omega)
          have HBK := Lib.hid (fun (wx : World) (hb : Below w.heap.size w wx) => buckets_yes r.A r.n r.c r.nx (fun k => k < w.heap.size) wx (HOK.out.rd.keep (Same.ofBelow hb fun k hk => hk)) HOK.out.l hmf)
          have htl := table_len hmf
          go_wp2_with fail
          refine HMY.out.mono ?_
          rintro e w1 ⟨rfl, hb1⟩
          have HE1 := Lib.hid (HE.out.later hb1)
          have lo := ld_btN (HE1.out.x.cell 2)
          have lt := ld_btN (HE1.out.x.cell 3)
          have ln := ld_nxs (HE1.out.x.cell 5)
          have sk := st_kd (HE1.out.v.cell 0 |>.trans wy0_k) (HE1.out.v.frozen 0) 3
          have hk2 := HE1.out.v.set_ 0 (.int .i64 3)
          rw [← wyC_zero, wyC_setK] at hk2
          have HK2 := Lib.hid hk2
          rw [how'] at lo
          rw [htk'] at lt
          have HB2 := Lib.hid (HE1.out.b.setCell (p := ⟨w.heap.size + 1, 0, none⟩) (Nat.le_succ _) (.int .i64 3))
          have HX2 := Lib.hid (HE1.out.x.far (p := ⟨w.heap.size + 1, 0, none⟩) (Nat.ne_of_lt (Nat.lt_succ_self _)) (.int .i64 3))
          have l2 := ld_nxs (HX2.out.cell 5)
          clear hb1 hk2
          go_wp2_with (first
            | (go_at_call 102; refine (HBK.out _ HB2.out).mono ?_; rintro e w3 ⟨rfl, hb3⟩; have HB3 := Lib.hid (HB2.out.trans (hb3.mono HB2.out.size)); obtain ⟨sb, hk4⟩ := st_bk (HK2.out.below hb3 HK2.out.lt) zs0_len htl; have lv := ld_wyB hk4 (wyC_size htl); have st := st_wyB (vs := wyC 3 (tableF r.nx)) hk4 (wyC_size htl) (wyC_size htl) (wyC_one _ _); have HK4 := Lib.hid hk4; clear hb3 hk4))
          have hk9 := blk_setCells HK4.out (show (wyC 3 (tableF r.nx)).size = (wyC 3 (tableF r.nx)).size from rfl)
          refine bodyPost_ret_by (res_cell2 Tryz.underlying41 rfl wy_info rfl _ rfl hk9 (wyC_size htl)) rfl ?_
          exact ⟨by rw [hmr, HWR.out]; rfl, below_setCells (Nat.le_succ _) _ _ _ (below_setCells (Nat.le_succ _) _ _ _ HB3.out)⟩
end Go.Proofs.YthlommalbkhcjaaGreat
