/- Tries of ways: place. -/
import Derived.Test.YthlommalbkhcjaaGreatNl22
import Derived.Test.YthlommalbkhcjaaGreatNl24
import Derived.Test.YthlommalbkhcjaaGreatNl19
import Derived.Deep.LoopGhost
import Derived.WalkMore
import Derived.Lib.QuietBelow
import Derived.Outline
namespace Go.Proofs.YthlommalbkhcjaaGreat
open Go.RowKit Go.Sort
def wyC (k : Int) (zs : List Int) : Array Value := ([Value.int .i64 k] ++ (arrV zs).toList).toArray
theorem wyC_size {k : Int} {zs : List Int} (h : zs.length = 256) : (wyC k zs).size = 257 := by
  unfold wyC
  simp [arrV_size, h]
theorem wyC_one (k : Int) (zs : List Int) : (wyC k zs).all (·.oneCell') = true := by
  rw [← Array.all_toList]
  show (([Value.int .i64 k] ++ (arrV zs).toList).all fun x => x.oneCell') = true
  have := arrV_one zs
  rw [← Array.all_toList] at this
  rw [List.all_append, this]
  rfl
theorem wyC_zero : wyC 0 zs0 = wy0 := by kernel_rfl
theorem wyC_setK (k k2 : Int) (zs : List Int) : (wyC k zs).setIfInBounds 0 (.int .i64 k2) = wyC k2 zs := by
  unfold wyC
  rw [List.setIfInBounds_toArray]
  rfl
theorem zs0_len : zs0.length = 256 := by unfold zs0; rw [List.length_replicate]
theorem wy0_k : wy0[0]? = some (.int .i64 0) := by kernel_rfl
def wayR (r : Rt) : Int × List Int := if r.own = true then (1, zs0) else if r.tk = false ∨ r.n = 0 then (2, zs0) else (3, tableF r.nx)
def wayC (w : Int × List Int) : Array Value := wyC w.1 w.2
theorem rt_info : (Tryz.prog.info? 54).map (·.size) = some 6 := by kernel_rfl
section
variable {w : World} {b : Nat}
theorem ld_rt {r : Rt} (h : Blk w b 54 #[.int .u32 (r.a : Int), .int .i64 r.m, .bool r.own, .bool r.tk, .int .i64 r.d, .slice r.A r.n r.c]) : (Instr.loadAt 54 (.pointer (some ⟨b, 0, none⟩))).run Tryz.prog w = .ok (rtV r) w := stc_load Tryz.underlying54 rfl rt_info h rfl
theorem ld_nxs {o : Nat} {A : Option Addr} {n c : Nat} (h : w.cell? ⟨b, o, none⟩ = some (.slice A n c)) : (Instr.loadAt 52 (.pointer (some ⟨b, o, none⟩))).run Tryz.prog w = .ok (.slice A n c) w := by simp [go_sem, h]
theorem st_kd {u : Value} (h : w.cell? ⟨b, 0, none⟩ = some u) (hf : w.frozen? ⟨b, 0, none⟩ = false) (z : Int) : (Instr.storeAt 38 (.pointer (some ⟨b, 0, none⟩)) (.int .i64 z)).run Tryz.prog w = .ok () (w.setCell ⟨b, 0, none⟩ (.int .i64 z)) := by simp [go_sem, h, hf]
theorem st_bk {k : Int} {zs ys : List Int} (h : Blk w b 41 (wyC k zs)) (hz : zs.length = 256) (hy : ys.length = 256) : (Instr.storeAt 39 (.pointer (some ⟨b, 1, none⟩)) (.agg (arrV ys))).run Tryz.prog w = .ok () (w.setCells b 1 (arrV ys).toList) ∧ Blk (w.setCells b 1 (arrV ys).toList) b 41 (wyC k ys) := by
  have hsz := wyC_size (k := k) hz
  refine ⟨run_storeAt_mid w b 1 _ (arrV ys) (fun j hj => ⟨?_, h.frozen _⟩) (by rw [arrV_size, hy]; exact arr_info) (arrV_one ys), ?_⟩
  · rw [arrV_size, hy] at hj
    rw [h.cell, Array.getElem?_eq_getElem (by omega)]
    rfl
  · have := blk_setCells_mid (post := []) (arrV ys).toList [Value.int .i64 k] (arrV zs).toList w (by simp [arrV_size, hz, hy]) (by rw [List.append_nil]; exact h)
    rw [List.append_nil] at this
    exact this
end
structure EnW (w : World) (r : Rt) (cs : Array Value) (wx : World) : Prop where
  x : Blk wx w.heap.size 54 #[.int .u32 (r.a : Int), .int .i64 r.m, .bool r.own, .bool r.tk, .int .i64 r.d, .slice r.A r.n r.c]
  v : Blk wx (w.heap.size + 1) 41 cs
  b : Below w.heap.size w wx
theorem EnW.later {w : World} {r : Rt} {cs : Array Value} {wx wy : World} (h : EnW w r cs wx) (hb : Below wx.heap.size wx wy) : EnW w r cs wy := ⟨h.x.below hb h.x.lt, h.v.below hb h.v.lt, h.b.trans (hb.mono h.b.size)⟩
def EntPost (w : World) (r : Rt) (e : Ending) (w' : World) : Prop := e = .returned (if mayR r = true then .tuple #[.agg (wayC (wayR r)), .int .i64 0] else .tuple #[.agg wy0, .int .i64 2]) ∧ Below w.heap.size w w'
set_option maxRecDepth 20000 in
set_option maxHeartbeats 8000000 in
attribute [-go_sem] Instr.storeAt Instr.loadAt Instr.alloc in
theorem entry_any (r : Rt) (w : World) (h : RtOk w (fun k => k < w.heap.size) r) : Calls Tryz.prog 48 #[rtV r] w (EntPost w r) := by
  obtain ⟨W0, hW0⟩ : ∃ Z, Z = (w.alloc (.cells #[.int .u32 (r.a : Int), .int .i64 r.m, .bool r.own, .bool r.tk, .int .i64 r.d, .slice r.A r.n r.c] 54)).alloc (.cells wy0 41) := ⟨_, rfl⟩
  have hz1 : (w.alloc (.cells #[.int .u32 (r.a : Int), .int .i64 r.m, .bool r.own, .bool r.tk, .int .i64 r.d, .slice r.A r.n r.c] 54)).heap.size = w.heap.size + 1 := by simp
  have hE : EnW w r wy0 W0 := by
    rw [hW0]
    refine ⟨(Blk.new w _ _).alloc _, ?_, ((Below.refl _ _).alloc (Nat.le_refl _) _).alloc (by simp) _⟩
    have := Blk.new (w.alloc (.cells #[.int .u32 (r.a : Int), .int .i64 r.m, .bool r.own, .bool r.tk, .int .i64 r.d, .slice r.A r.n r.c] 54)) 41 wy0
    rwa [hz1] at this
  have HMY := Lib.hid (fmay_any r W0 ((h.keep (Same.ofBelow hE.b fun k hk => hk)).mono fun k hk => Nat.lt_of_lt_of_le hk hE.b.size))
  have HE := Lib.hid hE
  have HW0 := Lib.hid hW0
  have HOK := Lib.hid h
  have lr := ld_rt hE.x
  have hal := way_alloc
  clear hE hW0 h
  go_enter Tryz.func48, Tryz.ntmps48
  unfold rtV
  go_upto_region 3 with (fail)
  rw [← HW0.out]
  clear hal hz1
  cases hmr : mayR r with
  | false =>
    rw [hmr] at HMY
    go_wp2_with (go_at_call 101; refine HMY.out.mono ?_; rintro e w1 ⟨rfl, hb1⟩; have HE1 := Lib.hid (HE.out.later hb1); have lv := ld_wyB HE1.out.v wy0_size; have st := st_wyB HE1.out.v wy0_size wy0_size wy0_one; clear hb1)
    have hk9 := blk_setCells HE1.out.v (show wy0.size = wy0.size from rfl)
    refine bodyPost_ret_by (res_cell2 Tryz.underlying41 rfl wy_info rfl _ rfl hk9 wy0_size) rfl ?_
    exact ⟨by rw [hmr]; rfl, below_setCells (Nat.le_succ _) _ _ _ HE1.out.b⟩
  | true =>
    rw [hmr] at HMY
    by_cases how : r.own = true
    · have HWR := Lib.hid (show wayR r = (1, zs0) by unfold wayR; rw [if_pos how])
      go_wp2_with fail
      refine HMY.out.mono ?_
      rintro e w1 ⟨rfl, hb1⟩
      have HE1 := Lib.hid (HE.out.later hb1)
      have lo := ld_btN (HE1.out.x.cell 2)
      have lt := ld_btN (HE1.out.x.cell 3)
      have ln := ld_nxs (HE1.out.x.cell 5)
      have sk := st_kd (HE1.out.v.cell 0 |>.trans wy0_k) (HE1.out.v.frozen 0) 1
      have hk2 := HE1.out.v.set_ 0 (.int .i64 1)
      rw [← wyC_zero, wyC_setK] at hk2
      have HK2 := Lib.hid hk2
      rw [how] at lo
      have lv := ld_wyB hk2 (wyC_size zs0_len)
      have st := st_wyB (vs := wyC 1 zs0) hk2 (wyC_size zs0_len) (wyC_size zs0_len) (wyC_one _ _)
      clear hb1 hk2
      go_wp2_with fail
      have hk9 := blk_setCells HK2.out (show (wyC 1 zs0).size = (wyC 1 zs0).size from rfl)
      refine bodyPost_ret_by (res_cell2 Tryz.underlying41 rfl wy_info rfl _ rfl hk9 (wyC_size zs0_len)) rfl ?_
      exact ⟨by rw [hmr, HWR.out]; rfl, below_setCells (Nat.le_succ _) _ _ _ (HE1.out.b.setCell (p := ⟨w.heap.size + 1, 0, none⟩) (Nat.le_succ _) _)⟩
    · have how' : r.own = false := by simpa using how
      by_cases htk : r.tk = false
      · have HWR := Lib.hid (show wayR r = (2, zs0) by unfold wayR; rw [if_neg how, if_pos (.inl htk)])
        go_wp2_with fail
        refine HMY.out.mono ?_
        rintro e w1 ⟨rfl, hb1⟩
        have HE1 := Lib.hid (HE.out.later hb1)
        have lo := ld_btN (HE1.out.x.cell 2)
        have lt := ld_btN (HE1.out.x.cell 3)
        have ln := ld_nxs (HE1.out.x.cell 5)
        have sk := st_kd (HE1.out.v.cell 0 |>.trans wy0_k) (HE1.out.v.frozen 0) 2
        have hk2 := HE1.out.v.set_ 0 (.int .i64 2)
        rw [← wyC_zero, wyC_setK] at hk2
        have HK2 := Lib.hid hk2
        rw [how'] at lo
        rw [htk] at lt
        have lv := ld_wyB hk2 (wyC_size zs0_len)
        have st := st_wyB (vs := wyC 2 zs0) hk2 (wyC_size zs0_len) (wyC_size zs0_len) (wyC_one _ _)
        clear hb1 hk2
        go_wp2_with fail
        have hk9 := blk_setCells HK2.out (show (wyC 2 zs0).size = (wyC 2 zs0).size from rfl)
        refine bodyPost_ret_by (res_cell2 Tryz.underlying41 rfl wy_info rfl _ rfl hk9 (wyC_size zs0_len)) rfl ?_
        exact ⟨by rw [hmr, HWR.out]; rfl, below_setCells (Nat.le_succ _) _ _ _ (HE1.out.b.setCell (p := ⟨w.heap.size + 1, 0, none⟩) (Nat.le_succ _) _)⟩
      · have htk' : r.tk = true := by simpa using htk
        by_cases hn : r.n = 0
        · have HWR := Lib.hid (show wayR r = (2, zs0) by unfold wayR; rw [if_neg how, if_pos (.inr hn)])
          go_wp2_with fail
          refine HMY.out.mono ?_
          rintro e w1 ⟨rfl, hb1⟩
          have HE1 := Lib.hid (HE.out.later hb1)
          have lo := ld_btN (HE1.out.x.cell 2)
          have lt := ld_btN (HE1.out.x.cell 3)
          have ln := ld_nxs (HE1.out.x.cell 5)
          have sk := st_kd (HE1.out.v.cell 0 |>.trans wy0_k) (HE1.out.v.frozen 0) 2
          have hk2 := HE1.out.v.set_ 0 (.int .i64 2)
          rw [← wyC_zero, wyC_setK] at hk2
          have HK2 := Lib.hid hk2
          rw [how'] at lo
          rw [htk'] at lt
          rw [hn] at ln
          have lv := ld_wyB hk2 (wyC_size zs0_len)
          have st := st_wyB (vs := wyC 2 zs0) hk2 (wyC_size zs0_len) (wyC_size zs0_len) (wyC_one _ _)
          clear hb1 hk2
          go_wp2_with fail
          have hk9 := blk_setCells HK2.out (show (wyC 2 zs0).size = (wyC 2 zs0).size from rfl)
          refine bodyPost_ret_by (res_cell2 Tryz.underlying41 rfl wy_info rfl _ rfl hk9 (wyC_size zs0_len)) rfl ?_
          exact ⟨by rw [hmr, HWR.out]; rfl, below_setCells (Nat.le_succ _) _ _ _ (HE1.out.b.setCell (p := ⟨w.heap.size + 1, 0, none⟩) (Nat.le_succ _) _)⟩
        · have HWR := Lib.hid (show wayR r = (3, tableF r.nx) by unfold wayR; rw [if_neg how, if_neg (by rintro (e | e); exact htk e; exact hn e)])
          have hmf : mayF r.nx = true := by
            unfold mayR at hmr
            rw [decide_eq_false hn] at hmr
            simp at hmr
            exact hmr.2
          have hn1 : ((r.n : Int) == 0) = false := beq_eq_false_iff_ne.2 (by omega)
          have HBK := Lib.hid (fun (wx : World) (hb : Below w.heap.size w wx) => buckets_yes r.A r.n r.c r.nx (fun k => k < w.heap.size) wx (HOK.out.rd.keep (Same.ofBelow hb fun k hk => hk)) HOK.out.l hmf)
          have htl := table_len hmf
          go_wp2_with fail
          refine HMY.out.mono ?_
          rintro e w1 ⟨rfl, hb1⟩
          have HE1 := Lib.hid (HE.out.later hb1)
          have lo := ld_btN (HE1.out.x.cell 2)
          have lt := ld_btN (HE1.out.x.cell 3)
          have ln := ld_nxs (HE1.out.x.cell 5)
          have sk := st_kd (HE1.out.v.cell 0 |>.trans wy0_k) (HE1.out.v.frozen 0) 3
          have hk2 := HE1.out.v.set_ 0 (.int .i64 3)
          rw [← wyC_zero, wyC_setK] at hk2
          have HK2 := Lib.hid hk2
          rw [how'] at lo
          rw [htk'] at lt
          have HB2 := Lib.hid (HE1.out.b.setCell (p := ⟨w.heap.size + 1, 0, none⟩) (Nat.le_succ _) (.int .i64 3))
          have HX2 := Lib.hid (HE1.out.x.far (p := ⟨w.heap.size + 1, 0, none⟩) (Nat.ne_of_lt (Nat.lt_succ_self _)) (.int .i64 3))
          have l2 := ld_nxs (HX2.out.cell 5)
          clear hb1 hk2
          go_wp2_with (first
            | (go_at_call 102; refine (HBK.out _ HB2.out).mono ?_; rintro e w3 ⟨rfl, hb3⟩; have HB3 := Lib.hid (HB2.out.trans (hb3.mono HB2.out.size)); obtain ⟨sb, hk4⟩ := st_bk (HK2.out.below hb3 HK2.out.lt) zs0_len htl; have lv := ld_wyB hk4 (wyC_size htl); have st := st_wyB (vs := wyC 3 (tableF r.nx)) hk4 (wyC_size htl) (wyC_size htl) (wyC_one _ _); have HK4 := Lib.hid hk4; clear hb3 hk4))
          have hk9 := blk_setCells HK4.out (show (wyC 3 (tableF r.nx)).size = (wyC 3 (tableF r.nx)).size from rfl)
          refine bodyPost_ret_by (res_cell2 Tryz.underlying41 rfl wy_info rfl _ rfl hk9 (wyC_size htl)) rfl ?_
          exact ⟨by rw [hmr, HWR.out]; rfl, below_setCells (Nat.le_succ _) _ _ _ (below_setCells (Nat.le_succ _) _ _ _ HB3.out)⟩
end Go.Proofs.YthlommalbkhcjaaGreat
namespace Go.Proofs.YthlommalbkhcjaaGreat
open Go.RowKit Go.Sort Go.BigFrame
def TT.size : TT → Nat
  | .nil => 0
  | .node _ _ _ l r => l.size + r.size + 1
variable {dc : Int → Array Value}
structure PAt (dc : Int → Array Value) (w : World) (M : Nat → Prop) (tb : Nat) (pv0 : Value) (T : TT) (p : Bs) (hb ho : Nat) (pv : Value) (S : TT) (Mo Ms : Nat → Prop) (f : TT → TT) : Prop where
  wand : Wand dc w Mo tb hb ho pv0 f
  hole : hb ≠ tb → Mo hb ∧ ∃ cs, Blk w hb 192 cs ∧ cs[ho]? = some pv
  root : hb = tb → ho = 0 ∧ pv = pv0
  tree : IsT dc w Ms pv S
  mo : ∀ k, Mo k → M k ∧ k ≠ tb
  ms : ∀ k, Ms k → M k ∧ k ≠ tb
  dis : ∀ k, Ms k → ¬ Mo k
  fS : f S = T
  ins : ∀ v, T.ins p v = f (S.ins p v)
  get : T.get p = S.get p
  ctx : ∃ c, c <+: p ∧ S.wf c
def PStop (p : Bs) : TT → Prop
  | .nil => True
  | .node q _ _ _ _ => q = p ∨ ¬ q <+: p
theorem PAt.start {w : World} {M : Nat → Prop} {tb : Nat} {T : TT} {pv0 : Value} (h : IsT dc w (fun k => M k ∧ k ≠ tb) pv0 T) (wf : T.wf []) (p : Bs) : PAt dc w M tb pv0 T p tb 0 pv0 T (fun _ => False) (fun k => M k ∧ k ≠ tb) id :=
  ⟨Wand.start w tb pv0, fun h => absurd rfl h, fun _ => ⟨rfl, rfl⟩, h, fun _ h => h.elim, fun _ h => h, fun _ _ h => h, rfl, fun _ => rfl, rfl, [], List.nil_prefix, wf⟩
theorem PAt.down (hd : Dc dc) {w : World} {M : Nat → Prop} {tb : Nat} {pv0 : Value} {T : TT} {p : Bs} {hb ho : Nat} {pv : Value} {Mo Ms : Nat → Prop} {f : TT → TT} {q : Bs} {x : Int} {g : Bool} {l r : TT} (h : PAt dc w M tb pv0 T p hb ho pv (.node q x g l r) Mo Ms f)
    (hne : q ≠ p) (hpre : q <+: p) {b : Nat} (hpv : pv = .pointer (some ⟨b, 0, none⟩)) {pl pr : Value} (hk : Blk w b 192 (ndC dc q x g pl pr)) :
    ∃ Mo2 Ms2 f2, PAt dc w M tb pv0 T p b (if nth p q.length then 261 else 260) (if nth p q.length then pr else pl) (if nth p q.length then r else l) Mo2 Ms2 f2 := by
  obtain ⟨b', pl', pr', Ml, Mr, h1, h2, h3, h4, h5, h6, h7, h8⟩ := h.tree
  have eb : b' = b := by rw [hpv] at h1; injection h1 with h1; injection h1 with h1; injection h1 with h1; exact h1.symm
  subst eb
  have e2 : pl' = pl ∧ pr' = pr := by
    unfold Blk at hk h2
    rw [hk] at h2
    injection h2 with h2
    injection h2 with h2
    obtain ⟨e1, e2⟩ := ndX_inj (hd.sz x) h2
    exact ⟨e1.symm, e2.symm⟩
  obtain ⟨rfl, rfl⟩ := e2
  have hbt : b' ≠ tb := (h.ms b' h3).2
  have wd := Wand.down hd (dir := nth p q.length) h.wand (fun hn => by obtain ⟨_, cs, c1, c2⟩ := h.hole hn; exact ⟨cs, c1, by rw [c2, hpv]⟩) (fun e => by rw [← (h.root e).2, hpv]) hbt (h.dis b' h3) (fun hm => (h.mo tb hm).2 rfl) hk (fun _ => h8) (fun _ => h7) (Ml := Ml) (Mr := Mr) (fun k hm => ⟨h.dis k (h4 k hm).1, (h4 k hm).2⟩) (fun k hm => ⟨h.dis k (h5 k hm).1, (h5 k hm).2⟩)
  refine ⟨_, (if nth p q.length then Mr else Ml), _, wd, fun _ => ⟨.inr (.inl rfl), _, hk, ?_⟩, fun e => absurd e hbt, ?_, fun k hm => ?_, fun k hm => ?_, fun k hm => ?_, ?_, fun v => ?_, ?_, ?_⟩
  · cases nth p q.length
    · exact ndX_l (hd.sz x)
    · exact ndX_r (hd.sz x)
  · cases nth p q.length
    · exact h7
    · exact h8
  · rcases hm with hm | hm | hm
    · exact h.mo k hm
    · subst hm; exact h.ms _ h3
    · revert hm
      cases nth p q.length
      · exact fun hm => h.ms k (h5 k hm).1
      · exact fun hm => h.ms k (h4 k hm).1
  · revert hm
    cases nth p q.length
    · exact fun hm => h.ms k (h4 k hm).1
    · exact fun hm => h.ms k (h5 k hm).1
  · revert hm
    cases nth p q.length
    · exact fun hm hx => by
        rcases hx with hx | hx | hx
        · exact h.dis k (h4 k hm).1 hx
        · exact (h4 k hm).2 hx
        · exact h6 k hm hx
    · exact fun hm hx => by
        rcases hx with hx | hx | hx
        · exact h.dis k (h5 k hm).1 hx
        · exact (h5 k hm).2 hx
        · exact h6 k hx hm
  · rw [← h.fS]
    cases nth p q.length <;> rfl
  · rw [h.ins v, TT.ins, if_neg hne, if_pos hpre]
    cases nth p q.length <;> rfl
  · rw [h.get, TT.get, if_neg hne, if_pos hpre]
    cases nth p q.length <;> rfl
  · obtain ⟨c, _, w1, w2, w3, w4, w5⟩ := h.ctx
    have hn := pre_nth hpre hne
    revert hn
    cases nth p q.length
    · exact fun hn => ⟨_, hn, w4⟩
    · exact fun hn => ⟨_, hn, w5⟩
def PlcPost (dc : Int → Array Value) (w : World) (M : Nat → Prop) (tb : Nat) (pv0 : Value) (T : TT) (p : Bs) (e : Ending) (w' : World) : Prop :=
  ∃ hb ho pv S Mo Ms f, e = .returned (.pointer (some ⟨hb, ho, none⟩)) ∧ Below w.heap.size w w' ∧ PAt dc w M tb pv0 T p hb ho pv S Mo Ms f ∧ PStop p S
set_option maxHeartbeats 4000000 in
theorem place_any (hd : Dc dc) (p : Bs) (tb : Nat) (pv0 a2 a3 a4 : Value) (T : TT) (M : Nat → Prop) (w : World) (hk0 : Blk w tb 184 #[pv0, a2, a3, a4]) (ht : IsT dc w (fun k => M k ∧ k ≠ tb) pv0 T) (wf : T.wf []) (hp : p.length ≤ 32) :
    Calls Tryz.prog 105 #[.pointer (some ⟨tb, 0, none⟩), pxV (padB p) p.length] w (PlcPost dc w M tb pv0 T p) := by
  have S0 := Lib.hid (PAt.start (M := M) ht wf p)
  have K0 := Lib.hid hk0
  have hP := padB_lt p hp
  clear ht wf hk0
  obtain ⟨a, ha⟩ : ∃ a, a = padB p := ⟨_, rfl⟩
  obtain ⟨n, hn⟩ : ∃ n, n = p.length := ⟨_, rfl⟩
  rw [← ha] at hP
  rw [← ha, ← hn]
  have HA := Lib.hid ha
  have HN := Lib.hid hn
  clear ha hn
  go_enter Tryz.func105, Tryz.ntmps105
  go_wp2_with fail
  go_step3
  go_wp2_with fail
  go_step3
  go_wp2_with fail
  have hb0 : Hid (Below w.heap.size w (w.alloc (.cells #[.int .u32 (a : Int), .int .i64 (n : Int)] 37))) := Lib.hid ((Below.refl _ _).alloc (Nat.le_refl _) _)
  have hk1 : Hid (Blk (w.alloc (.cells #[.int .u32 (a : Int), .int .i64 (n : Int)] 37)) w.heap.size 37 #[.int .u32 (a : Int), .int .i64 (n : Int)]) := Lib.hid (Blk.new _ _ _)
  go_loopg [5] T.size (fun g s5 wr => ∃ hb ho pv S Mo Ms f, s5 = .pointer (some ⟨hb, ho, none⟩) ∧ S.size ≤ g ∧ Below w.heap.size w wr ∧ Blk wr w.heap.size 37 #[.int .u32 (a : Int), .int .i64 (n : Int)] ∧ PAt dc w M tb pv0 T p hb ho pv S Mo Ms f)
  case atStart => exact ⟨tb, 0, pv0, T, _, _, _, rfl, Nat.le_refl _, hb0.out, hk1.out, S0.out⟩
  case round =>
    obtain ⟨hb, ho, pv, S, Mo, Ms, f, rfl, hg, hbl, hbx, pat⟩ := hrel
    have hcell : wr.cell? ⟨hb, ho, none⟩ = some pv := by
      by_cases e : hb = tb
      · obtain ⟨e1, e2⟩ := pat.root e
        subst e; subst e1; subst e2
        exact (K0.out.below hbl K0.out.lt).cell 0
      · obtain ⟨_, cs, c1, c2⟩ := pat.hole e
        exact ((c1.below hbl c1.lt).cell ho).trans c2
    have x0 : wr.cell? ⟨w.heap.size, 0, none⟩ = some (.int .u32 (a : Int)) := hbx.cell 0
    have x1 : wr.cell? ⟨w.heap.size, 1, none⟩ = some (.int .i64 (n : Int)) := hbx.cell 1
    have PT := Lib.hid pat
    have HB := Lib.hid hbl
    have HX := Lib.hid hbx
    have HG := Lib.hid hg
    clear pat hbl hbx hg
    cases S with
    | nil =>
      obtain rfl : pv = .pointer none := PT.out.tree
      go_wp2_with fail
      rw [Exit.noGoto_ret]
      go_ret
      exact ⟨hb, ho, _, .nil, Mo, Ms, f, rfl, HB.out, PT.out, trivial⟩
    | node q x g l r =>
      obtain ⟨b, pl, pr, Ml, Mr, h1, h2, _⟩ := PT.out.tree
      obtain ⟨c, hc, w1, w2, _⟩ := PT.out.ctx
      subst h1
      have hkb := h2.below HB.out h2.lt
      obtain ⟨qa, hqa⟩ : ∃ qa, qa = padB q := ⟨_, rfl⟩
      obtain ⟨qn, hqn⟩ : ∃ qn, qn = q.length := ⟨_, rfl⟩
      have y0 : wr.cell? ⟨b, 0, none⟩ = some (.int .u32 (qa : Int)) := by rw [hqa]; exact (hkb.cell 0).trans ndX_a
      have y1 : wr.cell? ⟨b, 1, none⟩ = some (.int .i64 (qn : Int)) := by rw [hqn]; exact (hkb.cell 1).trans ndX_n
      have H2 := Lib.hid h2
      have HQA := Lib.hid hqa
      have HQN := Lib.hid hqn
      have hblt := hkb.lt
      clear h2 hkb hqa hqn hc w1
      by_cases he : q = p
      · have e1 : qa = a := by rw [HQA.out, HA.out, he]
        have e2 : qn = n := by rw [HQN.out, HN.out, he]
        subst e1; subst e2
        go_wp2_with fail
        go_quiet (fail)
        go_wp2_with fail
        rw [Exit.noGoto_ret]
        go_ret
        exact ⟨hb, ho, _, .node q x g l r, Mo, Ms, f, rfl, ⟨HB.out.os, HB.out.tape, HB.out.output, HB.out.size, HB.out.block⟩, PT.out, .inl he⟩
      · have hne : ¬ (qa = a ∧ qn = n) := fun ⟨e1, e2⟩ => he (by
          rw [HQA.out, HA.out] at e1
          rw [HQN.out, HN.out] at e2
          exact pad_inj w2 e2 e1)
        have hcm := fun (wx : World) => common_any q p wx w2 hp
        rw [← HQA.out, ← HQN.out, ← HA.out, ← HN.out] at hcm
        have HC := Lib.hid hcm
        have hq1 : ∀ w, (binOp .eql 37 (.agg #[.int .u32 (qa : Int), .int .i64 (qn : Int)]) (.agg #[.int .u32 (a : Int), .int .i64 (n : Int)])).run Tryz.prog w = .ok (.bool false) w := fun w => by
          rw [eql_px, decide_eq_false]
          exact fun h => hne ⟨h.1, by have := h.2; omega⟩
        clear hcm
        by_cases hpre : q <+: p
        · have el : lcpB q p = q := lcp_eq_left.2 hpre
          rw [el, ← HQA.out, ← HQN.out] at HC
          have hq2 : ∀ w, (binOp .neq 37 (.agg #[.int .u32 (qa : Int), .int .i64 (qn : Int)]) (.agg #[.int .u32 (qa : Int), .int .i64 (qn : Int)])).run Tryz.prog w = .ok (.bool false) w := fun w => by
            rw [neq_px, decide_eq_true]
            · rfl
            · exact ⟨rfl, rfl⟩
          have hlt : qn < p.length := by rw [HQN.out]; exact Nat.lt_of_le_of_ne hpre.length_le fun e => he (hpre.eq_of_length e)
          have hbi : bitI a qn = if nth p q.length then 1 else 0 := by
            unfold bitI bitB nth
            rw [HA.out, HQN.out, padB_bit p hp q.length (by rw [← HQN.out]; omega)]
          have hbc := fun (wx : World) => tbit_any a qn wx (by omega) hP
          obtain ⟨Mo2, Ms2, f2, pat2⟩ := PT.out.down hd he hpre rfl H2.out
          have P2 := Lib.hid pat2
          have hgg := HG.out
          have HPRE := Lib.hid hpre
          go_wp2_with fail
          have k0 := cell_regrown y0
          have k1 := cell_regrown y1
          have k2 := cell_regrown x0
          have k3 := cell_regrown x1
          have hcm := fun (d : Nat) (os : Array Obj) => Calls.regrown_of (HC.out (grow (redrawn wr d) os))
          refine wp_region_quiet_below (by kernel_rfl) (by kernel_rfl) ?_
          repeat (go_big_quiet_step (exact hcm _ _))
          refine wpQuiet_nil ?_
          intro _ hw'
          obtain ⟨⟨dq, osq⟩, hw''⟩ := hw'
          subst hw''
          have hbq := below_regrown wr dq osq
          generalize grow (redrawn wr dq) osq = wq at hbq
          have z0 : wq.cell? ⟨b, 0, none⟩ = some (.int .u32 (qa : Int)) := (hbq.cell (p := ⟨b, 0, none⟩) hblt).trans y0
          have z1 : wq.cell? ⟨b, 1, none⟩ = some (.int .i64 (qn : Int)) := (hbq.cell (p := ⟨b, 1, none⟩) hblt).trans y1
          have z2 : wq.cell? ⟨w.heap.size, 0, none⟩ = some (.int .u32 (a : Int)) := (hbq.cell (p := ⟨w.heap.size, 0, none⟩) HX.out.lt).trans x0
          have HBQ := Lib.hid hbq
          clear k0 k1 k2 k3 hcm pat2 hbq hlt hpre el
          cases hdir : nth p q.length with
          | false =>
            rw [hdir, if_neg (by decide)] at hbi
            rw [hbi] at hbc
            rw [hdir] at P2
            clear hbi hdir
            have hbb := fun (nd : Nat) => Calls.quiet_of_same ((hbc (wq.drewN nd)).mono fun _ _ ⟨h, hw⟩ => ⟨h, hw.symm⟩)
            go_wp2_with fail
            go_quiet (exact hbb _)
            go_wp2_with fail
            go_roundg (l.size)
            case measure => simp only [TT.size] at hgg; omega
            case rel =>
              refine ⟨b, 260, _, l, Mo2, Ms2, f2, rfl, Nat.le_refl _, ?_, ?_, P2.out⟩
              · exact HB.out.trans (Below.trans (HBQ.out.mono HB.out.size) ⟨rfl, rfl, rfl, Nat.le_refl _, fun _ _ => rfl⟩)
              · exact (HX.out.below HBQ.out HX.out.lt).drewN _
          | true =>
            rw [hdir, if_pos rfl] at hbi
            rw [hbi] at hbc
            rw [hdir] at P2
            clear hbi hdir
            have hbb := fun (nd : Nat) => Calls.quiet_of_same ((hbc (wq.drewN nd)).mono fun _ _ ⟨h, hw⟩ => ⟨h, hw.symm⟩)
            go_wp2_with fail
            go_quiet (exact hbb _)
            go_wp2_with fail
            go_roundg (r.size)
            case measure => simp only [TT.size] at hgg; omega
            case rel =>
              refine ⟨b, 261, _, r, Mo2, Ms2, f2, rfl, Nat.le_refl _, ?_, ?_, P2.out⟩
              · exact HB.out.trans (Below.trans (HBQ.out.mono HB.out.size) ⟨rfl, rfl, rfl, Nat.le_refl _, fun _ _ => rfl⟩)
              · exact (HX.out.below HBQ.out HX.out.lt).drewN _
        · obtain ⟨ca, hca⟩ : ∃ ca, ca = padB (lcpB q p) := ⟨_, rfl⟩
          obtain ⟨cn, hcn⟩ : ∃ cn, cn = (lcpB q p).length := ⟨_, rfl⟩
          rw [← hca, ← hcn] at HC
          have hne2 : ¬ (ca = qa ∧ cn = qn) := fun ⟨e1, e2⟩ => hpre (lcp_eq_left.1 (pad_inj (Nat.le_trans (lcp_left q p).length_le w2) (by rw [← hcn, e2, HQN.out]) (by rw [← hca, e1, HQA.out])))
          have hq2 : ∀ w, (binOp .neq 37 (.agg #[.int .u32 (ca : Int), .int .i64 (cn : Int)]) (.agg #[.int .u32 (qa : Int), .int .i64 (qn : Int)])).run Tryz.prog w = .ok (.bool true) w := fun w => by
            rw [neq_px, decide_eq_false]
            · rfl
            · exact fun h => hne2 ⟨h.1, by have := h.2; omega⟩
          have HCA := Lib.hid hca
          have HCN := Lib.hid hcn
          clear hca hcn
          go_wp2_with fail
          have k0 := cell_regrown y0
          have k1 := cell_regrown y1
          have k2 := cell_regrown x0
          have k3 := cell_regrown x1
          have hcm := fun (d : Nat) (os : Array Obj) => Calls.regrown_of (HC.out (grow (redrawn wr d) os))
          refine wp_region_quiet_below (by kernel_rfl) (by kernel_rfl) ?_
          repeat (go_big_quiet_step (exact hcm _ _))
          refine wpQuiet_nil ?_
          intro _ hw'
          obtain ⟨⟨dq, osq⟩, hw''⟩ := hw'
          subst hw''
          have hbq := below_regrown wr dq osq
          generalize grow (redrawn wr dq) osq = wq at hbq
          clear k0 k1 k2 k3 hcm
          go_wp2_with fail
          rw [Exit.noGoto_ret]
          go_ret
          exact ⟨hb, ho, _, .node q x g l r, Mo, Ms, f, rfl, HB.out.trans (hbq.mono HB.out.size), PT.out, .inr hpre⟩
end Go.Proofs.YthlommalbkhcjaaGreat
