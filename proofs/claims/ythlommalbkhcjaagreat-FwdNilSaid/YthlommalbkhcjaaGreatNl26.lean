/- law14's num, ten; guidepostref14's Way and May; the document's prefixes; rows of routes. -/
import Derived.Test.YthlommalbkhcjaaGreatNl25
import Derived.Test.YthlommalbkhcjaaGreatNl05
import Derived.Test.YthlommalbkhcjaaGreatNl24
import Derived.Deep.DeepCutAuto
import Derived.Deep.Cut
import Derived.RegionTactic
import Derived.ChangeAlike
import Derived.BigRegion
import Derived.Laws.NewBlocks
namespace Go.Proofs.YthlommalbkhcjaaGreat
open Go.RowKit Go.Sort Go.BigFrame
variable {dc : Int → Array Value}
theorem there_any (tb : Nat) (a1 a2 a3 : Value) (w : World) (h : Blk w tb 184 #[a1, a2, a3, .bool true]) :
    Calls Tryz.prog 103 #[.pointer (some ⟨tb, 0, none⟩)] w fun e w' => e = .returned (.bool true) ∧ w = w' := by
  have hc : w.cell? ⟨tb, 3, none⟩ = some (.bool true) := h.cell 3
  clear h
  go_enter Tryz.func103, Tryz.ntmps103
  go_wp2
  go_ret
  exact ⟨rfl, rfl⟩
theorem may_yes (p : Bs) (w : World) (hp : p.length ≤ 32) : Calls Tryz.prog 104 #[pxV (padB p) p.length] w fun e w' => e = .returned (.bool true) ∧ Below w.heap.size w w' :=
  (tmay_any (padB p) p.length w (padB_lt p hp)).mono fun e w' ⟨he, m, hw⟩ => ⟨by rw [he, bits_may hp], by rw [hw]; exact below_box _ _ _⟩
theorem may_no (a : Nat) (n : Int) (w : World) (ha : a < 2 ^ 32) (h : mayB a n = false) : Calls Tryz.prog 104 #[pxV a n] w fun e w' => e = .returned (.bool false) ∧ Below w.heap.size w w' :=
  (tmay_any a n w ha).mono fun e w' ⟨he, m, hw⟩ => ⟨by rw [he, h], by rw [hw]; exact below_box _ _ _⟩
def GetPost (dc : Int → Array Value) (w : World) (T : TT) (p : Bs) (e : Ending) (w' : World) : Prop := e = .returned (.tuple #[.agg (dc ((T.get p).getD 0)), .bool (T.get p).isSome]) ∧ Below w.heap.size w w'
theorem get_close {w wr : World} {T S : TT} {p : Bs} {v : Int} {g : Bool} (e1 : T.get p = S.get p) (e2 : S.get p = if g then some v else none) (hv : g = false → v = 0) (hb : Below w.heap.size w wr) : GetPost dc w T p (.returned (.tuple #[.agg (dc v), .bool g])) wr := by
  refine ⟨?_, hb⟩
  rw [e1, e2]
  cases g
  · rw [hv rfl]; rfl
  · rfl
structure GtW (w : World) (a : Nat) (n : Int) (wx : World) : Prop where
  x : Blk wx w.heap.size 37 #[.int .u32 (a : Int), .int .i64 n]
  v : Blk wx (w.heap.size + 1) 41 wy0
  b : Below w.heap.size w wx
theorem GtW.later {w : World} {a : Nat} {n : Int} {wx wy : World} (h : GtW w a n wx) (hb : Below wx.heap.size wx wy) : GtW w a n wy := ⟨h.x.below hb h.x.lt, h.v.below hb h.v.lt, h.b.trans (hb.mono h.b.size)⟩
theorem gtw_new (w : World) (a : Nat) (n : Int) : GtW w a n ((w.alloc (.cells #[.int .u32 (a : Int), .int .i64 n] 37)).alloc (.cells wy0 41)) := by
  refine ⟨(Blk.new w _ _).alloc _, ?_, ((Below.refl _ _).alloc (Nat.le_refl _) _).alloc (by simp) _⟩
  have := Blk.new (w.alloc (.cells #[.int .u32 (a : Int), .int .i64 n] 37)) 41 wy0
  rwa [show (w.alloc (.cells #[.int .u32 (a : Int), .int .i64 n] 37)).heap.size = w.heap.size + 1 by simp] at this
set_option maxRecDepth 20000 in
set_option maxHeartbeats 2000000 in
attribute [-go_sem] Instr.storeAt Instr.loadAt Instr.alloc in
theorem get_no (hd : Dc dc) (a : Nat) (n : Int) (tb : Nat) (M : Nat → Prop) (limit : Int) (T : TT) (w : World) (h : IsTr dc w M tb limit T) (ha : a < 2 ^ 32) (hm : mayB a n = false) :
    Calls Tryz.prog 49 #[.pointer (some ⟨tb, 0, none⟩), pxV a n] w fun e w' => e = .returned (.tuple #[.agg (dc 0), .bool false]) ∧ Below w.heap.size w w' := by
  obtain ⟨pv, hk, _⟩ := h.ex
  obtain ⟨W0, hW0⟩ : ∃ Z, Z = (w.alloc (.cells #[.int .u32 (a : Int), .int .i64 n] 37)).alloc (.cells wy0 41) := ⟨_, rfl⟩
  have hg : GtW w a n W0 := by rw [hW0]; exact gtw_new w a n
  have HG := Lib.hid hg
  have HT := Lib.hid (there_any tb _ _ _ W0 (hk.below hg.b hk.lt))
  have HM := Lib.hid (may_no a n W0 ha hm)
  have HZ := Lib.hid hd.z
  have lx := ld_pxB hg.x
  have hal := way_alloc
  have HW0 := Lib.hid hW0
  have hz1 : (w.alloc (.cells #[.int .u32 (a : Int), .int .i64 n] 37)).heap.size = w.heap.size + 1 := by simp
  clear h hk hm hg hW0
  go_enter Tryz.func49, Tryz.ntmps49
  go_upto_region 1 with (fail)
  rw [← HW0.out]
  clear hal hz1
  go_wp2_with (first
    | (go_at_call 103; refine HT.out.mono ?_; rintro e w' ⟨rfl, rfl⟩)
    | (go_at_call 104; refine HM.out.mono ?_; rintro e w2 ⟨rfl, hb⟩; have HG2 := Lib.hid (HG.out.later hb); have lv := ld_wyB HG2.out.v wy0_size; have st := st_wyB HG2.out.v wy0_size wy0_size wy0_one; clear hb))
  have hk9 := blk_setCells HG2.out.v (show wy0.size = wy0.size from rfl)
  refine bodyPost_ret_by (res_cell2 Tryz.underlying41 rfl wy_info rfl _ rfl hk9 wy0_size) rfl ?_
  rw [HZ.out]
  exact ⟨rfl, below_setCells (Nat.le_succ _) _ _ _ HG2.out.b⟩
theorem get_none_end (hd : Dc dc) {w wx : World} {a : Nat} {n : Int} {T S : TT} {p : Bs} (h : GtW w a n wx) (e1 : T.get p = S.get p) (e2 : S.get p = none) : GetPost dc w T p (.returned (.tuple #[.agg wy0, .bool false])) (wx.setCells (w.heap.size + 1) 0 wy0.toList) := by
  rw [← hd.z]
  exact get_close (v := 0) (g := false) e1 e2 (fun _ => rfl) (below_setCells (Nat.le_succ _) _ _ _ h.b)
set_option maxRecDepth 20000 in
set_option maxHeartbeats 4000000 in
attribute [-go_sem] Instr.storeAt Instr.loadAt Instr.alloc in
theorem get_yes (hd : Dc dc) (p : Bs) (tb : Nat) (M : Nat → Prop) (limit : Int) (T : TT) (w : World) (h : IsTr dc w M tb limit T) (hp : p.length ≤ 32) :
    Calls Tryz.prog 49 #[.pointer (some ⟨tb, 0, none⟩), pxV (padB p) p.length] w (GetPost dc w T p) := by
  obtain ⟨pv0, hk, ht⟩ := h.ex
  obtain ⟨a, ha⟩ : ∃ a, a = padB p := ⟨_, rfl⟩
  obtain ⟨n, hn⟩ : ∃ n, n = p.length := ⟨_, rfl⟩
  obtain ⟨W0, hW0⟩ : ∃ Z, Z = (w.alloc (.cells #[.int .u32 (a : Int), .int .i64 n] 37)).alloc (.cells wy0 41) := ⟨_, rfl⟩
  have hg : GtW w a n W0 := by rw [hW0]; exact gtw_new w a n
  have HG := Lib.hid hg
  have HT := Lib.hid (there_any tb _ _ _ W0 (hk.below hg.b hk.lt))
  have HM := Lib.hid (may_yes p W0 hp)
  have HPL := Lib.hid (fun (wx : World) (hb : Below w.heap.size w wx) => place_any hd p tb pv0 _ _ _ T (fun k => M k) wx (hk.below hb hk.lt) (ht.keep ⟨hb.size, fun k hm _ => hb.block k (h.lt k hm.1)⟩) h.wf hp)
  have HK := Lib.hid hk
  have HD := Lib.hid hd
  rw [← ha, ← hn] at HM HPL ⊢
  have lx := ld_pxB hg.x
  have hal := way_alloc
  have HW0 := Lib.hid hW0
  have HA := Lib.hid ha
  have HN := Lib.hid hn
  have hz1 : (w.alloc (.cells #[.int .u32 (a : Int), .int .i64 n] 37)).heap.size = w.heap.size + 1 := by simp
  clear h hk ht hg hW0 hd ha hn
  go_enter Tryz.func49, Tryz.ntmps49
  go_upto_region 1 with (fail)
  rw [← HW0.out]
  clear hal hz1
  go_wp2_with (first
    | (go_at_call 103; refine HT.out.mono ?_; rintro e w' ⟨rfl, rfl⟩)
    | (go_at_call 104; refine HM.out.mono ?_; rintro e w2 ⟨rfl, hb⟩; have HG2 := Lib.hid (HG.out.later hb); clear hb lx; have lx := ld_pxB HG2.out.x))
  refine (HPL.out w2 HG2.out.b).mono ?_
  rintro e w4 ⟨hb, ho, pv, S, Mo, Ms, f, rfl, hb4, pat, stop⟩
  have hg4 := HG2.out.later hb4
  have hcell : w4.cell? ⟨hb, ho, none⟩ = some pv := by
    by_cases e : hb = tb
    · obtain ⟨e1, e2⟩ := pat.root e
      subst e; subst e1; subst e2
      exact (HK.out.below hg4.b HK.out.lt).cell 0
    · obtain ⟨_, cs, c1, c2⟩ := pat.hole e
      exact ((c1.below hb4 c1.lt).cell ho).trans c2
  have PT := Lib.hid pat
  have HB4 := Lib.hid hb4
  have HG4 := Lib.hid hg4
  clear pat hb4 hg4 lx
  cases S with
  | nil =>
    obtain rfl : pv = .pointer none := PT.out.tree
    have lh := ld_ptN hcell
    go_wp2_with fail
    refine wp_region_stages [(true, 17)] (by kernel_rfl) (by kernel_rfl) fun wz hz hz2 => ?_
    have HZ := Lib.hid (HG4.out.later hz)
    clear hz hz2
    refine wpSt_q ?_
    simp only [List.take_succ_cons, List.take_zero, List.drop_succ_cons, List.drop_zero]
    repeat (go_big_quiet_step (fail))
    refine wpQuiet_nil ?_
    intro _ hw'
    obtain ⟨⟨dq, osq⟩, hw''⟩ := hw'
    subst hw''
    have hgq := HZ.out.later (below_regrown wz dq osq)
    generalize grow (redrawn wz dq) osq = wq at hgq ⊢
    have HGQ := Lib.hid hgq
    have lv := ld_wyB hgq.v wy0_size
    have st := st_wyB hgq.v wy0_size wy0_size wy0_one
    clear hgq
    refine wpSt_end ?_
    go_wp2_with fail
    have hk9 := blk_setCells HGQ.out.v (show wy0.size = wy0.size from rfl)
    refine bodyPost_ret_by (res_cell2 Tryz.underlying41 rfl wy_info rfl _ rfl hk9 wy0_size) rfl ?_
    exact get_none_end HD.out HGQ.out PT.out.get rfl
  | node q x g l r =>
    obtain ⟨b, pl, pr, Ml, Mr, h1, h2, _⟩ := PT.out.tree
    obtain ⟨c, hc, w1, qw, _⟩ := PT.out.ctx
    subst h1
    have lh := ld_ptN hcell
    have hkb := h2.below HB4.out h2.lt
    unfold ndC at hkb
    obtain ⟨qa, hqa⟩ : ∃ qa, qa = padB q := ⟨_, rfl⟩
    obtain ⟨qn, hqn⟩ : ∃ qn, qn = q.length := ⟨_, rfl⟩
    rw [← hqa, ← hqn] at hkb
    have HKB := Lib.hid hkb
    have HQA := Lib.hid hqa
    have HQN := Lib.hid hqn
    have STOP := Lib.hid stop
    clear h2 hkb hqa hqn hc w1 stop hcell
    by_cases he : q = p
    · have e1 : qa = a := by rw [HQA.out, HA.out, he]
      have e2 : qn = n := by rw [HQN.out, HN.out, he]
      subst e1; subst e2
      have hq2 : ∀ w, (binOp .neq 37 (.agg #[.int .u32 (qa : Int), .int .i64 (qn : Int)]) (.agg #[.int .u32 (qa : Int), .int .i64 (qn : Int)])).run Tryz.prog w = .ok (.bool false) w := fun w => by
        rw [neq_px, decide_eq_true]
        · rfl
        · exact ⟨rfl, rfl⟩
      have hsg : Hid ((TT.node q x g l r).get p = if g then some x else none) := Lib.hid (by rw [TT.get, if_pos he])
      clear he
      cases g
      · go_wp2_with fail
        refine wp_region_stages [(true, 17)] (by kernel_rfl) (by kernel_rfl) fun wz hz hz2 => ?_
        have HZ := Lib.hid (HG4.out.later hz)
        have HZN := Lib.hid (HKB.out.below hz HKB.out.lt)
        clear hz hz2
        have q0 := fun (dd : Nat) (os : Array Obj) => ld_ndP (HZN.out.below (below_regrown wz dd os) HZN.out.lt)
        have q1 := fun (dd : Nat) (os : Array Obj) => ld_pxB (HZ.out.later (below_regrown wz dd os)).x
        have q2 := fun (dd : Nat) (os : Array Obj) => ld_ndH (HZN.out.below (below_regrown wz dd os) HZN.out.lt) (HD.out.sz x)
        refine wpSt_q ?_
        simp only [List.take_succ_cons, List.take_zero, List.drop_succ_cons, List.drop_zero]
        repeat (go_big_quiet_step (fail))
        refine wpQuiet_nil ?_
        intro _ hw'
        obtain ⟨⟨dq, osq⟩, hw''⟩ := hw'
        subst hw''
        have hgq := HZ.out.later (below_regrown wz dq osq)
        have hkq := HZN.out.below (below_regrown wz dq osq) HZN.out.lt
        clear q0 q1 q2
        generalize grow (redrawn wz dq) osq = wq at hgq hkq ⊢
        have HGQ := Lib.hid hgq
        have lv := ld_wyB hgq.v wy0_size
        have st := st_wyB hgq.v wy0_size wy0_size wy0_one
        clear hgq hkq
        refine wpSt_end ?_
        go_wp2_with fail
        have hk9 := blk_setCells HGQ.out.v (show wy0.size = wy0.size from rfl)
        refine bodyPost_ret_by (res_cell2 Tryz.underlying41 rfl wy_info rfl _ rfl hk9 wy0_size) rfl ?_
        exact get_none_end HD.out HGQ.out PT.out.get hsg.out
      · go_wp2_with fail
        refine wp_region_stages [(true, 17)] (by kernel_rfl) (by kernel_rfl) fun wz hz hz2 => ?_
        have HZ := Lib.hid (HG4.out.later hz)
        have HZN := Lib.hid (HKB.out.below hz HKB.out.lt)
        clear hz hz2
        have q0 := fun (dd : Nat) (os : Array Obj) => ld_ndP (HZN.out.below (below_regrown wz dd os) HZN.out.lt)
        have q1 := fun (dd : Nat) (os : Array Obj) => ld_pxB (HZ.out.later (below_regrown wz dd os)).x
        have q2 := fun (dd : Nat) (os : Array Obj) => ld_ndH (HZN.out.below (below_regrown wz dd os) HZN.out.lt) (HD.out.sz x)
        refine wpSt_q ?_
        simp only [List.take_succ_cons, List.take_zero, List.drop_succ_cons, List.drop_zero]
        repeat (go_big_quiet_step (fail))
        refine wpQuiet_nil ?_
        intro _ hw'
        obtain ⟨⟨dq, osq⟩, hw''⟩ := hw'
        subst hw''
        have hgq := HZ.out.later (below_regrown wz dq osq)
        have hkq := HZN.out.below (below_regrown wz dq osq) HZN.out.lt
        clear q0 q1 q2
        generalize grow (redrawn wz dq) osq = wq at hgq hkq ⊢
        have HGQ := Lib.hid hgq
        have lv := ld_way hkq (HD.out.sz x)
        have st := st_wyB hgq.v wy0_size (HD.out.sz x) (HD.out.one x)
        clear hgq hkq
        refine wpSt_end ?_
        go_wp2_with fail
        have hk9 := blk_setCells HGQ.out.v (show wy0.size = (dc x).size by rw [HD.out.sz x]; exact wy0_size)
        refine bodyPost_ret_by (res_cell2 Tryz.underlying41 rfl wy_info rfl _ rfl hk9 (HD.out.sz x)) rfl ?_
        exact get_close (v := x) (g := true) PT.out.get hsg.out (fun h => by cases h) (below_setCells (Nat.le_succ _) _ _ _ HGQ.out.b)
    · have hne : ¬ (qa = a ∧ qn = n) := fun ⟨e1, e2⟩ => he (by
        rw [HQA.out, HA.out] at e1
        rw [HQN.out, HN.out] at e2
        exact pad_inj qw e2 e1)
      have hq2 : ∀ w, (binOp .neq 37 (.agg #[.int .u32 (qa : Int), .int .i64 (qn : Int)]) (.agg #[.int .u32 (a : Int), .int .i64 (n : Int)])).run Tryz.prog w = .ok (.bool true) w := fun w => by
        rw [neq_px, decide_eq_false]
        · rfl
        · exact fun h => hne ⟨h.1, by have := h.2; omega⟩
      have hsg : Hid ((TT.node q x g l r).get p = none) := Lib.hid (by
        rcases STOP.out with h | h
        · exact absurd h he
        · rw [TT.get, if_neg he, if_neg h])
      clear he hne
      go_wp2_with fail
      refine wp_region_stages [(true, 17)] (by kernel_rfl) (by kernel_rfl) fun wz hz hz2 => ?_
      have HZ := Lib.hid (HG4.out.later hz)
      have HZN := Lib.hid (HKB.out.below hz HKB.out.lt)
      clear hz hz2
      have q0 := fun (dd : Nat) (os : Array Obj) => ld_ndP (HZN.out.below (below_regrown wz dd os) HZN.out.lt)
      have q1 := fun (dd : Nat) (os : Array Obj) => ld_pxB (HZ.out.later (below_regrown wz dd os)).x
      have q2 := fun (dd : Nat) (os : Array Obj) => ld_ndH (HZN.out.below (below_regrown wz dd os) HZN.out.lt) (HD.out.sz x)
      refine wpSt_q ?_
      simp only [List.take_succ_cons, List.take_zero, List.drop_succ_cons, List.drop_zero]
      repeat (go_big_quiet_step (fail))
      refine wpQuiet_nil ?_
      intro _ hw'
      obtain ⟨⟨dq, osq⟩, hw''⟩ := hw'
      subst hw''
      have hgq := HZ.out.later (below_regrown wz dq osq)
      have hkq := HZN.out.below (below_regrown wz dq osq) HZN.out.lt
      clear q0 q1 q2
      generalize grow (redrawn wz dq) osq = wq at hgq hkq ⊢
      have HGQ := Lib.hid hgq
      have lv := ld_wyB hgq.v wy0_size
      have st := st_wyB hgq.v wy0_size wy0_size wy0_one
      clear hgq hkq
      refine wpSt_end ?_
      go_wp2_with fail
      have hk9 := blk_setCells HGQ.out.v (show wy0.size = wy0.size from rfl)
      refine bodyPost_ret_by (res_cell2 Tryz.underlying41 rfl wy_info rfl _ rfl hk9 wy0_size) rfl ?_
      exact get_none_end HD.out HGQ.out PT.out.get hsg.out
end Go.Proofs.YthlommalbkhcjaaGreat
namespace Go.Proofs.YthlommalbkhcjaaGreat
open Go.RowKit Go.Sort
end Go.Proofs.YthlommalbkhcjaaGreat
namespace Go.Proofs.YthlommalbkhcjaaGreat
open Go.RowKit Go.Sort Go.BigFrame
structure Px where
  a : Nat
  n : Int
def pB (x : Px) : Bs := bitsB x.a x.n.toNat
def Px.may (x : Px) : Bool := mayB x.a x.n
theorem pB_may {x : Px} (ha : x.a < 2 ^ 32) (h : x.may = true) : (pB x).length ≤ 32 ∧ padB (pB x) = x.a ∧ ((pB x).length : Int) = x.n := by
  obtain ⟨p, h1, h2, h3⟩ := may_bits ha h
  have e : pB x = p := by
    unfold pB
    rw [← h2, ← h3, Int.toNat_natCast]
    exact bits_pad p h1
  rw [e]
  exact ⟨h1, h2, h3⟩
end Go.Proofs.YthlommalbkhcjaaGreat
namespace Go.Proofs.YthlommalbkhcjaaGreat
open Go.RowKit Go.Sort
structure RtsM (w : World) (I : Nat → Prop) (A : Option Addr) (n : Nat) (l : List Rt) : Prop where
  row : Reads w I 6 A n (l.flatMap rtC)
  len : l.length = n
  each : ∀ r ∈ l, RtOk w I r
theorem RtsM.keep {w w' : World} {I : Nat → Prop} {A : Option Addr} {n : Nat} {l : List Rt} (h : RtsM w I A n l) (hs : Same I w w') : RtsM w' I A n l := ⟨h.row.keep hs, h.len, fun r hr => (h.each r hr).keep hs⟩
theorem RtsM.mono {w : World} {I J : Nat → Prop} {A : Option Addr} {n : Nat} {l : List Rt} (h : RtsM w I A n l) (hs : ∀ k, I k → J k) : RtsM w J A n l := ⟨h.row.mono hs, h.len, fun r hr => (h.each r hr).mono hs⟩
theorem rtC_get : ∀ {l : List Rt} {k : Nat} {r : Rt}, l[k]? = some r → ∀ {j : Nat}, j < 6 → (l.flatMap rtC)[k * 6 + j]? = (rtC r)[j]?
  | [], k, r, h, _, _ => by simp at h
  | a :: l, 0, r, h, j, hj => by
    simp at h
    subst h
    rw [List.flatMap_cons, Nat.zero_mul, Nat.zero_add, List.getElem?_append_left (by show j < 6; exact hj)]
  | a :: l, k + 1, r, h, j, hj => by
    have := rtC_get (l := l) (k := k) (r := r) (by simpa using h) hj
    rw [List.flatMap_cons, List.getElem?_append_right (by show 6 ≤ _; omega), ← this]
    congr 1
    show (k + 1) * 6 + j - 6 = _
    omega
end Go.Proofs.YthlommalbkhcjaaGreat
