/- Tries: Insert: the walk. -/
import Derived.Test.YtejiecebckjflaaTrK
import Derived.Deep.DeepCutAuto
import Derived.Deep.RegionWith
import Derived.StillTailTactics
namespace Go.Proofs.Ytejiecebckjflaa
open Go.RowKit Go.Sort Go.BigFrame

theorem insert_no (a : Nat) (n v : Int) (tb : Nat) (M : Nat → Prop) (limit : Int) (T : TT) (w : World) (h : IsTr w M tb limit T) (ha : a < 2 ^ 32) (hm : mayB a n = false) :
    Calls Try.prog 14 #[.pointer (some ⟨tb, 0, none⟩), pxV a n, .int .i64 v] w fun e w' => e = .returned (.int .i64 2) ∧ Below w.heap.size w w' := by
  obtain ⟨pv, hk, _⟩ := h.ex
  have HT := Lib.hid (fun (o : Obj) => there_any tb _ _ _ (w.alloc o) (hk.alloc o))
  have HM := Lib.hid (fun (wx : World) => may_no a n wx ha hm)
  clear h hk hm
  go_enter Try.func14, Try.ntmps14
  go_wp2_with (first | (go_at_call 33; refine (HT.out _).mono ?_; rintro e w' ⟨rfl, rfl⟩) | (go_at_call 34; refine (HM.out _).mono ?_; rintro e w' ⟨rfl, hb⟩))
  go_ret
  exact ⟨rfl, ((Below.refl _ _).alloc (Nat.le_refl _) _).trans (hb.mono (by simp))⟩

/-- A box that is laid behind a call, or ahead of it. -/
def BoxPost (w6 : World) (ca cn : Nat) (s10 : Value) (wx : World) : Prop := ∃ cb, s10 = .pointer (some ⟨cb, 0, none⟩) ∧ w6.heap.size ≤ cb ∧ Below w6.heap.size w6 wx ∧ Blk wx cb 31 #[.int .u32 (ca : Int), .int .i64 (cn : Int)]
theorem box_set (x y : Value) : ((#[Value.int .u32 0, Value.int .i64 0] : Array Value).setIfInBounds 0 x).setIfInBounds 1 y = #[x, y] := by simp
theorem box_late {w6 wc w' wx : World} (hb' : Below wc.heap.size wc w') (hc : wc.heap = w6.heap ∧ wc.os = w6.os ∧ wc.tape = w6.tape ∧ wc.output = w6.output) (ca cn : Nat)
    (hx : wx.heap = (w'.alloc (.cells #[.int .u32 (ca : Int), .int .i64 (cn : Int)] 31)).heap ∧ wx.os = w'.os ∧ wx.tape = w'.tape ∧ wx.output = w'.output) :
    BoxPost w6 ca cn (.pointer (some ⟨w'.heap.size, 0, none⟩)) wx := by
  obtain ⟨c1, c2, c3, c4⟩ := hc
  obtain ⟨x1, x2, x3, x4⟩ := hx
  have hB : Below w6.heap.size w6 w' := ⟨hb'.os.trans c2, hb'.tape.trans c3, hb'.output.trans c4, by rw [← c1]; exact hb'.size, fun k hk => by rw [← c1]; exact hb'.block k (by rw [c1]; exact hk)⟩
  have hC := hB.alloc hB.size (.cells #[.int .u32 (ca : Int), .int .i64 (cn : Int)] 31)
  refine ⟨_, rfl, hB.size, ⟨x2.trans hB.os, x3.trans hB.tape, x4.trans hB.output, by rw [x1]; exact hC.size, fun k hk => by rw [x1]; exact hC.block k hk⟩, ?_⟩
  have := Blk.new w' 31 #[.int .u32 (ca : Int), .int .i64 (cn : Int)]
  unfold Blk at this ⊢
  rw [x1]; exact this
theorem box_late2 {w6 wc w' wx : World} (hb' : Below wc.heap.size wc w') (hc : wc.heap = w6.heap ∧ wc.os = w6.os ∧ wc.tape = w6.tape ∧ wc.output = w6.output) (ca cn : Nat)
    (hx : wx.heap = (((w'.alloc (.cells #[.int .u32 0, .int .i64 0] 31)).setCell ⟨w'.heap.size, 0, none⟩ (.int .u32 (ca : Int))).setCell ⟨w'.heap.size, 1, none⟩ (.int .i64 (cn : Int))).heap ∧ wx.os = w'.os ∧ wx.tape = w'.tape ∧ wx.output = w'.output) :
    BoxPost w6 ca cn (.pointer (some ⟨w'.heap.size, 0, none⟩)) wx := by
  obtain ⟨c1, c2, c3, c4⟩ := hc
  obtain ⟨x1, x2, x3, x4⟩ := hx
  have hB : Below w6.heap.size w6 w' := ⟨hb'.os.trans c2, hb'.tape.trans c3, hb'.output.trans c4, by rw [← c1]; exact hb'.size, fun k hk => by rw [← c1]; exact hb'.block k (by rw [c1]; exact hk)⟩
  have hC := ((hB.alloc hB.size (.cells #[.int .u32 0, .int .i64 0] 31)).setCell (p := ⟨w'.heap.size, 0, none⟩) hB.size (.int .u32 (ca : Int))).setCell (p := ⟨w'.heap.size, 1, none⟩) hB.size (.int .i64 (cn : Int))
  refine ⟨_, rfl, hB.size, ⟨x2.trans hB.os, x3.trans hB.tape, x4.trans hB.output, by rw [x1]; exact hC.size, fun k hk => by rw [x1]; exact hC.block k hk⟩, ?_⟩
  have := ((Blk.new w' 31 #[.int .u32 0, .int .i64 0]).set_ 0 (.int .u32 (ca : Int))).set_ 1 (.int .i64 (cn : Int))
  rw [box_set] at this
  unfold Blk at this ⊢
  rw [x1]; exact this
theorem box_early {w6 wc w' wx : World} (hb' : Below wc.heap.size wc w') (hc : wc.heap = (w6.alloc (.cells #[.int .u32 0, .int .i64 0] 31)).heap ∧ wc.os = w6.os ∧ wc.tape = w6.tape ∧ wc.output = w6.output) (ca cn : Nat)
    (hx : wx.heap = ((w'.setCell ⟨w6.heap.size, 0, none⟩ (.int .u32 (ca : Int))).setCell ⟨w6.heap.size, 1, none⟩ (.int .i64 (cn : Int))).heap ∧ wx.os = w'.os ∧ wx.tape = w'.tape ∧ wx.output = w'.output) :
    BoxPost w6 ca cn (.pointer (some ⟨w6.heap.size, 0, none⟩)) wx := by
  obtain ⟨c1, c2, c3, c4⟩ := hc
  obtain ⟨x1, x2, x3, x4⟩ := hx
  have hsz : w6.heap.size < wc.heap.size := by rw [c1]; simp
  have hA := (Below.refl w6.heap.size w6).alloc (Nat.le_refl _) (.cells #[.int .u32 0, .int .i64 0] 31)
  have hB : Below w6.heap.size w6 w' := ⟨hb'.os.trans c2, hb'.tape.trans c3, hb'.output.trans c4, Nat.le_trans (Nat.le_of_lt hsz) hb'.size, fun k hk => by rw [hb'.block k (by omega), c1]; exact hA.block k hk⟩
  have hC := (hB.setCell (p := ⟨w6.heap.size, 0, none⟩) (Nat.le_refl _) (.int .u32 (ca : Int))).setCell (p := ⟨w6.heap.size, 1, none⟩) (Nat.le_refl _) (.int .i64 (cn : Int))
  refine ⟨_, rfl, Nat.le_refl _, ⟨x2.trans hB.os, x3.trans hB.tape, x4.trans hB.output, by rw [x1]; exact hC.size, fun k hk => by rw [x1]; exact hC.block k hk⟩, ?_⟩
  have hk : Blk w' w6.heap.size 31 #[.int .u32 0, .int .i64 0] := by
    unfold Blk
    rw [hb'.block w6.heap.size hsz, c1]
    exact Blk.new w6 _ _
  have := (hk.set_ 0 (.int .u32 (ca : Int))).set_ 1 (.int .i64 (cn : Int))
  rw [box_set] at this
  unfold Blk at this ⊢
  rw [x1]; exact this

/-- What Insert answers, of a prefix that may be. -/
def InsPost (w : World) (M : Nat → Prop) (tb : Nat) (limit : Int) (T : TT) (p : Bs) (v : Int) (e : Ending) (w' : World) : Prop :=
  ((((T.get p).isSome = true ∨ (T.list.length : Int) < limit) ∧ e = .returned (.int .i64 0) ∧ InsYes w M tb limit (T.ins p v) w') ∨
    ((T.get p = none ∧ limit ≤ (T.list.length : Int)) ∧ e = .returned (.int .i64 5) ∧ Below w.heap.size w w'))
set_option maxRecDepth 20000 in
set_option maxHeartbeats 8000000 in
theorem insert_yes (p : Bs) (v : Int) (tb : Nat) (M : Nat → Prop) (limit : Int) (T : TT) (w : World) (h : IsTr w M tb limit T) (hp : p.length ≤ 32) (hsm : T.list.length ≤ 1000000) :
    Calls Try.prog 14 #[.pointer (some ⟨tb, 0, none⟩), pxV (padB p) p.length, .int .i64 v] w (InsPost w M tb limit T p v) := by
  obtain ⟨pv0, hk, ht⟩ := h.ex
  have HT := Lib.hid (fun (o : Obj) => there_any tb _ _ _ (w.alloc o) (hk.alloc o))
  have HM := Lib.hid (fun (wx : World) => may_yes p wx hp)
  have HPL := Lib.hid (fun (wx : World) (hb : Below w.heap.size w wx) => place_any p tb pv0 _ _ _ T (fun k => M k) wx (hk.below hb hk.lt) (ht.keep ⟨hb.size, fun k hm _ => hb.block k (h.lt k hm.1)⟩) h.wf hp)
  have HK := Lib.hid hk
  have HTR := Lib.hid h
  have hlen := fun v => TT.ins_len h.wf hp v
  have HLEN := Lib.hid hlen
  clear h hk ht hlen
  obtain ⟨a, ha⟩ : ∃ a, a = padB p := ⟨_, rfl⟩
  obtain ⟨n, hn⟩ : ∃ n, n = p.length := ⟨_, rfl⟩
  obtain ⟨N, hN⟩ : ∃ N, N = T.list.length := ⟨_, rfl⟩
  rw [← hN] at HLEN HK hsm
  rw [← ha, ← hn] at HM HPL ⊢
  have HA := Lib.hid ha
  have HN := Lib.hid hn
  have HNN := Lib.hid hN
  clear ha hn hN
  have hB0 : Hid (∀ o, Below w.heap.size w (w.alloc o)) := Lib.hid fun o => (Below.refl _ _).alloc (Nat.le_refl _) o
  go_enter Try.func14, Try.ntmps14
  go_wp2_with (go_at_call 33; refine (HT.out _).mono ?_; rintro e w' ⟨rfl, rfl⟩)
  refine (HM.out _).mono ?_
  rintro e w2 ⟨rfl, hb2⟩
  have hx2 : Blk w2 w.heap.size 31 #[.int .u32 (a : Int), .int .i64 (n : Int)] := (Blk.new w _ _).below hb2 (by simp)
  have hb3 : Below w.heap.size w w2 := (hB0.out _).trans (hb2.mono (by simp))
  have x0 : w2.cell? ⟨w.heap.size, 0, none⟩ = some (.int .u32 (a : Int)) := hx2.cell 0
  have x1 : w2.cell? ⟨w.heap.size, 1, none⟩ = some (.int .i64 (n : Int)) := hx2.cell 1
  have HX := Lib.hid hx2
  have HB3 := Lib.hid hb3
  clear hb2 hx2 hb3
  go_wp2_with fail
  refine (HPL.out w2 HB3.out).mono ?_
  rintro e w4 ⟨hb, ho, pv, S, Mo, Ms, f, rfl, hb4, pat4, stop⟩
  have hb5 := HB3.out.trans (hb4.mono HB3.out.size)
  have ins4 : InS w w4 M tb limit (N : Int) pv0 T p hb ho pv S Mo Ms f := ⟨Upd.ofBelow hb5 _, HK.out.below hb5 HK.out.lt, by rw [← HA.out, ← HN.out]; exact HX.out.below hb4 HX.out.lt, pat4.back HB3.out HTR.out.lt⟩
  have I4 := Lib.hid ins4
  have x0 : w4.cell? ⟨w.heap.size, 0, none⟩ = some (.int .u32 (a : Int)) := (HX.out.below hb4 HX.out.lt).cell 0
  have x1 : w4.cell? ⟨w.heap.size, 1, none⟩ = some (.int .i64 (n : Int)) := (HX.out.below hb4 HX.out.lt).cell 1
  have t1 : w4.cell? ⟨tb, 1, none⟩ = some (.int .i64 limit) := ins4.tbk.cell 1
  have t2 : w4.cell? ⟨tb, 2, none⟩ = some (.int .i64 (N : Int)) := ins4.tbk.cell 2
  have t3 : w4.frozen? ⟨tb, 2, none⟩ = false := ins4.tbk.frozen 2
  have hcell : w4.cell? ⟨hb, ho, none⟩ = some pv := ins4.hole.1
  have HB5 := Lib.hid hb5
  have STOP := Lib.hid stop
  have htl := HTR.out.lt tb HTR.out.mb
  clear ins4 hb4 hb5 pat4 stop
  cases S with
  | nil =>
    obtain rfl : pv = .pointer none := I4.out.pat.tree
    have hg0 : T.get p = none := I4.out.pat.get
    have HG0 := Lib.hid hg0
    clear hg0
    by_cases hfull : limit ≤ (N : Int)
    · go_wp2_with fail
      go_quiet (fail)
      go_wp2_with fail
      go_quiet (fail)
      go_wp2_with fail
      go_ret
      exact .inr ⟨⟨HG0.out, by rw [← HNN.out]; exact hfull⟩, rfl, below_drewT (below_drewT HB5.out _) _⟩
    · have hn1 : IntKind.i64.wrap ((N : Int) + 1) = (N : Int) + 1 := IntWalk.i64_in _ (by omega)
      go_wp2_with fail
      go_quiet (fail)
      generalize nq = m1
      clear nq
      go_wp2_with fail
      go_quiet (fail)
      generalize nq = m2
      clear nq
      go_wp2_with fail
      have i5 := (I4.out.below (below_drewT (Below.refl _ _) (m1 + m2))).count htl ((N : Int) + 1)
      generalize (w4.drewN (m1 + m2)).setCell ⟨tb, 2, none⟩ (.int .i64 ((N : Int) + 1)) = w5 at i5 ⊢
      have x0 : w5.cell? ⟨w.heap.size, 0, none⟩ = some (.int .u32 (a : Int)) := by rw [HA.out]; exact i5.box.cell 0
      have x1 : w5.cell? ⟨w.heap.size, 1, none⟩ = some (.int .i64 (n : Int)) := by rw [HN.out]; exact i5.box.cell 1
      obtain ⟨hcell, hfz⟩ := i5.hole
      have I5 := Lib.hid i5
      have hbl5 := i5.box.lt
      have hhb : hb < w5.heap.size := World.block_lt_of_cell? w5 _ hcell
      clear i5 t1 t2 t3
      go_quiet (fail)
      generalize nq = m3
      clear nq
      have hcA : ∀ o, ((w5.drewN m3).alloc o).cell? ⟨hb, ho, none⟩ = some (.pointer none) := fun o => (World.cell?_alloc_lt (w5.drewN m3) o ⟨hb, ho, none⟩ hhb).trans hcell
      have hfA : ∀ o, ((w5.drewN m3).alloc o).frozen? ⟨hb, ho, none⟩ = false := fun o => ((Below.refl (w5.drewN m3).heap.size (w5.drewN m3)).alloc (Nat.le_refl _) o |>.frozen (p := ⟨hb, ho, none⟩) hhb).trans hfz
      go_wp2_with fail
      go_ret
      have hl : ((T.ins p v).list.length : Int) = (N : Int) + 1 := by
        have := HLEN.out v
        rw [HG0.out] at this
        simp at this
        omega
      have i6 := (I5.out.below (below_drewT (Below.refl _ _) m3))
      have i7 := i6.below ((Below.refl _ _).alloc (Nat.le_refl _) (.cells #[.int .u32 (a : Int), .int .i64 (n : Int), .int .i64 v, .bool true, .pointer none, .pointer none] 78))
      rw [← hl] at i7
      refine .inl ⟨.inr (by rw [← HNN.out]; omega), rfl, InS.fin HTR.out hp (v := v) i7 (M2 := fun k => k = w5.heap.size) ?_ (fun k hk => .inr (by rw [hk]; exact Nat.le_of_lt hbl5))⟩
      refine ⟨w5.heap.size, .pointer none, .pointer none, fun _ => False, fun _ => False, rfl, ?_, rfl, fun _ h => h.elim, fun _ h => h.elim, fun _ h => h.elim, rfl, rfl⟩
      have := Blk.new (w5.drewN m3) 78 #[.int .u32 (a : Int), .int .i64 (n : Int), .int .i64 v, .bool true, .pointer none, .pointer none]
      rw [HA.out, HN.out] at this ⊢
      exact this
  | node q x g l r =>
    obtain ⟨b, pl, pr, Ml, Mr, h1, h2, hmb, h4, h5, h6, h7, h8⟩ := I4.out.pat.tree
    obtain ⟨c, hc, w1, qw, _⟩ := I4.out.pat.ctx
    subst h1
    have hbt : b ≠ tb := (I4.out.pat.ms b hmb).2
    have hkb := I4.out.blk h2 hbt
    have hblt := h2.lt
    obtain ⟨qa, hqa⟩ : ∃ qa, qa = padB q := ⟨_, rfl⟩
    obtain ⟨qn, hqn⟩ : ∃ qn, qn = q.length := ⟨_, rfl⟩
    have y0 : w4.cell? ⟨b, 0, none⟩ = some (.int .u32 (qa : Int)) := by rw [hqa]; exact hkb.cell 0
    have y1 : w4.cell? ⟨b, 1, none⟩ = some (.int .i64 (qn : Int)) := by rw [hqn]; exact hkb.cell 1
    have y2 : w4.cell? ⟨b, 2, none⟩ = some (.int .i64 x) := hkb.cell 2
    have y3 : w4.cell? ⟨b, 3, none⟩ = some (.bool g) := hkb.cell 3
    have z2 : w4.frozen? ⟨b, 2, none⟩ = false := hkb.frozen 2
    have z3 : w4.frozen? ⟨b, 3, none⟩ = false := hkb.frozen 3
    have HQA := Lib.hid hqa
    have HQN := Lib.hid hqn
    have HK4 := Lib.hid hkb
    have H4 := Lib.hid h4
    have H5 := Lib.hid h5
    have H6 := Lib.hid h6
    have H7 := Lib.hid h7
    have H8 := Lib.hid h8
    clear h2 hkb hqa hqn hc w1 h4 h5 h6 h7 h8
    by_cases he : q = p
    · have e1 : qa = a := by rw [HQA.out, HA.out, he]
      have e2 : qn = n := by rw [HQN.out, HN.out, he]
      subst e1; subst e2
      have hq2 : ∀ w, (binOp .eql 31 (.agg #[.int .u32 (qa : Int), .int .i64 (qn : Int)]) (.agg #[.int .u32 (qa : Int), .int .i64 (qn : Int)])).run Try.prog w = .ok (.bool true) w := fun w => by
        rw [eql_px, decide_eq_true]
        exact ⟨rfl, rfl⟩
      have hget : T.get p = if g then some x else none := by rw [I4.out.pat.get, TT.get, if_pos he]
      have hins : (TT.node q x g l r).ins p v = .node q v true l r := by rw [TT.ins, if_pos he]
      have HGET := Lib.hid hget
      have HINS := Lib.hid hins
      clear he hget hins
      cases g with
      | true =>
        go_wp2_with fail
        go_quiet (fail)
        generalize nq = m1
        clear nq
        go_wp2_with fail
        go_ret
        have hl : (T.ins p v).list.length = N := by
          have := HLEN.out v
          rw [HGET.out] at this
          simpa using this
        have i6 := I4.out.below (below_drewT (Below.refl _ _) m1)
        rw [← hl] at i6
        refine .inl ⟨.inl (by rw [HGET.out]; rfl), rfl, InS.fin2 HTR.out hp (v := v) i6 hmb (upd_set _ b 2 _) ?_⟩
        rw [HINS.out]
        refine ⟨b, pl, pr, Ml, Mr, rfl, ?_, hmb, H4.out, H5.out, H6.out, ?_, ?_⟩
        · have := (HK4.out.drewN m1).set_ 2 (.int .i64 v)
          simpa [ndC] using this
        · exact (H7.out.blk fun k hk cs hcs => ((I4.out.blk hcs (I4.out.pat.ms k (H4.out k hk).1).2).drewN m1).far (p := ⟨b, 2, none⟩) (H4.out k hk).2 _)
        · exact (H8.out.blk fun k hk cs hcs => ((I4.out.blk hcs (I4.out.pat.ms k (H5.out k hk).1).2).drewN m1).far (p := ⟨b, 2, none⟩) (H5.out k hk).2 _)
      | false =>
        by_cases hfull : limit ≤ (N : Int)
        · go_wp2_with fail
          go_quiet (fail)
          go_wp2_with fail
          go_quiet (fail)
          go_wp2_with fail
          go_ret
          exact .inr ⟨⟨by rw [HGET.out]; rfl, by rw [← HNN.out]; exact hfull⟩, rfl, below_drewT (below_drewT HB5.out _) _⟩
        · have hn1 : IntKind.i64.wrap ((N : Int) + 1) = (N : Int) + 1 := IntWalk.i64_in _ (by omega)
          go_wp2_with fail
          go_quiet (fail)
          generalize nq = m1
          clear nq
          go_wp2_with fail
          go_quiet (fail)
          generalize nq = m2
          clear nq
          go_wp2_with fail
          have i5 := (I4.out.below (below_drewT (Below.refl _ _) (m1 + m2))).count htl ((N : Int) + 1)
          have hk5 : Blk ((w4.drewN (m1 + m2)).setCell ⟨tb, 2, none⟩ (.int .i64 ((N : Int) + 1))) b 78 (ndC q x false pl pr) := (HK4.out.drewN _).far (p := ⟨tb, 2, none⟩) hbt _
          generalize (w4.drewN (m1 + m2)).setCell ⟨tb, 2, none⟩ (.int .i64 ((N : Int) + 1)) = w5 at i5 hk5 ⊢
          have x0 : w5.cell? ⟨w.heap.size, 0, none⟩ = some (.int .u32 (qa : Int)) := by rw [HA.out]; exact i5.box.cell 0
          have x1 : w5.cell? ⟨w.heap.size, 1, none⟩ = some (.int .i64 (qn : Int)) := by rw [HN.out]; exact i5.box.cell 1
          have y0 : w5.cell? ⟨b, 0, none⟩ = some (.int .u32 (qa : Int)) := by rw [HQA.out]; exact hk5.cell 0
          have y1 : w5.cell? ⟨b, 1, none⟩ = some (.int .i64 (qn : Int)) := by rw [HQN.out]; exact hk5.cell 1
          have y2 : w5.cell? ⟨b, 2, none⟩ = some (.int .i64 x) := hk5.cell 2
          have y3 : w5.cell? ⟨b, 3, none⟩ = some (.bool false) := hk5.cell 3
          have z2 : w5.frozen? ⟨b, 2, none⟩ = false := hk5.frozen 2
          have z3 : w5.frozen? ⟨b, 3, none⟩ = false := hk5.frozen 3
          have I5 := Lib.hid i5
          have HK5 := Lib.hid hk5
          clear i5 hk5 t1 t2 t3
          go_quiet (fail)
          generalize nq = m3
          clear nq
          go_wp2_with fail
          go_ret
          have hl : ((T.ins p v).list.length : Int) = (N : Int) + 1 := by
            have := HLEN.out v
            rw [HGET.out] at this
            simp at this
            omega
          have i6 := I5.out.below (below_drewT (Below.refl _ _) m3)
          rw [← hl] at i6
          refine .inl ⟨.inr (by rw [← HNN.out]; omega), rfl, InS.fin2 HTR.out hp (v := v) i6 hmb ((upd_set _ b 2 _).set_ 3 _) ?_⟩
          rw [HINS.out]
          refine ⟨b, pl, pr, Ml, Mr, rfl, ?_, hmb, H4.out, H5.out, H6.out, ?_, ?_⟩
          · have := ((HK5.out.drewN m3).set_ 2 (.int .i64 v)).set_ 3 (.bool true)
            simpa [ndC] using this
          · exact (H7.out.blk fun k hk cs hcs => (((I5.out.blk hcs (I4.out.pat.ms k (H4.out k hk).1).2).drewN m3).far (p := ⟨b, 2, none⟩) (H4.out k hk).2 _).far (p := ⟨b, 3, none⟩) (H4.out k hk).2 _)
          · exact (H8.out.blk fun k hk cs hcs => (((I5.out.blk hcs (I4.out.pat.ms k (H5.out k hk).1).2).drewN m3).far (p := ⟨b, 2, none⟩) (H5.out k hk).2 _).far (p := ⟨b, 3, none⟩) (H5.out k hk).2 _)
    · have hpre : ¬ q <+: p := by
        rcases STOP.out with h | h
        · exact absurd h he
        · exact h
      have hne : ¬ (qa = a ∧ qn = n) := fun ⟨e1, e2⟩ => he (by
        rw [HQA.out, HA.out] at e1
        rw [HQN.out, HN.out] at e2
        exact pad_inj qw e2 e1)
      have hq1 : ∀ w, (binOp .eql 31 (.agg #[.int .u32 (qa : Int), .int .i64 (qn : Int)]) (.agg #[.int .u32 (a : Int), .int .i64 (n : Int)])).run Try.prog w = .ok (.bool false) w := fun w => by
        rw [eql_px, decide_eq_false]
        exact fun h => hne ⟨h.1, by have := h.2; omega⟩
      have hget : T.get p = none := by rw [I4.out.pat.get, TT.get, if_neg he, if_neg hpre]
      have hins : (TT.node q x g l r).ins p v = if lcpB q p = p then (if nth q p.length then .node p v true .nil (.node q x g l r) else .node p v true (.node q x g l r) .nil)
          else fork (lcpB q p) (nth p (lcpB q p).length) (.node p v true .nil .nil) (.node q x g l r) := by
        rw [TT.ins, if_neg he, if_neg hpre]
      have hl : ((T.ins p v).list.length : Int) = (N : Int) + 1 := by
        have := HLEN.out v
        rw [hget] at this
        simp at this
        omega
      have HGET := Lib.hid hget
      have HINS := Lib.hid hins
      have HL := Lib.hid hl
      have HE := Lib.hid he
      have HPRE := Lib.hid hpre
      clear he hget hins hpre hne hl
      by_cases hfull : limit ≤ (N : Int)
      · go_wp2_with fail
        go_quiet (fail)
        go_wp2_with fail
        go_quiet (fail)
        go_wp2_with fail
        go_ret
        exact .inr ⟨⟨HGET.out, by rw [← HNN.out]; exact hfull⟩, rfl, below_drewT (below_drewT HB5.out _) _⟩
      · have hn1 : IntKind.i64.wrap ((N : Int) + 1) = (N : Int) + 1 := IntWalk.i64_in _ (by omega)
        go_wp2_with fail
        go_quiet (fail)
        generalize nq = m1
        clear nq
        go_wp2_with fail
        go_quiet (fail)
        generalize nq = m2
        clear nq
        go_wp2_with fail
        have i5 := (I4.out.below (below_drewT (Below.refl _ _) (m1 + m2))).count htl ((N : Int) + 1)
        have hk5 : Blk ((w4.drewN (m1 + m2)).setCell ⟨tb, 2, none⟩ (.int .i64 ((N : Int) + 1))) b 78 (ndC q x g pl pr) := (HK4.out.drewN _).far (p := ⟨tb, 2, none⟩) hbt _
        generalize (w4.drewN (m1 + m2)).setCell ⟨tb, 2, none⟩ (.int .i64 ((N : Int) + 1)) = w5 at i5 hk5 ⊢
        have x0 : w5.cell? ⟨w.heap.size, 0, none⟩ = some (.int .u32 (a : Int)) := by rw [HA.out]; exact i5.box.cell 0
        have x1 : w5.cell? ⟨w.heap.size, 1, none⟩ = some (.int .i64 (n : Int)) := by rw [HN.out]; exact i5.box.cell 1
        have y0 : w5.cell? ⟨b, 0, none⟩ = some (.int .u32 (qa : Int)) := by rw [HQA.out]; exact hk5.cell 0
        have y1 : w5.cell? ⟨b, 1, none⟩ = some (.int .i64 (qn : Int)) := by rw [HQN.out]; exact hk5.cell 1
        have hbl5 := i5.box.lt
        have I5 := Lib.hid i5
        have HK5 := Lib.hid hk5
        clear i5 hk5 t1 t2 t3 y2 y3 z2 z3
        go_quiet (fail)
        generalize nq = m3
        clear nq
        go_wp2_with fail
        have i6 := (I5.out.below (below_drewT (Below.refl _ _) m3)).below ((Below.refl _ _).alloc (Nat.le_refl _) (.cells #[.int .u32 (a : Int), .int .i64 (n : Int), .int .i64 v, .bool true, .pointer none, .pointer none] 78))
        have hf6 := Blk.new (w5.drewN m3) 78 #[.int .u32 (a : Int), .int .i64 (n : Int), .int .i64 v, .bool true, .pointer none, .pointer none]
        have hk6 := (HK5.out.drewN m3).alloc (.cells #[.int .u32 (a : Int), .int .i64 (n : Int), .int .i64 v, .bool true, .pointer none, .pointer none] 78)
        generalize (w5.drewN m3).alloc (.cells #[.int .u32 (a : Int), .int .i64 (n : Int), .int .i64 v, .bool true, .pointer none, .pointer none] 78) = w6 at i6 hf6 hk6 ⊢
        rw [show (w5.drewN m3).heap.size = w5.heap.size from rfl] at hf6
        obtain ⟨fb, hfb⟩ : ∃ fb, fb = w5.heap.size := ⟨_, rfl⟩
        rw [← hfb] at hf6 hbl5 ⊢
        clear hfb
        have x0 : w6.cell? ⟨w.heap.size, 0, none⟩ = some (.int .u32 (a : Int)) := by rw [HA.out]; exact i6.box.cell 0
        have x1 : w6.cell? ⟨w.heap.size, 1, none⟩ = some (.int .i64 (n : Int)) := by rw [HN.out]; exact i6.box.cell 1
        have y0 : w6.cell? ⟨b, 0, none⟩ = some (.int .u32 (qa : Int)) := by rw [HQA.out]; exact hk6.cell 0
        have y1 : w6.cell? ⟨b, 1, none⟩ = some (.int .i64 (qn : Int)) := by rw [HQN.out]; exact hk6.cell 1
        have s6 := i6.box.lt
        have b6 := hk6.lt
        have I6 := Lib.hid i6
        have HF6 := Lib.hid hf6
        have HK6 := Lib.hid hk6
        clear i6 hf6 hk6
        obtain ⟨ca, hca⟩ : ∃ ca, ca = padB (lcpB q p) := ⟨_, rfl⟩
        obtain ⟨cn, hcn⟩ : ∃ cn, cn = (lcpB q p).length := ⟨_, rfl⟩
        have hcm := fun (wx : World) => common_any q p wx qw hp
        rw [← HQA.out, ← HQN.out, ← HA.out, ← HN.out, ← hca, ← hcn] at hcm
        have HC := Lib.hid hcm
        have HCA := Lib.hid hca
        have HCN := Lib.hid hcn
        clear hcm hca hcn
        go_wp2_with fail
        go_cut [10] (fun s10 wx => BoxPost w6 ca cn s10 wx)
        case first =>
          go_region_with (go_at_call 37; refine (HC.out _).mono ?_; rintro e w' ⟨rfl, hb'⟩; obtain ⟨hcc, hff⟩ := bcellT hb'; have hzz := hb'.size)
          all_goals
            go_wp2_with fail
            go_meet
            first
              | exact box_late (w6 := w6) hb' ⟨rfl, rfl, rfl, rfl⟩ ca cn ⟨rfl, rfl, rfl, rfl⟩
              | exact box_late2 (w6 := w6) hb' ⟨rfl, rfl, rfl, rfl⟩ ca cn ⟨rfl, rfl, rfl, rfl⟩
              | exact box_early (w6 := w6) hb' ⟨rfl, rfl, rfl, rfl⟩ ca cn ⟨rfl, rfl, rfl, rfl⟩
        case rest =>
          obtain ⟨cb, rfl, hcb, hbl, hkc⟩ := hcut
          have i7 := I6.out.below hbl
          have hf7 := HF6.out.below hbl HF6.out.lt
          have hk7 := HK6.out.below hbl HK6.out.lt
          have x0 : wc.cell? ⟨w.heap.size, 0, none⟩ = some (.int .u32 (a : Int)) := by rw [HA.out]; exact i7.box.cell 0
          have x1 : wc.cell? ⟨w.heap.size, 1, none⟩ = some (.int .i64 (n : Int)) := by rw [HN.out]; exact i7.box.cell 1
          have y0 : wc.cell? ⟨b, 0, none⟩ = some (.int .u32 (qa : Int)) := by rw [HQA.out]; exact hk7.cell 0
          have y1 : wc.cell? ⟨b, 1, none⟩ = some (.int .i64 (qn : Int)) := by rw [HQN.out]; exact hk7.cell 1
          have c0 : wc.cell? ⟨cb, 0, none⟩ = some (.int .u32 (ca : Int)) := hkc.cell 0
          have c1 : wc.cell? ⟨cb, 1, none⟩ = some (.int .i64 (cn : Int)) := hkc.cell 1
          have I7 := Lib.hid i7
          have HF7 := Lib.hid hf7
          have HK7 := Lib.hid hk7
          have hbl7 := hbl.size
          have HKC := Lib.hid hkc
          have hfb6 := HF6.out.lt
          clear i7 hf7 hk7 hbl hkc
          by_cases hcp : lcpB q p = p
          · have e1 : ca = a := by rw [HCA.out, HA.out, hcp]
            have e2 : cn = n := by rw [HCN.out, HN.out, hcp]
            subst e1; subst e2
            have hq2 : ∀ w, (binOp .eql 31 (.agg #[.int .u32 (ca : Int), .int .i64 (cn : Int)]) (.agg #[.int .u32 (ca : Int), .int .i64 (cn : Int)])).run Try.prog w = .ok (.bool true) w := fun w => by
              rw [eql_px, decide_eq_true]
              exact ⟨rfl, rfl⟩
            have hpq : p <+: q := by rw [← hcp]; exact lcp_left q p
            have hplt : p.length < q.length := Nat.lt_of_le_of_ne hpq.length_le fun e => HE.out (hpq.eq_of_length e).symm
            have hbi : bitI qa cn = if nth q p.length then 1 else 0 := by
              unfold bitI bitB nth
              rw [HQA.out, HN.out, padB_bit q qw p.length (by omega)]
            have hqa32 : qa < 2 ^ 32 := by rw [HQA.out]; exact padB_lt q qw
            have hbc := fun (wx : World) => bit_any qa cn wx (by rw [HN.out]; omega) hqa32
            have HCP := Lib.hid hcp
            have f4 : wc.cell? ⟨fb, 4, none⟩ = some (.pointer none) := HF7.out.cell 4
            have f5 : wc.cell? ⟨fb, 5, none⟩ = some (.pointer none) := HF7.out.cell 5
            have g4 : wc.frozen? ⟨fb, 4, none⟩ = false := HF7.out.frozen 4
            have g5 : wc.frozen? ⟨fb, 5, none⟩ = false := HF7.out.frozen 5
            obtain ⟨hcell7, hfz7⟩ := I7.out.hole
            have hfh : fb ≠ hb := fun e => by
              have : hb < w.heap.size := by
                by_cases e2 : hb = tb
                · rw [e2]; exact htl
                · exact HTR.out.lt hb (I7.out.pat.mo hb (I7.out.pat.hole e2).1).1
              omega
            clear hcp hpq hplt hqa32
            cases hdir : nth q p.length with
            | false =>
              rw [hdir, if_neg (by decide)] at hbi
              rw [hbi] at hbc
              have HDIR := Lib.hid hdir
              clear hbi hdir
              go_wp2_with fail
              go_still_tail 13, (by kernel_rfl)
              still_call ((hbc wc.drew).mono fun _ _ ⟨h, hw⟩ => ⟨h, hw.symm⟩)
              repeat still_step
              refine wpStill_nil ?_
              go_wp2_with fail
              go_ret
              have hn8 : Blk (wc.setCell ⟨fb, 4, none⟩ (.pointer (some ⟨b, 0, none⟩))) fb 78 (ndC p v true (.pointer (some ⟨b, 0, none⟩)) (.pointer none)) := by
                have := HF7.out.set_ 4 (.pointer (some ⟨b, 0, none⟩))
                rw [HA.out, HN.out] at this
                simpa [ndC] using this
              have i8 : InS w (wc.setCell ⟨fb, 4, none⟩ (.pointer (some ⟨b, 0, none⟩))) M tb limit ((N : Int) + 1) pv0 T p hb ho (.pointer (some ⟨b, 0, none⟩)) (.node q x g l r) Mo Ms f :=
                ⟨I7.out.upd.setCell (p := ⟨fb, 4, none⟩) (.inr (Nat.le_of_lt hbl5)) _, I7.out.tbk.far (p := ⟨fb, 4, none⟩) (by show tb ≠ fb; omega) _, I7.out.box.far (p := ⟨fb, 4, none⟩) (by show w.heap.size ≠ fb; omega) _, I7.out.pat⟩
              rw [← HL.out] at i8
              have ht8 : IsT (wc.setCell ⟨fb, 4, none⟩ (.pointer (some ⟨b, 0, none⟩))) Ms (.pointer (some ⟨b, 0, none⟩)) (.node q x g l r) := I7.out.pat.tree.blk fun k hk cs hcs => i8.blk hcs (I7.out.pat.ms k hk).2
              refine .inl ⟨.inr (by rw [← HNN.out]; omega), rfl, InS.fin HTR.out hp (v := v) (wx := wc.drew.setCell ⟨fb, 4, none⟩ (.pointer (some ⟨b, 0, none⟩))) ⟨i8.upd.drew, i8.tbk, i8.box, i8.pat⟩ (M2 := fun k => k = fb ∨ Ms k) ?_ (fun k hk => hk.elim (fun e => .inr (by omega)) .inl)⟩
              rw [HINS.out, if_pos HCP.out, HDIR.out]
              exact ⟨fb, _, _, Ms, fun _ => False, rfl, hn8, .inl rfl, fun k hk => ⟨.inr hk, fun e => by have := HTR.out.lt k (I7.out.pat.ms k hk).1; omega⟩, fun _ h => h.elim, fun _ _ h => h, ht8.keep (Same.ofHeap _ rfl), rfl⟩
            | true =>
              rw [hdir, if_pos rfl] at hbi
              rw [hbi] at hbc
              have HDIR := Lib.hid hdir
              clear hbi hdir
              go_wp2_with fail
              go_still_tail 13, (by kernel_rfl)
              still_call ((hbc wc.drew).mono fun _ _ ⟨h, hw⟩ => ⟨h, hw.symm⟩)
              repeat still_step
              refine wpStill_nil ?_
              go_wp2_with fail
              go_ret
              have hn8 : Blk (wc.setCell ⟨fb, 5, none⟩ (.pointer (some ⟨b, 0, none⟩))) fb 78 (ndC p v true (.pointer none) (.pointer (some ⟨b, 0, none⟩))) := by
                have := HF7.out.set_ 5 (.pointer (some ⟨b, 0, none⟩))
                rw [HA.out, HN.out] at this
                simpa [ndC] using this
              have i8 : InS w (wc.setCell ⟨fb, 5, none⟩ (.pointer (some ⟨b, 0, none⟩))) M tb limit ((N : Int) + 1) pv0 T p hb ho (.pointer (some ⟨b, 0, none⟩)) (.node q x g l r) Mo Ms f :=
                ⟨I7.out.upd.setCell (p := ⟨fb, 5, none⟩) (.inr (Nat.le_of_lt hbl5)) _, I7.out.tbk.far (p := ⟨fb, 5, none⟩) (by show tb ≠ fb; omega) _, I7.out.box.far (p := ⟨fb, 5, none⟩) (by show w.heap.size ≠ fb; omega) _, I7.out.pat⟩
              rw [← HL.out] at i8
              have ht8 : IsT (wc.setCell ⟨fb, 5, none⟩ (.pointer (some ⟨b, 0, none⟩))) Ms (.pointer (some ⟨b, 0, none⟩)) (.node q x g l r) := I7.out.pat.tree.blk fun k hk cs hcs => i8.blk hcs (I7.out.pat.ms k hk).2
              refine .inl ⟨.inr (by rw [← HNN.out]; omega), rfl, InS.fin HTR.out hp (v := v) (wx := wc.drew.setCell ⟨fb, 5, none⟩ (.pointer (some ⟨b, 0, none⟩))) ⟨i8.upd.drew, i8.tbk, i8.box, i8.pat⟩ (M2 := fun k => k = fb ∨ Ms k) ?_ (fun k hk => hk.elim (fun e => .inr (by omega)) .inl)⟩
              rw [HINS.out, if_pos HCP.out, HDIR.out]
              exact ⟨fb, _, _, fun _ => False, Ms, rfl, hn8, .inl rfl, fun _ h => h.elim, fun k hk => ⟨.inr hk, fun e => by have := HTR.out.lt k (I7.out.pat.ms k hk).1; omega⟩, fun _ h => h.elim, rfl, ht8.keep (Same.ofHeap _ rfl)⟩
          · have hnc : ¬ (ca = a ∧ cn = n) := fun ⟨e1, e2⟩ => hcp (by
              rw [HCA.out, HA.out] at e1
              rw [HCN.out, HN.out] at e2
              exact pad_inj (Nat.le_trans (lcp_left q p).length_le qw) e2 e1)
            have hq2 : ∀ w, (binOp .eql 31 (.agg #[.int .u32 (ca : Int), .int .i64 (cn : Int)]) (.agg #[.int .u32 (a : Int), .int .i64 (n : Int)])).run Try.prog w = .ok (.bool false) w := fun w => by
              rw [eql_px, decide_eq_false]
              exact fun h => hnc ⟨h.1, by have := h.2; omega⟩
            obtain ⟨bb, g1, g2⟩ := part_of HPRE.out hcp
            obtain ⟨p3, p4⟩ := getD_of_snoc g1
            obtain ⟨p1, p2⟩ := getD_of_snoc g2
            have ha32 : a < 2 ^ 32 := by rw [HA.out]; exact padB_lt p hp
            have hqa32 : qa < 2 ^ 32 := by rw [HQA.out]; exact padB_lt q qw
            have HCP := Lib.hid hcp
            have hhbl : hb < w.heap.size := by
              by_cases e2 : hb = tb
              · rw [e2]; exact htl
              · exact HTR.out.lt hb (I7.out.pat.mo hb (I7.out.pat.hole e2).1).1
            clear hcp hnc
            cases bb with
            | true =>
              have he1 : bitI a cn = 0 := by
                unfold bitI bitB
                rw [HA.out, HCN.out, padB_bit p hp _ (by omega), p1]; rfl
              have he2 : bitI qa cn = 1 := by
                unfold bitI bitB
                rw [HQA.out, HCN.out, padB_bit q qw _ (by omega), p3]; rfl
              have hcn31 : cn ≤ 31 := by rw [HCN.out]; omega
              have P1 := Lib.hid p1
              clear p1 p3 g1 g2
              go_wp2_with fail
              have i8 := I7.out.below ((Below.refl _ _).alloc (Nat.le_refl _) (.cells #[.int .u32 (ca : Int), .int .i64 (cn : Int), .int .i64 0, .bool false, .pointer none, .pointer none] 78))
              have hf8 := HF7.out.alloc (.cells #[.int .u32 (ca : Int), .int .i64 (cn : Int), .int .i64 0, .bool false, .pointer none, .pointer none] 78)
              have hkq8 := HK7.out.alloc (.cells #[.int .u32 (ca : Int), .int .i64 (cn : Int), .int .i64 0, .bool false, .pointer none, .pointer none] 78)
              have hc8 := HKC.out.alloc (.cells #[.int .u32 (ca : Int), .int .i64 (cn : Int), .int .i64 0, .bool false, .pointer none, .pointer none] 78)
              have hn8 := Blk.new wc 78 #[.int .u32 (ca : Int), .int .i64 (cn : Int), .int .i64 0, .bool false, .pointer none, .pointer none]
              obtain ⟨kb, hkb⟩ : ∃ kb, kb = wc.heap.size := ⟨_, rfl⟩
              have hkbl : w6.heap.size ≤ kb := by rw [hkb]; exact hbl7
              have hcbk : cb < kb := by rw [hkb]; exact HKC.out.lt
              rw [← hkb] at hn8
              generalize wc.alloc (.cells #[.int .u32 (ca : Int), .int .i64 (cn : Int), .int .i64 0, .bool false, .pointer none, .pointer none] 78) = w8 at i8 hf8 hkq8 hc8 hn8 ⊢
              rw [← hkb]
              clear hkb
              have x0 : w8.cell? ⟨w.heap.size, 0, none⟩ = some (.int .u32 (a : Int)) := by rw [HA.out]; exact i8.box.cell 0
              have y0 : w8.cell? ⟨b, 0, none⟩ = some (.int .u32 (qa : Int)) := by rw [HQA.out]; exact hkq8.cell 0
              have c1 : w8.cell? ⟨cb, 1, none⟩ = some (.int .i64 (cn : Int)) := hc8.cell 1
              have k4 : w8.cell? ⟨kb, 4, none⟩ = some (.pointer none) := hn8.cell 4
              have k5 : w8.cell? ⟨kb, 5, none⟩ = some (.pointer none) := hn8.cell 5
              have j4 : w8.frozen? ⟨kb, 4, none⟩ = false := hn8.frozen 4
              have j5 : w8.frozen? ⟨kb, 5, none⟩ = false := hn8.frozen 5
              obtain ⟨hcell8, hfz8⟩ := i8.hole
              have hkh : kb ≠ hb := fun e => by omega
              have I8 := Lib.hid i8
              have HF8 := Lib.hid hf8
              have HN8 := Lib.hid hn8
              clear i8 hf8 hkq8 hc8 hn8
              go_upto_region 26 with fail
              refine reg26_f (w8 := w8) x0 y0 c1 HN8.out hcn31 ha32 hqa32 he1 he2 (by omega) (by omega) (by omega) ?_
              intro x116 x117 x118 x119 x120 x121 x122 x123 x124 x125 x126 x127 x128 x129 x130 x131 x132 x133 x134 x135 x136 x137 x138 w9 ⟨hn9, hu9⟩
              have hf9 : Blk w9 fb 78 (ndC p v true (.pointer none) (.pointer none)) := by
                have := HF8.out.upd hu9 (fun e : fb = kb => by omega)
                rw [HA.out, HN.out] at this
                exact this
              have i9 : InS w w9 M tb limit ((N : Int) + 1) pv0 T p hb ho (.pointer (some ⟨b, 0, none⟩)) (.node q x g l r) Mo Ms f :=
                ⟨I8.out.upd.trans hu9 (fun k (e : k = kb) => .inr (by omega)), I8.out.tbk.upd hu9 (fun e : tb = kb => by omega), I8.out.box.upd hu9 (fun e : w.heap.size = kb => by omega), I8.out.pat⟩
              obtain ⟨hcell9, hfz9⟩ := i9.hole
              have I9 := Lib.hid i9
              have HN9 := Lib.hid hn9
              have HF9 := Lib.hid hf9
              clear hu9 i9 hn9 hf9
              go_wp2_with fail
              go_ret
              have i9 := I9.out
              have hf9 := HF9.out
              have hn9 := HN9.out
              rw [← HL.out] at i9
              rw [HCA.out, HCN.out] at hn9
              have ht9 : IsT w9 Ms (.pointer (some ⟨b, 0, none⟩)) (.node q x g l r) := I7.out.pat.tree.blk fun k hk cs hcs => i9.blk hcs (I7.out.pat.ms k hk).2
              refine .inl ⟨.inr (by rw [← HNN.out]; omega), rfl, InS.fin HTR.out hp (v := v) i9 (M2 := fun k => k = kb ∨ k = fb ∨ Ms k) ?_ (fun k hk => hk.elim (fun e => .inr (by omega)) fun hk => hk.elim (fun e => .inr (by omega)) .inl)⟩
              rw [HINS.out, if_neg HCP.out, show nth p (lcpB q p).length = _ from P1.out]
              exact ⟨kb, _, _, fun k => k = fb, Ms, rfl, hn9, .inl rfl, fun k hk => ⟨.inr (.inl hk), fun e => by omega⟩, fun k hk => ⟨.inr (.inr hk), fun e => by have := HTR.out.lt k (I7.out.pat.ms k hk).1; omega⟩, fun k e hk => by have := HTR.out.lt k (I7.out.pat.ms k hk).1; omega, ⟨fb, _, _, fun _ => False, fun _ => False, rfl, hf9, rfl, fun _ h => h.elim, fun _ h => h.elim, fun _ h => h.elim, rfl, rfl⟩, ht9⟩
            | false =>
              have he1 : bitI a cn = 1 := by
                unfold bitI bitB
                rw [HA.out, HCN.out, padB_bit p hp _ (by omega), p1]; rfl
              have he2 : bitI qa cn = 0 := by
                unfold bitI bitB
                rw [HQA.out, HCN.out, padB_bit q qw _ (by omega), p3]; rfl
              have hcn31 : cn ≤ 31 := by rw [HCN.out]; omega
              have P1 := Lib.hid p1
              clear p1 p3 g1 g2
              go_wp2_with fail
              have i8 := I7.out.below ((Below.refl _ _).alloc (Nat.le_refl _) (.cells #[.int .u32 (ca : Int), .int .i64 (cn : Int), .int .i64 0, .bool false, .pointer none, .pointer none] 78))
              have hf8 := HF7.out.alloc (.cells #[.int .u32 (ca : Int), .int .i64 (cn : Int), .int .i64 0, .bool false, .pointer none, .pointer none] 78)
              have hkq8 := HK7.out.alloc (.cells #[.int .u32 (ca : Int), .int .i64 (cn : Int), .int .i64 0, .bool false, .pointer none, .pointer none] 78)
              have hc8 := HKC.out.alloc (.cells #[.int .u32 (ca : Int), .int .i64 (cn : Int), .int .i64 0, .bool false, .pointer none, .pointer none] 78)
              have hn8 := Blk.new wc 78 #[.int .u32 (ca : Int), .int .i64 (cn : Int), .int .i64 0, .bool false, .pointer none, .pointer none]
              obtain ⟨kb, hkb⟩ : ∃ kb, kb = wc.heap.size := ⟨_, rfl⟩
              have hkbl : w6.heap.size ≤ kb := by rw [hkb]; exact hbl7
              have hcbk : cb < kb := by rw [hkb]; exact HKC.out.lt
              rw [← hkb] at hn8
              generalize wc.alloc (.cells #[.int .u32 (ca : Int), .int .i64 (cn : Int), .int .i64 0, .bool false, .pointer none, .pointer none] 78) = w8 at i8 hf8 hkq8 hc8 hn8 ⊢
              rw [← hkb]
              clear hkb
              have x0 : w8.cell? ⟨w.heap.size, 0, none⟩ = some (.int .u32 (a : Int)) := by rw [HA.out]; exact i8.box.cell 0
              have y0 : w8.cell? ⟨b, 0, none⟩ = some (.int .u32 (qa : Int)) := by rw [HQA.out]; exact hkq8.cell 0
              have c1 : w8.cell? ⟨cb, 1, none⟩ = some (.int .i64 (cn : Int)) := hc8.cell 1
              have k4 : w8.cell? ⟨kb, 4, none⟩ = some (.pointer none) := hn8.cell 4
              have k5 : w8.cell? ⟨kb, 5, none⟩ = some (.pointer none) := hn8.cell 5
              have j4 : w8.frozen? ⟨kb, 4, none⟩ = false := hn8.frozen 4
              have j5 : w8.frozen? ⟨kb, 5, none⟩ = false := hn8.frozen 5
              obtain ⟨hcell8, hfz8⟩ := i8.hole
              have hkh : kb ≠ hb := fun e => by omega
              have I8 := Lib.hid i8
              have HF8 := Lib.hid hf8
              have HN8 := Lib.hid hn8
              clear i8 hf8 hkq8 hc8 hn8
              go_upto_region 26 with fail
              refine reg26_t (w8 := w8) x0 y0 c1 HN8.out hcn31 ha32 hqa32 he1 he2 (by omega) (by omega) (by omega) ?_
              intro x116 x117 x118 x119 x120 x121 x122 x123 x124 x125 x126 x127 x128 x129 x130 x131 x132 x133 x134 x135 x136 x137 x138 w9 ⟨hn9, hu9⟩
              have hf9 : Blk w9 fb 78 (ndC p v true (.pointer none) (.pointer none)) := by
                have := HF8.out.upd hu9 (fun e : fb = kb => by omega)
                rw [HA.out, HN.out] at this
                exact this
              have i9 : InS w w9 M tb limit ((N : Int) + 1) pv0 T p hb ho (.pointer (some ⟨b, 0, none⟩)) (.node q x g l r) Mo Ms f :=
                ⟨I8.out.upd.trans hu9 (fun k (e : k = kb) => .inr (by omega)), I8.out.tbk.upd hu9 (fun e : tb = kb => by omega), I8.out.box.upd hu9 (fun e : w.heap.size = kb => by omega), I8.out.pat⟩
              obtain ⟨hcell9, hfz9⟩ := i9.hole
              have I9 := Lib.hid i9
              have HN9 := Lib.hid hn9
              have HF9 := Lib.hid hf9
              clear hu9 i9 hn9 hf9
              go_wp2_with fail
              go_ret
              have i9 := I9.out
              have hf9 := HF9.out
              have hn9 := HN9.out
              rw [← HL.out] at i9
              rw [HCA.out, HCN.out] at hn9
              have ht9 : IsT w9 Ms (.pointer (some ⟨b, 0, none⟩)) (.node q x g l r) := I7.out.pat.tree.blk fun k hk cs hcs => i9.blk hcs (I7.out.pat.ms k hk).2
              refine .inl ⟨.inr (by rw [← HNN.out]; omega), rfl, InS.fin HTR.out hp (v := v) i9 (M2 := fun k => k = kb ∨ k = fb ∨ Ms k) ?_ (fun k hk => hk.elim (fun e => .inr (by omega)) fun hk => hk.elim (fun e => .inr (by omega)) .inl)⟩
              rw [HINS.out, if_neg HCP.out, show nth p (lcpB q p).length = _ from P1.out]
              exact ⟨kb, _, _, Ms, fun k => k = fb, rfl, hn9, .inl rfl, fun k hk => ⟨.inr (.inr hk), fun e => by have := HTR.out.lt k (I7.out.pat.ms k hk).1; omega⟩, fun k hk => ⟨.inr (.inl hk), fun e => by omega⟩, fun k hk e => by have := HTR.out.lt k (I7.out.pat.ms k hk).1; omega, ht9, ⟨fb, _, _, fun _ => False, fun _ => False, rfl, hf9, rfl, fun _ h => h.elim, fun _ h => h.elim, fun _ h => h.elim, rfl, rfl⟩⟩
end Go.Proofs.Ytejiecebckjflaa
