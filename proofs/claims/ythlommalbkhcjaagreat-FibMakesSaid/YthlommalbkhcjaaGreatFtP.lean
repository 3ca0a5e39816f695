/- Tries of ways: place. -/
import Derived.Test.YthlommalbkhcjaaGreatFtA
import Derived.Deep.LoopGhost
import Derived.WalkMore
import Derived.Lib.QuietBelow
import Derived.Outline
namespace Go.Proofs.YthlommalbkhcjaaGreat
open Go.RowKit Go.Sort Go.BigFrame

def TT.size : TT → Nat
  | .nil => 0
  | .node _ _ _ l r => l.size + r.size + 1

variable {dc : Int → Array Value}
/-- Where place stands: the hole, what lies in it, and what is around it. -/
structure PAt (dc : Int → Array Value) (w : World) (M : Nat → Prop) (tb : Nat) (pv0 : Value) (T : TT) (p : Bs) (hb ho : Nat) (pv : Value) (S : TT) (Mo Ms : Nat → Prop) (f : TT → TT) : Prop where
  wand : Wand dc w Mo tb hb ho pv0 f
  hole : hb ≠ tb → Mo hb ∧ ∃ cs, Blk w hb 192 cs ∧ cs[ho]? = some pv
  root : hb = tb → ho = 0 ∧ pv = pv0
  tree : IsT dc w Ms pv S
  mo : ∀ k, Mo k → M k ∧ k ≠ tb
  ms : ∀ k, Ms k → M k ∧ k ≠ tb
  dis : ∀ k, Ms k → ¬ Mo k
  fS : f S = T
  ins : ∀ v, T.ins p v = f (S.ins p v)
  get : T.get p = S.get p
  ctx : ∃ c, c <+: p ∧ S.wf c
def PStop (p : Bs) : TT → Prop
  | .nil => True
  | .node q _ _ _ _ => q = p ∨ ¬ q <+: p
theorem PAt.start {w : World} {M : Nat → Prop} {tb : Nat} {T : TT} {pv0 : Value} (h : IsT dc w (fun k => M k ∧ k ≠ tb) pv0 T) (wf : T.wf []) (p : Bs) : PAt dc w M tb pv0 T p tb 0 pv0 T (fun _ => False) (fun k => M k ∧ k ≠ tb) id :=
  ⟨Wand.start w tb pv0, fun h => absurd rfl h, fun _ => ⟨rfl, rfl⟩, h, fun _ h => h.elim, fun _ h => h, fun _ _ h => h, rfl, fun _ => rfl, rfl, [], List.nil_prefix, wf⟩
theorem PAt.down (hd : Dc dc) {w : World} {M : Nat → Prop} {tb : Nat} {pv0 : Value} {T : TT} {p : Bs} {hb ho : Nat} {pv : Value} {Mo Ms : Nat → Prop} {f : TT → TT} {q : Bs} {x : Int} {g : Bool} {l r : TT} (h : PAt dc w M tb pv0 T p hb ho pv (.node q x g l r) Mo Ms f)
    (hne : q ≠ p) (hpre : q <+: p) {b : Nat} (hpv : pv = .pointer (some ⟨b, 0, none⟩)) {pl pr : Value} (hk : Blk w b 192 (ndC dc q x g pl pr)) :
    ∃ Mo2 Ms2 f2, PAt dc w M tb pv0 T p b (if nth p q.length then 261 else 260) (if nth p q.length then pr else pl) (if nth p q.length then r else l) Mo2 Ms2 f2 := by
  obtain ⟨b', pl', pr', Ml, Mr, h1, h2, h3, h4, h5, h6, h7, h8⟩ := h.tree
  have eb : b' = b := by rw [hpv] at h1; injection h1 with h1; injection h1 with h1; injection h1 with h1; exact h1.symm
  subst eb
  have e2 : pl' = pl ∧ pr' = pr := by
    unfold Blk at hk h2
    rw [hk] at h2
    injection h2 with h2
    injection h2 with h2
    obtain ⟨e1, e2⟩ := ndX_inj (hd.sz x) h2
    exact ⟨e1.symm, e2.symm⟩
  obtain ⟨rfl, rfl⟩ := e2
  have hbt : b' ≠ tb := (h.ms b' h3).2
  have wd := Wand.down hd (dir := nth p q.length) h.wand (fun hn => by obtain ⟨_, cs, c1, c2⟩ := h.hole hn; exact ⟨cs, c1, by rw [c2, hpv]⟩) (fun e => by rw [← (h.root e).2, hpv]) hbt (h.dis b' h3) (fun hm => (h.mo tb hm).2 rfl) hk (fun _ => h8) (fun _ => h7) (Ml := Ml) (Mr := Mr) (fun k hm => ⟨h.dis k (h4 k hm).1, (h4 k hm).2⟩) (fun k hm => ⟨h.dis k (h5 k hm).1, (h5 k hm).2⟩)
  refine ⟨_, (if nth p q.length then Mr else Ml), _, wd, fun _ => ⟨.inr (.inl rfl), _, hk, ?_⟩, fun e => absurd e hbt, ?_, fun k hm => ?_, fun k hm => ?_, fun k hm => ?_, ?_, fun v => ?_, ?_, ?_⟩
  · cases nth p q.length
    · exact ndX_l (hd.sz x)
    · exact ndX_r (hd.sz x)
  · cases nth p q.length
    · exact h7
    · exact h8
  · rcases hm with hm | hm | hm
    · exact h.mo k hm
    · subst hm; exact h.ms _ h3
    · revert hm
      cases nth p q.length
      · exact fun hm => h.ms k (h5 k hm).1
      · exact fun hm => h.ms k (h4 k hm).1
  · revert hm
    cases nth p q.length
    · exact fun hm => h.ms k (h4 k hm).1
    · exact fun hm => h.ms k (h5 k hm).1
  · revert hm
    cases nth p q.length
    · exact fun hm hx => by
        rcases hx with hx | hx | hx
        · exact h.dis k (h4 k hm).1 hx
        · exact (h4 k hm).2 hx
        · exact h6 k hm hx
    · exact fun hm hx => by
        rcases hx with hx | hx | hx
        · exact h.dis k (h5 k hm).1 hx
        · exact (h5 k hm).2 hx
        · exact h6 k hx hm
  · rw [← h.fS]
    cases nth p q.length <;> rfl
  · rw [h.ins v, TT.ins, if_neg hne, if_pos hpre]
    cases nth p q.length <;> rfl
  · rw [h.get, TT.get, if_neg hne, if_pos hpre]
    cases nth p q.length <;> rfl
  · obtain ⟨c, _, w1, w2, w3, w4, w5⟩ := h.ctx
    have hn := pre_nth hpre hne
    revert hn
    cases nth p q.length
    · exact fun hn => ⟨_, hn, w4⟩
    · exact fun hn => ⟨_, hn, w5⟩

def PlcPost (dc : Int → Array Value) (w : World) (M : Nat → Prop) (tb : Nat) (pv0 : Value) (T : TT) (p : Bs) (e : Ending) (w' : World) : Prop :=
  ∃ hb ho pv S Mo Ms f, e = .returned (.pointer (some ⟨hb, ho, none⟩)) ∧ Below w.heap.size w w' ∧ PAt dc w M tb pv0 T p hb ho pv S Mo Ms f ∧ PStop p S
theorem bcellT {W w1 : World} (hb : Below W.heap.size W w1) : (∀ b o, b < W.heap.size → w1.cell? ⟨b, o, none⟩ = W.cell? ⟨b, o, none⟩) ∧ (∀ b o, b < W.heap.size → w1.frozen? ⟨b, o, none⟩ = W.frozen? ⟨b, o, none⟩) :=
  ⟨fun b o h => hb.cell (p := ⟨b, o, none⟩) h, fun b o h => hb.frozen (p := ⟨b, o, none⟩) h⟩

set_option maxHeartbeats 4000000 in
theorem place_any (hd : Dc dc) (p : Bs) (tb : Nat) (pv0 a2 a3 a4 : Value) (T : TT) (M : Nat → Prop) (w : World) (hk0 : Blk w tb 184 #[pv0, a2, a3, a4]) (ht : IsT dc w (fun k => M k ∧ k ≠ tb) pv0 T) (wf : T.wf []) (hp : p.length ≤ 32) :
    Calls Tryz.prog 105 #[.pointer (some ⟨tb, 0, none⟩), pxV (padB p) p.length] w (PlcPost dc w M tb pv0 T p) := by
  have S0 := Lib.hid (PAt.start (M := M) ht wf p)
  have K0 := Lib.hid hk0
  have hP := padB_lt p hp
  clear ht wf hk0
  obtain ⟨a, ha⟩ : ∃ a, a = padB p := ⟨_, rfl⟩
  obtain ⟨n, hn⟩ : ∃ n, n = p.length := ⟨_, rfl⟩
  rw [← ha] at hP
  rw [← ha, ← hn]
  have HA := Lib.hid ha
  have HN := Lib.hid hn
  clear ha hn
  go_enter Tryz.func105, Tryz.ntmps105
  go_wp2_with fail
  go_step3
  go_wp2_with fail
  go_step3
  go_wp2_with fail
  have hb0 : Hid (Below w.heap.size w (w.alloc (.cells #[.int .u32 (a : Int), .int .i64 (n : Int)] 37))) := Lib.hid ((Below.refl _ _).alloc (Nat.le_refl _) _)
  have hk1 : Hid (Blk (w.alloc (.cells #[.int .u32 (a : Int), .int .i64 (n : Int)] 37)) w.heap.size 37 #[.int .u32 (a : Int), .int .i64 (n : Int)]) := Lib.hid (Blk.new _ _ _)
  go_loopg [5] T.size (fun g s5 wr => ∃ hb ho pv S Mo Ms f, s5 = .pointer (some ⟨hb, ho, none⟩) ∧ S.size ≤ g ∧ Below w.heap.size w wr ∧ Blk wr w.heap.size 37 #[.int .u32 (a : Int), .int .i64 (n : Int)] ∧ PAt dc w M tb pv0 T p hb ho pv S Mo Ms f)
  case atStart => exact ⟨tb, 0, pv0, T, _, _, _, rfl, Nat.le_refl _, hb0.out, hk1.out, S0.out⟩
  case round =>
    obtain ⟨hb, ho, pv, S, Mo, Ms, f, rfl, hg, hbl, hbx, pat⟩ := hrel
    have hcell : wr.cell? ⟨hb, ho, none⟩ = some pv := by
      by_cases e : hb = tb
      · obtain ⟨e1, e2⟩ := pat.root e
        subst e; subst e1; subst e2
        exact (K0.out.below hbl K0.out.lt).cell 0
      · obtain ⟨_, cs, c1, c2⟩ := pat.hole e
        exact ((c1.below hbl c1.lt).cell ho).trans c2
    have x0 : wr.cell? ⟨w.heap.size, 0, none⟩ = some (.int .u32 (a : Int)) := hbx.cell 0
    have x1 : wr.cell? ⟨w.heap.size, 1, none⟩ = some (.int .i64 (n : Int)) := hbx.cell 1
    have PT := Lib.hid pat
    have HB := Lib.hid hbl
    have HX := Lib.hid hbx
    have HG := Lib.hid hg
    clear pat hbl hbx hg
    cases S with
    | nil =>
      obtain rfl : pv = .pointer none := PT.out.tree
      go_wp2_with fail
      rw [Exit.noGoto_ret]
      go_ret
      exact ⟨hb, ho, _, .nil, Mo, Ms, f, rfl, HB.out, PT.out, trivial⟩
    | node q x g l r =>
      obtain ⟨b, pl, pr, Ml, Mr, h1, h2, _⟩ := PT.out.tree
      obtain ⟨c, hc, w1, w2, _⟩ := PT.out.ctx
      subst h1
      have hkb := h2.below HB.out h2.lt
      obtain ⟨qa, hqa⟩ : ∃ qa, qa = padB q := ⟨_, rfl⟩
      obtain ⟨qn, hqn⟩ : ∃ qn, qn = q.length := ⟨_, rfl⟩
      have y0 : wr.cell? ⟨b, 0, none⟩ = some (.int .u32 (qa : Int)) := by rw [hqa]; exact (hkb.cell 0).trans ndX_a
      have y1 : wr.cell? ⟨b, 1, none⟩ = some (.int .i64 (qn : Int)) := by rw [hqn]; exact (hkb.cell 1).trans ndX_n
      have H2 := Lib.hid h2
      have HQA := Lib.hid hqa
      have HQN := Lib.hid hqn
      have hblt := hkb.lt
      clear h2 hkb hqa hqn hc w1
      by_cases he : q = p
      · have e1 : qa = a := by rw [HQA.out, HA.out, he]
        have e2 : qn = n := by rw [HQN.out, HN.out, he]
        subst e1; subst e2
        go_wp2_with fail
        go_quiet (fail)
        go_wp2_with fail
        rw [Exit.noGoto_ret]
        go_ret
        exact ⟨hb, ho, _, .node q x g l r, Mo, Ms, f, rfl, ⟨HB.out.os, HB.out.tape, HB.out.output, HB.out.size, HB.out.block⟩, PT.out, .inl he⟩
      · have hne : ¬ (qa = a ∧ qn = n) := fun ⟨e1, e2⟩ => he (by
          rw [HQA.out, HA.out] at e1
          rw [HQN.out, HN.out] at e2
          exact pad_inj w2 e2 e1)
        have hcm := fun (wx : World) => common_any q p wx w2 hp
        rw [← HQA.out, ← HQN.out, ← HA.out, ← HN.out] at hcm
        have HC := Lib.hid hcm
        have hq1 : ∀ w, (binOp .eql 37 (.agg #[.int .u32 (qa : Int), .int .i64 (qn : Int)]) (.agg #[.int .u32 (a : Int), .int .i64 (n : Int)])).run Tryz.prog w = .ok (.bool false) w := fun w => by
          rw [eql_px, decide_eq_false]
          exact fun h => hne ⟨h.1, by have := h.2; omega⟩
        clear hcm
        by_cases hpre : q <+: p
        · have el : lcpB q p = q := lcp_eq_left.2 hpre
          rw [el, ← HQA.out, ← HQN.out] at HC
          have hq2 : ∀ w, (binOp .neq 37 (.agg #[.int .u32 (qa : Int), .int .i64 (qn : Int)]) (.agg #[.int .u32 (qa : Int), .int .i64 (qn : Int)])).run Tryz.prog w = .ok (.bool false) w := fun w => by
            rw [neq_px, decide_eq_true]
            · rfl
            · exact ⟨rfl, rfl⟩
          have hlt : qn < p.length := by rw [HQN.out]; exact Nat.lt_of_le_of_ne hpre.length_le fun e => he (hpre.eq_of_length e)
          have hbi : bitI a qn = if nth p q.length then 1 else 0 := by
            unfold bitI bitB nth
            rw [HA.out, HQN.out, padB_bit p hp q.length (by rw [← HQN.out]; omega)]
          have hbc := fun (wx : World) => bit_any a qn wx (by omega) hP
          obtain ⟨Mo2, Ms2, f2, pat2⟩ := PT.out.down hd he hpre rfl H2.out
          have P2 := Lib.hid pat2
          have hgg := HG.out
          have HPRE := Lib.hid hpre
          go_wp2_with fail
          have k0 := cell_regrown y0
          have k1 := cell_regrown y1
          have k2 := cell_regrown x0
          have k3 := cell_regrown x1
          have hcm := fun (d : Nat) (os : Array Obj) => Calls.regrown_of (HC.out (grow (redrawn wr d) os))
          refine wp_region_quiet_below (by kernel_rfl) (by kernel_rfl) ?_
          repeat (go_big_quiet_step (exact hcm _ _))
          refine wpQuiet_nil ?_
          intro _ hw'
          obtain ⟨⟨dq, osq⟩, hw''⟩ := hw'
          subst hw''
          have hbq := below_regrown wr dq osq
          generalize grow (redrawn wr dq) osq = wq at hbq
          have z0 : wq.cell? ⟨b, 0, none⟩ = some (.int .u32 (qa : Int)) := (hbq.cell (p := ⟨b, 0, none⟩) hblt).trans y0
          have z1 : wq.cell? ⟨b, 1, none⟩ = some (.int .i64 (qn : Int)) := (hbq.cell (p := ⟨b, 1, none⟩) hblt).trans y1
          have z2 : wq.cell? ⟨w.heap.size, 0, none⟩ = some (.int .u32 (a : Int)) := (hbq.cell (p := ⟨w.heap.size, 0, none⟩) HX.out.lt).trans x0
          have HBQ := Lib.hid hbq
          clear k0 k1 k2 k3 hcm pat2 hbq hlt hpre el
          cases hdir : nth p q.length with
          | false =>
            rw [hdir, if_neg (by decide)] at hbi
            rw [hbi] at hbc
            rw [hdir] at P2
            clear hbi hdir
            have hbb := fun (nd : Nat) => Calls.quiet_of_same ((hbc (wq.drewN nd)).mono fun _ _ ⟨h, hw⟩ => ⟨h, hw.symm⟩)
            go_wp2_with fail
            go_quiet (exact hbb _)
            go_wp2_with fail
            go_roundg (l.size)
            case measure => simp only [TT.size] at hgg; omega
            case rel =>
              refine ⟨b, 260, _, l, Mo2, Ms2, f2, rfl, Nat.le_refl _, ?_, ?_, P2.out⟩
              · exact HB.out.trans (Below.trans (HBQ.out.mono HB.out.size) ⟨rfl, rfl, rfl, Nat.le_refl _, fun _ _ => rfl⟩)
              · exact (HX.out.below HBQ.out HX.out.lt).drewN _
          | true =>
            rw [hdir, if_pos rfl] at hbi
            rw [hbi] at hbc
            rw [hdir] at P2
            clear hbi hdir
            have hbb := fun (nd : Nat) => Calls.quiet_of_same ((hbc (wq.drewN nd)).mono fun _ _ ⟨h, hw⟩ => ⟨h, hw.symm⟩)
            go_wp2_with fail
            go_quiet (exact hbb _)
            go_wp2_with fail
            go_roundg (r.size)
            case measure => simp only [TT.size] at hgg; omega
            case rel =>
              refine ⟨b, 261, _, r, Mo2, Ms2, f2, rfl, Nat.le_refl _, ?_, ?_, P2.out⟩
              · exact HB.out.trans (Below.trans (HBQ.out.mono HB.out.size) ⟨rfl, rfl, rfl, Nat.le_refl _, fun _ _ => rfl⟩)
              · exact (HX.out.below HBQ.out HX.out.lt).drewN _
        · obtain ⟨ca, hca⟩ : ∃ ca, ca = padB (lcpB q p) := ⟨_, rfl⟩
          obtain ⟨cn, hcn⟩ : ∃ cn, cn = (lcpB q p).length := ⟨_, rfl⟩
          rw [← hca, ← hcn] at HC
          have hne2 : ¬ (ca = qa ∧ cn = qn) := fun ⟨e1, e2⟩ => hpre (lcp_eq_left.1 (pad_inj (Nat.le_trans (lcp_left q p).length_le w2) (by rw [← hcn, e2, HQN.out]) (by rw [← hca, e1, HQA.out])))
          have hq2 : ∀ w, (binOp .neq 37 (.agg #[.int .u32 (ca : Int), .int .i64 (cn : Int)]) (.agg #[.int .u32 (qa : Int), .int .i64 (qn : Int)])).run Tryz.prog w = .ok (.bool true) w := fun w => by
            rw [neq_px, decide_eq_false]
            · rfl
            · exact fun h => hne2 ⟨h.1, by have := h.2; omega⟩
          have HCA := Lib.hid hca
          have HCN := Lib.hid hcn
          clear hca hcn
          go_wp2_with fail
          have k0 := cell_regrown y0
          have k1 := cell_regrown y1
          have k2 := cell_regrown x0
          have k3 := cell_regrown x1
          have hcm := fun (d : Nat) (os : Array Obj) => Calls.regrown_of (HC.out (grow (redrawn wr d) os))
          refine wp_region_quiet_below (by kernel_rfl) (by kernel_rfl) ?_
          repeat (go_big_quiet_step (exact hcm _ _))
          refine wpQuiet_nil ?_
          intro _ hw'
          obtain ⟨⟨dq, osq⟩, hw''⟩ := hw'
          subst hw''
          have hbq := below_regrown wr dq osq
          generalize grow (redrawn wr dq) osq = wq at hbq
          clear k0 k1 k2 k3 hcm
          go_wp2_with fail
          rw [Exit.noGoto_ret]
          go_ret
          exact ⟨hb, ho, _, .node q x g l r, Mo, Ms, f, rfl, HB.out.trans (hbq.mono HB.out.size), PT.out, .inr hpre⟩
end Go.Proofs.YthlommalbkhcjaaGreat
