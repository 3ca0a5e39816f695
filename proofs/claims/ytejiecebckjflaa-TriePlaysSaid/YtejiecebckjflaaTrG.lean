/- Tries: there, Len, Get. -/
import Derived.Test.YtejiecebckjflaaTrP
namespace Go.Proofs.Ytejiecebckjflaa
open Go.RowKit Go.Sort Go.BigFrame

theorem there_any (tb : Nat) (a1 a2 a3 : Value) (w : World) (h : Blk w tb 71 #[a1, a2, a3, .bool true]) :
    Calls Try.prog 33 #[.pointer (some ⟨tb, 0, none⟩)] w fun e w' => e = .returned (.bool true) ∧ w = w' := by
  have hc : w.cell? ⟨tb, 3, none⟩ = some (.bool true) := h.cell 3
  clear h
  go_enter Try.func33, Try.ntmps33
  go_wp2
  go_ret
  exact ⟨rfl, rfl⟩
theorem len_any (tb : Nat) (a1 a2 : Value) (n : Int) (w : World) (h : Blk w tb 71 #[a1, a2, .int .i64 n, .bool true]) :
    Calls Try.prog 18 #[.pointer (some ⟨tb, 0, none⟩)] w fun e w' => e = .returned (.int .i64 n) ∧ w = w' := by
  have hc : w.cell? ⟨tb, 2, none⟩ = some (.int .i64 n) := h.cell 2
  have HT := Lib.hid (there_any tb _ _ _ w h)
  clear h
  go_enter Try.func18, Try.ntmps18
  go_wp2_with (go_at_call 33; refine (HT.out).mono ?_; rintro e w' ⟨rfl, rfl⟩)
  go_ret
  exact ⟨rfl, rfl⟩
theorem below_drewT {B : Nat} {a w : World} (h : Below B a w) (n : Nat) : Below B a (w.drewN n) := ⟨h.os, h.tape, h.output, h.size, h.block⟩
/-- 'may', of a prefix that may be; what lay stays. -/
theorem may_yes (p : Bs) (w : World) (hp : p.length ≤ 32) : Calls Try.prog 34 #[pxV (padB p) p.length] w fun e w' => e = .returned (.bool true) ∧ Below w.heap.size w w' :=
  (may_any (padB p) p.length w (padB_lt p hp)).mono fun e w' ⟨he, m, hw⟩ => ⟨by rw [he, bits_may hp], by rw [hw]; exact below_box _ _ _⟩
theorem may_no (a : Nat) (n : Int) (w : World) (ha : a < 2 ^ 32) (h : mayB a n = false) : Calls Try.prog 34 #[pxV a n] w fun e w' => e = .returned (.bool false) ∧ Below w.heap.size w w' :=
  (may_any a n w ha).mono fun e w' ⟨he, m, hw⟩ => ⟨by rw [he, h], by rw [hw]; exact below_box _ _ _⟩

theorem get_no (a : Nat) (n : Int) (tb : Nat) (M : Nat → Prop) (limit : Int) (T : TT) (w : World) (h : IsTr w M tb limit T) (ha : a < 2 ^ 32) (hm : mayB a n = false) :
    Calls Try.prog 17 #[.pointer (some ⟨tb, 0, none⟩), pxV a n] w fun e w' => e = .returned (.tuple #[.int .i64 0, .bool false]) ∧ Below w.heap.size w w' := by
  obtain ⟨pv, hk, _⟩ := h.ex
  have HT := Lib.hid (fun (o : Obj) => there_any tb _ _ _ (w.alloc o) (hk.alloc o))
  have HM := Lib.hid (fun (wx : World) => may_no a n wx ha hm)
  clear h hk hm
  go_enter Try.func17, Try.ntmps17
  go_wp2_with (first | (go_at_call 33; refine (HT.out _).mono ?_; rintro e w' ⟨rfl, rfl⟩) | (go_at_call 34; refine (HM.out _).mono ?_; rintro e w' ⟨rfl, hb⟩))
  go_ret2
  exact ⟨rfl, ((Below.refl _ _).alloc (Nat.le_refl _) _).trans (hb.mono (by simp))⟩

def GetPost (w : World) (T : TT) (p : Bs) (e : Ending) (w' : World) : Prop := e = .returned (.tuple #[.int .i64 ((T.get p).getD 0), .bool (T.get p).isSome]) ∧ Below w.heap.size w w'
theorem get_close {w wr : World} {T S : TT} {p : Bs} {v : Int} {g : Bool} (e1 : T.get p = S.get p) (e2 : S.get p = if g then some v else none) (hv : g = false → v = 0) (hb : Below w.heap.size w wr) : GetPost w T p (.returned (.tuple #[.int .i64 v, .bool g])) wr := by
  refine ⟨?_, hb⟩
  rw [e1, e2]
  cases g
  · rw [hv rfl]; rfl
  · rfl
set_option maxHeartbeats 2000000 in
theorem get_yes (p : Bs) (tb : Nat) (M : Nat → Prop) (limit : Int) (T : TT) (w : World) (h : IsTr w M tb limit T) (hp : p.length ≤ 32) :
    Calls Try.prog 17 #[.pointer (some ⟨tb, 0, none⟩), pxV (padB p) p.length] w (GetPost w T p) := by
  obtain ⟨pv0, hk, ht⟩ := h.ex
  have HT := Lib.hid (fun (o : Obj) => there_any tb _ _ _ (w.alloc o) (hk.alloc o))
  have HM := Lib.hid (fun (wx : World) => may_yes p wx hp)
  have HPL := Lib.hid (fun (wx : World) (hb : Below w.heap.size w wx) => place_any p tb pv0 _ _ _ T (fun k => M k) wx (hk.below hb hk.lt) (ht.keep ⟨hb.size, fun k hm _ => hb.block k (h.lt k hm.1)⟩) h.wf hp)
  have HK := Lib.hid hk
  clear h hk ht
  obtain ⟨a, ha⟩ : ∃ a, a = padB p := ⟨_, rfl⟩
  obtain ⟨n, hn⟩ : ∃ n, n = p.length := ⟨_, rfl⟩
  rw [← ha, ← hn] at HM HPL ⊢
  have HA := Lib.hid ha
  have HN := Lib.hid hn
  clear ha hn
  have hB0 : Hid (∀ o, Below w.heap.size w (w.alloc o)) := Lib.hid fun o => (Below.refl _ _).alloc (Nat.le_refl _) o
  go_enter Try.func17, Try.ntmps17
  go_wp2_with (go_at_call 33; refine (HT.out _).mono ?_; rintro e w' ⟨rfl, rfl⟩)
  refine (HM.out _).mono ?_
  rintro e w2 ⟨rfl, hb2⟩
  have hx2 : Blk w2 w.heap.size 31 #[.int .u32 (a : Int), .int .i64 (n : Int)] := (Blk.new w _ _).below hb2 (by simp)
  have hb3 : Below w.heap.size w w2 := (hB0.out _).trans (hb2.mono (by simp))
  have x0 : w2.cell? ⟨w.heap.size, 0, none⟩ = some (.int .u32 (a : Int)) := hx2.cell 0
  have x1 : w2.cell? ⟨w.heap.size, 1, none⟩ = some (.int .i64 (n : Int)) := hx2.cell 1
  have HX := Lib.hid hx2
  have HB3 := Lib.hid hb3
  clear hb2 hx2 hb3
  go_wp2_with fail
  refine (HPL.out w2 HB3.out).mono ?_
  rintro e w4 ⟨hb, ho, pv, S, Mo, Ms, f, rfl, hb4, pat, stop⟩
  have hb5 := HB3.out.trans (hb4.mono HB3.out.size)
  have hcell : w4.cell? ⟨hb, ho, none⟩ = some pv := by
    by_cases e : hb = tb
    · obtain ⟨e1, e2⟩ := pat.root e
      subst e; subst e1; subst e2
      exact (HK.out.below hb5 HK.out.lt).cell 0
    · obtain ⟨_, cs, c1, c2⟩ := pat.hole e
      exact ((c1.below hb4 c1.lt).cell ho).trans c2
  have x0 : w4.cell? ⟨w.heap.size, 0, none⟩ = some (.int .u32 (a : Int)) := (HX.out.below hb4 HX.out.lt).cell 0
  have x1 : w4.cell? ⟨w.heap.size, 1, none⟩ = some (.int .i64 (n : Int)) := (HX.out.below hb4 HX.out.lt).cell 1
  have PT := Lib.hid pat
  have HB4 := Lib.hid hb4
  have HB5 := Lib.hid hb5
  clear pat hb4 hb5
  cases S with
  | nil =>
    obtain rfl : pv = .pointer none := PT.out.tree
    go_wp2_with fail
    go_quiet (fail)
    go_wp2_with fail
    go_ret2
    exact get_close (v := 0) (g := false) PT.out.get rfl (fun _ => rfl) (below_drewT HB5.out _)
  | node q x g l r =>
    obtain ⟨b, pl, pr, Ml, Mr, h1, h2, _⟩ := PT.out.tree
    obtain ⟨c, hc, w1, qw, _⟩ := PT.out.ctx
    subst h1
    have hkb := h2.below HB4.out h2.lt
    obtain ⟨qa, hqa⟩ : ∃ qa, qa = padB q := ⟨_, rfl⟩
    obtain ⟨qn, hqn⟩ : ∃ qn, qn = q.length := ⟨_, rfl⟩
    have y0 : w4.cell? ⟨b, 0, none⟩ = some (.int .u32 (qa : Int)) := by rw [hqa]; exact hkb.cell 0
    have y1 : w4.cell? ⟨b, 1, none⟩ = some (.int .i64 (qn : Int)) := by rw [hqn]; exact hkb.cell 1
    have y2 : w4.cell? ⟨b, 2, none⟩ = some (.int .i64 x) := hkb.cell 2
    have y3 : w4.cell? ⟨b, 3, none⟩ = some (.bool g) := hkb.cell 3
    have HQA := Lib.hid hqa
    have HQN := Lib.hid hqn
    have STOP := Lib.hid stop
    clear h2 hkb hqa hqn hc w1 stop
    by_cases he : q = p
    · have e1 : qa = a := by rw [HQA.out, HA.out, he]
      have e2 : qn = n := by rw [HQN.out, HN.out, he]
      subst e1; subst e2
      have hq2 : ∀ w, (binOp .neq 31 (.agg #[.int .u32 (qa : Int), .int .i64 (qn : Int)]) (.agg #[.int .u32 (qa : Int), .int .i64 (qn : Int)])).run Try.prog w = .ok (.bool false) w := fun w => by
        rw [neq_px, decide_eq_true]
        · rfl
        · exact ⟨rfl, rfl⟩
      have hsg : Hid ((TT.node q x g l r).get p = if g then some x else none) := Lib.hid (by rw [TT.get, if_pos he])
      clear he
      cases g
      · go_wp2_with fail
        go_quiet (fail)
        go_wp2_with fail
        go_ret2
        exact get_close (v := 0) (g := false) PT.out.get hsg.out (fun _ => rfl) (below_drewT HB5.out _)
      · go_wp2_with fail
        go_quiet (fail)
        go_wp2_with fail
        go_ret2
        exact get_close (v := x) (g := true) PT.out.get hsg.out (fun h => by cases h) (below_drewT HB5.out _)
    · have hne : ¬ (qa = a ∧ qn = n) := fun ⟨e1, e2⟩ => he (by
        rw [HQA.out, HA.out] at e1
        rw [HQN.out, HN.out] at e2
        exact pad_inj qw e2 e1)
      have hq2 : ∀ w, (binOp .neq 31 (.agg #[.int .u32 (qa : Int), .int .i64 (qn : Int)]) (.agg #[.int .u32 (a : Int), .int .i64 (n : Int)])).run Try.prog w = .ok (.bool true) w := fun w => by
        rw [neq_px, decide_eq_false]
        · rfl
        · exact fun h => hne ⟨h.1, by have := h.2; omega⟩
      have hsg : Hid ((TT.node q x g l r).get p = none) := Lib.hid (by
        rcases STOP.out with h | h
        · exact absurd h he
        · rw [TT.get, if_neg he, if_neg h])
      clear he hne
      go_wp2_with fail
      go_quiet (fail)
      go_wp2_with fail
      go_ret2
      exact get_close (v := 0) (g := false) PT.out.get hsg.out (fun _ => rfl) (below_drewT HB5.out _)
end Go.Proofs.Ytejiecebckjflaa
