/- Tries: Match. -/
import Derived.Test.YtejiecebckjflaaTrU
import Derived.RegionTactic
import Derived.ChangeAlike
import Derived.BigRegion
namespace Go.Proofs.Ytejiecebckjflaa
open Go.RowKit

attribute [local go_sem] Oper.semAt_some

theorem blk_own {W W' : World} {row : Option Nat} {b : Nat} {t : TypeId} {cs : Array Value} (h : Blk W b t cs) (hg : W.grownBy W' row) (hr : ∀ r, row = some r → ∃ o : Obj, W.heap[r]? = some o ∧ o.isCells = false) : Blk W' b t cs := by
  refine (hg.block b h.lt fun e => ?_).trans h
  obtain ⟨o, ho, hc⟩ := hr b e.symm
  unfold Blk at h
  rw [h] at ho
  cases ho
  cases hc
theorem same_t {I : Nat → Prop} {A B C : World} (h : Same I A B) (k : Same I B C) : Same I A C := h.trans k
theorem same_b {I : Nat → Prop} {w : World} (hI : ∀ k, I k → k < w.heap.size) (W : World) (l : Nat) (o o' : Obj) (hl : w.heap.size ≤ l) (h : W.heap[l]? = some o) (_ : o.isCells = false) (_ : o.isWalk = false) : Same I W (W.putObj l o') :=
  ⟨(grownBy_putObj' W l o').size, fun k hk _ => (grownBy_putObj' W l o').block k (by have := hI k hk; have := (Array.getElem?_eq_some_iff.1 h).1; omega) (fun e => by have := hI k hk; cases e; omega)⟩

/-- The last of the entries. -/
def lastE (L : List (Bs × Int)) : Bs × Int := L.getLast?.getD ([], 0)
structure MI (w : World) (pre : List (Bs × Int)) (W : World) : Prop where
  below : Below w.heap.size w W
  p : Blk W w.heap.size 31 #[.int .u32 (padB (lastE pre).1 : Int), .int .i64 ((lastE pre).1.length : Int)]
  v : Blk W (w.heap.size + 1) 3 #[.int .i64 (lastE pre).2]
  is : Blk W (w.heap.size + 1 + 1) 4 #[.bool (!pre.isEmpty)]
theorem MI.own {w W W' : World} {pre : List (Bs × Int)} {row : Option Nat} (h : MI w pre W) (hg : W.grownBy W' row) (hr : ∀ r, row = some r → w.heap.size ≤ r ∧ ∃ o : Obj, W.heap[r]? = some o ∧ o.isCells = false) : MI w pre W' :=
  ⟨h.below.grown hg h.below.size (fun k e => (hr k e).1), blk_own h.p hg fun r e => (hr r e).2, blk_own h.v hg fun r e => (hr r e).2, blk_own h.is hg fun r e => (hr r e).2⟩
def MatchPost (w : World) (L : List (Bs × Int)) (e : Ending) (w' : World) : Prop := e = .returned (.tuple #[pxV (padB (lastE L).1) ((lastE L).1.length : Int), .int .i64 (lastE L).2, .bool (!L.isEmpty)]) ∧ Below w.heap.size w w'
set_option maxRecDepth 100000 in
set_option maxHeartbeats 4000000 in
theorem match_of (tv : Value) (a : Nat) (L : List (Bs × Int)) (w : World) (hlen : L.length ≤ 1000000)
    (hC : ∀ W0, Below w.heap.size w W0 → Calls Try.prog 22 #[tv, .int .u32 (a : Int)] W0 fun e w1 => ∃ f, e = .returned f ∧ SeqOf w1 (fun k => W0.heap.size ≤ k) f L ∧ Below W0.heap.size W0 w1) :
    Calls Try.prog 15 #[tv, .int .u32 (a : Int)] w (MatchPost w L) := by
  obtain ⟨W0, hW0⟩ : ∃ W0, W0 = ((w.alloc (.cells #[.int .u32 0, .int .i64 0] 31)).alloc (.cells #[.int .i64 0] 3)).alloc (.cells #[.bool false] 4) := ⟨_, rfl⟩
  have hB0 : Below w.heap.size w W0 := by rw [hW0]; exact (((Below.refl _ _).alloc (Nat.le_refl _) _).alloc (by simp) _).alloc (by simp; omega) _
  have hz0 : W0.heap.size = w.heap.size + 1 + 1 + 1 := by rw [hW0]; simp
  have hmi : MI w [] W0 := by
    refine ⟨hB0, ?_, ?_, ?_⟩
    · rw [hW0]; exact ((Blk.new _ _ _).alloc _).alloc _
    · rw [hW0]
      have := (Blk.new (w.alloc (.cells #[.int .u32 0, .int .i64 0] 31)) 3 #[.int .i64 0]).alloc (.cells #[.bool false] 4)
      rw [show (lastE []).2 = 0 from rfl]
      simpa using this
    · rw [hW0]
      have := Blk.new ((w.alloc (.cells #[.int .u32 0, .int .i64 0] 31)).alloc (.cells #[.int .i64 0] 3)) 4 #[.bool false]
      simpa using this
  have HC := Lib.hid (hC W0 hB0)
  have HMI := Lib.hid hmi
  have HZ0 := Lib.hid hz0
  have HCL := Lib.hid hlen
  have HW0 := Lib.hid hW0
  clear hB0 hz0 hmi hlen hW0 hC
  refine (callsIn_wide (n := 5)).1 ?_
  refine callsIn_of_wp_marks Try.func15 rfl trivial ?_ rfl
  simp only [Try.ntmps15, List.size_toArray, List.length_cons, List.length_nil, Nat.reduceAdd, Nat.reduceSub, Array.replicate_succ, Array.replicate_zero, List.push_toArray, List.append_toArray, List.nil_append, List.cons_append]
  gi_wp2_with fail
  rw [← HW0.out]
  refine ⟨trivial, ?_⟩
  gi_at_call 22
  refine (callsIn_wide.2 HC.out).mono ?_
  rintro e w1 ⟨f, rfl, hsq, hb1⟩
  have hlen := HCL.out
  obtain ⟨Bx, rfl, hst⟩ := hsq.stops (by omega) Fence.wide 4 trivial rfl (by omega)
  have hm1 : MI w [] w1 := ⟨HMI.out.below.trans (hb1.mono HMI.out.below.size), HMI.out.p.below hb1 HMI.out.p.lt, HMI.out.v.below hb1 HMI.out.v.lt, HMI.out.is.below hb1 HMI.out.is.lt⟩
  have HM1 := Lib.hid hm1
  have HST := Lib.hid hst
  have hsz1 : w.heap.size + 1 + 1 + 1 ≤ w1.heap.size := by have := hb1.size; have := HZ0.out; omega
  have HB1 := Lib.hid hb1
  clear hsq hst hm1 hb1 hlen
  gi_wp2_with fail
  refine wpIn_rangeFunc_ownH rfl (by omega) (gf := 52) (lb := #[.pointer (some ⟨Bx, 0, none⟩)]) rfl trivial (enters_of Try.func52 (by kernel_rfl) rfl) HST.out (fun h k => same_t h k) (same_b (fun k hk => hk.2)) (Below.refl _ _) (fun _ => rfl)
    (fun pre W => MI w pre W ∧ w1.heap.size ≤ W.heap.size) (fun _ _ _ => False) (fun s W W' row hs hg hr => ⟨hs.1.own hg (fun r e => ⟨Nat.le_trans (by omega) (hr r e).1, (hr r e).2⟩), Nat.le_trans hs.2 hg.size⟩) (fun _ _ _ _ _ hs _ _ => hs) ⟨HM1.out, Nat.le_refl _⟩
    (fun x a' W => ∃ Bq, w1.heap.size ≤ Bq ∧ Blk W Bq 31 #[.int .u32 (padB x.1 : Int), .int .i64 (x.1.length : Int)] ∧ a' = { tmps := #[tv, .int .u32 (a : Int), undef, undef, .pointer (some ⟨w.heap.size, 0, none⟩), .pointer (some ⟨w.heap.size + 1, 0, none⟩), .pointer (some ⟨w.heap.size + 1 + 1, 0, none⟩), .pointer (some ⟨Bq, 0, none⟩), .int .i64 x.2, tv, .int .u32 (a : Int), .func (.func 52) #[] #[.pointer (some ⟨Bx, 0, none⟩)], pxV (padB x.1) x.1.length, .int .i64 x.2, undef, undef, undef, undef, undef], defers := [] })
    (fun x a' _ W W' row hs hg hr => by obtain ⟨Bq, h1, h2, h3⟩ := hs; exact ⟨Bq, h1, blk_own h2 hg fun r e => (hr r e).2, h3⟩) ?assign ?body ?done ?stop
  case assign =>
    intro l pre x W K hi hK
    simp only [entV]
    gi_wp2
    refine hK _ _ ((KeepsOthers.alloc W _).from _) (Same.ofBelow ((Below.refl _ W).alloc (Nat.le_refl _) _) fun k hk => ?_) ⟨hi.1.own (World.grownBy_alloc W _ none) fun r e => (by cases e), Nat.le_trans hi.2 (by simp)⟩ ⟨W.heap.size, ?_, Blk.new _ _ _, rfl⟩
    · exact Nat.lt_of_lt_of_le hk.2 hi.2
    · exact hi.2
  case body =>
    rintro l pre x a' W hl ⟨r, hr⟩ ⟨hmi, hws⟩ ⟨Bq, hBq, bq, rfl⟩ hlt
    have q0 : W.cell? ⟨Bq, 0, none⟩ = some (.int .u32 (padB x.1 : Int)) := bq.cell 0
    have q1 : W.cell? ⟨Bq, 1, none⟩ = some (.int .i64 (x.1.length : Int)) := bq.cell 1
    have p0 : W.cell? ⟨w.heap.size, 0, none⟩ = some (.int .u32 (padB (lastE pre).1 : Int)) := hmi.p.cell 0
    have p1 : W.cell? ⟨w.heap.size, 1, none⟩ = some (.int .i64 ((lastE pre).1.length : Int)) := hmi.p.cell 1
    have v0 : W.cell? ⟨w.heap.size + 1, 0, none⟩ = some (.int .i64 (lastE pre).2) := hmi.v.cell 0
    have i0 : W.cell? ⟨w.heap.size + 1 + 1, 0, none⟩ = some (.bool (!pre.isEmpty)) := hmi.is.cell 0
    have fp0 : W.frozen? ⟨w.heap.size, 0, none⟩ = false := hmi.p.frozen 0
    have fp1 : W.frozen? ⟨w.heap.size, 1, none⟩ = false := hmi.p.frozen 1
    have fv0 : W.frozen? ⟨w.heap.size + 1, 0, none⟩ = false := hmi.v.frozen 0
    have fi0 : W.frozen? ⟨w.heap.size + 1 + 1, 0, none⟩ = false := hmi.is.frozen 0
    have HMW := Lib.hid hmi
    clear bq hmi
    gi_wp2
    have hu := (((upd_set W w.heap.size 0 (.int .u32 (padB x.1 : Int))).set_ 1 (.int .i64 (x.1.length : Int))).mono (G := fun k => k = w.heap.size ∨ k = w.heap.size + 1 ∨ k = w.heap.size + 1 + 1) fun k (e : k = _) => .inl (.inl e)).setCell (p := ⟨w.heap.size + 1, 0, none⟩) (.inl (.inr (.inl rfl))) (.int .i64 x.2) |>.setCell (p := ⟨w.heap.size + 1 + 1, 0, none⟩) (.inl (.inr (.inr rfl))) (.bool true)
    have hle : lastE (pre ++ [x]) = x := by simp [lastE]
    have hz0 := HZ0.out
    refine ⟨(((KeepsOthers.setCell W ⟨w.heap.size, 0, none⟩ _).trans (KeepsOthers.setCell _ ⟨w.heap.size, 1, none⟩ _)).trans ((KeepsOthers.setCell _ ⟨w.heap.size + 1, 0, none⟩ _).trans (KeepsOthers.setCell _ ⟨w.heap.size + 1 + 1, 0, none⟩ _))).from _, hu.same fun k hk hi => ?_, ⟨⟨HMW.out.below.trans (hu.below (fun k hk => by omega) HMW.out.below.size), ?_, ?_, ?_⟩, Nat.le_trans hws hu.size⟩⟩
    · have := hi.1; omega
    · rw [hle]
      have := (((HMW.out.p.set_ 0 (.int .u32 (padB x.1 : Int))).set_ 1 (.int .i64 (x.1.length : Int))).far (p := ⟨w.heap.size + 1, 0, none⟩) (by show w.heap.size ≠ w.heap.size + 1; omega) (.int .i64 x.2)).far (p := ⟨w.heap.size + 1 + 1, 0, none⟩) (by show w.heap.size ≠ w.heap.size + 1 + 1; omega) (.bool true)
      simpa using this
    · rw [hle]
      have := (((HMW.out.v.far (p := ⟨w.heap.size, 0, none⟩) (by show w.heap.size + 1 ≠ w.heap.size; omega) (.int .u32 (padB x.1 : Int))).far (p := ⟨w.heap.size, 1, none⟩) (by show w.heap.size + 1 ≠ w.heap.size; omega) (.int .i64 (x.1.length : Int))).set_ 0 (.int .i64 x.2)).far (p := ⟨w.heap.size + 1 + 1, 0, none⟩) (by show w.heap.size + 1 ≠ w.heap.size + 1 + 1; omega) (.bool true)
      simpa using this
    · have := (((HMW.out.is.far (p := ⟨w.heap.size, 0, none⟩) (by show w.heap.size + 1 + 1 ≠ w.heap.size; omega) (.int .u32 (padB x.1 : Int))).far (p := ⟨w.heap.size, 1, none⟩) (by show w.heap.size + 1 + 1 ≠ w.heap.size; omega) (.int .i64 (x.1.length : Int))).far (p := ⟨w.heap.size + 1, 0, none⟩) (by show w.heap.size + 1 + 1 ≠ w.heap.size + 1; omega) (.int .i64 x.2)).set_ 0 (.bool true)
      have he : (!(pre ++ [x]).isEmpty) = true := by simp
      rw [he]
      simpa using this
  case stop =>
    rintro D c pre W hD _ h
    exact h.elim
  case done =>
    rintro D ys W hD rfl ⟨hmi, hws⟩ hK
    obtain ⟨pa, hpa⟩ : ∃ pa, pa = padB (lastE ys).1 := ⟨_, rfl⟩
    obtain ⟨pn, hpn⟩ : ∃ pn, pn = (lastE ys).1.length := ⟨_, rfl⟩
    obtain ⟨vv, hvv⟩ : ∃ vv, vv = (lastE ys).2 := ⟨_, rfl⟩
    obtain ⟨bb, hbb⟩ : ∃ bb, bb = !ys.isEmpty := ⟨_, rfl⟩
    have hkp : Blk W w.heap.size 31 #[.int .u32 (pa : Int), .int .i64 (pn : Int)] := by rw [hpa, hpn]; exact hmi.p
    have hkv : Blk W (w.heap.size + 1) 3 #[.int .i64 vv] := by rw [hvv]; exact hmi.v
    have hki : Blk W (w.heap.size + 1 + 1) 4 #[.bool bb] := by rw [hbb]; exact hmi.is
    have p0 : W.cell? ⟨w.heap.size, 0, none⟩ = some (.int .u32 (pa : Int)) := hkp.cell 0
    have p1 : W.cell? ⟨w.heap.size, 1, none⟩ = some (.int .i64 (pn : Int)) := hkp.cell 1
    have v0 : W.cell? ⟨w.heap.size + 1, 0, none⟩ = some (.int .i64 vv) := hkv.cell 0
    have i0 : W.cell? ⟨w.heap.size + 1 + 1, 0, none⟩ = some (.bool bb) := hki.cell 0
    have fp0 : W.frozen? ⟨w.heap.size, 0, none⟩ = false := hkp.frozen 0
    have fp1 : W.frozen? ⟨w.heap.size, 1, none⟩ = false := hkp.frozen 1
    have fv0 : W.frozen? ⟨w.heap.size + 1, 0, none⟩ = false := hkv.frozen 0
    have fi0 : W.frozen? ⟨w.heap.size + 1 + 1, 0, none⟩ = false := hki.frozen 0
    have HKP := Lib.hid hkp
    have HKV := Lib.hid hkv
    have HKI := Lib.hid hki
    have HMW := Lib.hid hmi
    have HPA := Lib.hid hpa
    have HPN := Lib.hid hpn
    have HVV := Lib.hid hvv
    have HBB := Lib.hid hbb
    clear hkp hkv hki hmi hpa hpn hvv hbb
    gi_wp2
    refine wpIn_wide.2 ?_
    go_region
    all_goals
      go_wp2_with fail
      gi_wp2
      have hu := ((((upd_set W w.heap.size 0 (.int .u32 (pa : Int))).set_ 1 (.int .i64 (pn : Int))).mono (G := fun k => k = w.heap.size ∨ k = w.heap.size + 1 ∨ k = w.heap.size + 1 + 1) fun k (e : k = _) => .inl (.inl e)).setCell (p := ⟨w.heap.size + 1, 0, none⟩) (.inl (.inr (.inl rfl))) (.int .i64 vv) |>.setCell (p := ⟨w.heap.size + 1 + 1, 0, none⟩) (.inl (.inr (.inr rfl))) (.bool bb)).drew
      have kp : Blk ((((W.setCell ⟨w.heap.size, 0, none⟩ (.int .u32 (pa : Int))).setCell ⟨w.heap.size, 1, none⟩ (.int .i64 (pn : Int))).setCell ⟨w.heap.size + 1, 0, none⟩ (.int .i64 vv)).setCell ⟨w.heap.size + 1 + 1, 0, none⟩ (.bool bb)).drew w.heap.size 31 #[.int .u32 (pa : Int), .int .i64 (pn : Int)] := by
        have := (((HKP.out.set_ 0 (.int .u32 (pa : Int))).set_ 1 (.int .i64 (pn : Int))).far (p := ⟨w.heap.size + 1, 0, none⟩) (by show w.heap.size ≠ w.heap.size + 1; omega) (.int .i64 vv)).far (p := ⟨w.heap.size + 1 + 1, 0, none⟩) (by show w.heap.size ≠ w.heap.size + 1 + 1; omega) (.bool bb) |>.drew
        simpa using this
      have kv : Blk ((((W.setCell ⟨w.heap.size, 0, none⟩ (.int .u32 (pa : Int))).setCell ⟨w.heap.size, 1, none⟩ (.int .i64 (pn : Int))).setCell ⟨w.heap.size + 1, 0, none⟩ (.int .i64 vv)).setCell ⟨w.heap.size + 1 + 1, 0, none⟩ (.bool bb)).drew (w.heap.size + 1) 3 #[.int .i64 vv] := by
        have := (((HKV.out.far (p := ⟨w.heap.size, 0, none⟩) (by show w.heap.size + 1 ≠ w.heap.size; omega) (.int .u32 (pa : Int))).far (p := ⟨w.heap.size, 1, none⟩) (by show w.heap.size + 1 ≠ w.heap.size; omega) (.int .i64 (pn : Int))).set_ 0 (.int .i64 vv)).far (p := ⟨w.heap.size + 1 + 1, 0, none⟩) (by show w.heap.size + 1 ≠ w.heap.size + 1 + 1; omega) (.bool bb) |>.drew
        simpa using this
      have ki : Blk ((((W.setCell ⟨w.heap.size, 0, none⟩ (.int .u32 (pa : Int))).setCell ⟨w.heap.size, 1, none⟩ (.int .i64 (pn : Int))).setCell ⟨w.heap.size + 1, 0, none⟩ (.int .i64 vv)).setCell ⟨w.heap.size + 1 + 1, 0, none⟩ (.bool bb)).drew (w.heap.size + 1 + 1) 4 #[.bool bb] := by
        have := (((HKI.out.far (p := ⟨w.heap.size, 0, none⟩) (by show w.heap.size + 1 + 1 ≠ w.heap.size; omega) (.int .u32 (pa : Int))).far (p := ⟨w.heap.size, 1, none⟩) (by show w.heap.size + 1 + 1 ≠ w.heap.size; omega) (.int .i64 (pn : Int))).far (p := ⟨w.heap.size + 1, 0, none⟩) (by show w.heap.size + 1 + 1 ≠ w.heap.size + 1; omega) (.int .i64 vv)).set_ 0 (.bool bb) |>.drew
        simpa using this
      generalize ((((W.setCell ⟨w.heap.size, 0, none⟩ (.int .u32 (pa : Int))).setCell ⟨w.heap.size, 1, none⟩ (.int .i64 (pn : Int))).setCell ⟨w.heap.size + 1, 0, none⟩ (.int .i64 vv)).setCell ⟨w.heap.size + 1 + 1, 0, none⟩ (.bool bb)).drew = w9 at hu kp kv ki ⊢
      have hDl : D < W.heap.size := (Array.getElem?_eq_some_iff.1 hK).1
      have hk9 : w9.heap[D]? = some (.deferred (some [])) := (hu.block D hDl (fun h => by omega)).trans hK
      have hno : ∀ r, some D = some r → ∃ o : Obj, w9.heap[r]? = some o ∧ o.isCells = false := fun r e => by cases e; exact ⟨_, hk9, rfl⟩
      have jp := (blk_own kp (grownBy_putObj' w9 D (.deferred none)) hno)
      have jv := (blk_own kv (grownBy_putObj' w9 D (.deferred none)) hno)
      have ji := (blk_own ki (grownBy_putObj' w9 D (.deferred none)) hno)
      have hB9 := HMW.out.below.trans (hu.below (fun k hk => by omega) HMW.out.below.size)
      have hBz := hB9.trans (belowK_b (w := w) (Nat.le_refl _) w9 D _ (.deferred none) (by omega) hk9 rfl rfl)
      have a0 := jp.cell 0
      have a1 := jp.cell 1
      have a2 := jv.cell 0
      have a3 := ji.cell 0
      refine ⟨by simp, .inl ⟨_, _, rfl, run_takeDeferred hk9, ?_⟩⟩
      refine ⟨.tuple #[pxV pa (pn : Int), .int .i64 vv, .bool bb], ?_, ?_, hBz⟩
      · simp [results, Try.f15, go_sem, a0, a1, a2, a3]
      · rw [HPA.out, HPN.out, HVV.out, HBB.out]
theorem match_any (a tb : Nat) (M : Nat → Prop) (limit : Int) (T : TT) (w : World) (h : IsTr w M tb limit T) (ha : a < 2 ^ 32) (hsm : T.list.length ≤ 1000000) :
    Calls Try.prog 15 #[.pointer (some ⟨tb, 0, none⟩), .int .u32 (a : Int)] w (MatchPost w (T.cov (bitsB a 32))) :=
  match_of _ a _ w (Nat.le_trans (cov_len T (bitsB a 32)) hsm) fun W0 hB0 => covers_any a tb M limit T W0 (h.keep ⟨hB0.size, fun k hm _ => hB0.block k (h.lt k hm)⟩) ha hsm
end Go.Proofs.Ytejiecebckjflaa
