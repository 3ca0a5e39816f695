/- The law's once: an iterator over L against a row of L. -/
import Derived.Test.YtejiecebckjflaaTbT
import Derived.Test.YtejiecebckjflaaTrL
import Derived.Test.YtejiecebckjflaaRgF
import Derived.Stop.RegionWithIn
import Derived.BigGuardIn
import Derived.BigRegionIn
import Derived.Test.YtejiecebckjflaaRgP
import Derived.Deep.QuietTactic
import Derived.BigQuiet
namespace Go.Proofs.Ytejiecebckjflaa
open Go.RowKit Go.Sort Go.BigFrame
attribute [local go_sem] Oper.semAt_some

theorem keeps_of_upd2 {F : Nat → Prop} {W W' : World} (B : Nat) (h : Upd F W W') (hF : ∀ k, F k → ∃ cs t, Blk W k t cs) : KeepsFrom B W W' :=
  ⟨h.size, fun k o _ hk ho => (h.block k (Array.getElem?_eq_some_iff.1 hk).1 fun hf => by
    obtain ⟨cs, t, hb⟩ := hF k hf
    unfold Blk at hb
    rw [hk] at hb
    cases hb
    cases ho).trans hk⟩
/-- The call's boxes: the row wanted, the number to leave at, the answer, the count. -/
structure OnS (w W : World) (v : Value) (lv : Int) (b : Bool) (k : Nat) : Prop where
  below : Below w.heap.size w W
  row : Blk W w.heap.size 46 #[v]
  leave : Blk W (w.heap.size + 1) 3 #[.int .i64 lv]
  ans : Blk W (w.heap.size + 1 + 1) 4 #[.bool b]
  cnt : Blk W (w.heap.size + 1 + 1 + 1) 3 #[.int .i64 (k : Int)]
section
variable {w W W' : World} {v : Value} {lv : Int} {b : Bool} {k : Nat}
theorem OnS.own {row : Option Nat} (h : OnS w W v lv b k) (hg : W.grownBy W' row) (hr : ∀ r, row = some r → w.heap.size ≤ r ∧ ∃ o : Obj, W.heap[r]? = some o ∧ o.isCells = false) : OnS w W' v lv b k :=
  ⟨h.below.grown hg h.below.size fun r e => (hr r e).1, blk_own h.row hg fun r e => (hr r e).2, blk_own h.leave hg fun r e => (hr r e).2, blk_own h.ans hg fun r e => (hr r e).2, blk_own h.cnt hg fun r e => (hr r e).2⟩
theorem OnS.drewN (h : OnS w W v lv b k) (n : Nat) : OnS w (W.drewN n) v lv b k := ⟨below_drewT h.below n, h.row, h.leave, h.ans, h.cnt⟩
theorem OnS.setC (h : OnS w W v lv b k) (m : Nat) : OnS w (W.setCell ⟨w.heap.size + 1 + 1 + 1, 0, none⟩ (.int .i64 (m : Int))) v lv b m :=
  ⟨(((Upd.refl (only (w.heap.size + 1 + 1 + 1)) W).set_ 0 _).below (B := w.heap.size) (fun k (e : k = _) => by omega) h.below.size |> h.below.trans), h.row.far (p := ⟨w.heap.size + 1 + 1 + 1, 0, none⟩) (by simp; omega) _, h.leave.far (p := ⟨w.heap.size + 1 + 1 + 1, 0, none⟩) (by simp) _, h.ans.far (p := ⟨w.heap.size + 1 + 1 + 1, 0, none⟩) (by simp) _, h.cnt.set_ 0 _⟩
theorem OnS.setA (h : OnS w W v lv b k) (m : Bool) : OnS w (W.setCell ⟨w.heap.size + 1 + 1, 0, none⟩ (.bool m)) v lv m k :=
  ⟨(((Upd.refl (only (w.heap.size + 1 + 1)) W).set_ 0 _).below (B := w.heap.size) (fun k (e : k = _) => by omega) h.below.size |> h.below.trans), h.row.far (p := ⟨w.heap.size + 1 + 1, 0, none⟩) (by simp; omega) _, h.leave.far (p := ⟨w.heap.size + 1 + 1, 0, none⟩) (by simp) _, h.ans.set_ 0 _, h.cnt.far (p := ⟨w.heap.size + 1 + 1, 0, none⟩) (by simp) _⟩
end

set_option maxRecDepth 100000 in
set_option maxHeartbeats 8000000 in
theorem once_any (f : Value) (w : World) (A : Option Addr) (c : Nat) (lv : Int) (L : List (Bs × Int)) (I : Nat → Prop) (hI : ∀ k, I k → k < w.heap.size) (h : SeqOf w I f L) (hrd : Reads w (fun k => k < w.heap.size) 3 A L.length (L.flatMap entC)) (hn : L.length ≤ 1000000) :
    Calls Try.prog 24 #[f, .slice A L.length c, .int .i64 lv] w fun e w' => e = .returned (.bool true) ∧ Below w.heap.size w w' := by
  obtain ⟨W0, hW0⟩ : ∃ W0, W0 = (((w.alloc (.cells #[.slice A L.length c] 46)).alloc (.cells #[.int .i64 lv] 3)).alloc (.cells #[.bool false] 4)).alloc (.cells #[.int .i64 0] 3) := ⟨_, rfl⟩
  have hB0 : Below w.heap.size w W0 := by
    rw [hW0]
    exact ((((Below.refl _ _).alloc (Nat.le_refl _) _).alloc (by simp <;> omega) _).alloc (by simp <;> omega) _).alloc (by simp <;> omega) _
  have hO : OnS w W0 (.slice A L.length c) lv false 0 := by
    refine ⟨hB0, ?_, ?_, ?_, ?_⟩
    · rw [hW0]; exact (((Blk.new _ _ _).alloc _).alloc _).alloc _
    · rw [hW0]
      have := ((Blk.new (w.alloc (.cells #[.slice A L.length c] 46)) 3 #[.int .i64 lv]).alloc (.cells #[.bool false] 4)).alloc (.cells #[.int .i64 0] 3)
      simpa using this
    · rw [hW0]
      have := (Blk.new ((w.alloc (.cells #[.slice A L.length c] 46)).alloc (.cells #[.int .i64 lv] 3)) 4 #[.bool false]).alloc (.cells #[.int .i64 0] 3)
      simpa using this
    · rw [hW0]
      have := Blk.new (((w.alloc (.cells #[.slice A L.length c] 46)).alloc (.cells #[.int .i64 lv] 3)).alloc (.cells #[.bool false] 4)) 3 #[.int .i64 0]
      simpa using this
  have HZ0 : W0.heap.size = w.heap.size + 1 + 1 + 1 + 1 := by rw [hW0]; simp
  have h0 : SeqOf W0 I f L := h.keep ⟨hB0.size, fun k hk _ => hB0.block k (hI k hk)⟩
  obtain ⟨Bx, rfl, hst⟩ := h0.fits (by omega) Fence.wide 4 trivial rfl (by omega)
  have HST := Lib.hid hst
  have HW0 := Lib.hid hW0
  have HO := Lib.hid hO
  have HRD := Lib.hid hrd
  clear hst h h0 hB0 hO hrd
  obtain ⟨m, hm⟩ : ∃ m, m = L.length := ⟨_, rfl⟩
  rw [← hm] at HW0 HO HRD hn ⊢
  have HM := Lib.hid hm
  clear hm hW0
  have hfn : ∀ (w2 : World) (b : Nat), (binOp .eql 51 (.func (.func 52) #[] #[.pointer (some ⟨b, 0, none⟩)]) Value.nilFunc).run Try.prog w2 = .ok (.bool false) w2 := fun w2 b => by kernel_rfl
  refine (callsIn_wide (n := 5)).1 ?_
  refine callsIn_of_wp_marks Try.func24 rfl trivial ?_ rfl
  simp only [Try.ntmps24, List.size_toArray, List.length_cons, List.length_nil, Nat.reduceAdd, Nat.reduceSub, Array.replicate_succ, Array.replicate_zero, List.push_toArray, List.append_toArray, List.nil_append, List.cons_append]
  gi_wp2_with fail
  rw [← HW0.out]
  refine wpIn_range_fit rfl (by omega) (gf := 52) (lb := #[.pointer (some ⟨Bx, 0, none⟩)]) rfl trivial (enters_of Try.func52 (by kernel_rfl) rfl) HST.out (fun h k => same_t h k) (fun W l o o' hl h h1 h2 => same_b (w := W0) (fun k hk => hk.2) W l o o' (by omega) h h1 h2) (Below.refl _ _) (fun _ => rfl)
    (fun pre W => OnS w W (.slice A m c) lv false pre.length) (fun cd pre W => cd = .ret ∧ ∃ k, OnS w W (.slice A m c) lv true k) (fun pre W W' row hs hg hr => hs.own hg fun r e => ⟨Nat.le_trans (by omega) (hr r e).1, (hr r e).2⟩) (fun cd pre W W' row hs hg hr => ⟨hs.1, hs.2.elim fun k hk => ⟨k, hk.own hg fun r e => ⟨Nat.le_trans (by omega) (hr r e).1, (hr r e).2⟩⟩⟩) HO.out
    (fun t pre x a' W => pre ++ [x] <+: L ∧ ∃ Bq, W0.heap.size ≤ Bq ∧ Blk W Bq 31 #[.int .u32 (padB x.1 : Int), .int .i64 (x.1.length : Int)] ∧ a' = { tmps := (((t.setIfInBounds 13 (pxV (padB x.1) x.1.length)).setIfInBounds 14 (.int .i64 x.2)).setIfInBounds 8 (.pointer (some ⟨Bq, 0, none⟩))).setIfInBounds 9 (.int .i64 x.2), defers := [] })
    (fun pre x a' _ W W' row hs hg hr => by obtain ⟨h0, Bq, h1, h2, h3⟩ := hs; exact ⟨h0, Bq, h1, blk_own h2 hg fun r e => (hr r e).2, h3⟩) ?assign ?body ?done ?stop
  case assign =>
    intro l pre x W K hi hfit hsz hK
    simp only [entV]
    gi_wp2
    refine hK _ _ ((KeepsOthers.alloc W _).from _) (Same.ofBelow ((Below.refl _ W).alloc (Nat.le_refl _) _) fun k hk => by have := hk.2; have := hi.below.size; omega) (hi.own (World.grownBy_alloc W _ none) fun r e => (by cases e)) ⟨hfit, W.heap.size, hsz, Blk.new _ _ _, rfl⟩
  case body =>
    rintro l pre x a' W hl ⟨rr, hr⟩ hs ⟨hfit, Bq, hBq, bq, rfl⟩
    obtain ⟨k, hk⟩ : ∃ k, k = pre.length := ⟨_, rfl⟩
    have hx : L[k]? = some x := by
      obtain ⟨r, rfl⟩ := hfit
      rw [hk]
      simp
    have hkm : k < m := by rw [HM.out]; exact (List.getElem?_eq_some_iff.1 hx).1
    rw [← hk] at hs
    obtain ⟨ad, hA, _, hadl, hc⟩ := HRD.out.2 (by omega)
    subst hA
    obtain ⟨e0, e1, e2⟩ := entC_get L k x hx
    have hcc0 : W.cell? (ad.add (k * 3)) = some (.int .u32 (padB x.1 : Int)) := (hs.below.cell (by rw [block_of_add]; exact hadl)).trans (hc _ _ e0)
    have hcc1 : W.cell? ⟨(ad.add (k * 3)).block, (ad.add (k * 3)).off + 1, none⟩ = some (.int .i64 (x.1.length : Int)) := by
      rw [← add_after ad (k * 3) 1 (by omega)]
      exact (hs.below.cell (by rw [block_of_add]; exact hadl)).trans (hc _ _ e1)
    have hcc2 : W.cell? ⟨(ad.add (k * 3)).block, (ad.add (k * 3)).off + 2, none⟩ = some (.int .i64 x.2) := by
      rw [← add_after ad (k * 3) 2 (by omega)]
      exact (hs.below.cell (by rw [block_of_add]; exact hadl)).trans (hc _ _ e2)
    have q0 : W.cell? ⟨Bq, 0, none⟩ = some (.int .u32 (padB x.1 : Int)) := bq.cell 0
    have q1 : W.cell? ⟨Bq, 1, none⟩ = some (.int .i64 (x.1.length : Int)) := bq.cell 1
    have b0 : W.cell? ⟨w.heap.size, 0, none⟩ = some (.slice (some ad) m c) := hs.row.cell 0
    have b1 : W.cell? ⟨w.heap.size + 1, 0, none⟩ = some (.int .i64 lv) := hs.leave.cell 0
    have b2 : W.cell? ⟨w.heap.size + 1 + 1, 0, none⟩ = some (.bool false) := hs.ans.cell 0
    have b3 : W.cell? ⟨w.heap.size + 1 + 1 + 1, 0, none⟩ = some (.int .i64 (k : Int)) := hs.cnt.cell 0
    have g2 : W.frozen? ⟨w.heap.size + 1 + 1, 0, none⟩ = false := hs.ans.frozen 0
    have g3 : W.frozen? ⟨w.heap.size + 1 + 1 + 1, 0, none⟩ = false := hs.cnt.frozen 0
    have hq := fun w => neq_px (padB x.1) (padB x.1) x.1.length x.1.length w
    obtain ⟨pa, hpa⟩ : ∃ pa, pa = padB x.1 := ⟨_, rfl⟩
    obtain ⟨pn, hpn⟩ : ∃ pn, pn = x.1.length := ⟨_, rfl⟩
    obtain ⟨pv, hpv⟩ : ∃ pv, pv = x.2 := ⟨_, rfl⟩
    rw [← hpa, ← hpn] at hq
    rw [← hpa] at hcc0 q0
    rw [← hpn] at hcc1 q1
    rw [← hpv] at hcc2
    rw [← hpa, ← hpn, ← hpv]
    have hdq : decide (pa = pa ∧ (pn : Int) = (pn : Int)) = true := by simp
    rw [hdq] at hq
    have hi0 : (0 : Int) ≤ k := by omega
    have hi1 : (k : Int) < m := by omega
    have hd1 : decide (k < m) = true := decide_eq_true hkm
    have hd2 : decide (m ≤ k) = false := decide_eq_false (by omega)
    have hd3 : decide ((m : Int) ≤ (k : Int)) = false := decide_eq_false (by omega)
    have hw1 : IntKind.i64.wrap ((k : Int) + 1) = (k : Int) + 1 := by rw [IntWalk.i64_in _ (by omega)]
    have HS := Lib.hid hs
    have HK := Lib.hid hk
    have HFIT := Lib.hid hfit
    clear hs hk hfit hx e0 e1 e2 hc hpa hpn hpv bq hdq
    by_cases hlv : (k : Int) + 1 = lv
    · have hz1 : ((k : Int) + 1 == lv) = true := beq_iff_eq.2 hlv
      have HLV := Lib.hid hlv
      clear hlv
      gi_wp2_with fail
      refine wpIn_region_plain (fun _ => trivial) (by kernel_rfl) (by kernel_rfl) (by kernel_rfl) ?_
      repeat (go_big_quiet_step (fail))
      refine wpQuiet_nil ?_
      rintro _ ⟨dq, rfl⟩
      have HD := Lib.hid (HS.out.drewN dq)
      have HWV := Lib.hid ((Upd.refl (fun j => j = w.heap.size + 1 + 1 ∨ j = w.heap.size + 1 + 1 + 1) W).drewN dq)
      have n1 : (W.drewN dq).cell? ⟨w.heap.size + 1, 0, none⟩ = some (.int .i64 lv) := HD.out.leave.cell 0
      have n2 : (W.drewN dq).cell? ⟨w.heap.size + 1 + 1, 0, none⟩ = some (.bool false) := HD.out.ans.cell 0
      have n3 : (W.drewN dq).cell? ⟨w.heap.size + 1 + 1 + 1, 0, none⟩ = some (.int .i64 (k : Int)) := HD.out.cnt.cell 0
      have f2 : (W.drewN dq).frozen? ⟨w.heap.size + 1 + 1, 0, none⟩ = false := HD.out.ans.frozen 0
      have f3 : (W.drewN dq).frozen? ⟨w.heap.size + 1 + 1 + 1, 0, none⟩ = false := HD.out.cnt.frozen 0
      generalize W.drewN dq = V at HD HWV n1 n2 n3 f2 f3 ⊢
      gi_wp2_with fail
      have hu9 := (HWV.out.setCell (p := ⟨w.heap.size + 1 + 1 + 1, 0, none⟩) (.inl (.inr rfl)) (.int .i64 ((k : Int) + 1))).setCell (p := ⟨w.heap.size + 1 + 1, 0, none⟩) (.inl (.inl rfl)) (.bool true)
      have hs9 := (HD.out.setC (k + 1)).setA true
      exact ⟨keeps_of_upd2 _ hu9 fun j hj => by rcases hj with rfl | rfl; exact ⟨_, _, HS.out.ans⟩; exact ⟨_, _, HS.out.cnt⟩, rfl, k + 1, hs9⟩
    · have hz1 : ((k : Int) + 1 == lv) = false := beq_eq_false_iff_ne.2 hlv
      have HLV := Lib.hid hlv
      clear hlv
      gi_wp2_with fail
      refine wpIn_region_plain (fun _ => trivial) (by kernel_rfl) (by kernel_rfl) (by kernel_rfl) ?_
      repeat (go_big_quiet_step (fail))
      refine wpQuiet_nil ?_
      rintro _ ⟨dq, rfl⟩
      have HD := Lib.hid (HS.out.drewN dq)
      have HWV := Lib.hid ((Upd.refl (fun j => j = w.heap.size + 1 + 1 ∨ j = w.heap.size + 1 + 1 + 1) W).drewN dq)
      have n1 : (W.drewN dq).cell? ⟨w.heap.size + 1, 0, none⟩ = some (.int .i64 lv) := HD.out.leave.cell 0
      have n2 : (W.drewN dq).cell? ⟨w.heap.size + 1 + 1, 0, none⟩ = some (.bool false) := HD.out.ans.cell 0
      have n3 : (W.drewN dq).cell? ⟨w.heap.size + 1 + 1 + 1, 0, none⟩ = some (.int .i64 (k : Int)) := HD.out.cnt.cell 0
      have f2 : (W.drewN dq).frozen? ⟨w.heap.size + 1 + 1, 0, none⟩ = false := HD.out.ans.frozen 0
      have f3 : (W.drewN dq).frozen? ⟨w.heap.size + 1 + 1 + 1, 0, none⟩ = false := HD.out.cnt.frozen 0
      generalize W.drewN dq = V at HD HWV n1 n2 n3 f2 f3 ⊢
      gi_wp2_with fail
      have hu9 := HWV.out.setCell (p := ⟨w.heap.size + 1 + 1 + 1, 0, none⟩) (.inl (.inr rfl)) (.int .i64 ((k : Int) + 1))
      have hs9 := HD.out.setC (k + 1)
      refine ⟨keeps_of_upd2 _ hu9 fun j hj => by rcases hj with rfl | rfl; exact ⟨_, _, HS.out.ans⟩; exact ⟨_, _, HS.out.cnt⟩, hu9.same fun j hj hi => ?_, ?_⟩
      · have := hI j hi.1
        rcases hj with rfl | rfl <;> omega
      · show OnS w _ _ lv false (pre ++ [x]).length
        rw [List.length_append, ← HK.out]
        exact hs9
  case stop =>
    rintro D cd pre W hD _ ⟨rfl, k, hs⟩ hK
    have r0 : W.cell? ⟨w.heap.size + 1 + 1, 0, none⟩ = some (.bool true) := hs.ans.cell 0
    have hDl : D < W.heap.size := (Array.getElem?_eq_some_iff.1 hK).1
    have hno : ∀ r, some D = some r → ∃ o : Obj, W.heap[r]? = some o ∧ o.isCells = false := fun r e => by cases e; exact ⟨_, hK, rfl⟩
    have jr := (blk_own hs.ans (grownBy_putObj' W D (.deferred none)) hno)
    have hBz := hs.below.trans (belowK_b (w := w) (Nat.le_refl _) W D _ (.deferred none) (by omega) hK rfl rfl)
    have a0 := jr.cell 0
    gi_wp2
    refine ⟨by simp, .inl ⟨_, _, rfl, run_takeDeferred hK, ?_⟩⟩
    refine ⟨.bool true, ?_, rfl, hBz⟩
    simp [results, Try.f24, go_sem, a0]
  case done =>
    rintro D ys W hD hys hs hK
    rw [hys, ← HM.out] at hs
    have p0 : W.cell? ⟨w.heap.size, 0, none⟩ = some (.slice A m c) := hs.row.cell 0
    have n0 : W.cell? ⟨w.heap.size + 1 + 1 + 1, 0, none⟩ = some (.int .i64 (m : Int)) := hs.cnt.cell 0
    have r0 : W.cell? ⟨w.heap.size + 1 + 1, 0, none⟩ = some (.bool false) := hs.ans.cell 0
    have fr0 : W.frozen? ⟨w.heap.size + 1 + 1, 0, none⟩ = false := hs.ans.frozen 0
    have HS := Lib.hid hs
    clear hs hys
    gi_wp2
    have hu := upd_set W (w.heap.size + 1 + 1) 0 (.bool true)
    have hs9 := HS.out.setA true
    generalize W.setCell ⟨w.heap.size + 1 + 1, 0, none⟩ (.bool true) = w9 at hu hs9 ⊢
    have hDl : D < W.heap.size := (Array.getElem?_eq_some_iff.1 hK).1
    have hk9 : w9.heap[D]? = some (.deferred (some [])) := (hu.block D hDl (fun (h : D = w.heap.size + 1 + 1) => by omega)).trans hK
    have hno : ∀ r, some D = some r → ∃ o : Obj, w9.heap[r]? = some o ∧ o.isCells = false := fun r e => by cases e; exact ⟨_, hk9, rfl⟩
    have jr := (blk_own hs9.ans (grownBy_putObj' w9 D (.deferred none)) hno)
    have hBz := hs9.below.trans (belowK_b (w := w) (Nat.le_refl _) w9 D _ (.deferred none) (by omega) hk9 rfl rfl)
    have a0 := jr.cell 0
    refine ⟨by simp, .inl ⟨_, _, rfl, run_takeDeferred hk9, ?_⟩⟩
    refine ⟨.bool true, ?_, rfl, hBz⟩
    simp [results, Try.f24, go_sem, a0]
end Go.Proofs.Ytejiecebckjflaa
