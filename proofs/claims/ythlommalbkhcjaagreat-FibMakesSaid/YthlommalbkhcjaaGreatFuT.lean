/- law14's once: a table's entries against a row of them. -/
import Derived.Test.YthlommalbkhcjaaGreatFuR
import Derived.Stop.RegionWithIn
import Derived.BigGuardIn
import Derived.BigRegionIn
namespace Go.Proofs.YthlommalbkhcjaaGreat
open Go.RowKit Go.Sort Go.BigFrame
attribute [local go_sem] Oper.semAt_some
variable {dc : Int → Array Value}
theorem keeps_of_upd2 {F : Nat → Prop} {W W' : World} (B : Nat) (h : Upd F W W') (hF : ∀ k, F k → ∃ cs t, Blk W k t cs) : KeepsFrom B W W' :=
  ⟨h.size, fun k o _ hk ho => (h.block k (Array.getElem?_eq_some_iff.1 hk).1 fun hf => by
    obtain ⟨cs, t, hb⟩ := hF k hf
    unfold Blk at hb
    rw [hk] at hb
    cases hb
    cases ho).trans hk⟩
/-- The call's boxes: the row wanted, the number to leave at, the answer, the count. -/
structure OnS (w W : World) (v : Value) (lv : Int) (b : Bool) (k : Nat) : Prop where
  below : Below w.heap.size w W
  row : Blk W w.heap.size 31 #[v]
  leave : Blk W (w.heap.size + 1) 3 #[.int .i64 lv]
  ans : Blk W (w.heap.size + 1 + 1) 4 #[.bool b]
  cnt : Blk W (w.heap.size + 1 + 1 + 1) 3 #[.int .i64 (k : Int)]
section
variable {w W W' : World} {v : Value} {lv : Int} {b : Bool} {k : Nat}
theorem OnS.later (h : OnS w W v lv b k) (hb : Below W.heap.size W W') : OnS w W' v lv b k := ⟨h.below.trans (hb.mono h.below.size), h.row.below hb h.row.lt, h.leave.below hb h.leave.lt, h.ans.below hb h.ans.lt, h.cnt.below hb h.cnt.lt⟩
theorem OnS.own {row : Option Nat} (h : OnS w W v lv b k) (hg : W.grownBy W' row) (hr : ∀ r, row = some r → w.heap.size ≤ r ∧ ∃ o : Obj, W.heap[r]? = some o ∧ o.isCells = false) : OnS w W' v lv b k :=
  ⟨h.below.grown hg h.below.size fun r e => (hr r e).1, blk_own h.row hg fun r e => (hr r e).2, blk_own h.leave hg fun r e => (hr r e).2, blk_own h.ans hg fun r e => (hr r e).2, blk_own h.cnt hg fun r e => (hr r e).2⟩
theorem OnS.drewN (h : OnS w W v lv b k) (n : Nat) : OnS w (W.drewN n) v lv b k := ⟨below_drewT h.below n, h.row, h.leave, h.ans, h.cnt⟩
theorem OnS.setC (h : OnS w W v lv b k) (m : Nat) : OnS w (W.setCell ⟨w.heap.size + 1 + 1 + 1, 0, none⟩ (.int .i64 (m : Int))) v lv b m :=
  ⟨(((Upd.refl (only (w.heap.size + 1 + 1 + 1)) W).set_ 0 _).below (B := w.heap.size) (fun k (e : k = _) => by omega) h.below.size |> h.below.trans), h.row.far (p := ⟨w.heap.size + 1 + 1 + 1, 0, none⟩) (by simp; omega) _, h.leave.far (p := ⟨w.heap.size + 1 + 1 + 1, 0, none⟩) (by simp) _, h.ans.far (p := ⟨w.heap.size + 1 + 1 + 1, 0, none⟩) (by simp) _, h.cnt.set_ 0 _⟩
theorem OnS.setA (h : OnS w W v lv b k) (m : Bool) : OnS w (W.setCell ⟨w.heap.size + 1 + 1, 0, none⟩ (.bool m)) v lv m k :=
  ⟨(((Upd.refl (only (w.heap.size + 1 + 1)) W).set_ 0 _).below (B := w.heap.size) (fun k (e : k = _) => by omega) h.below.size |> h.below.trans), h.row.far (p := ⟨w.heap.size + 1 + 1, 0, none⟩) (by simp; omega) _, h.leave.far (p := ⟨w.heap.size + 1 + 1, 0, none⟩) (by simp) _, h.ans.set_ 0 _, h.cnt.far (p := ⟨w.heap.size + 1 + 1, 0, none⟩) (by simp) _⟩
end
theorem ld_ens {w : World} {b : Nat} {A : Option Addr} {n c : Nat} (h : w.cell? ⟨b, 0, none⟩ = some (.slice A n c)) : (Instr.loadAt 31 (.pointer (some ⟨b, 0, none⟩))).run Tryz.prog w = .ok (.slice A n c) w := by simp [go_sem, h]
theorem it_alloc (w : World) : (Instr.alloc 3 true (.tuple #[])).run Tryz.prog w = .ok (.pointer (some ⟨w.heap.size, 0, none⟩)) (w.alloc (.cells #[.int .i64 0] 3)) := by kernel_rfl
/-- The law's once, whatever iterator All hands over. -/
def AllGives (dc : Int → Array Value) (fv : Value) (gf : Nat) (L : List (Bs × Int)) (w : World) : Prop := ∀ W0, Below w.heap.size w W0 → Calls Tryz.prog 61 #[fv] W0 fun e w1 => ∃ (lb : Array Value) (I : Nat → Prop), e = .returned (.func (.func gf) #[] lb) ∧ Below W0.heap.size W0 w1 ∧ (∀ k, I k → W0.heap.size ≤ k ∧ k < w1.heap.size) ∧ SeqFit Fence.wide 4 Tryz.prog gf lb (entV dc) (Same I) (fun ys => ys = L) (fun pre => pre <+: L) (fun pre x _ => pre ++ [x] <+: L) w1
/-- What is wanted lies there. -/
def WantAt (dc : Int → Array Value) (A : Option Addr) (L : List (Bs × Int)) (w : World) : Prop := ∀ k e, L[k]? = some e → ∃ ad, A = some ad ∧ ∀ wx, Below w.heap.size w wx →
  (Instr.loadAt 37 (.pointer (some (ad.add (k * 259))))).run Tryz.prog wx = .ok (pxV (padB e.1) e.1.length) wx ∧ (Instr.loadAt 41 (.pointer (some ⟨(ad.add (k * 259)).block, (ad.add (k * 259)).off + 2, none⟩))).run Tryz.prog wx = .ok (.agg (dc e.2)) wx
theorem below_drewN {B : Nat} {a w : World} (h : Below B a w) (n : Nat) : Below B a (w.drewN n) := ⟨h.os, h.tape, h.output, h.size, h.block⟩
set_option maxRecDepth 100000 in
set_option maxHeartbeats 8000000 in
attribute [-go_sem] Instr.storeAt Instr.loadAt Instr.alloc in
theorem once_of (hd : Dc dc) {wk : Int → Int × List Int} (hwk : ∀ v, dc v = wayC (wk v) ∧ (wk v).2.length = 256) (fv : Value) (gf : Nat) (eg : ∀ args w, (callFunc gf args).run Tryz.prog w = .ok (.enter gf args) w) (w : World) (A : Option Addr) (n c : Nat) (lv : Int) (L : List (Bs × Int)) (hn : L.length = n) (hsm : n ≤ 1000000) (hall : AllGives dc fv gf L w) (hwt : WantAt dc A L w) :
    Calls Tryz.prog 23 #[fv, .slice A n c, .int .i64 lv] w fun e w' => e = .returned (.bool true) ∧ Below w.heap.size w w' := by
  obtain ⟨W3, hW3⟩ : ∃ W0, W0 = (((w.alloc (.cells #[.slice A n c] 31)).alloc (.cells #[.int .i64 lv] 3)).alloc (.cells #[.bool false] 4)) := ⟨_, rfl⟩
  have hz3 : W3.heap.size = w.heap.size + 1 + 1 + 1 := by rw [hW3]; simp
  obtain ⟨W4, hW4⟩ : ∃ W0, W0 = W3.alloc (.cells #[.int .i64 0] 3) := ⟨_, rfl⟩
  have hB4 : Below w.heap.size w W4 := by
    rw [hW4, hW3]
    exact ((((Below.refl _ _).alloc (Nat.le_refl _) _).alloc (by simp <;> omega) _).alloc (by simp <;> omega) _).alloc (by simp <;> omega) _
  have hO4 : OnS w W4 (.slice A n c) lv false 0 := by
    refine ⟨hB4, ?_, ?_, ?_, ?_⟩
    · rw [hW4, hW3]; exact (((Blk.new _ _ _).alloc _).alloc _).alloc _
    · rw [hW4, hW3]
      have := ((Blk.new (w.alloc (.cells #[.slice A n c] 31)) 3 #[.int .i64 lv]).alloc (.cells #[.bool false] 4)).alloc (.cells #[.int .i64 0] 3)
      simpa using this
    · rw [hW4, hW3]
      have := (Blk.new ((w.alloc (.cells #[.slice A n c] 31)).alloc (.cells #[.int .i64 lv] 3)) 4 #[.bool false]).alloc (.cells #[.int .i64 0] 3)
      simpa using this
    · rw [hW4]
      have := Blk.new W3 3 #[.int .i64 0]
      rwa [hz3] at this
  have st0 := st_intA (hO4.cnt.cell 0) (hO4.cnt.frozen 0) 0
  have hO := hO4.setC 0
  obtain ⟨W0, hW0⟩ : ∃ W0, W0 = W4.setCell ⟨w.heap.size + 1 + 1 + 1, 0, none⟩ (.int .i64 0) := ⟨_, rfl⟩
  rw [show ((0 : Nat) : Int) = 0 from rfl, ← hW0] at hO
  rw [← hW0, ← hz3, hW4] at st0
  have HAL := Lib.hid (hall W0 hO.below)
  have HWT := Lib.hid hwt
  have HO := Lib.hid hO
  have HN := Lib.hid hn
  have HSM := Lib.hid hsm
  have HD := Lib.hid hd
  have HWK := Lib.hid hwk
  have HW3 := Lib.hid hW3
  have HZ3 := Lib.hid hz3
  have a1 := bt_alloc
  have a2 := it_alloc
  have hfn : ∀ (w2 : World) (lb : Array Value), (binOp .eql 133 (.func (.func gf) #[] lb) Value.nilFunc).run Tryz.prog w2 = .ok (.bool false) w2 := fun w2 lb => by kernel_rfl
  clear hW3 hz3 hW4 hB4 hO4 hW0 hO hall hwt hn hsm hd hwk
  refine (callsIn_wide (n := 5)).1 ?_
  refine callsIn_of_wp_marks Tryz.func23 rfl trivial ?_ rfl
  simp only [Tryz.ntmps23, List.size_toArray, List.length_cons, List.length_nil, Nat.reduceAdd, Nat.reduceSub, Array.replicate_succ, Array.replicate_zero, List.push_toArray, List.append_toArray, List.nil_append, List.cons_append]
  refine wpIn_wide.2 ?_
  go_upto_region 1 with (fail)
  rw [← HW3.out]
  go_upto_region 2 with (fail)
  rw [HZ3.out]
  clear a1 a2 st0 HZ3 HW3
  go_wp2_with fail
  refine HAL.out.mono ?_
  rintro e w1 ⟨lb, I, rfl, hb1, hI, hst⟩
  have HST := Lib.hid hst
  have HI := Lib.hid hI
  have HO1 := Lib.hid (HO.out.later hb1)
  have HZ1 := Lib.hid (show w.heap.size + 1 + 1 + 1 < w1.heap.size from HO1.out.cnt.lt)
  have HZ0 := Lib.hid (show w.heap.size + 1 + 1 + 1 < W0.heap.size from HO.out.cnt.lt)
  clear hst hI hb1
  go_wp2_with fail
  have hzz1 := HZ1.out
  have hzz0 := HZ0.out
  refine (wpIn_wide (n := 5)).1 ?_
  refine wpIn_range_fit rfl (by omega) (gf := gf) (lb := lb) rfl trivial eg HST.out (fun h k => same_t h k) (fun W l o o' hl h h1 h2 => same_b (w := w1) (fun k hk => (HI.out k hk).2) W l o o' hl h h1 h2) (Below.refl _ _) (fun _ => rfl)
    (fun pre W => OnS w W (.slice A n c) lv false pre.length ∧ w1.heap.size ≤ W.heap.size) (fun cd pre W => cd = .ret ∧ ∃ k, OnS w W (.slice A n c) lv true k) (fun pre W W' row hs hg hr => ⟨hs.1.own hg fun r e => ⟨Nat.le_trans (by omega) (hr r e).1, (hr r e).2⟩, Nat.le_trans hs.2 hg.size⟩) (fun cd pre W W' row hs hg hr => ⟨hs.1, hs.2.elim fun k hk => ⟨k, hk.own hg fun r e => ⟨Nat.le_trans (by omega) (hr r e).1, (hr r e).2⟩⟩⟩) ⟨HO1.out, Nat.le_refl _⟩
    (fun t pre x a' W => pre ++ [x] <+: L ∧ ∃ Bq Bw, w1.heap.size ≤ Bq ∧ w1.heap.size ≤ Bw ∧ Blk W Bq 37 #[.int .u32 (padB x.1 : Int), .int .i64 (x.1.length : Int)] ∧ Blk W Bw 41 (dc x.2) ∧ a' = { tmps := (((t.setIfInBounds 16 (pxV (padB x.1) x.1.length)).setIfInBounds 17 (.agg (dc x.2))).setIfInBounds 9 (.pointer (some ⟨Bq, 0, none⟩))).setIfInBounds 10 (.pointer (some ⟨Bw, 0, none⟩)), defers := [] })
    (fun pre x a' _ W W' row hs hg hr => by obtain ⟨h0, Bq, Bw, g1, g2, h1, h2, h3⟩ := hs; exact ⟨h0, Bq, Bw, g1, g2, blk_own h1 hg fun r e => (hr r e).2, blk_own h2 hg fun r e => (hr r e).2, h3⟩) ?assign ?body ?done ?stop
  case assign =>
    intro l' pre x W K hi hfit hsz hK
    obtain ⟨V1, st1, hk1, hb1⟩ := px_copy W (padB x.1 : Int) (x.1.length : Int)
    obtain ⟨V3, st2, hk3, hb3⟩ := wy_copy V1 (dc x.2) (HD.out.sz _) (HD.out.one _)
    have hball : Below W.heap.size W V3 := hb1.trans (hb3.mono hb1.size)
    have hk1' := hk1.below hb3 hk1.lt
    have HBA := Lib.hid hball
    have HK1 := Lib.hid hk1'
    have HK3 := Lib.hid hk3
    have HS1 := Lib.hid hb1.size
    have HI2 := Lib.hid hi
    have HFIT := Lib.hid hfit
    have a1 := px_alloc
    have a2 := way_alloc
    clear hb1 hk1 hball hk1' hk3 hb3 hi hfit
    simp only [entV]
    gi_wp2
    refine hK _ _ (keeps_of_below HBA.out) (Same.ofBelow HBA.out fun j hj => Nat.lt_of_lt_of_le (HI.out j hj).2 hsz) ⟨HI2.out.1.later HBA.out, Nat.le_trans HI2.out.2 HBA.out.size⟩ ⟨HFIT.out, W.heap.size, V1.heap.size, hsz, Nat.le_trans hsz HS1.out, HK1.out, HK3.out, rfl⟩
  case body =>
    rintro l' pre x a' W hl' ⟨rr, hr⟩ ⟨hs, hws⟩ ⟨hfit, Bq, Bw, g1, g2, hq, hy, rfl⟩
    obtain ⟨k, hk⟩ : ∃ k, k = pre.length := ⟨_, rfl⟩
    have hx : L[k]? = some x := by
      obtain ⟨r, rfl⟩ := hfit
      rw [hk]
      simp
    have hkn : k < n := by rw [← HN.out]; exact (List.getElem?_eq_some_iff.1 hx).1
    rw [← hk] at hs
    obtain ⟨ad, hA, hlds⟩ := HWT.out k x hx
    subst hA
    obtain ⟨hw1, hw2⟩ := HWK.out x.2
    obtain ⟨xa, hxa⟩ : ∃ z : Int, z = (padB x.1 : Int) := ⟨_, rfl⟩
    obtain ⟨xn, hxn⟩ : ∃ z : Int, z = (x.1.length : Int) := ⟨_, rfl⟩
    obtain ⟨cv, hcv⟩ : ∃ z, z = dc x.2 := ⟨_, rfl⟩
    have hc1 : cv.size = 257 := by rw [hcv]; exact HD.out.sz _
    have e1 : ∀ w, (binOp .neq 37 (.agg #[.int .u32 xa, .int .i64 xn]) (.agg #[.int .u32 xa, .int .i64 xn])).run Tryz.prog w = .ok (.bool false) w := fun w => by
      have := neq_px (padB x.1) (padB x.1) x.1.length x.1.length w
      rw [hxa, hxn]
      simpa [pxV] using this
    have e2 : ∀ w, (Op.equalIn 10000 41 (.agg cv) (.agg cv)).run Tryz.prog w = .ok true w := fun w => by rw [hcv, hw1]; exact eqs_wy _ hw2 w
    have e3 : ∀ w, (binOp .neq 41 (.agg cv) (.agg cv)).run Tryz.prog w = .ok (.bool false) w := fun w => by rw [run_neq_struct, e2]; rfl
    unfold pxV at hlds ⊢
    rw [← hxa, ← hxn, ← hcv] at hlds
    rw [← hxa, ← hxn] at hq
    rw [← hcv] at hy
    rw [← hxa, ← hxn, ← hcv]
    simp only [List.setIfInBounds_toArray, List.set_cons_zero, List.set_cons_succ]
    have l1 := fun q => ld_pxB (hq.drewN q)
    have l2 := fun q => ld_wyB (hy.drewN q) hc1
    have l3 := fun q => ld_ens ((hs.drewN q).row.cell 0)
    have l4 := fun q => ld_intA ((hs.drewN q).cnt.cell 0)
    have l5 := fun q => (hlds (W.drewN q) (below_drewN hs.below q)).1
    have l6 := fun q => (hlds (W.drewN q) (below_drewN hs.below q)).2
    have hi0 : (0 : Int) ≤ k := by omega
    have hi1 : (k : Int) < n := by omega
    have hd1 : decide (k < n) = true := decide_eq_true hkn
    have hd2 : decide (n ≤ k) = false := decide_eq_false (by omega)
    have hd3 : decide ((n : Int) ≤ (k : Int)) = false := decide_eq_false (by omega)
    have HS := Lib.hid hs
    have HK := Lib.hid hk
    have hsm := HSM.out
    have hw5 : IntKind.i64.wrap ((k : Int) + 1) = (k : Int) + 1 := by rw [IntWalk.i64_in _ (by omega)]
    clear hs hk hx hq hy hlds hxa hxn hcv hw1 hw2 hfit hkn
    gi_wp2_with fail
    refine wpIn_region_plain (fun _ => trivial) (by kernel_rfl) (by kernel_rfl) (by kernel_rfl) ?_
    repeat (go_big_quiet_step (fail))
    refine wpQuiet_nil ?_
    rintro _ ⟨dq, rfl⟩
    have HDq := Lib.hid (HS.out.drewN dq)
    have HWV := Lib.hid ((Upd.refl (fun j => j = w.heap.size + 1 + 1 ∨ j = w.heap.size + 1 + 1 + 1) W).drewN dq)
    clear l1 l2 l3 l4 l5 l6
    generalize W.drewN dq = V at HDq HWV ⊢
    have l7 := ld_intA (HDq.out.cnt.cell 0)
    have st7 := st_intA (HDq.out.cnt.cell 0) (HDq.out.cnt.frozen 0) ((k : Int) + 1)
    have hc9 := HDq.out.setC (k + 1)
    rw [show ((k + 1 : Nat) : Int) = (k : Int) + 1 by omega] at hc9
    have hu9 := HWV.out.setCell (p := ⟨w.heap.size + 1 + 1 + 1, 0, none⟩) (.inl (.inr rfl)) (.int .i64 ((k : Int) + 1))
    generalize V.setCell ⟨w.heap.size + 1 + 1 + 1, 0, none⟩ (.int .i64 ((k : Int) + 1)) = V2 at st7 hc9 hu9
    have l8 := ld_intA (hc9.cnt.cell 0)
    rw [show ((k + 1 : Nat) : Int) = (k : Int) + 1 by omega] at l8
    have l9 := ld_intA (hc9.leave.cell 0)
    have st9 := st_btN (hc9.ans.cell 0) (hc9.ans.frozen 0) true
    have HC9 := Lib.hid hc9
    have HU9 := Lib.hid hu9
    clear hc9 hu9
    by_cases hlv : (k : Int) + 1 = lv
    · have hz1 : ((k : Int) + 1 == lv) = true := beq_iff_eq.2 hlv
      clear hlv
      gi_wp2_with fail
      have hu10 := HU9.out.setCell (p := ⟨w.heap.size + 1 + 1, 0, none⟩) (.inl (.inl rfl)) (.bool true)
      exact ⟨keeps_of_upd2 _ hu10 fun j hj => by rcases hj with rfl | rfl; exact ⟨_, _, HS.out.ans⟩; exact ⟨_, _, HS.out.cnt⟩, rfl, k + 1, HC9.out.setA true⟩
    · have hz1 : ((k : Int) + 1 == lv) = false := beq_eq_false_iff_ne.2 hlv
      clear hlv
      gi_wp2_with fail
      refine ⟨keeps_of_upd2 _ HU9.out fun j hj => by rcases hj with rfl | rfl; exact ⟨_, _, HS.out.ans⟩; exact ⟨_, _, HS.out.cnt⟩, HU9.out.same fun j hj hi => ?_, ?_, Nat.le_trans hws HU9.out.size⟩
      · have := (HI.out j hi).1
        rcases hj with rfl | rfl <;> omega
      · show OnS w _ _ lv false (pre ++ [x]).length
        rw [List.length_append, ← HK.out]
        exact HC9.out
  case stop =>
    rintro D cd pre W hD _ ⟨rfl, k, hs⟩ hK
    have hDl : D < W.heap.size := (Array.getElem?_eq_some_iff.1 hK).1
    have hno : ∀ r, some D = some r → ∃ o : Obj, W.heap[r]? = some o ∧ o.isCells = false := fun r e => by cases e; exact ⟨_, hK, rfl⟩
    have jr := (blk_own hs.ans (grownBy_putObj' W D (.deferred none)) hno)
    have hBz := hs.below.trans (belowK_b (w := w) (Nat.le_refl _) W D _ (.deferred none) (by omega) hK rfl rfl)
    gi_wp2
    refine ⟨by simp, .inl ⟨_, _, rfl, run_takeDeferred hK, ?_⟩⟩
    exact ⟨_, res_bt rfl _ rfl jr, rfl, hBz⟩
  case done =>
    rintro D ys W hD hys ⟨hs, hws⟩ hK
    rw [hys, HN.out] at hs
    have HS := Lib.hid hs
    have l1 := ld_ens (hs.row.cell 0)
    have l2 := ld_intA (hs.cnt.cell 0)
    have st := st_btN (hs.ans.cell 0) (hs.ans.frozen 0) true
    have HKD := Lib.hid hK
    clear hs hys hK
    go_wp2_with fail
    have hu := upd_set W (w.heap.size + 1 + 1) 0 (.bool true)
    have hs9 := HS.out.setA true
    generalize W.setCell ⟨w.heap.size + 1 + 1, 0, none⟩ (.bool true) = w9 at hu hs9 ⊢
    have hDl : D < W.heap.size := (Array.getElem?_eq_some_iff.1 HKD.out).1
    have hk9 : w9.heap[D]? = some (.deferred (some [])) := (hu.block D hDl (fun (h : D = w.heap.size + 1 + 1) => by omega)).trans HKD.out
    have hno : ∀ r, some D = some r → ∃ o : Obj, w9.heap[r]? = some o ∧ o.isCells = false := fun r e => by cases e; exact ⟨_, hk9, rfl⟩
    have jr := (blk_own hs9.ans (grownBy_putObj' w9 D (.deferred none)) hno)
    have hBz := hs9.below.trans (belowK_b (w := w) (Nat.le_refl _) w9 D _ (.deferred none) (by omega) hk9 rfl rfl)
    refine ⟨by simp, .inl ⟨_, _, rfl, run_takeDeferred hk9, ?_⟩⟩
    exact ⟨_, res_bt rfl _ rfl jr, rfl, hBz⟩
set_option maxRecDepth 100000 in
/-- The iterator over nothing. -/
theorem fnone_fits (w : World) (Kp : World → World → Prop) (Fit : List (Bs × Int) → (Bs × Int) → World → Prop) (S Sp : List (Bs × Int) → Prop) (hS : S []) :
    SeqFit Fence.wide 4 Tryz.prog 116 #[] (entV dc) Kp S Sp Fit w := fun l J Jx W _ _ _ h0 _ => by
  refine callsIn_of_wp Tryz.func116 rfl trivial ?_ rfl
  simp only [Tryz.ntmps116, List.size_toArray, List.length_cons, List.length_nil, Nat.reduceAdd, Nat.reduceSub, Array.replicate_succ, Array.replicate_zero, List.push_toArray, List.append_toArray, List.nil_append, List.cons_append]
  gi_wp2
  go_end0
  exact ⟨⟨_, rfl⟩, .inl ⟨[], hS, h0⟩⟩
theorem allgives_no {w : World} {v : Value} (h : GoneF w v) : AllGives dc v 116 [] w := fun W0 hb => by
  refine (fall_no (h.later hb)).mono ?_
  rintro e w' ⟨rfl, rfl⟩
  exact ⟨#[], fun _ => False, rfl, Below.refl _ _, fun k h => h.elim, fnone_fits W0 _ _ _ _ rfl⟩
theorem allgives_kf (hd : Dc dc) {w wx : World} {fb : Nat} {T : TT} {lim : Int} (h : KF dc w wx fb T lim) (hsm : T.list.length ≤ 1000000) : AllGives dc (.pointer (some ⟨fb, 0, none⟩)) 192 T.list wx := fun W0 hb => by
  refine (fall_any hd (h.later hb) hsm).mono ?_
  rintro e w' ⟨f, rfl, hs, hb2, hk⟩
  obtain ⟨Bx, rfl, hst⟩ := hs.fits hd hsm Fence.wide 4 trivial rfl (by omega)
  exact ⟨_, _, rfl, hb2, fun k hk => hk, hst⟩
theorem want_nil (A : Option Addr) (w : World) : WantAt dc A [] w := fun k e h => by simp at h
theorem eg_none : ∀ args w, (callFunc 116 args).run Tryz.prog w = .ok (.enter 116 args) w := enters_of Tryz.func116 (by kernel_rfl) rfl
theorem eg_over : ∀ args w, (callFunc 192 args).run Tryz.prog w = .ok (.enter 192 args) w := enters_of Tryz.func192 (by kernel_rfl) rfl
end Go.Proofs.YthlommalbkhcjaaGreat
