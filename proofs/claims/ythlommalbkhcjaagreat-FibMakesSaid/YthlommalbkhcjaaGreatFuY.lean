/- fib.Ports. -/
import Derived.Test.YthlommalbkhcjaaGreatFuW
import Derived.Test.YthlommalbkhcjaaGreatFuP
import Derived.BigGuardIn
namespace Go.Proofs.YthlommalbkhcjaaGreat
open Go.RowKit Go.Sort Go.BigFrame
attribute [local go_sem] Oper.semAt_some
def inV (zs : List Int) : List Value := zs.map (Value.int .i64)
theorem inV_len (zs : List Int) : (inV zs).length = zs.length := by simp [inV]
theorem inV_snoc (zs : List Int) (z : Int) : inV (zs ++ [z]) = inV zs ++ [.int .i64 z] := by simp [inV]
theorem take_snocI {L : List Int} {k : Nat} {e : Int} (h : L[k]? = some e) : L.take (k + 1) = L.take k ++ [e] := by
  obtain ⟨h1, h2⟩ := List.getElem?_eq_some_iff.1 h
  rw [List.take_succ_eq_append_getElem h1, h2]
theorem own_blkI {w : World} {base : Nat} {e : TypeId} {size n : Nat} {v : Value} {xs : List Value} (h : w.ownsRow base e size v n xs) {g : Nat} (hg : v.ownBlock = some g) : ∃ cs, Blk w g e cs := by
  rcases h.2 with ⟨rfl, rfl⟩ | ⟨g', cap, cur, rfl, _, hh, _⟩
  · cases hg
  · injection hg with hg
    subst hg
    exact ⟨cur, hh⟩
set_option maxRecDepth 100000 in
set_option maxHeartbeats 4000000 in
/-- slices.Values' iterator. -/
theorem vals1_in (F : Fence) (nn : Nat) (hf : F.fn 115) (hro : F.round = none) (hn : 1 ≤ nn) (l Bx : Nat) (I : Nat → Prop) (ad : Addr) (cap : Nat) (L : List Int) (hsm : L.length ≤ 1000000) (J Jx : List Int → World → Prop)
    (W : World) (hI : ∀ k, I k → k < W.heap.size)
    (hY : ∀ pre x W, J pre W → pre ++ [x] <+: L → YieldAt F (nn - 1) Tryz.prog l #[Value.int .i64 x] W fun e W' =>
      (e = .returned (.bool true) ∧ J (pre ++ [x]) W' ∧ Same I W W') ∨ (e = .returned (.bool false) ∧ Jx (pre ++ [x]) W'))
    (hBs : W.cell? ⟨Bx, 0, none⟩ = some (.slice (some ad) L.length cap)) (hr : Reads W I 1 (some ad) L.length (inV L)) (h0 : J [] W) :
    CallsIn F nn Tryz.prog 115 #[.func (.yield l) #[] #[], .pointer (some ⟨Bx, 0, none⟩)] W fun e W' => (∃ v, e = .returned v) ∧
      ((∃ ys, ys = L ∧ J ys W') ∨ (∃ pre, pre <+: L ∧ Jx pre W')) := by
  have R := Lib.hid hr
  obtain ⟨m, hm⟩ : ∃ m, m = L.length := ⟨_, rfl⟩
  rw [← hm] at hBs hsm
  have HM := Lib.hid hm
  have HI := Lib.hid hI
  clear hr hm hI
  refine callsIn_of_wp Tryz.func115 rfl hf ?_ hro
  simp only [Tryz.ntmps115, List.size_toArray, List.length_cons, List.length_nil, Nat.reduceAdd, Nat.reduceSub, Array.replicate_succ, Array.replicate_zero, List.push_toArray, List.append_toArray, List.nil_append, List.cons_append]
  gi_wp2
  gi_loopw [7] (fun i wr => ∃ k : Nat, k ≤ m ∧ i = .int .i64 (k : Int) ∧ J (L.take k) wr ∧ Same I W wr) (fun i _ => m - (intOf i).toNat)
  case atStart => exact ⟨0, Nat.zero_le _, rfl, h0, Same.refl _ _⟩
  case round =>
    obtain ⟨k, hk, rfl, hJs, hnx⟩ := hrel
    by_cases hlt : k < m
    · obtain ⟨x, hx⟩ : ∃ x, L[k]? = some x := ⟨_, List.getElem?_eq_getElem (by rw [← HM.out]; exact hlt)⟩
      have hcell : wr.cell? (ad.add k) = some (.int .i64 x) := by
        obtain ⟨a2, e, _, _, hc⟩ := (R.out.keep hnx).2 (by rw [← HM.out]; omega)
        injection e with e
        subst e
        exact hc k _ (by unfold inV; rw [List.getElem?_map, hx]; rfl)
      have hyy := hY _ x wr hJs (by rw [← take_snocI hx]; exact List.take_prefix _ _)
      obtain ⟨fn, tmps, assign, body, hy, hR⟩ := hyy
      have hi0 : (0 : Int) ≤ k := by omega
      have hi1 : (k : Int) < m := by omega
      have HNX := Lib.hid hnx
      have HX := Lib.hid hx
      clear hJs hY hnx hx
      gi_wp2
      refine hR.mono ?_
      rintro e3 W3 (⟨rfl, hJ3, hk3⟩ | ⟨rfl, hJx3⟩)
      · gi_wp2
        go_roundw
        case rel => exact ⟨k + 1, by omega, by simp, by rw [take_snocI HX.out]; exact hJ3, HNX.out.trans hk3⟩
        case measure => simp [intOf]; omega
      · gi_wp2
        refine bodyPost_ret (results_none rfl _ _ _) rfl ?_
        exact ⟨⟨_, rfl⟩, .inr ⟨_, by rw [← take_snocI HX.out]; exact List.take_prefix _ _, hJx3⟩⟩
    · obtain rfl : k = m := by omega
      gi_wp2
      go_end0
      exact ⟨⟨_, rfl⟩, .inl ⟨_, List.take_of_length_le (by rw [HM.out]; exact Nat.le_refl _), hJs⟩⟩
theorem vals_fit (w : World) (Bx : Nat) (I : Nat → Prop) (hI : ∀ k, I k → k < w.heap.size) (ad : Addr) (cap : Nat) (L : List Int) (hsm : L.length ≤ 1000000) (hB : Blk w Bx 49 #[.slice (some ad) L.length cap]) (hr : Reads w I 1 (some ad) L.length (inV L)) :
    SeqFit Fence.wide 4 Tryz.prog 115 #[.pointer (some ⟨Bx, 0, none⟩)] (fun x => #[Value.int .i64 x]) (Same I) (fun ys => ys = L) (fun pre => pre <+: L) (fun pre x _ => pre ++ [x] <+: L) w :=
  fun l J Jx W hb _ _ h0 hY => vals1_in Fence.wide 4 trivial rfl (by omega) l Bx I ad cap L hsm J Jx W (fun k hk => Nat.lt_of_lt_of_le (hI k hk) hb.size) hY ((hb.cell (p := ⟨Bx, 0, none⟩) hB.lt).trans (hB.cell 0)) (hr.keep (Same.ofBelow hb hI)) h0
/-- What AppendSeq has gathered. -/
structure ApI (w W : World) (Bc : Nat) (pre : List Int) : Prop where
  below : Below w.heap.size w W
  ge : w.heap.size ≤ Bc
  ex : ∃ v, Blk W Bc 49 #[v] ∧ W.ownsRow (Bc + 1) 3 1 v pre.length (inV pre)
theorem ApI.own {w W W' : World} {Bc : Nat} {L : List Int} {row : Option Nat} (h : ApI w W Bc L) (hg : W.grownBy W' row) (hr : ∀ r, row = some r → w.heap.size ≤ r ∧ ∃ o : Obj, W.heap[r]? = some o ∧ o.isCells = false) : ApI w W' Bc L := by
  obtain ⟨v, h1, h2⟩ := h.ex
  exact ⟨h.below.grown hg h.below.size fun r e => (hr r e).1, h.ge, v, blk_own h1 hg fun r e => (hr r e).2, own_own h2 hg fun r e => (hr r e).2⟩
section
variable {P : Program} {lp n0 : Nat} {ops : Array Oper} {rest : List Oper} {o : Oper} {a : Act} {Q : Exit → Act → World → Prop}
theorem wpListIn_append_anyI (w : World) (hgd : o.guard = none) (s x : Operand) (t : TypeId) (ho : o.op = .call { callee := .builtin .append, args := #[s, x], argTypes := #[t, t] }) (hty : o.type = t)
    (base : Nat) (e : TypeId) (i : TypeInfo) (z : Value) (size bytes : Nat) (ht : P.underlying t = some (.slice e)) (hi : P.info? e = some i) (hz : i.zero = some z)
    (hsize : i.size = size) (hby : i.bytes = bytes) (hzs : z.cells.size = size) (hsz : 0 < size)
    (v : Value) (n : Nat) (xs : List Value) (hs : a.eval s = v) (hown : w.ownsRow base e size v n xs)
    (I : Nat → Prop) (A : Option Addr) (m c : Nat) (news : List Value) (hx : a.eval x = .slice A m c) (hr : Reads w I size A m news) (h1 : ∀ u ∈ news, u.oneCell' = true)
    (h63 : n + m ≤ maxLen) (hbytes : (n + m) * bytes ≤ 140737488355328) (hbase : base ≤ w.heap.size)
    (h : ∀ v2 w2, w2.ownsRow base e size v2 (n + m) (xs ++ news) → w.grownBy w2 v.ownBlock → (v2.ownBlock = v.ownBlock ∨ v2.ownBlock = some w.heap.size) → wpListIn (Fence.wide.inRound lp) n0 P ops Q rest (a.put o.dst v2) w2) : wpListIn (Fence.wide.inRound lp) n0 P ops Q (o :: rest) a w := by
  subst hty
  unfold wpListIn
  rw [if_pos (by unfold Region.wanted; rw [hgd])]
  refine wide_wpIn (by unfold noDefer; rw [ho]) ?_
  exact wp_append_any w s x o.type ho base e i z size bytes ht hi hz hsize hby hzs hsz v n xs hs hown I A m c news hx hr h1 h63 hbytes hbase h
end
def GotI (w : World) (L : List Int) (e : Ending) (w' : World) : Prop := ∃ v, e = .returned v ∧ w'.ownsRow w.heap.size 3 1 v L.length (inV L) ∧ Below w.heap.size w w'
set_option maxRecDepth 100000 in
set_option maxHeartbeats 8000000 in
theorem appseqI_any (Bx : Nat) (I : Nat → Prop) (ad : Addr) (cap : Nat) (L : List Int) (w : World) (hI : ∀ k, I k → k < w.heap.size) (hsm : L.length ≤ 100000) (hB : Blk w Bx 49 #[.slice (some ad) L.length cap]) (hr : Reads w I 1 (some ad) L.length (inV L)) :
    Calls Tryz.prog 157 #[.slice none 0 0, .func (.func 115) #[] #[.pointer (some ⟨Bx, 0, none⟩)]] w (GotI w L) := by
  obtain ⟨W0, hW0⟩ : ∃ W0, W0 = w.alloc (.cells #[.slice none 0 0] 49) := ⟨_, rfl⟩
  have hB00 : Below w.heap.size w W0 := by rw [hW0]; exact (Below.refl _ _).alloc (Nat.le_refl _) _
  have hS0 : ApI w W0 w.heap.size [] := ⟨hB00, Nat.le_refl _, .slice none 0 0, by rw [hW0]; exact Blk.new _ _ _, World.ownsRow_nil _ _ _ _⟩
  have HFIT := Lib.hid (vals_fit W0 Bx I (fun k hk => Nat.lt_of_lt_of_le (hI k hk) hB00.size) ad cap L (by omega) (hB.below hB00 hB.lt) (hr.keep (Same.ofBelow hB00 hI)))
  have HENT := Lib.hid (enters_of (P := Tryz.prog) Tryz.func115 (by kernel_rfl) rfl)
  have HZ0 := Lib.hid (show W0.heap.size = w.heap.size + 1 by rw [hW0]; simp)
  have HW0 := Lib.hid hW0
  have HS0 := Lib.hid hS0
  have HI := Lib.hid hI
  obtain ⟨Bc, hBc⟩ : ∃ Bc, Bc = w.heap.size := ⟨_, rfl⟩
  have HBC := Lib.hid hBc
  rw [← hBc] at HS0
  clear hW0 hS0 hB00 hBc hr hB hI
  refine (callsIn_wide (n := 5)).1 ?_
  refine callsIn_of_wp_marks Tryz.func157 rfl trivial ?_ rfl
  simp only [Tryz.ntmps157, List.size_toArray, List.length_cons, List.length_nil, Nat.reduceAdd, Nat.reduceSub, Array.replicate_succ, Array.replicate_zero, List.push_toArray, List.append_toArray, List.nil_append, List.cons_append]
  refine wpIn_wide.2 ?_
  go_wp2_with fail
  rw [← HW0.out, ← HBC.out]
  have hz0 : w.heap.size < W0.heap.size := by have := HZ0.out; omega
  have hbc : Bc < W0.heap.size := by have := HZ0.out; have := HBC.out; omega
  refine (wpIn_wide (n := 5)).1 ?_
  refine wpIn_range_fit rfl (by omega) (gf := 115) (lb := #[.pointer (some ⟨Bx, 0, none⟩)]) rfl trivial HENT.out HFIT.out (fun h k => same_t h k) (fun W l o o' hl h h1 h2 => same_b (w := W0) (fun k hk => by have := HI.out k hk; omega) W l o o' hl h h1 h2) (Below.refl _ _) (fun _ => rfl)
    (fun pre W => ApI w W Bc pre ∧ W0.heap.size ≤ W.heap.size) (fun _ _ _ => False) (fun pre W W' row hs hg hr => ⟨hs.1.own hg fun r e => ⟨Nat.le_trans (by omega) (hr r e).1, (hr r e).2⟩, Nat.le_trans hs.2 hg.size⟩) (fun cd pre W W' row hs hg hr => hs) ⟨HS0.out, Nat.le_refl _⟩
    (fun t pre x a' W => pre ++ [x] <+: L ∧ a' = { tmps := (t.setIfInBounds 7 (.int .i64 x)).setIfInBounds 5 (.int .i64 x), defers := [] })
    (fun pre x a' _ W W' row hs hg hr => hs) ?assign ?body ?done ?stop
  case assign =>
    intro l pre x W K hi hfit hsz hK
    dsimp only
    gi_wp2
    exact hK _ _ (keeps_of_below (Below.refl _ _)) (Same.refl _ _) hi ⟨hfit, rfl⟩
  case body =>
    rintro l pre x a' W hl ⟨rr, hr⟩ ⟨hs, hws⟩ ⟨hfit, rfl⟩
    have hlen : pre.length < L.length := by obtain ⟨r, rfl⟩ := hfit; simp
    obtain ⟨v, h1, h2⟩ := hs.ex
    obtain ⟨A, c, rfl, hnc⟩ := own_form h2
    obtain ⟨k, hk⟩ : ∃ k, k = pre.length := ⟨_, rfl⟩
    obtain ⟨Y, hY⟩ : ∃ Y, Y = inV pre := ⟨_, rfl⟩
    rw [← hk, ← hY] at h2
    rw [← hk] at h1
    obtain ⟨i0, hi, hz0', hz1, hz2⟩ := info_parts info_i64
    have b0 : W.cell? ⟨Bc, 0, none⟩ = some (.slice A k c) := h1.cell 0
    obtain ⟨W1, hW1⟩ : ∃ Z, Z = W.alloc (.cells #[.int .i64 x] 3) := ⟨_, rfl⟩
    have hv1 : W1.ownsRow (Bc + 1) 3 1 (.slice A k c) k Y := by rw [hW1]; exact h2.alloc _
    have hr1 : Reads W1 (fun k => k = W.heap.size) 1 (some ⟨W.heap.size, 0, none⟩) 1 [.int .i64 x] := by
      rw [hW1]
      exact reads_lit W 3 #[.int .i64 x] 1 1 (0, 0) rfl
    have hk1 : Blk W1 Bc 49 #[.slice A k c] := by rw [hW1]; exact h1.alloc _
    have hone : ∀ u ∈ [Value.int .i64 x], u.oneCell' = true := fun u hu => by rw [List.mem_singleton.1 hu]; rfl
    have hmx : k + 1 ≤ maxLen := by unfold maxLen; omega
    have hmb : (k + 1) * 8 ≤ 140737488355328 := by omega
    have hbl := h1.lt
    have hbs : Bc + 1 ≤ W1.heap.size := by rw [hW1]; simp; omega
    have hu1 : Upd (fun j => (Value.slice A k c).ownBlock = some j ∨ j = Bc) W W1 := by rw [hW1]; exact (Upd.refl _ _).alloc _
    have HV1 := Lib.hid hv1
    have HR1 := Lib.hid hr1
    have HK1 := Lib.hid hk1
    have HU1 := Lib.hid hu1
    have HW1 := Lib.hid hW1
    have HV := Lib.hid h2
    have HS := Lib.hid hs
    have HKL := Lib.hid h1
    have HKN := Lib.hid hk
    have HYN := Lib.hid hY
    have HFIT2 := Lib.hid hfit
    clear hv1 hr1 hk1 hu1 hW1 h2 hs h1 hnc hk hY hlen hfit
    gi_wp2_with (gi_at_builtin; refine wpListIn_append_anyI _ rfl (.tmp 8) (.tmp 10) 49 rfl rfl (Bc + 1) 3 i0 _ 1 8 Tryz.underlying49 hi hz0' hz1 hz2 rfl Nat.one_pos (.slice A k c) k Y rfl (by rw [← HW1.out]; exact HV1.out) (fun k => k = W.heap.size) (some ⟨W.heap.size, 0, none⟩) 1 1 [.int .i64 x] rfl (by rw [← HW1.out]; exact HR1.out) hone hmx hmb (by rw [← HW1.out]; exact hbs) ?_; rw [← HW1.out]; intro v2 w2 h2 hg2 _; obtain ⟨A2, d2, rfl, hd2⟩ := own_form h2; have hkl2 : Blk w2 Bc 49 #[.slice A k c] := (hg2.block Bc HK1.out.lt fun e => by have := (own_lt HV1.out e.symm).1; omega).trans HK1.out; have c2 := hkl2.cell 0; have z2 := hkl2.frozen 0)
    have hu2 : Upd (fun j => (Value.slice A k c).ownBlock = some j ∨ j = Bc) W (w2.setCell ⟨Bc, 0, none⟩ (.slice A2 (k + 1) d2)) := (HU1.out.grown hg2 (fun k hk => .inl (.inl hk))).setCell (p := ⟨Bc, 0, none⟩) (.inl (.inr rfl)) _
    have hrow2 : (w2.setCell ⟨Bc, 0, none⟩ (.slice A2 (k + 1) d2)).ownsRow (Bc + 1) 3 1 (.slice A2 (k + 1) d2) (k + 1) (Y ++ [.int .i64 x]) := own_keep h2 ((upd_set w2 Bc 0 _).same (I := fun g => (Value.slice A2 (k + 1) d2).ownBlock = some g) fun g (hg : g = Bc) hI => by have := (own_lt h2 hI).1; omega) fun g hg => hg
    refine ⟨keeps_of_cells _ hu2 fun j hj _ => ?_, hu2.same fun j hj hi2 => ?_, ⟨HS.out.below.trans (hu2.below (fun j hj => ?_) HS.out.below.size), HS.out.ge, _, hkl2.set_ 0 _, ?_⟩, Nat.le_trans hws hu2.size⟩
    · rcases hj with hj | rfl
      · obtain ⟨cs, hb⟩ := own_blkI HV.out hj
        exact ⟨_, _, hb⟩
      · exact ⟨_, _, HKL.out⟩
    · have := HI.out j hi2
      have := HBC.out
      rcases hj with hj | hj
      · have := (own_lt HV.out hj).1
        omega
      · omega
    · have := HS.out.ge
      rcases hj with hj | hj
      · have := (own_lt HV.out hj).1
        omega
      · omega
    · rw [inV_snoc, ← HYN.out, List.length_append, ← HKN.out]
      exact hrow2
  case stop =>
    rintro D cd pre W hD hsp hf hK
    exact hf.elim
  case done =>
    rintro D ys W hD hys ⟨hs, hws⟩ hK
    obtain ⟨v, h1, h2⟩ := hs.ex
    obtain ⟨A, c, rfl, _⟩ := own_form h2
    have b0 := h1.cell 0
    have HK := Lib.hid hK
    have hno : ∀ r, some D = some r → ∃ o : Obj, W.heap[r]? = some o ∧ o.isCells = false := fun r e => by cases e; exact ⟨_, HK.out, rfl⟩
    have hfin := own_own h2 (grownBy_putObj' W D (.deferred none)) hno
    have hBz := hs.below.trans (belowK_b (w := w) (Nat.le_refl _) W D _ (.deferred none) (by have := HZ0.out; omega) hK rfl rfl)
    have HF2 := Lib.hid hfin
    have HBZ := Lib.hid hBz
    have HYS := Lib.hid hys
    have HGE := Lib.hid hs.ge
    clear hfin hBz hs h1 h2 hK hno hys
    go_wp2_with fail
    refine ⟨by simp, .inl ⟨_, _, rfl, run_takeDeferred HK.out, ?_⟩⟩
    refine ⟨.slice A ys.length c, ?_, .slice A ys.length c, rfl, ?_, HBZ.out⟩
    · simp [results, Tryz.f157, go_sem]
    · rw [← HYS.out]
      exact own_base HF2.out (by have := HGE.out; omega)
end Go.Proofs.YthlommalbkhcjaaGreat
namespace Go.Proofs.YthlommalbkhcjaaGreat
open Go.RowKit Go.Sort Go.Shelf
variable {dc : Int → Array Value}
section
variable {w w' : World} {B g n cap : Nat} {zs qs : List Int}
theorem own_holdsI (h : w.ownsRow B 3 1 (.slice (some ⟨g, 0, none⟩) n cap) n (inV zs)) (hn : zs.length = n) : Holds (Value.int .i64) w g 0 zs.toArray := by
  intro j hj
  have hj2 : j < zs.length := by simpa using hj
  rw [Nat.zero_add]
  have h1 := h.cellAt j (by omega)
  have e : (inV zs)[j]? = some (.int .i64 zs.toArray[j]!) := by
    unfold inV
    rw [List.getElem?_map, List.getElem?_eq_getElem hj2]
    simp [hj2]
  rw [e] at h1
  exact ⟨h1, h.frozenAt j⟩
/-- A row of the call's own behind a sort. -/
theorem own_putI (h : w.ownsRow B 3 1 (.slice (some ⟨g, 0, none⟩) n cap) n (inV zs)) (hq : qs.length = n) {m : Nat} (hm : m ≤ n) {k : Nat} {os : Array Obj} (hw : w' = grow (putRow (Value.int .i64) (Sort.ahead w k) g 0 qs.toArray) os) :
    w'.ownsRow B 3 1 (.slice (some ⟨g, 0, none⟩) m cap) m (inV (qs.take m)) ∧ Upd (only g) w w' := by
  rcases h.2 with ⟨h', _⟩ | ⟨g', cap', cur, h', hb, hg, hnc, hcm, hcs, htake⟩
  · simp at h'
  simp only [Value.slice.injEq, Option.some.injEq, Addr.mk.injEq, and_true, true_and] at h'
  obtain ⟨rfl, rfl⟩ := h'
  have hlt : g < w.heap.size := by
    rcases Nat.lt_or_ge g w.heap.size with hl | hl
    · exact hl
    · rw [Array.getElem?_eq_none hl] at hg; cases hg
  have hheap : w'.heap = (w.heap.modify g (onCells (putCells (Value.int .i64) 0 qs.toArray))) ++ os := by rw [hw]; rfl
  have hblk : w'.heap[g]? = some (.cells (putCells (Value.int .i64) 0 qs.toArray cur) 3 (0, 0)) := by
    rw [hheap, Array.getElem?_append_left (by simpa using hlt), Array.getElem?_modify, if_pos rfl, hg]
    rfl
  refine ⟨⟨by rw [inV_len, List.length_take]; omega, .inr ⟨g, cap, putCells (Value.int .i64) 0 qs.toArray cur, rfl, hb, hblk, by omega, hcm, by simp [putCells, hcs], ?_⟩⟩, ?_⟩
  · refine List.ext_getElem? fun t => ?_
    rw [List.getElem?_take]
    have hle : n ≤ cur.size := by rw [hcs]; omega
    by_cases ht : t < m * 1
    · rw [if_pos ht]
      have h1 : t < cur.size := by omega
      have h2 : t < qs.length := by omega
      have h3 : t < m := by omega
      simp [putCells, h1, h2, h3, inV]
    · rw [if_neg ht, List.getElem?_eq_none (by rw [inV_len, List.length_take]; omega)]
  · have e : w'.os = w.os ∧ w'.tape = w.tape ∧ w'.output = w.output := by rw [hw]; exact ⟨rfl, rfl, rfl⟩
    refine ⟨e.1, e.2.1, e.2.2, by rw [hheap]; simp, fun j hj hjg => ?_⟩
    rw [hheap, Array.getElem?_append_left (by simpa using hj), Array.getElem?_modify, if_neg (fun e => hjg e.symm)]
end
theorem sortI_any (B g n cap : Nat) (zs : List Int) (w : World) (h : w.ownsRow B 3 1 (.slice (some ⟨g, 0, none⟩) n cap) n (inV zs)) (hn : zs.length = n) (hsm : n ≤ 100000) :
    Calls Tryz.prog 114 #[.slice (some ⟨g, 0, none⟩) n cap] w fun e w' =>
      e = .returned (.tuple #[]) ∧ w'.ownsRow B 3 1 (.slice (some ⟨g, 0, none⟩) n cap) n (inV (zs.mergeSort fun x y => decide (x ≤ y))) ∧ Upd (only g) w w' := by
  have hlt : g < w.heap.size := (own_lt h (g := g) rfl).2
  have hcon := AnyM.slices_Sort_int sortI g 0 cap zs w (own_holdsI h hn) hlt (by omega)
  rw [hn] at hcon
  change Calls Tryz.prog 114 _ _ _ at hcon
  refine hcon.mono fun e w' ⟨he, m, os, hw⟩ => ⟨he, ?_⟩
  have hl : (zs.mergeSort fun x y => decide (x ≤ y)).length = n := by rw [List.length_mergeSort]; exact hn
  have := own_putI h hl (Nat.le_refl n) hw
  rw [List.take_of_length_le (by omega)] at this
  exact this
theorem compactI_any (B g n cap : Nat) (zs : List Int) (w : World) (h : w.ownsRow B 3 1 (.slice (some ⟨g, 0, none⟩) n cap) n (inV zs)) (hn : zs.length = n) (hsm : n ≤ 100000) (m : Nat) (hm : m = (Lib.compact zs).length) (hmn : m ≤ n) :
    Calls Tryz.prog 60 #[.slice (some ⟨g, 0, none⟩) n cap] w fun e w' =>
      e = .returned (.slice (some ⟨g, 0, none⟩) m cap) ∧ w'.ownsRow B 3 1 (.slice (some ⟨g, 0, none⟩) m cap) m (inV (Lib.compact zs)) ∧ Upd (only g) w w' := by
  have hnc : n ≤ cap := by
    obtain ⟨A, c, e, hc⟩ := own_form h
    injection e with _ _ e
    omega
  have hcon := AnyG.slices_Compact_int compactI g 0 cap zs w (own_holdsI h hn) (by omega) (by omega)
  rw [hn, ← hm] at hcon
  change Calls Tryz.prog 60 _ _ _ at hcon
  refine hcon.mono fun e w' ⟨he, q, hw⟩ => ⟨he, ?_⟩
  have hl : (Lib.compact zs ++ List.replicate (n - m) 0).length = n := by rw [List.length_append, List.length_replicate]; omega
  have hw2 : w' = grow (putRow (Value.int .i64) (Sort.ahead w q) g 0 (Lib.compact zs ++ List.replicate (n - m) 0).toArray) #[] := by rw [hw]; simp [grow]; rfl
  have := own_putI (qs := Lib.compact zs ++ List.replicate (n - m) 0) h hl hmn hw2
  have htk : List.take m (Lib.compact zs ++ List.replicate (n - m) 0) = Lib.compact zs := List.take_left' hm.symm
  rw [htk] at this
  exact this
theorem valuesI_any (A : Option Addr) (n c : Nat) (w : World) : Calls Tryz.prog 59 #[.slice A n c] w fun e w' => e = .returned (.func (.func 115) #[] #[.pointer (some ⟨w.heap.size, 0, none⟩)]) ∧ w' = w.alloc (.cells #[.slice A n c] 49) := by
  go_enter Tryz.func59, Tryz.ntmps59
  go_wp2_with fail
  go_ret
  exact ⟨rfl, rfl⟩
theorem collectI_any (Bx : Nat) (I : Nat → Prop) (ad : Addr) (cap : Nat) (L : List Int) (w : World) (hI : ∀ k, I k → k < w.heap.size) (hsm : L.length ≤ 100000) (hB : Blk w Bx 49 #[.slice (some ad) L.length cap]) (hr : Reads w I 1 (some ad) L.length (inV L)) :
    Calls Tryz.prog 113 #[.func (.func 115) #[] #[.pointer (some ⟨Bx, 0, none⟩)]] w (GotI w L) := by
  have HA := Lib.hid (appseqI_any Bx I ad cap L w hI hsm hB hr)
  clear hB hr hI
  go_enter Tryz.func113, Tryz.ntmps113
  go_wp2_with (go_at_call 157; refine HA.out.mono ?_; rintro e w1 ⟨v, rfl, ho, hb⟩; have HO := Lib.hid ho; have HB := Lib.hid hb; clear ho hb)
  go_ret
  exact ⟨v, rfl, HO.out, HB.out⟩
def SortedI (w : World) (L : List Int) (n : Nat) (e : Ending) (w' : World) : Prop := ∃ g c, e = .returned (.slice (some ⟨g, 0, none⟩) n c) ∧ w'.ownsRow w.heap.size 3 1 (.slice (some ⟨g, 0, none⟩) n c) n (inV (L.mergeSort fun x y => decide (x ≤ y))) ∧ Below w.heap.size w w'
theorem sortedI_any (Bx : Nat) (I : Nat → Prop) (ad : Addr) (cap : Nat) (L : List Int) (n : Nat) (hn : L.length = n) (h0 : 0 < n) (w : World) (hI : ∀ k, I k → k < w.heap.size) (hsm : L.length ≤ 100000) (hB : Blk w Bx 49 #[.slice (some ad) L.length cap]) (hr : Reads w I 1 (some ad) L.length (inV L)) :
    Calls Tryz.prog 58 #[.func (.func 115) #[] #[.pointer (some ⟨Bx, 0, none⟩)]] w (SortedI w L n) := by
  have HA := Lib.hid (collectI_any Bx I ad cap L w hI hsm hB hr)
  have HN := Lib.hid hn
  clear hB hr hI
  go_enter Tryz.func58, Tryz.ntmps58
  go_upto_region 2 with (go_at_call 113; refine HA.out.mono ?_; rintro e w1 ⟨v, rfl, ho, hb⟩; have HO := Lib.hid ho; have HB := Lib.hid hb; clear ho hb)
  rw [hn] at HO
  obtain ⟨g, c, rfl, hnc⟩ := own_form1 HO.out h0
  have HS := Lib.hid (sortI_any w.heap.size g n c L w1 HO.out hn (by omega))
  have HGE := Lib.hid (own_lt HO.out (g := g) rfl).1
  clear hn hnc hsm
  go_wp2_with (go_at_call 114; refine HS.out.mono ?_; rintro e w2 ⟨rfl, ho2, hu2⟩; have HO2 := Lib.hid ho2; have HU2 := Lib.hid hu2; clear ho2 hu2)
  go_ret
  exact ⟨g, c, rfl, HO2.out, HB.out.trans (HU2.out.below (fun k (hk : k = g) => by rw [hk]; exact HGE.out) HB.out.size)⟩
/-- The ports of a way. -/
def portsOf (wz : Int × List Int) : List Int := if wz.1 = 3 then Lib.compact (wz.2.mergeSort fun x y => decide (x ≤ y)) else []
/-- Ports. -/
def PortsPost (w : World) (P : List Int) (e : Ending) (w' : World) : Prop := ∃ v, e = .returned v ∧ w'.ownsRow w.heap.size 3 1 v P.length (inV P) ∧ Below w.heap.size w w'
theorem blk_reads {w : World} {b : Nat} {k : Int} {zs : List Int} (h : Blk w b 41 (wyC k zs)) (hz : zs.length = 256) : Reads w (fun j => j = b) 1 (some ⟨b, 1, none⟩) 256 (inV zs) :=
  ⟨by rw [inV_len, hz], fun _ => ⟨_, rfl, rfl, h.lt, fun j u hu => by
    rw [add_off, h.cell]
    unfold wyC
    have e : (arrV zs).toList = inV zs := by unfold arrV inV; simp
    rw [List.getElem?_toArray, List.getElem?_append_right (by simp), e, ← hu]
    congr 1
    simp⟩⟩
set_option maxRecDepth 20000 in
set_option maxHeartbeats 8000000 in
attribute [-go_sem] Instr.storeAt Instr.loadAt Instr.alloc in
theorem fports_any (hd : Dc dc) {wk : Int → Int × List Int} (hwk : ∀ v, dc v = wayC (wk v) ∧ (wk v).2.length = 256) (a : Nat) {w wx : World} {fb : Nat} {T : TT} {lim : Int} (h : KF dc w wx fb T lim) (ha : a < 2 ^ 32) (hsm : T.list.length ≤ 1000000) (wz : Int × List Int) (hwz : wz = wk (lastE (T.cov (bitsB a 32))).2) :
    Calls Tryz.prog 19 #[.pointer (some ⟨fb, 0, none⟩), .int .u32 (a : Int)] wx (PortsPost wx (portsOf wz)) := by
  have hL := kf_look hd a h ha hsm
  obtain ⟨E, hE⟩ : ∃ E, E = T.cov (bitsB a 32) := ⟨_, rfl⟩
  rw [← hE] at hL hwz
  obtain ⟨hw1, hw2⟩ := hwk (lastE E).2
  rw [← hwz] at hw1 hw2
  have hL2 : Calls Tryz.prog 14 #[.pointer (some ⟨fb, 0, none⟩), .int .u32 (a : Int)] wx fun e w' => e = .returned (.tuple #[.agg #[.int .u32 (padB (lastE E).1 : Int), .int .i64 ((lastE E).1.length : Int)], .agg (wyC wz.1 wz.2), .bool (!E.isEmpty)]) ∧ Below wx.heap.size wx w' := hL.mono fun e w' ⟨⟨h1, h2⟩, _⟩ => ⟨by rw [h1, hw1]; rfl, h2⟩
  have HL := Lib.hid hL2
  obtain ⟨X, hX⟩ : ∃ X, X = wyC wz.1 wz.2 := ⟨_, rfl⟩
  have hx1 : X.size = 257 := by rw [hX]; exact wyC_size hw2
  have hx2 : X.all (·.oneCell') = true := by rw [hX]; exact wyC_one _ _
  rw [← hX] at HL
  have HX := Lib.hid hX
  have HW2 := Lib.hid hw2
  have a1 := px_alloc
  have a2 := way_alloc
  clear h hL hL2 hE hw1 hw2 hwz hX hd hwk hsm ha
  go_enter Tryz.func19, Tryz.ntmps19
  go_wp2_with fail
  refine HL.out.mono ?_
  rintro e w1 ⟨rfl, hb1⟩
  obtain ⟨v1, v2, st1, st2, hp2, hv2, hb2⟩ := box_pw w1 (padB (lastE E).1 : Int) ((lastE E).1.length : Int) X hx1 hx2
  have HB2 := Lib.hid (hb1.trans (hb2.mono hb1.size))
  rw [HX.out] at hv2
  have lk := ld_kd hv2
  have HV2 := Lib.hid hv2
  clear hb1 hp2 hv2 hb2
  by_cases hk : wz.1 = 3
  · have hk2 : (wz.1 != 3) = false := by rw [hk]; rfl
    rw [hk] at lk
    have HK := Lib.hid hk
    clear hk
    go_wp2_with fail
    refine (valuesI_any _ 256 256 _).mono ?_
    rintro e w3 ⟨rfl, hw3⟩
    have hb3 : Below v2.heap.size v2 w3 := by rw [hw3]; exact (Below.refl _ _).alloc (Nat.le_refl _) _
    have hB : Blk w3 v2.heap.size 49 #[.slice (some ⟨w1.heap.size + 1, 1, none⟩) wz.2.length 256] := by rw [hw3, HW2.out]; exact Blk.new _ _ _
    have hrd := (blk_reads HV2.out HW2.out).keep (Same.ofBelow hb3 fun k (hk : k = w1.heap.size + 1) => by rw [hk]; exact HV2.out.lt)
    rw [← HW2.out] at hrd
    have HS := Lib.hid (sortedI_any v2.heap.size (fun j => j = w1.heap.size + 1) _ 256 wz.2 256 HW2.out (by decide) w3 (fun k (hk : k = w1.heap.size + 1) => by rw [hk]; exact Nat.lt_of_lt_of_le HV2.out.lt hb3.size) (by rw [HW2.out]; decide) hB hrd)
    have HB3 := Lib.hid (HB2.out.trans (hb3.mono HB2.out.size))
    clear hw3 hb3 hB hrd
    go_wp2_with fail
    refine HS.out.mono ?_
    rintro e w4 ⟨g, c, rfl, ho, hb4⟩
    have hlen : (wz.2.mergeSort fun x y => decide (x ≤ y)).length = 256 := by rw [List.length_mergeSort]; exact HW2.out
    obtain ⟨P, hP⟩ : ∃ P, P = Lib.compact (wz.2.mergeSort fun x y => decide (x ≤ y)) := ⟨_, rfl⟩
    obtain ⟨m, hm⟩ : ∃ m, m = P.length := ⟨_, rfl⟩
    have hmle : m ≤ 256 := by
      rw [hm, hP]
      unfold Lib.compact Lib.compactUpTo
      rw [List.length_map]
      refine Nat.le_trans (List.length_filter_le _ _) ?_
      rw [List.length_range, hlen]
      exact Nat.le_refl _
    have HC := Lib.hid (compactI_any w3.heap.size g 256 c _ w4 ho hlen (by decide) m (by rw [hm, hP]) hmle)
    rw [← hP] at HC
    have HPP := Lib.hid (show portsOf wz = P by unfold portsOf; rw [if_pos HK.out, hP])
    have HM := Lib.hid hm
    have HB4 := Lib.hid (HB3.out.trans (hb4.mono HB3.out.size))
    have HGE := Lib.hid (own_lt ho (g := g) rfl).1
    clear ho hb4 hlen hP hm hmle
    go_wp2_with fail
    refine HC.out.mono ?_
    rintro e w5 ⟨rfl, ho5, hu5⟩
    have HO5 := Lib.hid ho5
    have HB5 := Lib.hid (HB4.out.trans (hu5.below (fun k (hk : k = g) => by rw [hk]; exact Nat.le_trans HB3.out.size HGE.out) HB4.out.size))
    clear ho5 hu5
    go_wp2_with fail
    go_ret
    rw [HPP.out]
    refine ⟨_, rfl, ?_, HB5.out⟩
    rw [← HM.out]
    exact own_base HO5.out HB3.out.size
  · have hk2 : (wz.1 != 3) = true := by simpa using hk
    have HPO := Lib.hid (show portsOf wz = [] by unfold portsOf; rw [if_neg hk])
    clear hk
    go_wp2_with fail
    go_ret
    rw [HPO.out]
    exact ⟨_, rfl, World.ownsRow_nil _ _ _ _, HB2.out⟩
theorem keepsI {d : Array Int} {j : Nat} (h : Lib.keeps d j = true) : j = 0 ∨ d[j]! ≠ d[j - 1]! := by
  simpa [Lib.keeps] using h
theorem compact_mem {zs : List Int} {x : Int} : x ∈ Lib.compact zs ↔ x ∈ zs := by
  unfold Lib.compact Lib.compactUpTo
  rw [List.mem_map]
  constructor
  · rintro ⟨j, hj, rfl⟩
    have := List.mem_range.1 (List.mem_filter.1 hj).1
    simp [this]
  · intro hx
    obtain ⟨i, hi, e⟩ := List.getElem_of_mem hx
    have key : ∀ k, k < zs.length → zs[k]? = some x → ∃ j, j ≤ k ∧ zs[j]? = some x ∧ Lib.keeps zs.toArray j = true := fun k => by
      induction k with
      | zero => intro _ h; exact ⟨0, Nat.le_refl _, h, by simp [Lib.keeps]⟩
      | succ k ih =>
        intro hk h
        by_cases h2 : zs[k]? = some x
        · obtain ⟨j, a, b, c⟩ := ih (by omega) h2
          exact ⟨j, by omega, b, c⟩
        · refine ⟨k + 1, Nat.le_refl _, h, ?_⟩
          have h3 : zs.toArray[k + 1]! ≠ zs.toArray[k + 1 - 1]! := by
            have a1 : zs.toArray[k + 1]! = x := by
              rw [List.getElem?_eq_getElem hk] at h
              simp [hk]
              injection h
            have a2 : zs.toArray[k]! ≠ x := fun e => h2 (by
              have hk2 : k < zs.length := by omega
              rw [List.getElem?_eq_getElem hk2]
              simp [hk2] at e
              rw [e])
            rw [a1, Nat.add_sub_cancel]
            exact fun e => a2 e.symm
          exact Lib.keeps_pos h3
    obtain ⟨j, h1, h2, h3⟩ := key i hi (by rw [List.getElem?_eq_getElem hi, e])
    have hj : j < zs.length := (List.getElem?_eq_some_iff.1 h2).1
    refine ⟨j, List.mem_filter.2 ⟨List.mem_range.2 hj, h3⟩, ?_⟩
    rw [List.getElem?_eq_getElem hj] at h2
    simp [hj]
    injection h2
theorem compact_up {zs : List Int} (hs : zs.Pairwise (· ≤ ·)) : (Lib.compact zs).Pairwise (· < ·) := by
  unfold Lib.compact Lib.compactUpTo
  rw [List.pairwise_map]
  have hr : ((List.range zs.length).filter (Lib.keeps zs.toArray)).Pairwise (· < ·) := List.Pairwise.filter _ List.pairwise_lt_range
  refine List.Pairwise.imp_of_mem (R := (· < ·)) ?_ hr
  intro i j hi hj hij
  have i1 := List.mem_range.1 (List.mem_filter.1 hi).1
  have j1 := List.mem_range.1 (List.mem_filter.1 hj).1
  have hg : ∀ (a b : Nat) (ha : a < zs.length) (hb : b < zs.length), a ≤ b → zs[a] ≤ zs[b] := fun a b ha hb hab => by
    rcases Nat.lt_or_ge a b with h | h
    · exact List.pairwise_iff_getElem.1 hs a b ha hb h
    · have : a = b := by omega
      subst this
      exact Int.le_refl _
  rcases keepsI (List.mem_filter.1 hj).2 with h | h
  · omega
  · have e1 : zs.toArray[i]! = zs[i] := by simp [i1]
    have e2 : zs.toArray[j]! = zs[j] := by simp [j1]
    have hj2 : j - 1 < zs.length := by omega
    have e3 : zs.toArray[j - 1]! = zs[j - 1] := by simp [hj2]
    rw [e2, e3] at h
    rw [e1, e2]
    have a := hg i (j - 1) i1 hj2 (by omega)
    have b := hg (j - 1) j hj2 j1 (by omega)
    omega
theorem ports_up (wz : Int × List Int) : (portsOf wz).Pairwise (· < ·) := by
  unfold portsOf
  split
  · refine compact_up ?_
    have := List.pairwise_mergeSort (le := fun (x y : Int) => decide (x ≤ y)) (fun a b c h1 h2 => by simp at *; omega) (fun a b => by simp; omega) wz.2
    exact this.imp fun h => by simpa using h
  · exact List.Pairwise.nil
theorem ports_mem {wz : Int × List Int} {x : Int} : x ∈ portsOf wz ↔ wz.1 = 3 ∧ x ∈ wz.2 := by
  unfold portsOf
  split
  · rename_i h
    rw [compact_mem, List.mem_mergeSort]
    exact ⟨fun hx => ⟨h, hx⟩, fun hx => hx.2⟩
  · rename_i h
    exact ⟨fun hx => by simp at hx, fun hx => absurd hx.1 h⟩
theorem up_le : ∀ {l : List Int} {n : Nat}, l.Pairwise (· < ·) → (∀ x ∈ l, 0 ≤ x ∧ x < n) → l.length ≤ n
  | l, n, hp, hm => by
    have hn : l.Nodup := hp.imp fun h => by omega
    have hsub : ∀ x ∈ l.map Int.toNat, x ∈ List.range n := fun x hx => by
      obtain ⟨y, hy, rfl⟩ := List.mem_map.1 hx
      have := hm y hy
      exact List.mem_range.2 (by omega)
    have hn2 : (l.map Int.toNat).Nodup := by
      unfold List.Nodup
      rw [List.pairwise_map]
      refine List.Pairwise.imp_of_mem ?_ hp
      intro a b ha hb h
      have := hm a ha
      have := hm b hb
      omega
    have := hn2.length_le_of_subset hsub
    simpa using this
theorem tab_mem (l : List Nx) : ∀ (k : Nat) (x : Int), x ∈ tabGo l k → ∃ i, i < k ∧ x = (nxAt l i).1
  | 0, x, h => by simp [tabGo] at h
  | k + 1, x, h => by
    unfold tabGo at h
    rcases List.mem_append.1 h with h | h
    · obtain ⟨i, h1, h2⟩ := tab_mem l k x h
      exact ⟨i, by omega, h2⟩
    · exact ⟨k, by omega, (List.mem_replicate.1 h).2⟩
theorem table_port {l : List Nx} (hm : mayF l = true) {x : Int} (h : x ∈ tableF l) : 0 ≤ x ∧ x < 8 := by
  obtain ⟨i, h1, rfl⟩ := tab_mem l l.length x h
  have := may_port hm h1
  exact ⟨this.1, this.2.1⟩
/-- What the ways of a table are like. -/
structure WkOk (wz : Int × List Int) : Prop where
  len : wz.2.length = 256
  no : wz.1 ≠ 3 → wz.2 = zs0
  port : ∀ x ∈ wz.2, 0 ≤ x ∧ x < 8
theorem zs0_port : ∀ x ∈ zs0, (0 : Int) ≤ x ∧ x < 8 := fun x hx => by
  unfold zs0 at hx
  rw [(List.mem_replicate.1 hx).2]
  omega
theorem wayR_ok {r : Rt} (h : mayR r = true) : WkOk (wayR r) := by
  refine ⟨wayR_len h, ?_, ?_⟩
  · unfold wayR
    split
    · intro _; rfl
    · split
      · intro _; rfl
      · intro h; exact absurd rfl h
  · unfold wayR
    split
    · exact zs0_port
    · split
      · exact zs0_port
      · rename_i h1 h2
        have hm : mayF r.nx = true := by
          unfold mayR at h
          rw [decide_eq_false (fun e => h2 (.inr e))] at h
          simp at h
          exact h.2
        exact fun x hx => table_port hm hx
theorem wkL_ok (l : List Rt) (v : Int) : WkOk (wkL l v) := by
  unfold wkL
  split
  · split
    · rename_i r _ h
      exact wayR_ok h.2
    · exact ⟨zs0_len, fun _ => rfl, zs0_port⟩
  · exact ⟨zs0_len, fun _ => rfl, zs0_port⟩
theorem wkL_0 (l : List Rt) : (wkL l 0).1 = 0 := by
  unfold wkL
  split
  · rw [if_neg (by omega)]
  · rfl
theorem WkOk.at_no {wz : Int × List Int} (h : WkOk wz) (hk : wz.1 ≠ 3) (i : Nat) : wz.2.getD i 0 = 0 := by
  rw [h.no hk]
  unfold zs0
  rw [List.getD_eq_getElem?_getD, List.getElem?_replicate]
  split <;> rfl
theorem WkOk.at_port {wz : Int × List Int} (h : WkOk wz) (i : Nat) : 0 ≤ wz.2.getD i 0 ∧ wz.2.getD i 0 < 8 := by
  rw [List.getD_eq_getElem?_getD]
  cases he : wz.2[i]? with
  | none => simp
  | some x => exact h.port x (List.mem_of_getElem? he)
end Go.Proofs.YthlommalbkhcjaaGreat
