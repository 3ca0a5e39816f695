/- Layer 12: all prefixes of a core, in order: maps.Keys, slices.Collect, slices.SortedFunc. -/
import Derived.Test.YtahdjfegihnolaaLyB
import Derived.Deep.MidRow
namespace Go.Proofs.Ytahdjfegihnolaa
open Go.RowKit Go.Sort Go.Lib
attribute [local go_sem] Oper.semAt_some
theorem RangeV.walks {P : Program} {k : TypeId} {w w' : World} {b r n : Nat} {F : Lit → Option Value} {left : Lit → Bool} {cnt : Nat} (h : RangeV P k w b r n F left cnt) (hk : KeepsWalks w w') : RangeV P k w' b r n F left cnt := by
  obtain ⟨D, h1, h2⟩ := h
  exact ⟨D, h1.of_walks hk, h2⟩
theorem RangeV.walk {P : Program} {k : TypeId} {w : World} {b r n : Nat} {F : Lit → Option Value} {left : Lit → Bool} {cnt : Nat} (h : RangeV P k w b r n F left cnt) : ∃ o : Obj, w.heap[r]? = some o ∧ o.isWalk = true := by
  obtain ⟨D, h1, h2⟩ := h
  exact h1.iter_walk
theorem nodup_le : ∀ {A B : List Pf}, A.Nodup → (∀ x ∈ A, x ∈ B) → A.length ≤ B.length
  | [], _, _, _ => Nat.zero_le _
  | a :: A, B, hn, h => by
    rw [List.nodup_cons] at hn
    have hm := h a (List.mem_cons_self ..)
    have := nodup_le (A := A) (B := B.erase a) hn.2 fun x hx => by
      rw [List.mem_erase_of_ne (by rintro rfl; exact hn.1 hx)]
      exact h x (List.mem_cons_of_mem _ hx)
    rw [List.length_erase_of_mem hm] at this
    have := List.length_pos_of_mem hm
    simp only [List.length_cons]
    omega
/-- What has come of a map's keys. -/
structure CS (Ps : List Pf) (left : Lit → Bool) (ss : List Pf) : Prop where
  l : ∀ p ∈ Ps, left (pfL p) = true ↔ p ∉ ss
  s : ∀ p ∈ ss, p ∈ Ps
  nd : ss.Nodup
set_option maxRecDepth 100000 in
theorem CS.step {Ps : List Pf} {left : Lit → Bool} {ss : List Pf} (h : CS Ps left ss) (ok : ∀ p ∈ Ps, pfOk p) {p : Pf} (hp : p ∈ Ps) (hl : left (pfL p) = true) : CS Ps (fun x => left x && !x.sameKey (pfL p)) (ss ++ [p]) := by
  have hn := (h.l p hp).1 hl
  refine ⟨fun q hq => ?_, fun q hq => ?_, ?_⟩
  · rw [Bool.and_eq_true, h.l q hq, List.mem_append, List.mem_singleton, Bool.not_eq_true', Bool.eq_false_iff]
    constructor
    · rintro ⟨h1, h2⟩ (h3 | rfl)
      · exact h1 h3
      · exact h2 (WideAt.sameKey_self (pfL_lit (ok _ hp)))
    · intro h1
      refine ⟨fun h2 => h1 (.inl h2), fun h2 => h1 (.inr (pfL_inj (ok _ hq) (ok _ hp) (WideAt.sameKey_eq h2)))⟩
  · rcases List.mem_append.1 hq with h1 | h1
    · exact h.s q h1
    · rw [List.mem_singleton.1 h1]; exact hp
  · rw [List.nodup_append]
    refine ⟨h.nd, by simp, fun a ha b hb => ?_⟩
    rw [List.mem_singleton.1 hb]
    rintro rfl
    exact hn ha
theorem CS.done {Ps : List Pf} {left : Lit → Bool} {ss : List Pf} (h : CS Ps left ss) (nd : Ps.Nodup) (hl : ∀ kl, left kl = false) : ss.Perm Ps := by
  rw [List.perm_ext_iff_of_nodup h.nd nd]
  intro p
  refine ⟨h.s p, fun hp => ?_⟩
  refine Decidable.byContradiction fun hn => ?_
  have := (h.l p hp).2 hn
  rw [hl] at this
  cases this
/-- The keys of a map: the prefixes Ps. -/
structure KeysAre (F : Lit → Option Value) (Ps : List Pf) : Prop where
  ok : ∀ p ∈ Ps, pfOk p
  nd : Ps.Nodup
  at_ : ∀ p ∈ Ps, (F (pfL p)).isSome = true
  keys : ∀ kl v, F kl = some v → WideAt.IsKeyLit kl → ∃ p ∈ Ps, kl = pfL p
set_option maxRecDepth 100000 in
set_option maxHeartbeats 2000000 in
theorem keys1_in (l Bm mb n s : Nat) (F : Lit → Option Value) (Ps : List Pf) (hK : KeysAre F Ps) (J Jx : List Pf → World → Prop) (W : World) (hJa : AbidesFrom W.heap.size J)
    (hY : ∀ pre x V, J pre V → pre.length < Ps.length → YieldAt Fence.wide 3 Try.prog l #[pfV x] V fun e V' => (e = .returned (.bool true) ∧ J (pre ++ [x]) V' ∧ KeepsWalks V V') ∨ (e = .returned (.bool false) ∧ Jx (pre ++ [x]) V'))
    (hBm : W.cell? ⟨Bm, 0, none⟩ = some (.map (some mb))) (hm : MapV Try.prog 36 W mb n F s) (h0 : J [] W) :
    CallsIn Fence.wide 4 Try.prog 65 #[.func (.yield l) #[] #[], .pointer (some ⟨Bm, 0, none⟩)] W fun e W' => (∃ v, e = .returned v) ∧ ((∃ ss : List Pf, ss.Perm Ps ∧ J ss W') ∨ (∃ pre, True ∧ Jx pre W')) := by
  obtain ⟨W1, lf, hr, hra, hl, hb1, hs1⟩ := hm.range pfKeyed Try.underlying79
  have hcs : CS Ps lf [] := ⟨fun p hp => by rw [hl _ (pfL_lit (hK.ok p hp)), hK.at_ p hp]; simp, fun _ h => (by cases h), List.nodup_nil⟩
  have hj1 := hJa _ _ _ none h0 (show W.grownBy W1 none from ⟨hb1.os, hb1.tape, hb1.output, hb1.size, fun k hk _ => hb1.block k hk⟩) (fun r e => by cases e)
  have HRA := Lib.hid hra
  have HCS := Lib.hid hcs
  have HK := Lib.hid hK
  have HJA := Lib.hid hJa
  have HY := Lib.hid hY
  have HJ1 := Lib.hid hj1
  clear hra hcs hl hb1 hs1 hj1 hJa hY hK h0 hm
  refine callsIn_of_wp Try.func65 rfl trivial ?_ rfl
  simp only [Try.ntmps65, List.size_toArray, List.length_cons, List.length_nil, Nat.reduceAdd, Nat.reduceSub, Array.replicate_succ, Array.replicate_zero, List.push_toArray, List.append_toArray, List.nil_append, List.cons_append]
  gi_wp2
  clear hr hBm
  gi_loopw [3] (fun _ wr => ∃ (left : Lit → Bool) (cnt : Nat) (ss : List Pf), RangeV Try.prog 36 wr mb W.heap.size n F left cnt ∧ CS Ps left ss ∧ J ss wr) (fun _ wr => wr.rangeLeft mb W.heap.size)
  case atStart => exact ⟨_, _, [], HRA.out, HCS.out, HJ1.out⟩
  case round =>
    obtain ⟨left, cnt, ss, hR, hC, hJs⟩ := hrel
    rcases hR.next pfKeyed 0 with ⟨_, hdone, hrun⟩ | ⟨key, v, kl, w2, cnt2, a1, a2, a3, a4, hrun, hR2, hlt, hg2, hs2, hent⟩
    · have HD := Lib.hid (hC.done HK.out.nd hdone)
      have HJS := Lib.hid hJs
      clear hR hC hJs hdone
      gi_wp2
      go_end0
      exact ⟨⟨_, rfl⟩, .inl ⟨ss, HD.out, HJS.out⟩⟩
    · obtain ⟨p, hp, rfl⟩ := HK.out.keys kl v a4 a2
      obtain rfl := pfKeyed.inj a1 (pfL_key (HK.out.ok p hp))
      have hC2 := hC.step HK.out.ok hp a3
      have hlen : (ss ++ [p]).length ≤ Ps.length := nodup_le hC2.nd hC2.s
      rw [List.length_append] at hlen
      have hlen2 : ss.length < Ps.length := by simp at hlen; omega
      have hJ2 := HJA.out _ _ _ _ hJs hg2 (fun r e => by cases e; exact ⟨Nat.le_refl _, hR.walk⟩)
      have hJ3 := HJA.out _ _ _ none hJ2 (show w2.grownBy (w2.alloc (.cells (pfC p) 36)) none from by
        have := (Below.refl w2.heap.size w2).alloc (Nat.le_refl _) (.cells (pfC p) 36)
        exact ⟨this.os, this.tape, this.output, this.size, fun k hk _ => this.block k hk⟩) (fun r e => by cases e)
      have hyy := HY.out ss p _ hJ3 hlen2
      have HR2 := Lib.hid (hR2.walks (KeepsWalks.alloc w2 (.cells (pfC p) 36)))
      have HC2 := Lib.hid hC2
      have HLT := Lib.hid (show cnt2 < wr.rangeLeft mb W.heap.size by rw [hR.left_eq]; exact hlt)
      unfold pfV pfC at *
      clear hR hC hJs hJ2 hJ3 hR2 hC2 hlt hg2 hs2 a1 a2 a3 a4 hp hlen hlen2
      obtain ⟨fn, tmps, assign, body, hy, hRR⟩ := hyy
      gi_wp2
      refine hRR.mono ?_
      rintro e3 W3 (⟨rfl, hJ3, hk3⟩ | ⟨rfl, hJx⟩)
      · have HR3 := Lib.hid (HR2.out.walks hk3)
        have HJ3 := Lib.hid hJ3
        clear hJ3 hk3
        gi_wp2
        go_roundw
        case rel => exact ⟨_, cnt2, ss ++ [p], HR3.out, HC2.out, HJ3.out⟩
        case measure => rw [HR3.out.left_eq]; exact HLT.out
      · gi_wp2
        refine bodyPost_ret (results_none rfl _ _ _) rfl ?_
        exact ⟨⟨_, rfl⟩, .inr ⟨_, trivial, hJx⟩⟩
theorem keys_fit (Bm mb n s : Nat) (F : Lit → Option Value) (Ps : List Pf) (hK : KeysAre F Ps) (w : World) (hBm : w.cell? ⟨Bm, 0, none⟩ = some (.map (some mb))) (hm : MapV Try.prog 36 w mb n F s) :
    SeqFit Fence.wide 4 Try.prog 65 #[.pointer (some ⟨Bm, 0, none⟩)] (fun x => #[pfV x]) KeepsWalks (fun xs => xs.Perm Ps) (fun _ => True) (fun pre _ _ => pre.length < Ps.length) w :=
  fun l J Jx W hb hJ _ h0 hY => keys1_in l Bm mb n s F Ps hK J Jx W hJ hY ((hb.cell (p := ⟨Bm, 0, none⟩) (block_lt_of_cell hBm)).trans hBm) (hm.below hb) h0
/-- What AppendSeq has gathered. -/
structure ApS (w W : World) (Bc : Nat) (pre : List Pf) : Prop where
  below : Below w.heap.size w W
  ge : w.heap.size ≤ Bc
  ex : ∃ v, Blk W Bc 22 #[v] ∧ W.ownsRow (Bc + 1) 36 2 v pre.length (flatP pre)
theorem ApS.own {w W W' : World} {Bc : Nat} {L : List Pf} {row : Option Nat} (h : ApS w W Bc L) (hg : W.grownBy W' row) (hr : ∀ r, row = some r → w.heap.size ≤ r ∧ ∃ o : Obj, W.heap[r]? = some o ∧ o.isCells = false) : ApS w W' Bc L := by
  obtain ⟨v, h1, h2⟩ := h.ex
  exact ⟨h.below.grown hg h.below.size fun r e => (hr r e).1, h.ge, v, blk_own h1 hg fun r e => (hr r e).2, own_own h2 hg fun r e => (hr r e).2⟩
theorem info_pf : (Try.prog.info? 36).map (fun i => (i.zero, i.size, i.bytes)) = some (some (.agg #[.int .u32 0, .int .i64 0]), 2, 16) := by kernel_rfl
section
open Go.BigFrame
variable {P : Program} {lp n0 : Nat} {ops : Array Oper} {rest : List Oper} {o : Oper} {a : Act} {Q : Exit → Act → World → Prop}
theorem wpListIn_append_anyP (w : World) (hgd : o.guard = none) (s x : Operand) (t : TypeId) (ho : o.op = .call { callee := .builtin .append, args := #[s, x], argTypes := #[t, t] }) (hty : o.type = t)
    (base : Nat) (e : TypeId) (i : TypeInfo) (z : Value) (size bytes : Nat) (ht : P.underlying t = some (.slice e)) (hi : P.info? e = some i) (hz : i.zero = some z)
    (hsize : i.size = size) (hby : i.bytes = bytes) (hzs : z.cells.size = size) (hsz : 0 < size)
    (v : Value) (n : Nat) (xs : List Value) (hs : a.eval s = v) (hown : w.ownsRow base e size v n xs)
    (I : Nat → Prop) (A : Option Addr) (m c : Nat) (news : List Value) (hx : a.eval x = .slice A m c) (hr : Reads w I size A m news) (h1 : ∀ u ∈ news, u.oneCell' = true)
    (h63 : n + m ≤ maxLen) (hbytes : (n + m) * bytes ≤ 140737488355328) (hbase : base ≤ w.heap.size)
    (h : ∀ v2 w2, w2.ownsRow base e size v2 (n + m) (xs ++ news) → w.grownBy w2 v.ownBlock → (v2.ownBlock = v.ownBlock ∨ v2.ownBlock = some w.heap.size) → wpListIn (Fence.wide.inRound lp) n0 P ops Q rest (a.put o.dst v2) w2) : wpListIn (Fence.wide.inRound lp) n0 P ops Q (o :: rest) a w := by
  subst hty
  unfold wpListIn
  rw [if_pos (by unfold Region.wanted; rw [hgd])]
  refine wide_wpIn (by unfold noDefer; rw [ho]) ?_
  exact wp_append_any w s x o.type ho base e i z size bytes ht hi hz hsize hby hzs hsz v n xs hs hown I A m c news hx hr h1 h63 hbytes hbase h
end
def GotP (w : World) (Ps : List Pf) (e : Ending) (w' : World) : Prop := ∃ v ss, e = .returned v ∧ ss.Perm Ps ∧ w'.ownsRow w.heap.size 36 2 v ss.length (flatP ss) ∧ Below w.heap.size w w'
set_option maxRecDepth 100000 in
set_option maxHeartbeats 8000000 in
theorem appseq_any (Bm mb n s : Nat) (F : Lit → Option Value) (Ps : List Pf) (hK : KeysAre F Ps) (hsm : Ps.length ≤ 2000) (w : World) (hBm : w.cell? ⟨Bm, 0, none⟩ = some (.map (some mb))) (hm : MapV Try.prog 36 w mb n F s) :
    Calls Try.prog 69 #[.slice none 0 0, .func (.func 65) #[] #[.pointer (some ⟨Bm, 0, none⟩)]] w (GotP w Ps) := by
  obtain ⟨W0, hW0⟩ : ∃ W0, W0 = w.alloc (.cells #[.slice none 0 0] 22) := ⟨_, rfl⟩
  have hB00 : Below w.heap.size w W0 := by rw [hW0]; exact (Below.refl _ _).alloc (Nat.le_refl _) _
  have hS0 : ApS w W0 w.heap.size [] := ⟨hB00, Nat.le_refl _, .slice none 0 0, by rw [hW0]; exact Blk.new _ _ _, World.ownsRow_nil _ _ _ _⟩
  have HFIT := Lib.hid (keys_fit Bm mb n s F Ps hK W0 ((hB00.cell (p := ⟨Bm, 0, none⟩) (block_lt_of_cell hBm)).trans hBm) (hm.below hB00))
  have HENT := Lib.hid (enters_of (P := Try.prog) Try.func65 (by kernel_rfl) rfl)
  have HZ0 := Lib.hid (show W0.heap.size = w.heap.size + 1 by rw [hW0]; simp)
  have HW0 := Lib.hid hW0
  have HS0 := Lib.hid hS0
  obtain ⟨Bc, hBc⟩ : ∃ Bc, Bc = w.heap.size := ⟨_, rfl⟩
  have HBC := Lib.hid hBc
  rw [← hBc] at HS0
  clear hW0 hS0 hB00 hBc hm hBm hK
  refine (callsIn_wide (n := 5)).1 ?_
  refine callsIn_of_wp_marks Try.func69 rfl trivial ?_ rfl
  simp only [Try.ntmps69, List.size_toArray, List.length_cons, List.length_nil, Nat.reduceAdd, Nat.reduceSub, Array.replicate_succ, Array.replicate_zero, List.push_toArray, List.append_toArray, List.nil_append, List.cons_append]
  refine wpIn_wide.2 ?_
  go_wp2_with fail
  rw [← HW0.out, ← HBC.out]
  refine (wpIn_wide (n := 5)).1 ?_
  refine wpIn_range_fit rfl (by omega) (gf := 65) (lb := #[.pointer (some ⟨Bm, 0, none⟩)]) rfl trivial HENT.out HFIT.out (fun h k => h.trans k) (fun W l o o' hl h h1 h2 => KeepsWalks.putObj o' h h2) (Below.refl _ _) (fun _ => rfl)
    (fun pre W => ApS w W Bc pre) (fun _ _ _ => False) (fun pre W W' row hs hg hr => hs.own hg fun r e => ⟨Nat.le_trans (by have := HZ0.out; omega) (hr r e).1, (hr r e).2⟩) (fun cd pre W W' row hs hg hr => hs) HS0.out
    (fun t pre x a' W => pre.length < Ps.length ∧ ∃ D, Blk W D 36 (pfC x) ∧ Bc < D ∧ a' = { tmps := (t.setIfInBounds 7 (pfV x)).setIfInBounds 5 (.pointer (some ⟨D, 0, none⟩)), defers := [] })
    (fun pre x a' _ W W' row hs hg hr => by obtain ⟨h1, D, h2, h3, h4⟩ := hs; exact ⟨h1, D, blk_own h2 hg fun r e => (hr r e).2, h3, h4⟩) ?assign ?body ?done ?stop
  case assign =>
    intro l pre x W K hi hfit hsz hK
    simp only [pfV, pfC]
    gi_wp2
    refine hK _ _ ?_ (KeepsWalks.alloc W _) ⟨hi.below.alloc hi.below.size _, hi.ge, ?_⟩ ⟨hfit, W.heap.size, Blk.new W _ _, ?_, rfl⟩
    · exact ⟨by simp, fun k o _ hk _ => (Below.heap_alloc W _ k (Array.getElem?_eq_some_iff.1 hk).1).trans hk⟩
    · obtain ⟨v, h1, h2⟩ := hi.ex
      exact ⟨v, h1.alloc _, h2.alloc _⟩
    · have := HZ0.out
      have := HBC.out
      omega
  case body =>
    rintro l pre x a' W hl ⟨rr, hr⟩ hs ⟨hlen, D, hD, hBD, rfl⟩
    obtain ⟨v, h1, h2⟩ := hs.ex
    obtain ⟨A, c, rfl, hnc⟩ := own_form h2
    obtain ⟨k, hk⟩ : ∃ k, k = pre.length := ⟨_, rfl⟩
    obtain ⟨Y, hY⟩ : ∃ Y, Y = flatP pre := ⟨_, rfl⟩
    rw [← hk, ← hY] at h2
    rw [← hk] at h1
    obtain ⟨i0, hi, hz0, hz1, hz2⟩ := info_parts info_pf
    have b0 : W.cell? ⟨Bc, 0, none⟩ = some (.slice A k c) := h1.cell 0
    have d0 : W.cell? ⟨D, 0, none⟩ = some (.int .u32 (x.1 : Int)) := hD.cell 0
    have d1 : W.cell? ⟨D, 1, none⟩ = some (.int .i64 x.2) := hD.cell 1
    obtain ⟨W1, hW1⟩ : ∃ Z, Z = W.alloc (.cells #[.int .u32 (x.1 : Int), .int .i64 x.2] 36) := ⟨_, rfl⟩
    have hv1 : W1.ownsRow (Bc + 1) 36 2 (.slice A k c) k Y := by rw [hW1]; exact h2.alloc _
    have hr1 : Reads W1 (fun k => k = W.heap.size) 2 (some ⟨W.heap.size, 0, none⟩) 1 (pfE x) := by
      rw [hW1]
      exact reads_lit W 36 #[.int .u32 (x.1 : Int), .int .i64 x.2] 1 2 (0, 0) rfl
    have hk1 : Blk W1 Bc 22 #[.slice A k c] := by rw [hW1]; exact h1.alloc _
    have hone : ∀ u ∈ pfE x, u.oneCell' = true := fun u hu => by
      unfold pfE at hu
      rcases List.mem_cons.1 hu with rfl | hu
      · rfl
      · rw [List.mem_singleton.1 hu]; rfl
    have hmx : k + 1 ≤ maxLen := by unfold maxLen; omega
    have hmb : (k + 1) * 16 ≤ 140737488355328 := by omega
    have hbl := h1.lt
    have hbs : Bc + 1 ≤ W1.heap.size := by rw [hW1]; simp; omega
    have hu1 : Upd (fun j => (Value.slice A k c).ownBlock = some j ∨ j = Bc) W W1 := by rw [hW1]; exact (Upd.refl _ _).alloc _
    have HV1 := Lib.hid hv1
    have HR1 := Lib.hid hr1
    have HK1 := Lib.hid hk1
    have HU1 := Lib.hid hu1
    have HW1 := Lib.hid hW1
    have HV := Lib.hid h2
    have HS := Lib.hid hs
    have HKL := Lib.hid h1
    have HKN := Lib.hid hk
    have HYN := Lib.hid hY
    clear hv1 hr1 hk1 hu1 hW1 h2 hs h1 hnc hk hY hD hBD hlen
    unfold pfV pfC
    gi_wp2_with (gi_at_builtin; refine wpListIn_append_anyP _ rfl (.tmp 8) (.tmp 10) 22 rfl rfl (Bc + 1) 36 i0 _ 2 16 Try.underlying22 hi hz0 hz1 hz2 rfl (Nat.succ_pos 1) (.slice A k c) k Y rfl (by rw [← HW1.out]; exact HV1.out) (fun k => k = W.heap.size) (some ⟨W.heap.size, 0, none⟩) 1 1 (pfE x) rfl (by rw [← HW1.out]; exact HR1.out) hone hmx hmb (by rw [← HW1.out]; exact hbs) ?_; rw [← HW1.out]; intro v2 w2 h2 hg2 _; obtain ⟨A2, d2, rfl, hd2⟩ := own_form h2; have hkl2 : Blk w2 Bc 22 #[.slice A k c] := (hg2.block Bc HK1.out.lt fun e => by have := (own_lt HV1.out e.symm).1; omega).trans HK1.out; have c2 := hkl2.cell 0; have z2 := hkl2.frozen 0)
    have hu2 : Upd (fun j => (Value.slice A k c).ownBlock = some j ∨ j = Bc) W (w2.setCell ⟨Bc, 0, none⟩ (.slice A2 (k + 1) d2)) := (HU1.out.grown hg2 (fun k hk => .inl (.inl hk))).setCell (p := ⟨Bc, 0, none⟩) (.inl (.inr rfl)) _
    have hkw : KeepsWalks W (w2.setCell ⟨Bc, 0, none⟩ (.slice A2 (k + 1) d2)) := by
      refine ((show KeepsWalks W W1 by rw [HW1.out]; exact KeepsWalks.alloc W _).trans (KeepsWalks.of_grownBy hg2 fun j o hj ho => ?_)).trans (KeepsWalks.setCell _ _ _)
      obtain ⟨cs, hb⟩ := own_blk HV1.out hj
      have := ho.symm.trans hb
      injection this with this
      rw [this]
      rfl
    have hrow2 : (w2.setCell ⟨Bc, 0, none⟩ (.slice A2 (k + 1) d2)).ownsRow (Bc + 1) 36 2 (.slice A2 (k + 1) d2) (k + 1) (Y ++ pfE x) := own_keep h2 ((upd_set w2 Bc 0 _).same (I := fun g => (Value.slice A2 (k + 1) d2).ownBlock = some g) fun g (hg : g = Bc) hI => by have := (own_lt h2 hI).1; omega) fun g hg => hg
    refine ⟨keeps_of_cells _ hu2 fun j hj _ => ?_, hkw, HS.out.below.trans (hu2.below (fun j hj => ?_) HS.out.below.size), HS.out.ge, _, hkl2.set_ 0 _, ?_⟩
    · rcases hj with hj | rfl
      · obtain ⟨cs, hb⟩ := own_blk HV.out hj
        exact ⟨_, _, hb⟩
      · exact ⟨_, _, HKL.out⟩
    · have := HS.out.ge
      rcases hj with hj | hj
      · have := (own_lt HV.out hj).1
        omega
      · omega
    · rw [flatP_snoc, ← HYN.out, List.length_append, ← HKN.out]
      exact hrow2
  case stop =>
    rintro D cd pre W hD hsp hf hK
    exact hf.elim
  case done =>
    rintro D ys W hD hys hs hK
    obtain ⟨v, h1, h2⟩ := hs.ex
    obtain ⟨A, c, rfl, _⟩ := own_form h2
    have b0 := h1.cell 0
    have HK := Lib.hid hK
    have hno : ∀ r, some D = some r → ∃ o : Obj, W.heap[r]? = some o ∧ o.isCells = false := fun r e => by cases e; exact ⟨_, HK.out, rfl⟩
    have hfin := own_own h2 (grownBy_putObj' W D (.deferred none)) hno
    have hBz := hs.below.trans (belowK_b (w := w) (Nat.le_refl _) W D _ (.deferred none) (by have := HZ0.out; omega) hK rfl rfl)
    have HF2 := Lib.hid hfin
    have HBZ := Lib.hid hBz
    have HYS := Lib.hid hys
    have HGE := Lib.hid hs.ge
    clear hfin hBz hs h1 h2 hK hno hys
    go_wp2_with fail
    refine ⟨by simp, .inl ⟨_, _, rfl, run_takeDeferred HK.out, ?_⟩⟩
    refine ⟨.slice A ys.length c, ?_, .slice A ys.length c, ys, rfl, HYS.out, own_base HF2.out (by have := HGE.out; omega), HBZ.out⟩
    simp [results, Try.f69, go_sem]
def KeysV (Bm : Nat) : Value := .func (.func 65) #[] #[.pointer (some ⟨Bm, 0, none⟩)]
theorem collect_any (Bm mb n s : Nat) (F : Lit → Option Value) (Ps : List Pf) (hK : KeysAre F Ps) (hsm : Ps.length ≤ 2000) (w : World) (hBm : w.cell? ⟨Bm, 0, none⟩ = some (.map (some mb))) (hm : MapV Try.prog 36 w mb n F s) :
    Calls Try.prog 63 #[KeysV Bm] w (GotP w Ps) := by
  have HA := Lib.hid (appseq_any Bm mb n s F Ps hK hsm w hBm hm)
  clear hK hBm hm
  unfold KeysV
  go_enter Try.func63, Try.ntmps63
  go_wp2_with (go_at_call 69; refine HA.out.mono ?_; rintro e w1 ⟨v, ss, rfl, hp, ho, hb⟩; have HP := Lib.hid hp; have HO := Lib.hid ho; have HB := Lib.hid hb; clear hp ho hb)
  go_ret
  exact ⟨v, ss, rfl, HP.out, HO.out, HB.out⟩
theorem pfE_one (x : Pf) : ∀ v ∈ pfE x, v.oneCell' = true := fun u hu => by
  unfold pfE at hu
  rcases List.mem_cons.1 hu with rfl | hu
  · rfl
  · rw [List.mem_singleton.1 hu]; rfl
theorem cmp_lays (blk off size : Nat) (w : World) : CmpLays Try.prog 58 #[] pfE 2 ordF blk off size w := fun _ _ _ _ x y => order_any x y _
/-- slices.SortFunc at a row of prefixes that the call owns. -/
theorem sortP_any (B g n cap : Nat) (ps qs : List Pf) (w : World) (h : w.ownsRow B 36 2 (.slice (some ⟨g, 0, none⟩) n cap) n (flatP ps)) (hn : ps.length = n) (hp : ps.Perm qs) (hq : qs.Pairwise lessP) (hsm : n ≤ 100000) :
    Calls Try.prog 64 #[.slice (some ⟨g, 0, none⟩) n cap, .func (.func 58) #[] #[]] w fun e w' =>
      e = .returned (.tuple #[]) ∧ w'.ownsRow B 36 2 (.slice (some ⟨g, 0, none⟩) n cap) n (flatP qs) ∧ Upd (only g) w w' := by
  have eg : ∀ args w, (callFunc 58 args).run Try.prog w = .ok (.enter 58 args) w := enters_of (P := Try.prog) Try.func58 (by kernel_rfl) rfl
  have hlt : g < w.heap.size := by
    have := own_lt h (g := g) rfl
    exact this.2
  have hs : ps.toArray.size = n := by simpa using hn
  have hcon := AnyQ.slices_SortFunc_total sortP 2 Try.isAgg36 Try.sizeOf36 pfE (fun _ => rfl) pfE_one ordF ord_swo 58 #[] g 0 cap ps.toArray w eg (cmp_lays g 0 _ w) (own_holds h hn) hlt (by rw [hs]; omega) ord_tot
  rw [hs] at hcon
  refine hcon.mono fun e w' ⟨he, m, os, hw⟩ => ⟨he, ?_⟩
  have hw2 : w' = sortWorldK pfE 2 w g 0 m qs.toArray os := by
    rw [hw]
    congr 2
    exact sort_uniq hp hq
  exact own_sorted h (by rw [← hp.length_eq]; exact hn) hw2
theorem sortedP_any (Bm mb n s : Nat) (F : Lit → Option Value) (Ps : List Pf) (hK : KeysAre F Ps) (hq : Ps.Pairwise lessP) (hsm : Ps.length ≤ 2000) (w : World) (hBm : w.cell? ⟨Bm, 0, none⟩ = some (.map (some mb))) (hm : MapV Try.prog 36 w mb n F s) :
    Calls Try.prog 56 #[KeysV Bm, .func (.func 58) #[] #[]] w fun e w' => ∃ v, e = .returned v ∧ w'.ownsRow w.heap.size 36 2 v Ps.length (flatP Ps) ∧ Below w.heap.size w w' := by
  have HA := Lib.hid (collect_any Bm mb n s F Ps hK hsm w hBm hm)
  have HQ := Lib.hid hq
  clear hK hBm hm hq
  go_enter Try.func56, Try.ntmps56
  go_upto_region 2 with (go_at_call 63; refine HA.out.mono ?_; rintro e w1 ⟨v, ss, rfl, hp, ho, hb⟩; have HP := Lib.hid hp; have HO := Lib.hid ho; have HB := Lib.hid hb; clear hp ho hb)
  have hlen : ss.length = Ps.length := HP.out.length_eq
  by_cases h0 : ss.length = 0
  · obtain rfl : ss = [] := List.eq_nil_of_length_eq_zero h0
    obtain ⟨A, c, rfl, _⟩ := own_form HO.out
    have hP0 : Ps = [] := List.eq_nil_of_length_eq_zero (by simpa using hlen.symm)
    have HP0 := Lib.hid hP0
    have HS := Lib.hid (AnyF.slices_SortFunc_none sortP A c (.func (.func 58) #[] #[]) w1)
    clear hlen h0 hP0
    go_wp2_with (go_at_call 64; refine (show Calls Try.prog 64 _ _ _ from HS.out).mono ?_; rintro e w2 ⟨rfl, rfl⟩)
    go_ret
    refine ⟨_, rfl, ?_, HB.out⟩
    rw [HP0.out]
    exact HO.out
  · obtain ⟨g, c, rfl, hnc⟩ := own_form1 HO.out (by omega)
    have HS := Lib.hid (sortP_any w.heap.size g ss.length c ss Ps w1 HO.out rfl HP.out HQ.out (by omega))
    have HL := Lib.hid hlen
    have HGE := Lib.hid (own_lt HO.out (g := g) rfl).1
    clear hlen hnc h0
    go_wp2_with (go_at_call 64; refine HS.out.mono ?_; rintro e w2 ⟨rfl, ho2, hu2⟩; have HO2 := Lib.hid ho2; have HU2 := Lib.hid hu2; clear ho2 hu2)
    go_ret
    refine ⟨_, rfl, ?_, HB.out.trans (HU2.out.below (fun k (hk : k = g) => by rw [hk]; exact HGE.out) HB.out.size)⟩
    rw [← HL.out]
    exact HO2.out
theorem mkeys_any (mb : Nat) (w : World) : Calls Try.prog 57 #[.map (some mb)] w fun e w' => e = .returned (KeysV w.heap.size) ∧ w' = w.alloc (.cells #[.map (some mb)] 79) := by
  go_enter Try.func57, Try.ntmps57
  go_wp2_with fail
  go_ret
  exact ⟨rfl, rfl⟩
/-- All prefixes of a core, in order. -/
theorem keys_any (cb mb n s : Nat) (F : Lit → Option Value) (Ps : List Pf) (hK : KeysAre F Ps) (hq : Ps.Pairwise lessP) (hsm : Ps.length ≤ 2000) (w : World) (hc : w.cell? ⟨cb, 17, none⟩ = some (.map (some mb))) (hm : MapV Try.prog 36 w mb n F s) :
    Calls Try.prog 31 #[.pointer (some ⟨cb, 0, none⟩)] w fun e w' => ∃ v, e = .returned v ∧ w'.ownsRow w.heap.size 36 2 v Ps.length (flatP Ps) ∧ Below w.heap.size w w' := by
  obtain ⟨W, hW⟩ : ∃ W, W = w.alloc (.cells #[.map (some mb)] 79) := ⟨_, rfl⟩
  have hb : Below w.heap.size w W := by rw [hW]; exact (Below.refl _ _).alloc (Nat.le_refl _) _
  have hcW : W.cell? ⟨w.heap.size, 0, none⟩ = some (.map (some mb)) := by rw [hW]; exact (Blk.new w 79 #[.map (some mb)]).cell 0
  have HS := Lib.hid (sortedP_any w.heap.size mb n s F Ps hK hq hsm W hcW (hm.below hb))
  have HW := Lib.hid hW
  have HB := Lib.hid hb
  clear hK hq hm hb hcW hW
  go_enter Try.func31, Try.ntmps31
  go_wp2_with (first
    | (go_at_call 57; refine (mkeys_any mb w).mono ?_; rintro e w1 ⟨rfl, rfl⟩; rw [← HW.out])
    | (go_at_call 56; refine HS.out.mono ?_; rintro e w2 ⟨v, rfl, ho, hb2⟩; have HO := Lib.hid ho; have HB2 := Lib.hid (HB.out.trans (hb2.mono HB.out.size)); clear ho hb2))
  go_ret
  exact ⟨v, rfl, own_base HO.out HB.out.size, HB2.out⟩
end Go.Proofs.Ytahdjfegihnolaa
