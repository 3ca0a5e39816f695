/- Layer 12: the order of prefixes; rows of prefixes; prefixes as keys. -/
import Derived.Test.YtahdjfegihnolaaLyS
import Derived.Test.YtahdjfegihnolaaLfN
import Derived.Test.YtahdjfegihnolaaMpV
import Derived.Test.YtahdjfegihnolaaRgA
import Derived.DeepKeys4
import Derived.StillTailTactics
namespace Go.Proofs.Ytahdjfegihnolaa
open Go.RowKit Go.Sort Go.Lib
def cmpI (a b : Int) : Int := if a < b then -1 else if b < a then 1 else 0
def ordF (a b : Pf) : Int := if cmpI (a.1 : Int) (b.1 : Int) ≠ 0 then cmpI (a.1 : Int) (b.1 : Int) else cmpI a.2 b.2
theorem ord_lt (a b : Pf) : ltOf ordF a b = decide (lessP a b) := by
  unfold ltOf
  rw [Bool.eq_iff_iff, decide_eq_true_eq, decide_eq_true_eq]
  unfold ordF lessP cmpI
  by_cases h1 : (a.1 : Int) < (b.1 : Int)
  · simp [h1]; omega
  · by_cases h2 : (b.1 : Int) < (a.1 : Int)
    · simp [h1, h2]; omega
    · by_cases h3 : a.2 < b.2
      · simp [h1, h2, h3]; omega
      · by_cases h4 : b.2 < a.2
        · simp [h1, h2, h3, h4]; omega
        · simp [h1, h2, h3, h4]; omega
theorem ord_swo : SWO (ltOf ordF) where
  irrefl x := by rw [ord_lt]; exact decide_eq_false (lessP_irrefl x)
  trans x y z h1 h2 := by rw [ord_lt] at *; exact decide_eq_true (lessP_trans (of_decide_eq_true h1) (of_decide_eq_true h2))
  ntrans x y z h1 h2 := by
    rw [ord_lt] at *
    refine decide_eq_false fun h => ?_
    have a1 := of_decide_eq_false h1
    have a2 := of_decide_eq_false h2
    unfold lessP at *
    omega
theorem ord_tot (x y : Pf) (h1 : ltOf ordF x y = false) (h2 : ltOf ordF y x = false) : x = y := by
  rw [ord_lt] at *
  rcases lessP_tri x y with h | h | h
  · exact absurd h (of_decide_eq_false h1)
  · exact h
  · exact absurd h (of_decide_eq_false h2)
theorem nan_addr (a : Int) (w : World) : Calls Try.prog 72 #[.int .u32 a] w fun e w' => e = .returned (.bool false) ∧ w = w' := by
  go_enter Try.func72, Try.ntmps72
  go_wp2_with fail
  go_ret
  exact ⟨rfl, rfl⟩
theorem nan_int (a : Int) (w : World) : Calls Try.prog 73 #[.int .i64 a] w fun e w' => e = .returned (.bool false) ∧ w = w' := by
  go_enter Try.func73, Try.ntmps73
  go_wp2_with fail
  go_ret
  exact ⟨rfl, rfl⟩
theorem cmp_addr (a b : Int) (w : World) : Calls Try.prog 67 #[.int .u32 a, .int .u32 b] w fun e w' => e = .returned (.int .i64 (cmpI a b)) ∧ w = w' := by
  unfold cmpI
  by_cases h1 : a < b
  · have d1 : decide (a < b) = true := decide_eq_true h1
    rw [if_pos h1]
    clear h1
    go_enter Try.func67, Try.ntmps67
    go_wp2_with (go_at_call 72; refine (nan_addr _ _).mono ?_; rintro e w' ⟨rfl, rfl⟩)
    go_ret
    exact ⟨rfl, rfl⟩
  · have d1 : decide (a < b) = false := decide_eq_false h1
    rw [if_neg h1]
    by_cases h2 : b < a
    · have d2 : decide (b < a) = true := decide_eq_true h2
      rw [if_pos h2]
      clear h1 h2
      go_enter Try.func67, Try.ntmps67
      go_wp2_with (go_at_call 72; refine (nan_addr _ _).mono ?_; rintro e w' ⟨rfl, rfl⟩)
      go_ret
      exact ⟨rfl, rfl⟩
    · have d2 : decide (b < a) = false := decide_eq_false h2
      rw [if_neg h2]
      clear h1 h2
      go_enter Try.func67, Try.ntmps67
      go_wp2_with (go_at_call 72; refine (nan_addr _ _).mono ?_; rintro e w' ⟨rfl, rfl⟩)
      go_ret
      exact ⟨rfl, rfl⟩
theorem cmp_int (a b : Int) (w : World) : Calls Try.prog 68 #[.int .i64 a, .int .i64 b] w fun e w' => e = .returned (.int .i64 (cmpI a b)) ∧ w = w' := by
  unfold cmpI
  by_cases h1 : a < b
  · have d1 : decide (a < b) = true := decide_eq_true h1
    rw [if_pos h1]
    clear h1
    go_enter Try.func68, Try.ntmps68
    go_wp2_with (go_at_call 73; refine (nan_int _ _).mono ?_; rintro e w' ⟨rfl, rfl⟩)
    go_ret
    exact ⟨rfl, rfl⟩
  · have d1 : decide (a < b) = false := decide_eq_false h1
    rw [if_neg h1]
    by_cases h2 : b < a
    · have d2 : decide (b < a) = true := decide_eq_true h2
      rw [if_pos h2]
      clear h1 h2
      go_enter Try.func68, Try.ntmps68
      go_wp2_with (go_at_call 73; refine (nan_int _ _).mono ?_; rintro e w' ⟨rfl, rfl⟩)
      go_ret
      exact ⟨rfl, rfl⟩
    · have d2 : decide (b < a) = false := decide_eq_false h2
      rw [if_neg h2]
      clear h1 h2
      go_enter Try.func68, Try.ntmps68
      go_wp2_with (go_at_call 73; refine (nan_int _ _).mono ?_; rintro e w' ⟨rfl, rfl⟩)
      go_ret
      exact ⟨rfl, rfl⟩
/-- cmp.Or of two. -/
theorem or_any (g : Nat) (a b : Int) (w : World) (c0 : w.cell? ⟨g, 0, none⟩ = some (.int .i64 a)) (c1 : w.cell? ⟨g, 1, none⟩ = some (.int .i64 b)) :
    Calls Try.prog 66 #[.slice (some ⟨g, 0, none⟩) 2 2] w fun e w' => e = .returned (.int .i64 (if a ≠ 0 then a else b)) ∧ w = w' := by
  by_cases ha : a = 0
  · subst ha
    rw [if_neg (by simp)]
    by_cases hb : b = 0
    · subst hb
      go_enter Try.func66, Try.ntmps66
      go_wp2_with fail
      refine wp_loop_rounds 3 ?_
      rw [rounds_succ]; go_wp2_with fail
      rw [rounds_succ]; go_wp2_with fail
      rw [rounds_succ]; go_wp2_with fail
      go_ret
      exact ⟨rfl, rfl⟩
    · have b1 : ((b : Int) != 0) = true := by rw [bne_iff_ne]; exact hb
      clear hb
      go_enter Try.func66, Try.ntmps66
      go_wp2_with fail
      refine wp_loop_rounds 3 ?_
      rw [rounds_succ]; go_wp2_with fail
      rw [rounds_succ]; go_wp2_with fail
      go_ret
      exact ⟨rfl, rfl⟩
  · rw [if_pos ha]
    have b1 : ((a : Int) != 0) = true := by rw [bne_iff_ne]; exact ha
    clear ha
    go_enter Try.func66, Try.ntmps66
    go_wp2_with fail
    refine wp_loop_rounds 3 ?_
    rw [rounds_succ]; go_wp2_with fail
    go_ret
    exact ⟨rfl, rfl⟩
theorem three_grow (w : World) (a b c : Obj) : ((w.alloc a).alloc b).drew.alloc c = grow (w.drewN 1) #[a, b, c] := by
  have h : ∀ (h : Array Obj), ((h.push a).push b).push c = h ++ #[a, b, c] := fun h => by apply Array.ext'; simp
  unfold grow World.alloc World.drew World.drewN
  show ({ heap := ((w.heap.push a).push b).push c, .. } : World) = _
  rw [h]
def pfE (p : Pf) : List Value := [.int .u32 (p.1 : Int), .int .i64 p.2]
def pfC (p : Pf) : Array Value := #[.int .u32 (p.1 : Int), .int .i64 p.2]
def pfV (p : Pf) : Value := .agg (pfC p)
set_option maxRecDepth 20000 in
theorem order_any (a b : Pf) (w : World) : Calls Try.prog 58 #[pfV a, pfV b] w fun e w' => e = .returned (.int .i64 (ordF a b)) ∧ ∃ q os', w' = grow (w.drewN q) os' := by
  have h1 := fun wx => cmp_addr (a.1 : Int) (b.1 : Int) wx
  have h2 := fun wx => cmp_int a.2 b.2 wx
  unfold ordF pfV pfC
  obtain ⟨x, hx⟩ : ∃ x, x = cmpI (a.1 : Int) (b.1 : Int) := ⟨_, rfl⟩
  obtain ⟨y, hy⟩ : ∃ y, y = cmpI a.2 b.2 := ⟨_, rfl⟩
  rw [← hx, ← hy]
  rw [← hx] at h1
  rw [← hy] at h2
  have H1 := Lib.hid h1
  have H2 := Lib.hid h2
  obtain ⟨z, hz⟩ : ∃ z, z = if x ≠ 0 then x else y := ⟨_, rfl⟩
  rw [← hz]
  have HZ := Lib.hid hz
  clear hx hy h1 h2 hz
  obtain ⟨W, hW⟩ : ∃ W, W = (w.alloc (.cells #[.int .u32 (a.1 : Int), .int .i64 a.2] 36)).alloc (.cells #[.int .u32 (b.1 : Int), .int .i64 b.2] 36) := ⟨_, rfl⟩
  have HW := Lib.hid hW
  have k0 : Blk W w.heap.size 36 #[.int .u32 (a.1 : Int), .int .i64 a.2] := by rw [hW]; exact (Blk.new _ _ _).alloc _
  have k1 : Blk W (w.heap.size + 1) 36 #[.int .u32 (b.1 : Int), .int .i64 b.2] := by
    rw [hW]
    have := Blk.new (w.alloc (.cells #[.int .u32 (a.1 : Int), .int .i64 a.2] 36)) 36 #[.int .u32 (b.1 : Int), .int .i64 b.2]
    simpa using this
  have c0 := k0.cell 0
  have c1 := k0.cell 1
  have c2 := k1.cell 0
  have c3 := k1.cell 1
  clear k0 k1 hW
  go_enter Try.func58, Try.ntmps58
  go_upto_region 1 with (fail)
  rw [← HW.out]
  go_still_tail 10, (by kernel_rfl)
  still_call ((H1.out W.drew).mono fun _ _ ⟨h, hw⟩ => ⟨h, hw.symm⟩)
  repeat still_step
  still_call ((H2.out W.drew).mono fun _ _ ⟨h, hw⟩ => ⟨h, hw.symm⟩)
  repeat still_step
  refine wpStill_nil ?_
  have hk := Blk.new W.drew 3 #[.int .i64 x, .int .i64 y]
  have ho := or_any W.drew.heap.size x y _ (hk.cell 0) (hk.cell 1)
  rw [← HZ.out] at ho
  have HO := Lib.hid ho
  clear c0 c1 c2 c3 hk ho
  go_wp2_with (go_at_call 66; refine HO.out.mono ?_; rintro e w' ⟨rfl, rfl⟩)
  go_ret
  refine ⟨rfl, 1, #[.cells #[.int .u32 (a.1 : Int), .int .i64 a.2] 36, .cells #[.int .u32 (b.1 : Int), .int .i64 b.2] 36, .cells #[.int .i64 x, .int .i64 y] 3], ?_⟩
  rw [HW.out]
  exact three_grow _ _ _ _
end Go.Proofs.Ytahdjfegihnolaa
namespace Go.Proofs.Ytahdjfegihnolaa
open Go.RowKit Go.Sort Go.Lib
def flatP (ps : List Pf) : List Value := ps.flatMap pfE
theorem flatP_len : ∀ ps : List Pf, (flatP ps).length = ps.length * 2
  | [] => rfl
  | p :: ps => by unfold flatP; rw [List.flatMap_cons, List.length_append]; have := flatP_len ps; unfold flatP at this; rw [this]; simp [pfE]; omega
theorem flatP_snoc (ps : List Pf) (p : Pf) : flatP (ps ++ [p]) = flatP ps ++ [.int .u32 (p.1 : Int), .int .i64 p.2] := by unfold flatP; rw [List.flatMap_append]; rfl
theorem flatP_get : ∀ (ps : List Pf) (k : Nat) (p : Pf), ps[k]? = some p → (flatP ps)[k * 2]? = some (.int .u32 (p.1 : Int)) ∧ (flatP ps)[k * 2 + 1]? = some (.int .i64 p.2)
  | [], _, _, h => by simp at h
  | q :: ps, 0, p, h => by
    obtain rfl : q = p := by simpa using h
    exact ⟨rfl, rfl⟩
  | q :: ps, k + 1, p, h => by
    have ih := flatP_get ps k p (by simpa using h)
    have e : flatP (q :: ps) = [.int .u32 (q.1 : Int), .int .i64 q.2] ++ flatP ps := rfl
    rw [e]
    refine ⟨?_, ?_⟩
    · rw [List.getElem?_append_right (by simp; omega)]
      simpa [show (k + 1) * 2 - 2 = k * 2 by omega] using ih.1
    · rw [List.getElem?_append_right (by simp; omega)]
      simpa [show (k + 1) * 2 + 1 - 2 = k * 2 + 1 by omega] using ih.2
theorem flatK_get (ps : List Pf) (t : Nat) (h : t < ps.length * 2) : (flatP ps)[t]? = some ((flatK pfE 2 ps.toArray)[t]!) := by
  rw [get_flatK _ _ _ _ (by simpa using h)]
  have hk : t / 2 < ps.length := by omega
  obtain ⟨p, hp⟩ : ∃ p, ps[t / 2]? = some p := ⟨_, List.getElem?_eq_getElem hk⟩
  obtain ⟨h0, h1⟩ := flatP_get ps _ p hp
  have e : ps.toArray[t / 2]! = p := by simp [hp]
  rw [e]
  rcases (by omega : t % 2 = 0 ∨ t % 2 = 1) with h2 | h2
  · rw [h2]
    have : t = t / 2 * 2 := by omega
    rw [this, h0]
    simp [pfE]
  · rw [h2]
    have : t = t / 2 * 2 + 1 := by omega
    rw [this, h1]
    simp [pfE]
theorem flatK_list (ps : List Pf) : (flatK pfE 2 ps.toArray).toList = flatP ps := by
  refine List.ext_getElem? fun t => ?_
  by_cases h : t < ps.length * 2
  · rw [flatK_get ps t h]
    simp [h]
  · rw [List.getElem?_eq_none (by simp; omega), List.getElem?_eq_none (by rw [flatP_len]; omega)]
section
variable {w w' : World} {B g n cap : Nat} {E : TypeId} {ps qs : List Pf}
theorem own_holds (h : w.ownsRow B E 2 (.slice (some ⟨g, 0, none⟩) n cap) n (flatP ps)) (hn : ps.length = n) : HoldsK pfE 2 w g 0 ps.toArray := by
  intro j hj
  have hj2 : j < ps.length * 2 := by simpa using hj
  rw [Nat.zero_add]
  have h1 := h.cellAt j (by omega)
  rw [flatK_get ps j hj2] at h1
  exact ⟨h1, h.frozenAt j⟩
theorem own_sorted (h : w.ownsRow B E 2 (.slice (some ⟨g, 0, none⟩) n cap) n (flatP ps)) (hq : qs.length = n) {m : Nat} {os : Array Obj} (hw : w' = sortWorldK pfE 2 w g 0 m qs.toArray os) :
    w'.ownsRow B E 2 (.slice (some ⟨g, 0, none⟩) n cap) n (flatP qs) ∧ Upd (only g) w w' := by
  rcases h.2 with ⟨h', _⟩ | ⟨g', cap', cur, h', hb, hg, hnc, hcm, hcs, htake⟩
  · simp at h'
  simp only [Value.slice.injEq, Option.some.injEq, Addr.mk.injEq, and_true, true_and] at h'
  obtain ⟨rfl, rfl⟩ := h'
  have hlt : g < w.heap.size := by
    rcases Nat.lt_or_ge g w.heap.size with hl | hl
    · exact hl
    · rw [Array.getElem?_eq_none hl] at hg; cases hg
  obtain ⟨F, hF⟩ : ∃ F, F = flatK pfE 2 qs.toArray := ⟨_, rfl⟩
  have hsz : F.size = n * 2 := by rw [hF]; simp [hq]
  have hlist : F.toList = flatP qs := by rw [hF, flatK_list]
  have hheap : w'.heap = (w.heap.modify g (onCells (putCells id 0 F))) ++ os := by rw [hw, hF]; rfl
  have hblk : w'.heap[g]? = some (.cells (putCells id 0 F cur) E (0, 0)) := by
    rw [hheap, Array.getElem?_append_left (by simpa using hlt), Array.getElem?_modify, if_pos rfl, hg]
    rfl
  refine ⟨⟨by rw [flatP_len, hq], .inr ⟨g, cap, putCells id 0 F cur, rfl, hb, hblk, hnc, hcm, by simp [putCells, hcs], ?_⟩⟩, ?_⟩
  · rw [← hlist]
    refine List.ext_getElem? fun t => ?_
    rw [List.getElem?_take]
    have hle : n * 2 ≤ cur.size := by rw [hcs]; exact Nat.mul_le_mul_right 2 hnc
    by_cases ht : t < n * 2
    · rw [if_pos ht]
      have h1 : t < cur.size := by omega
      have h2 : t < F.size := by omega
      simp [putCells, h1, h2]
    · rw [if_neg ht, List.getElem?_eq_none (by simp; omega)]
  · have e : w'.os = w.os ∧ w'.tape = w.tape ∧ w'.output = w.output := by rw [hw]; exact ⟨rfl, rfl, rfl⟩
    refine ⟨e.1, e.2.1, e.2.2, by rw [hheap]; simp, fun k hk hkg => ?_⟩
    rw [hheap, Array.getElem?_append_left (by simpa using hk), Array.getElem?_modify, if_neg (fun e => hkg e.symm)]
end
/-- A row that is sorted, of prefixes that differ. -/
theorem sort_uniq {ps qs : List Pf} (hp : ps.Perm qs) (hq : qs.Pairwise lessP) : ps.mergeSort (fun x y => !ltOf ordF y x) = qs := by
  have h1 : (ps.mergeSort (fun x y => !ltOf ordF y x)).Perm qs := (List.mergeSort_perm _ _).trans hp
  have h2 : (ps.mergeSort (fun x y => !ltOf ordF y x)).Pairwise (fun x y => (!ltOf ordF y x) = true) := by
    refine List.pairwise_mergeSort (fun a b c h1 h2 => ?_) (fun a b => ?_) ps
    · simp only [Bool.not_eq_true'] at *
      rw [ord_lt, decide_eq_false_iff_not] at *
      intro h
      rcases lessP_tri b c with h3 | h3 | h3
      · exact h1 (lessP_trans h3 h)
      · exact h1 (h3 ▸ h)
      · exact h2 h3
    · simp only [Bool.or_eq_true, Bool.not_eq_true']
      rw [ord_lt, ord_lt, decide_eq_false_iff_not, decide_eq_false_iff_not]
      by_cases h : lessP b a
      · exact .inr fun h3 => lessP_irrefl _ (lessP_trans h h3)
      · exact .inl h
  have h3 : qs.Pairwise (fun x y => (!ltOf ordF y x) = true) := hq.imp fun {a b} h => by
    rw [Bool.not_eq_true', ord_lt, decide_eq_false_iff_not]
    exact fun h3 => lessP_irrefl _ (lessP_trans h h3)
  refine h1.eq_of_pairwise (fun a b _ _ h4 h5 => ?_) h2 h3
  simp only [Bool.not_eq_true'] at h4 h5
  rw [ord_lt, decide_eq_false_iff_not] at h4 h5
  rcases lessP_tri a b with h6 | h6 | h6
  · exact absurd h6 h5
  · exact h6
  · exact absurd h6 h4

theorem pfRow : (36 : TypeId) < Try.prog.types.size := of_decide_eq_true (by kernel_rfl)
theorem pfWide : (match Try.prog.underlying 36 with | some (.array _ _) | some (.struct _) => true | _ => false) = true := by rw [Try.underlying36]
theorem pfLaid : laidOutB Try.prog = true := by kernel_rfl
set_option maxRecDepth 100000 in
theorem pfKeyed : Maps.Keyed Try.prog 36 := Maps.Keyed.of_law (deep_law_laid pfLaid (m := 2) (by omega) pfRow (by kernel_rfl) pfWide)
def pfOk (p : Pf) : Prop := p.1 < 2 ^ 32 ∧ -9223372036854775808 ≤ p.2 ∧ p.2 ≤ 9223372036854775807
theorem pf_key {p : Pf} (h : pfOk p) : ∃ kl, keyOf Try.prog 36 (pfV p) = some kl := by
  obtain ⟨m, hm⟩ : ∃ m, Try.prog.types.size = m + 1 := ⟨Try.prog.types.size - 1, of_decide_eq_true (by kernel_rfl)⟩
  have hC : Try.prog.cellsOf 36 = 2 := by kernel_rfl
  have hC0 : Try.prog.cellsOf 34 = 1 := by kernel_rfl
  have hC1 : Try.prog.cellsOf 3 = 1 := by kernel_rfl
  have hT : Try.prog.keyType 36 = true := by kernel_rfl
  have hF : (pfV p).formed Try.prog 36 = true := by simp [pfV, pfC, Value.formed, Try.underlying36, hC]
  have i1 : IntKind.u32.min = 0 := rfl
  have i2 : IntKind.u32.max = 4294967295 := rfl
  have i3 : IntKind.i64.min = -9223372036854775808 := rfl
  have i4 : IntKind.i64.max = 9223372036854775807 := rfl
  obtain ⟨k1, k2, k3⟩ := h
  have w0 : (Lit.int .u32 (p.1 : Int)).wf = true := by simp only [Lit.wf, Bool.and_eq_true, decide_eq_true_eq]; omega
  have w1 : (Lit.int .i64 p.2).wf = true := by simp only [Lit.wf, Bool.and_eq_true, decide_eq_true_eq]; omega
  have hL : Try.prog.keyLits (Try.prog.types.size + 1) 36 (pfV p).cells.toList = some [.int .u32 (p.1 : Int), .int .i64 p.2] := by
    rw [hm]
    simp [Program.keyLits, pfV, pfC, Try.underlying36, Try.underlying34, Try.underlying3, hC, hC0, hC1, w0, w1, Value.cells]
  refine ⟨.string (keyBytes [.int .u32 (p.1 : Int), .int .i64 p.2]), ?_⟩
  unfold keyOf
  rw [Try.underlying36]
  simp only [hT, hF, hL, Bool.and_self, if_true, Option.map_some]
noncomputable def pfL (p : Pf) : Lit := (keyOf Try.prog 36 (pfV p)).getD .nil
theorem pfL_key {p : Pf} (h : pfOk p) : keyOf Try.prog 36 (pfV p) = some (pfL p) := by
  obtain ⟨kl, hk⟩ := pf_key h
  unfold pfL
  rw [hk]; rfl
set_option maxRecDepth 100000 in
theorem pfL_lit {p : Pf} (h : pfOk p) : WideAt.IsKeyLit (pfL p) := pfKeyed.key (pfL_key h)
theorem pfV_inj {x y : Pf} (h : pfV x = pfV y) : x = y := by
  obtain ⟨a, b⟩ := x
  obtain ⟨c, d⟩ := y
  simp only [pfV, pfC, Value.agg.injEq] at h
  simp at h
  obtain ⟨h1, h2⟩ := h
  simp only [Prod.mk.injEq]
  omega
theorem pfL_inj {x y : Pf} (hx : pfOk x) (hy : pfOk y) (h : pfL x = pfL y) : x = y := by
  have h1 := pfL_key hx
  rw [h] at h1
  exact pfV_inj (pfKeyed.inj h1 (pfL_key hy))
theorem own_blk {w : World} {base : Nat} {e : TypeId} {size n : Nat} {v : Value} {xs : List Value} (h : w.ownsRow base e size v n xs) {g : Nat} (hg : v.ownBlock = some g) : ∃ cs, Blk w g e cs := by
  rcases h.2 with ⟨rfl, rfl⟩ | ⟨g', cap, cur, rfl, _, hh, _⟩
  · cases hg
  · injection hg with hg
    subst hg
    exact ⟨cur, hh⟩
end Go.Proofs.Ytahdjfegihnolaa
