/- Layer 12: rows of prefixes; a row that is sorted; prefixes as keys. -/
import Derived.Test.YtahdjfegihnolaaLyA
namespace Go.Proofs.Ytahdjfegihnolaa
open Go.RowKit Go.Sort Go.Lib
def flatP (ps : List Pf) : List Value := ps.flatMap pfE
theorem flatP_len : ∀ ps : List Pf, (flatP ps).length = ps.length * 2
  | [] => rfl
  | p :: ps => by unfold flatP; rw [List.flatMap_cons, List.length_append]; have := flatP_len ps; unfold flatP at this; rw [this]; simp [pfE]; omega
theorem flatP_snoc (ps : List Pf) (p : Pf) : flatP (ps ++ [p]) = flatP ps ++ [.int .u32 (p.1 : Int), .int .i64 p.2] := by unfold flatP; rw [List.flatMap_append]; rfl
theorem flatP_get : ∀ (ps : List Pf) (k : Nat) (p : Pf), ps[k]? = some p → (flatP ps)[k * 2]? = some (.int .u32 (p.1 : Int)) ∧ (flatP ps)[k * 2 + 1]? = some (.int .i64 p.2)
  | [], _, _, h => by simp at h
  | q :: ps, 0, p, h => by
    obtain rfl : q = p := by simpa using h
    exact ⟨rfl, rfl⟩
  | q :: ps, k + 1, p, h => by
    have ih := flatP_get ps k p (by simpa using h)
    have e : flatP (q :: ps) = [.int .u32 (q.1 : Int), .int .i64 q.2] ++ flatP ps := rfl
    rw [e]
    refine ⟨?_, ?_⟩
    · rw [List.getElem?_append_right (by simp; omega)]
      simpa [show (k + 1) * 2 - 2 = k * 2 by omega] using ih.1
    · rw [List.getElem?_append_right (by simp; omega)]
      simpa [show (k + 1) * 2 + 1 - 2 = k * 2 + 1 by omega] using ih.2
theorem flatK_get (ps : List Pf) (t : Nat) (h : t < ps.length * 2) : (flatP ps)[t]? = some ((flatK pfE 2 ps.toArray)[t]!) := by
  rw [get_flatK _ _ _ _ (by simpa using h)]
  have hk : t / 2 < ps.length := by omega
  obtain ⟨p, hp⟩ : ∃ p, ps[t / 2]? = some p := ⟨_, List.getElem?_eq_getElem hk⟩
  obtain ⟨h0, h1⟩ := flatP_get ps _ p hp
  have e : ps.toArray[t / 2]! = p := by simp [hp]
  rw [e]
  rcases (by omega : t % 2 = 0 ∨ t % 2 = 1) with h2 | h2
  · rw [h2]
    have : t = t / 2 * 2 := by omega
    rw [this, h0]
    simp [pfE]
  · rw [h2]
    have : t = t / 2 * 2 + 1 := by omega
    rw [this, h1]
    simp [pfE]
theorem flatK_list (ps : List Pf) : (flatK pfE 2 ps.toArray).toList = flatP ps := by
  refine List.ext_getElem? fun t => ?_
  by_cases h : t < ps.length * 2
  · rw [flatK_get ps t h]
    simp [h]
  · rw [List.getElem?_eq_none (by simp; omega), List.getElem?_eq_none (by rw [flatP_len]; omega)]
section
variable {w w' : World} {B g n cap : Nat} {E : TypeId} {ps qs : List Pf}
theorem own_holds (h : w.ownsRow B E 2 (.slice (some ⟨g, 0, none⟩) n cap) n (flatP ps)) (hn : ps.length = n) : HoldsK pfE 2 w g 0 ps.toArray := by
  intro j hj
  have hj2 : j < ps.length * 2 := by simpa using hj
  rw [Nat.zero_add]
  have h1 := h.cellAt j (by omega)
  rw [flatK_get ps j hj2] at h1
  exact ⟨h1, h.frozenAt j⟩
theorem own_sorted (h : w.ownsRow B E 2 (.slice (some ⟨g, 0, none⟩) n cap) n (flatP ps)) (hq : qs.length = n) {m : Nat} {os : Array Obj} (hw : w' = sortWorldK pfE 2 w g 0 m qs.toArray os) :
    w'.ownsRow B E 2 (.slice (some ⟨g, 0, none⟩) n cap) n (flatP qs) ∧ Upd (only g) w w' := by
  rcases h.2 with ⟨h', _⟩ | ⟨g', cap', cur, h', hb, hg, hnc, hcm, hcs, htake⟩
  · simp at h'
  simp only [Value.slice.injEq, Option.some.injEq, Addr.mk.injEq, and_true, true_and] at h'
  obtain ⟨rfl, rfl⟩ := h'
  have hlt : g < w.heap.size := by
    rcases Nat.lt_or_ge g w.heap.size with hl | hl
    · exact hl
    · rw [Array.getElem?_eq_none hl] at hg; cases hg
  obtain ⟨F, hF⟩ : ∃ F, F = flatK pfE 2 qs.toArray := ⟨_, rfl⟩
  have hsz : F.size = n * 2 := by rw [hF]; simp [hq]
  have hlist : F.toList = flatP qs := by rw [hF, flatK_list]
  have hheap : w'.heap = (w.heap.modify g (onCells (putCells id 0 F))) ++ os := by rw [hw, hF]; rfl
  have hblk : w'.heap[g]? = some (.cells (putCells id 0 F cur) E (0, 0)) := by
    rw [hheap, Array.getElem?_append_left (by simpa using hlt), Array.getElem?_modify, if_pos rfl, hg]
    rfl
  refine ⟨⟨by rw [flatP_len, hq], .inr ⟨g, cap, putCells id 0 F cur, rfl, hb, hblk, hnc, hcm, by simp [putCells, hcs], ?_⟩⟩, ?_⟩
  · rw [← hlist]
    refine List.ext_getElem? fun t => ?_
    rw [List.getElem?_take]
    have hle : n * 2 ≤ cur.size := by rw [hcs]; exact Nat.mul_le_mul_right 2 hnc
    by_cases ht : t < n * 2
    · rw [if_pos ht]
      have h1 : t < cur.size := by omega
      have h2 : t < F.size := by omega
      simp [putCells, h1, h2]
    · rw [if_neg ht, List.getElem?_eq_none (by simp; omega)]
  · have e : w'.os = w.os ∧ w'.tape = w.tape ∧ w'.output = w.output := by rw [hw]; exact ⟨rfl, rfl, rfl⟩
    refine ⟨e.1, e.2.1, e.2.2, by rw [hheap]; simp, fun k hk hkg => ?_⟩
    rw [hheap, Array.getElem?_append_left (by simpa using hk), Array.getElem?_modify, if_neg (fun e => hkg e.symm)]
end
/-- A row that is sorted, of prefixes that differ. -/
theorem sort_uniq {ps qs : List Pf} (hp : ps.Perm qs) (hq : qs.Pairwise lessP) : ps.mergeSort (fun x y => !ltOf ordF y x) = qs := by
  have h1 : (ps.mergeSort (fun x y => !ltOf ordF y x)).Perm qs := (List.mergeSort_perm _ _).trans hp
  have h2 : (ps.mergeSort (fun x y => !ltOf ordF y x)).Pairwise (fun x y => (!ltOf ordF y x) = true) := by
    refine List.pairwise_mergeSort (fun a b c h1 h2 => ?_) (fun a b => ?_) ps
    · simp only [Bool.not_eq_true'] at *
      rw [ord_lt, decide_eq_false_iff_not] at *
      intro h
      rcases lessP_tri b c with h3 | h3 | h3
      · exact h1 (lessP_trans h3 h)
      · exact h1 (h3 ▸ h)
      · exact h2 h3
    · simp only [Bool.or_eq_true, Bool.not_eq_true']
      rw [ord_lt, ord_lt, decide_eq_false_iff_not, decide_eq_false_iff_not]
      by_cases h : lessP b a
      · exact .inr fun h3 => lessP_irrefl _ (lessP_trans h h3)
      · exact .inl h
  have h3 : qs.Pairwise (fun x y => (!ltOf ordF y x) = true) := hq.imp fun {a b} h => by
    rw [Bool.not_eq_true', ord_lt, decide_eq_false_iff_not]
    exact fun h3 => lessP_irrefl _ (lessP_trans h h3)
  refine h1.eq_of_pairwise (fun a b _ _ h4 h5 => ?_) h2 h3
  simp only [Bool.not_eq_true'] at h4 h5
  rw [ord_lt, decide_eq_false_iff_not] at h4 h5
  rcases lessP_tri a b with h6 | h6 | h6
  · exact absurd h6 h5
  · exact h6
  · exact absurd h6 h4

theorem pfRow : (36 : TypeId) < Try.prog.types.size := of_decide_eq_true (by kernel_rfl)
theorem pfWide : (match Try.prog.underlying 36 with | some (.array _ _) | some (.struct _) => true | _ => false) = true := by rw [Try.underlying36]
theorem pfLaid : laidOutB Try.prog = true := by kernel_rfl
set_option maxRecDepth 100000 in
theorem pfKeyed : Maps.Keyed Try.prog 36 := Maps.Keyed.of_law (deep_law_laid pfLaid (m := 2) (by omega) pfRow (by kernel_rfl) pfWide)
def pfOk (p : Pf) : Prop := p.1 < 2 ^ 32 ∧ -9223372036854775808 ≤ p.2 ∧ p.2 ≤ 9223372036854775807
theorem pf_key {p : Pf} (h : pfOk p) : ∃ kl, keyOf Try.prog 36 (pfV p) = some kl := by
  obtain ⟨m, hm⟩ : ∃ m, Try.prog.types.size = m + 1 := ⟨Try.prog.types.size - 1, of_decide_eq_true (by kernel_rfl)⟩
  have hC : Try.prog.cellsOf 36 = 2 := by kernel_rfl
  have hC0 : Try.prog.cellsOf 34 = 1 := by kernel_rfl
  have hC1 : Try.prog.cellsOf 3 = 1 := by kernel_rfl
  have hT : Try.prog.keyType 36 = true := by kernel_rfl
  have hF : (pfV p).formed Try.prog 36 = true := by simp [pfV, pfC, Value.formed, Try.underlying36, hC]
  have i1 : IntKind.u32.min = 0 := rfl
  have i2 : IntKind.u32.max = 4294967295 := rfl
  have i3 : IntKind.i64.min = -9223372036854775808 := rfl
  have i4 : IntKind.i64.max = 9223372036854775807 := rfl
  obtain ⟨k1, k2, k3⟩ := h
  have w0 : (Lit.int .u32 (p.1 : Int)).wf = true := by simp only [Lit.wf, Bool.and_eq_true, decide_eq_true_eq]; omega
  have w1 : (Lit.int .i64 p.2).wf = true := by simp only [Lit.wf, Bool.and_eq_true, decide_eq_true_eq]; omega
  have hL : Try.prog.keyLits (Try.prog.types.size + 1) 36 (pfV p).cells.toList = some [.int .u32 (p.1 : Int), .int .i64 p.2] := by
    rw [hm]
    simp [Program.keyLits, pfV, pfC, Try.underlying36, Try.underlying34, Try.underlying3, hC, hC0, hC1, w0, w1, Value.cells]
  refine ⟨.string (keyBytes [.int .u32 (p.1 : Int), .int .i64 p.2]), ?_⟩
  unfold keyOf
  rw [Try.underlying36]
  simp only [hT, hF, hL, Bool.and_self, if_true, Option.map_some]
noncomputable def pfL (p : Pf) : Lit := (keyOf Try.prog 36 (pfV p)).getD .nil
theorem pfL_key {p : Pf} (h : pfOk p) : keyOf Try.prog 36 (pfV p) = some (pfL p) := by
  obtain ⟨kl, hk⟩ := pf_key h
  unfold pfL
  rw [hk]; rfl
set_option maxRecDepth 100000 in
theorem pfL_lit {p : Pf} (h : pfOk p) : WideAt.IsKeyLit (pfL p) := pfKeyed.key (pfL_key h)
theorem pfV_inj {x y : Pf} (h : pfV x = pfV y) : x = y := by
  obtain ⟨a, b⟩ := x
  obtain ⟨c, d⟩ := y
  simp only [pfV, pfC, Value.agg.injEq] at h
  simp at h
  obtain ⟨h1, h2⟩ := h
  simp only [Prod.mk.injEq]
  omega
theorem pfL_inj {x y : Pf} (hx : pfOk x) (hy : pfOk y) (h : pfL x = pfL y) : x = y := by
  have h1 := pfL_key hx
  rw [h] at h1
  exact pfV_inj (pfKeyed.inj h1 (pfL_key hy))
theorem own_blk {w : World} {base : Nat} {e : TypeId} {size n : Nat} {v : Value} {xs : List Value} (h : w.ownsRow base e size v n xs) {g : Nat} (hg : v.ownBlock = some g) : ∃ cs, Blk w g e cs := by
  rcases h.2 with ⟨rfl, rfl⟩ | ⟨g', cap, cur, rfl, _, hh, _⟩
  · cases hg
  · injection hg with hg
    subst hg
    exact ⟨cur, hh⟩
end Go.Proofs.Ytahdjfegihnolaa
