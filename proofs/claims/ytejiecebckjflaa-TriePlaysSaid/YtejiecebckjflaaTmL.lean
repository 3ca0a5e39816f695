/- TrieMeans: a map of prefixes beside a trie. -/
import Derived.Test.YtejiecebckjflaaToL
import Derived.Test.YtejiecebckjflaaRowT
import Derived.Maps.OwnOps
import Derived.Maps.OwnSet
import Derived.DeepKeys4
namespace Go.Proofs.Ytejiecebckjflaa
open Go.RowKit Go.Maps

theorem pxRow : (31 : TypeId) < Try.prog.types.size := of_decide_eq_true (by kernel_rfl)
theorem pxWide : (match Try.prog.underlying 31 with | some (.array _ _) | some (.struct _) => true | _ => false) = true := by rw [Try.underlying31]
theorem pxKeyed : Keyed Try.prog 31 := Keyed.of_law (deep_law_laid laidOut (m := 2) (by omega) pxRow (by kernel_rfl) pxWide)
instance : DecidableEq Px := fun x y => decidable_of_iff (x.a = y.a ∧ x.n = y.n) ⟨fun h => by cases x; cases y; simp only at h; rw [h.1, h.2], fun h => by rw [h]; exact ⟨rfl, rfl⟩⟩
def Px.ok (x : Px) : Prop := x.a < 2 ^ 32 ∧ (Lit.int .i64 x.n).wf = true
theorem wf_addr {a : Nat} (h : a < 2 ^ 32) : (Lit.int .u32 (a : Int)).wf = true := by
  have h1 : IntKind.u32.min = 0 := rfl
  have h2 : IntKind.u32.max = 4294967295 := rfl
  simp only [Lit.wf, Bool.and_eq_true, decide_eq_true_eq]
  omega
theorem px_key {x : Px} (h : x.ok) : ∃ kl, keyOf Try.prog 31 (pxV x.a x.n) = some kl := by
  obtain ⟨m, hm⟩ : ∃ m, Try.prog.types.size = m + 1 := ⟨Try.prog.types.size - 1, of_decide_eq_true (by kernel_rfl)⟩
  have hC : Try.prog.cellsOf 31 = 2 := by kernel_rfl
  have hC0 : Try.prog.cellsOf 24 = 1 := by kernel_rfl
  have hC1 : Try.prog.cellsOf 3 = 1 := by kernel_rfl
  have hT : Try.prog.keyType 31 = true := by kernel_rfl
  have hF : (pxV x.a x.n).formed Try.prog 31 = true := by simp [Value.formed, Try.underlying31, hC]
  have w0 := wf_addr h.1
  have w1 := h.2
  have hL : Try.prog.keyLits (Try.prog.types.size + 1) 31 (pxV x.a x.n).cells.toList = some [.int .u32 (x.a : Int), .int .i64 x.n] := by
    rw [hm]
    simp [Program.keyLits, Try.underlying31, Try.underlying24, Try.underlying3, hC, hC0, hC1, w0, w1, Value.cells]
  refine ⟨.string (keyBytes [.int .u32 (x.a : Int), .int .i64 x.n]), ?_⟩
  unfold keyOf
  rw [Try.underlying31]
  simp only [hT, hF, hL, Bool.and_self, if_true, Option.map_some]
noncomputable def klP (x : Px) : Lit := (keyOf Try.prog 31 (pxV x.a x.n)).getD .nil
theorem klP_key {x : Px} (h : x.ok) : keyOf Try.prog 31 (pxV x.a x.n) = some (klP x) := by
  obtain ⟨kl, hk⟩ := px_key h
  unfold klP
  rw [hk]; rfl
theorem klP_lit {x : Px} (h : x.ok) : WideAt.IsKeyLit (klP x) := pxKeyed.key (klP_key h)
theorem klP_inj {x y : Px} (hx : x.ok) (hy : y.ok) (h : klP x = klP y) : x = y := by
  have h1 := klP_key hx
  rw [h] at h1
  have := pxKeyed.inj h1 (klP_key hy)
  obtain ⟨a, n⟩ := x
  obtain ⟨b, m⟩ := y
  simp only [pxV, Value.agg.injEq] at this
  simp at this
  obtain ⟨h1, rfl⟩ := this
  obtain rfl : a = b := by omega
  rfl

theorem getS_ins (p q : Bs) (v : Int) : ∀ L : List (Bs × Int), getS q (insS p v L) = if q = p then some v else getS q L
  | [] => by
    unfold insS getS
    by_cases h : q = p
    · simp [h]
    · rw [if_neg h]
      simp
      exact fun e => h e.symm
  | e :: r => by
    have ih := getS_ins p q v r
    have hc : ∀ (x : Bs × Int) (M : List (Bs × Int)), getS q (x :: M) = if x.1 = q then some x.2 else getS q M := fun x M => by
      unfold getS
      by_cases h : x.1 = q <;> simp [h]
    unfold insS
    split
    · rename_i hlt
      rw [hc, hc, ih]
      by_cases h1 : e.1 = q
      · rw [if_pos h1, if_pos h1, if_neg]
        intro h2
        rw [h1, h2, ltB_irrefl] at hlt
        cases hlt
      · rw [if_neg h1, if_neg h1]
    · split
      · rename_i h2
        rw [hc, hc]
        by_cases h : q = p
        · rw [if_pos h.symm, if_pos h]
        · rw [if_neg (fun e => h e.symm), if_neg h, if_neg (by rw [h2]; exact fun e => h e.symm)]
      · rw [hc]
        by_cases h : q = p
        · rw [if_pos h.symm, if_pos h]
        · rw [if_neg (fun e => h e.symm), if_neg h]
theorem getS_del (p q : Bs) : ∀ L : List (Bs × Int), getS q (delS p L) = if q = p then none else getS q L
  | [] => by simp [delS, getS]
  | e :: r => by
    have ih := getS_del p q r
    have hc : ∀ (x : Bs × Int) (M : List (Bs × Int)), getS q (x :: M) = if x.1 = q then some x.2 else getS q M := fun x M => by
      unfold getS
      by_cases h : x.1 = q <;> simp [h]
    unfold delS at ih ⊢
    rw [List.filter_cons]
    by_cases h1 : e.1 = p
    · rw [if_neg (by simp [h1]), ih, hc]
      by_cases h : q = p
      · rw [if_pos h, if_pos h]
      · rw [if_neg h, if_neg h, if_neg (by rw [h1]; exact fun e => h e.symm)]
    · rw [if_pos (by simp [h1]), hc, ih, hc]
      by_cases h : q = p
      · rw [if_neg (by rw [h]; exact h1), if_pos h, if_pos h]
      · rw [if_neg h, if_neg h]
theorem pB_inj {x y : Px} (hx : x.a < 2 ^ 32) (hy : y.a < 2 ^ 32) (mx : x.may = true) (my : y.may = true) (h : pB x = pB y) : x = y := by
  have key : ∀ {z : Px}, z.a < 2 ^ 32 → z.may = true → z = ⟨padB (pB z), (pB z).length⟩ := fun {z} hz mz => by
    obtain ⟨_, a1, n1⟩ := pB_may hz mz
    rw [a1, n1]
  rw [key hx mx, key hy my, h]
theorem getP_ins {x y : Px} {v : Int} {T : TT} (wf : T.wf []) (hx : x.a < 2 ^ 32) (hy : y.a < 2 ^ 32) (mx : x.may = true) : getP y (T.ins (pB x) v) = if y = x then some v else getP y T := by
  unfold getP
  by_cases my : y.may = true
  · rw [if_pos my, if_pos my, TT.get_list (TT.ins_wf wf List.nil_prefix (pB_may hx mx).1), TT.ins_list wf List.nil_prefix (pB_may hx mx).1, getS_ins, ← TT.get_list wf]
    by_cases h : y = x
    · rw [if_pos h, if_pos (by rw [h])]
    · rw [if_neg h, if_neg fun e => h (pB_inj hy hx my mx e)]
  · rw [if_neg my, if_neg my, if_neg fun e => my (by rw [e]; exact mx)]
theorem getP_del {x y : Px} {T : TT} (wf : T.wf []) (hx : x.a < 2 ^ 32) (hy : y.a < 2 ^ 32) (mx : x.may = true) (hs : (T.get (pB x)).isSome = true) : getP y (T.del (pB x)) = if y = x then none else getP y T := by
  unfold getP
  by_cases my : y.may = true
  · rw [if_pos my, if_pos my, TT.get_list (TT.del_wf wf), del_keys wf hs, getS_del, ← TT.get_list wf]
    by_cases h : y = x
    · rw [if_pos h, if_pos (by rw [h])]
    · rw [if_neg h, if_neg fun e => h (pB_inj hy hx my mx e)]
  · rw [if_neg my, if_neg my]
    split <;> rfl
theorem getS_of_mem {e : Bs × Int} : ∀ {L : List (Bs × Int)}, SortedB L → e ∈ L → getS e.1 L = some e.2
  | f :: r, hs, he => by
    have hc : getS e.1 (f :: r) = if f.1 = e.1 then some f.2 else getS e.1 r := by
      unfold getS
      by_cases h : f.1 = e.1 <;> simp [h]
    rw [hc]
    rcases List.mem_cons.1 he with rfl | he
    · rw [if_pos rfl]
    · have := (List.pairwise_cons.1 hs).1 e he
      rw [if_neg (fun h => by rw [h, ltB_irrefl] at this; cases this)]
      exact getS_of_mem (sorted_tail hs) he
theorem getP_pxE {e : Bs × Int} {T : TT} (wf : T.wf []) (he : e ∈ T.list) : getP (pxE e) T = some e.2 := by
  have h32 := (TT.keys_pre wf e he).2
  unfold getP
  rw [if_pos (pxE_may h32), pB_pxE h32, TT.get_list wf]
  exact getS_of_mem (TT.sorted wf) he
theorem mem_of_getP {x : Px} {T : TT} {v : Int} (wf : T.wf []) (h : getP x T = some v) : x.may = true ∧ ∃ e ∈ T.list, e.1 = pB x := by
  unfold getP at h
  split at h
  · rename_i hm
    rw [TT.get_list wf] at h
    obtain ⟨e, he, hp⟩ := List.mem_map.1 (getS_mem.1 (by rw [h]; rfl))
    exact ⟨hm, e, he, hp⟩
  · cases h
theorem pxE_ok {e : Bs × Int} (h : e.1.length ≤ 32) : (pxE e).ok := ⟨pxE_lt h, by
  have h1 : IntKind.i64.min = -9223372036854775808 := rfl
  have h2 : IntKind.i64.max = 9223372036854775807 := rfl
  show (Lit.int .i64 (e.1.length : Int)).wf = true
  simp only [Lit.wf, Bool.and_eq_true, decide_eq_true_eq]
  omega⟩
/-- No prefix that is there and has the address is longer than the last of those that have it. -/
theorem cov_longest {x : Px} {T : TT} {v : Int} {b : Nat} (wf : T.wf []) (hx : x.a < 2 ^ 32) (hb : b < 2 ^ 32) (h : getP x T = some v) (hh : hasP x b = true) : T.cov (bitsB b 32) ≠ [] ∧ x.n ≤ ((lastE (T.cov (bitsB b 32))).1.length : Int) := by
  obtain ⟨hm, e, he, hp⟩ := mem_of_getP wf h
  obtain ⟨p1, p2, p3⟩ := pB_may hx hm
  have hpre : e.1 <+: bitsB b 32 := by
    rw [hasP_iff hx hb hm] at hh
    rw [hp]; exact of_decide_eq_true hh
  have hmem : e ∈ T.cov (bitsB b 32) := by
    rw [TT.cov_list wf]
    exact List.mem_filter.2 ⟨he, by simpa using hpre⟩
  have hne : T.cov (bitsB b 32) ≠ [] := fun h => by rw [h] at hmem; cases hmem
  refine ⟨hne, ?_⟩
  have hs : SortedB (T.cov (bitsB b 32)) := by rw [TT.cov_list wf]; exact covS_sorted (TT.sorted wf)
  have hl := lastE_mem hne
  have hlp : (lastE (T.cov (bitsB b 32))).1 <+: bitsB b 32 := by
    have := hl
    rw [TT.cov_list wf] at this ⊢
    exact (covS_mem this).2
  rw [← p3, ← hp]
  by_cases heq : e = lastE (T.cov (bitsB b 32))
  · rw [← heq]; exact Int.le_refl _
  · have hsplit : T.cov (bitsB b 32) = (T.cov (bitsB b 32)).dropLast ++ [lastE (T.cov (bitsB b 32))] := by
      have := List.dropLast_concat_getLast hne
      unfold lastE
      rw [List.getLast?_eq_some_getLast hne]
      exact this.symm
    have hin : e ∈ (T.cov (bitsB b 32)).dropLast := by
      have h2 := hmem
      rw [hsplit] at h2
      rcases List.mem_append.1 h2 with h2 | h2
      · exact h2
      · exact absurd (List.mem_singleton.1 h2) heq
    have hlt : ltB e.1 (lastE (T.cov (bitsB b 32))).1 = true := by
      have h3 := hs
      rw [hsplit] at h3
      unfold SortedB at h3
      rw [List.pairwise_append] at h3
      exact h3.2.2 e hin _ (by simp)
    have := (cov_chain hpre hlp hlt).2
    omega
end Go.Proofs.Ytejiecebckjflaa
