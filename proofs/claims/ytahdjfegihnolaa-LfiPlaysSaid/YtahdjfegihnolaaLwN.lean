/- Layer 12: reading rows of updates. -/
import Derived.Test.YtahdjfegihnolaaLwF
namespace Go.Proofs.Ytahdjfegihnolaa
open Go.RowKit Go.Sort
theorem flatT_get : ∀ (L : List Tl) (k : Nat) (a : Tl), L[k]? = some a → ∀ j, j < 4 → (flatT L)[k * 4 + j]? = (tlE a)[j]?
  | [], _, _, h, _, _ => by simp at h
  | q :: L, 0, a, h, j, hj => by
    obtain rfl : q = a := by simpa using h
    unfold flatT
    rw [List.flatMap_cons, Nat.zero_mul, Nat.zero_add, List.getElem?_append_left (by simpa [tlE] using hj)]
  | q :: L, k + 1, a, h, j, hj => by
    have ih := flatT_get L k a (by simpa using h) j hj
    unfold flatT at ih ⊢
    rw [List.flatMap_cons, List.getElem?_append_right (by simp [tlE]; omega), ← ih]
    congr 1
    simp [tlE]
    omega
theorem flatT_len (L : List Tl) : (flatT L).length = L.length * 4 := by
  induction L with
  | nil => rfl
  | cons a L ih => unfold flatT at ih ⊢; rw [List.flatMap_cons, List.length_append, ih]; simp [tlE]; omega
theorem flatT_app (a b : List Tl) : flatT (a ++ b) = flatT a ++ flatT b := by unfold flatT; rw [List.flatMap_append]
theorem flatT_one (o : List Tl) : ∀ u ∈ flatT o, u.oneCell' = true := by
  intro u hu
  unfold flatT at hu
  obtain ⟨t, _, ht⟩ := List.mem_flatMap.1 hu
  simp only [tlE, List.mem_cons, List.not_mem_nil, or_false] at ht
  rcases ht with rfl | rfl | rfl | rfl <;> rfl
theorem tlE_one (t : Tl) : ∀ u ∈ tlE t, u.oneCell' = true := by
  intro u ht
  simp only [tlE, List.mem_cons, List.not_mem_nil, or_false] at ht
  rcases ht with rfl | rfl | rfl | rfl <;> rfl
section
variable {w : World} {B b n cp k : Nat} {o : List Tl} {t : Tl}
theorem OutM.cell (h : OutM w B (.slice (some ⟨b, 0, none⟩) n cp) o) (hk : o[k]? = some t) {j : Nat} (hj : j < 4) : w.cell? ⟨b, k * 4 + j, none⟩ = (tlE t)[j]? := by
  have hlt : k < o.length := (List.getElem?_eq_some_iff.1 hk).1
  unfold OutM at h
  obtain ⟨A, q, e, _⟩ := own_form h
  injection e with e1 e2 e3
  subst e2
  have := h.cellAt (k * 4 + j) (by omega)
  rw [flatT_get o k t hk j hj] at this
  exact this
theorem tl_port (h : OutM w B (.slice (some ⟨b, 0, none⟩) n cp) o) (hk : o[k]? = some t) : (Instr.loadAt 3 (.pointer (some ⟨b, k * 4, none⟩))).run Try.prog w = .ok (.int .i64 (t.1 : Int)) w := ld_iC (h.cell hk (j := 0) (by omega))
theorem tl_pf (h : OutM w B (.slice (some ⟨b, 0, none⟩) n cp) o) (hk : o[k]? = some t) : (Instr.loadAt 36 (.pointer (some ⟨b, k * 4 + 1, none⟩))).run Try.prog w = .ok (.agg #[.int .u32 (t.2.1.1 : Int), .int .i64 t.2.1.2]) w := ld_pfo (h.cell hk (j := 1) (by omega)) (h.cell hk (j := 2) (by omega))
theorem tl_d (h : OutM w B (.slice (some ⟨b, 0, none⟩) n cp) o) (hk : o[k]? = some t) : (Instr.loadAt 3 (.pointer (some ⟨b, k * 4 + 3, none⟩))).run Try.prog w = .ok (.int .i64 t.2.2) w := ld_iC (h.cell hk (j := 3) (by omega))
set_option maxRecDepth 100000 in
theorem tl_all (h : OutM w B (.slice (some ⟨b, 0, none⟩) n cp) o) (hk : o[k]? = some t) : (Instr.loadAt 56 (.pointer (some ⟨b, k * 4, none⟩))).run Try.prog w = .ok (.agg #[.int .i64 (t.1 : Int), .int .u32 (t.2.1.1 : Int), .int .i64 t.2.1.2, .int .i64 t.2.2]) w := by
  have c0 := h.cell hk (j := 0) (by omega)
  have c1 := h.cell hk (j := 1) (by omega)
  have c2 := h.cell hk (j := 2) (by omega)
  have c3 := h.cell hk (j := 3) (by omega)
  simp [tlE] at c0 c1 c2 c3
  simp [go_sem, c0, c1, c2, c3]
/-- A row's part, from j on, k long. -/
theorem OutM.reads {A : Option Addr} {c : Nat} (h : OutM w B (.slice A o.length c) o) : Reads w (fun k => k < w.heap.size) 4 A o.length (flatT o) := Reads.of_own h fun _g hg => (own_lt h hg).2
end
theorem ld_cpC {w : World} {b o : Nat} {u : Option Addr} (hu : w.cell? ⟨b, o, none⟩ = some (.pointer u)) : (Instr.loadAt 25 (.pointer (some ⟨b, o, none⟩))).run Try.prog w = .ok (.pointer u) w := by simp [go_sem, hu]
theorem eq_pf (a b : Nat) (m n : Int) (w : World) : (binOp .eql 36 (.agg #[.int .u32 (a : Int), .int .i64 m]) (.agg #[.int .u32 (b : Int), .int .i64 n])).run Try.prog w = .ok (.bool (decide ((a, m) = (b, n)))) w := by
  go_simp
  by_cases h1 : (a : Int) = (b : Int)
  · rw [if_pos h1]
    have h1' : a = b := by omega
    by_cases h2 : m = n
    · rw [if_pos h2]; simp [h1', h2]
    · rw [if_neg h2]; simp [h2]
  · rw [if_neg h1]
    have h1' : ¬ a = b := by omega
    simp [h1']
end Go.Proofs.Ytahdjfegihnolaa
