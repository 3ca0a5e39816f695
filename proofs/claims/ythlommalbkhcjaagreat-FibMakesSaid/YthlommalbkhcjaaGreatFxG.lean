/- A row of routes turned. -/
import Derived.Test.YthlommalbkhcjaaGreatFxF
import Derived.Test.YthlommalbkhcjaaGreatFxC
import Derived.Test.YthlommalbkhcjaaGreatFxE
namespace Go.Proofs.YthlommalbkhcjaaGreat
open Go.RowKit Go.Sort
variable {dc : Int → Array Value}
theorem rt_infox : (Tryz.prog.info? 54).map (fun i => (i.zero, i.size, i.bytes)) = some (some (.agg #[.int .u32 0, .int .i64 0, .bool false, .bool false, .int .i64 0, .slice none 0 0]), 6, 56) := by kernel_rfl
theorem rtC_one (l : List Rt) : ∀ u ∈ l.flatMap rtC, u.oneCell' = true := fun u hu => by
  obtain ⟨r, _, h⟩ := List.mem_flatMap.1 hu
  unfold rtC at h
  simp at h
  rcases h with rfl | rfl | rfl | rfl | rfl | rfl <;> rfl
theorem rtC_len (r : Rt) : (rtC r).length = 6 := rfl
theorem rtsC_len (l : List Rt) : (l.flatMap rtC).length = l.length * 6 := by
  induction l with
  | nil => rfl
  | cons a l ih => rw [List.flatMap_cons, List.length_append, ih, rtC_len, List.length_cons]; omega
/-- The row under way. -/
structure TurnM (w W : World) (A : Option Addr) (n : Nat) (X : List Rt) : Prop where
  len : X.length = n
  b : Below w.heap.size w W
  blk : 0 < n → ∃ g rest, A = some ⟨g, 0, none⟩ ∧ w.heap.size ≤ g ∧ Blk W g 54 ((X.flatMap rtC) ++ rest).toArray
section
variable {w W W' : World} {A : Option Addr} {n : Nat} {X : List Rt}
theorem TurnM.later (h : TurnM w W A n X) (hb : Below W.heap.size W W') : TurnM w W' A n X := ⟨h.len, h.b.trans (hb.mono h.b.size), fun hn => by
  obtain ⟨g, rest, h1, h2, h3⟩ := h.blk hn
  exact ⟨g, rest, h1, h2, h3.below hb h3.lt⟩⟩
theorem TurnM.of_own {c : Nat} (h : W.ownsRow w.heap.size 54 6 (.slice A n c) n (X.flatMap rtC)) (hl : X.length = n) (hb : Below w.heap.size w W) : TurnM w W A n X := ⟨hl, hb, fun hn => by
  rcases h.2 with ⟨_, h0⟩ | ⟨g, cap, cur, e, h1, h2, h3, h4, h5, h6⟩
  · omega
  · injection e with e
    refine ⟨g, cur.toList.drop (n * 6), e, h1, ?_⟩
    rw [← h6, List.take_append_drop]
    exact h2⟩
theorem TurnM.reads (h : TurnM w W A n X) : Reads W (fun j => j < W.heap.size) 6 A n (X.flatMap rtC) := ⟨by rw [rtsC_len, h.len], fun hn => by
  obtain ⟨g, rest, h1, h2, h3⟩ := h.blk hn
  refine ⟨⟨g, 0, none⟩, h1, h3.lt, h3.lt, fun j u hu => ?_⟩
  rw [add_off, Nat.zero_add, h3.cell, List.getElem?_toArray, List.getElem?_append_left (List.getElem?_eq_some_iff.1 hu).1]
  exact hu⟩
theorem rts_set : ∀ {X : List Rt} {k : Nat} (r : Rt), k < X.length → ∃ pre mid post, X.flatMap rtC = pre ++ mid ++ post ∧ pre.length = k * 6 ∧ mid.length = 6 ∧ (X.set k r).flatMap rtC = pre ++ rtC r ++ post
  | [], k, r, h => by simp at h
  | a :: X, 0, r, _ => ⟨[], rtC a, X.flatMap rtC, by simp, rfl, rfl, by simp⟩
  | a :: X, k + 1, r, h => by
    obtain ⟨pre, mid, post, h1, h2, h3, h4⟩ := rts_set (X := X) (k := k) r (by simpa using h)
    refine ⟨rtC a ++ pre, mid, post, ?_, ?_, h3, ?_⟩
    · rw [List.flatMap_cons, h1]; simp
    · rw [List.length_append, h2, rtC_len]; omega
    · rw [List.set_cons_succ, List.flatMap_cons, h4]; simp
theorem TurnM.put2 (h : TurnM w W A n X) {k : Nat} (hk : k < n) (r : Rt) : ∃ ad W2, A = some ad ∧ (Instr.storeAt 54 (.pointer (some (ad.add (k * 6)))) (rtV r)).run Tryz.prog W = .ok () W2 ∧ TurnM w W2 A n (X.set k r) ∧ Below w.heap.size W W2 := by
  obtain ⟨g, rest, h1, h2, h3⟩ := h.blk (by omega)
  obtain ⟨pre, mid, post, e1, e2, e3, e4⟩ := rts_set (X := X) (k := k) r (by rw [h.len]; exact hk)
  have hb3 : Blk W g 54 (pre ++ mid ++ (post ++ rest)).toArray := by
    rw [e1] at h3
    simpa using h3
  have hst := run_storeAt_mid (P := Tryz.prog) W g (k * 6) 54 (rtC r).toArray (fun j hj => by
    have hj6 : j < 6 := by simpa [rtC_len] using hj
    refine ⟨?_, hb3.frozen _⟩
    rw [hb3.cell]
    rw [List.getElem?_toArray, List.getElem?_eq_getElem (by simp; omega)]
    rfl) rt_info (by
    rw [← Array.all_toList, List.all_eq_true]
    intro u hu
    exact rtC_one [r] u (by simpa using hu))
  refine ⟨_, W.setCells g (k * 6) (rtC r), h1, ?_, ⟨by rw [List.length_set, h.len], ?_, fun _ => ⟨g, rest, h1, h2, ?_⟩⟩, below_setCells h2 _ _ _ (Below.refl _ _)⟩
  · rw [add_off, Nat.zero_add]
    exact hst
  · exact below_setCells h2 _ _ _ h.b
  · rw [e4]
    have := blk_setCells_mid (rtC r) pre mid W (by rw [e3]; rfl) hb3
    rw [e2] at this
    simpa using this
end
/-- So far turned. -/
def Turned (l X : List Rt) (k : Nat) : Prop := X.length = l.length ∧ ∀ j, j < l.length → X[j]? = if j < k ∨ l.length ≤ j + k then l[l.length - 1 - j]? else l[j]?
theorem turned_0 (l : List Rt) : Turned l l 0 := ⟨rfl, fun j hj => by rw [if_neg (by omega)]⟩
theorem turned_step {l X : List Rt} {k : Nat} (h : Turned l X k) (hk : k < l.length / 2) {r s : Rt} (hr : X[l.length - 1 - k]? = some r) (hs : X[k]? = some s) : Turned l ((X.set k r).set (l.length - 1 - k) s) (k + 1) := by
  refine ⟨by rw [List.length_set, List.length_set, h.1], fun j hj => ?_⟩
  have e1 := h.2 (l.length - 1 - k) (by omega)
  have e2 := h.2 k (by omega)
  rw [if_neg (by omega)] at e1 e2
  rw [hr] at e1
  rw [hs] at e2
  rw [List.getElem?_set, List.getElem?_set]
  have hl := h.1
  by_cases h1 : l.length - 1 - k = j
  · rw [if_pos h1, if_pos (by rw [List.length_set, hl]; omega), if_pos (by omega), show l.length - 1 - j = k by omega, e2]
  · rw [if_neg h1]
    by_cases h2 : k = j
    · rw [if_pos h2, if_pos (by rw [hl]; omega), if_pos (by omega), ← h2, e1]
    · rw [if_neg h2, h.2 j hj]
      by_cases h3 : j < k ∨ l.length ≤ j + k
      · rw [if_pos h3, if_pos (by omega)]
      · rw [if_neg h3, if_neg (by omega)]
theorem turned_end {l X : List Rt} (h : Turned l X (l.length / 2)) : X = l.reverse := by
  apply List.ext_getElem?
  intro j
  by_cases hj : j < l.length
  · rw [h.2 j hj, List.getElem?_reverse hj]
    split
    · rfl
    · congr 1
      omega
  · rw [List.getElem?_eq_none (by rw [h.1]; omega), List.getElem?_eq_none (by simp; omega)]
end Go.Proofs.YthlommalbkhcjaaGreat
