/- The document's Nodes: a set of prefixes, kept in a map. -/
import Derived.Test.YtejiecebckjflaaTmM
import Derived.Test.YtejiecebckjflaaTcW
import Derived.Test.YtejiecebckjflaaRgS
namespace Go.Proofs.Ytejiecebckjflaa
open Go.RowKit Go.Sort Go.BigFrame Go.Maps

/-- How a member's mark reads: whatever it is. -/
def anyElem (_ : Value) : Option (DataW Unit × List MemPlace) := some (.lit (.bool true), [])
noncomputable def kB (x : Bs) : Lit := klP ⟨padB x, x.length⟩
theorem kB_ok {x : Bs} (h : x.length ≤ 32) : (⟨padB x, x.length⟩ : Px).ok := by
  refine ⟨padB_lt _ h, ?_⟩
  exact WalkArith.wf_i64 (by simp only; omega)
theorem kB_inj {x y : Bs} (hx : x.length ≤ 32) (hy : y.length ≤ 32) (h : kB x = kB y) : x = y := by
  have h1 := klP_inj (kB_ok hx) (kB_ok hy) h
  injection h1 with h1 h2
  have h3 : x.length = y.length := by omega
  have e1 := bits_pad x hx
  have e2 := bits_pad y hy
  rw [← e1, ← e2, h1, h3]
/-- Block b is a set that holds just the prefixes S. -/
def SM (w : World) (b : Nat) (S : List Bs) (k : Nat) : Prop := ∃ (n : Nat) (D : DataW Unit), w.ownsMap Try.prog 31 anyElem b n D ∧ n ≤ k ∧ (∀ x : Bs, x.length ≤ 32 → Maps.has D (kB x) = decide (x ∈ S)) ∧ Maps.size D = S.length
def addB (x : Bs) (S : List Bs) : List Bs := if x ∈ S then S else x :: S
theorem mem_addB {x y : Bs} {S : List Bs} : y ∈ addB x S ↔ y = x ∨ y ∈ S := by
  unfold addB
  split
  · rename_i h
    exact ⟨.inr, fun hh => hh.elim (fun e => by rw [e]; exact h) id⟩
  · exact List.mem_cons
theorem addB_nodup {x : Bs} {S : List Bs} (h : S.Nodup) : (addB x S).Nodup := by
  unfold addB
  split
  · exact h
  · rename_i hn
    exact List.nodup_cons.2 ⟨hn, h⟩
section
variable {w w' : World} {b k : Nat} {S : List Bs}
theorem sm_new (w : World) : SM (w.alloc (.map #[] 0)) w.heap.size [] 0 := ⟨0, _, World.ownsMap_made w _ _ _, Nat.le_refl _, fun _ _ => rfl, rfl⟩
theorem SM.lt (h : SM w b S k) : b < w.heap.size := by obtain ⟨n, D, h1, _⟩ := h; exact h1.lt
theorem SM.block (h : SM w b S k) (hb : w'.heap[b]? = w.heap[b]?) : SM w' b S k := by
  obtain ⟨n, D, ⟨es, clock, g1, g2⟩, h2⟩ := h
  exact ⟨n, D, ⟨es, clock, hb.trans g1, g2⟩, h2⟩
theorem SM.mono {k' : Nat} (h : SM w b S k) (hk : k ≤ k') : SM w b S k' := by obtain ⟨n, D, h1, h2, h3⟩ := h; exact ⟨n, D, h1, Nat.le_trans h2 hk, h3⟩
theorem SM.below (h : SM w b S k) (hb : Below w.heap.size w w') : SM w' b S k := h.block (hb.block b h.lt)
theorem SM.len (h : SM w b S k) (ty : TypeId) : (Builtin.len_ #[98] ty #[.map (some b)]).run Try.prog w = .ok (.int .i64 (S.length : Int)) w := by
  obtain ⟨n, D, h1, h2, h3, h4⟩ := h
  rw [h1.len Try.underlying98 ty, h4]
theorem SM.store (h : SM w b S k) (hk : k < 1000000) {x : Bs} (hx : x.length ≤ 32) (v : Value) :
    ∃ w', (Instr.mapUpdate 98 (.map (some b)) (pxV (padB x) x.length) v).run Try.prog w = .ok () w' ∧ SM w' b (addB x S) (k + 1) ∧ Upd (only b) w w' := by
  obtain ⟨n, D, h1, h2, h3, h4⟩ := h
  obtain ⟨w', hr, ho, ht⟩ := h1.store (val := v) (d := .lit (.bool true)) (ps := []) pxKeyed Try.underlying98 (by unfold maxLen; omega) (klP_key (kB_ok hx)) rfl
  have htd := h1.tidy pxKeyed
  refine ⟨w', hr, ⟨n + 1, _, ho, by omega, ?_, ?_⟩, turned_upd ht⟩
  · intro y hy
    by_cases h : y = x
    · subst h
      rw [decide_eq_true (mem_addB.2 (.inl rfl))]
      exact has_put_same h1.isMap (klP_lit (kB_ok hy)) _
    · have e1 : Maps.has (D.put (klP ⟨padB x, x.length⟩) (.lit (.bool true))) (kB y) = Maps.has D (kB y) := has_put_other (fun e => h (kB_inj hy hx e)) _
      rw [e1, h3 y hy, decide_eq_decide, mem_addB]
      exact ⟨.inr, fun hh => hh.resolve_left h⟩
  · rw [size_put htd]
    have e1 := h3 x hx
    unfold kB at e1
    rw [e1, h4]
    unfold addB
    by_cases hm : x ∈ S
    · rw [if_pos hm, decide_eq_true hm, if_pos rfl]
    · rw [if_neg hm, decide_eq_false hm, if_neg (by decide)]; rfl
end
/-- The set after the first i entries. -/
def SeenB (L : List (Bs × Int)) (i : Nat) (S : List Bs) : Prop := S.Nodup ∧ ∀ x, x ∈ S ↔ x ∈ (L.take i).map (·.1) ∨ x ∈ consec (L.take i)
theorem seen_first {L : List (Bs × Int)} {e : Bs × Int} (he : L[0]? = some e) {S : List Bs} (h : SeenB L 0 S) : SeenB L 1 (addB e.1 S) := by
  refine ⟨addB_nodup h.1, fun x => ?_⟩
  rw [mem_addB, h.2]
  cases L with
  | nil => cases he
  | cons f r =>
    obtain rfl : f = e := by simpa using he
    simp [consec]
theorem seen_next {L : List (Bs × Int)} {i : Nat} {e f : Bs × Int} (he : L[i]? = some e) (hf : L[i + 1]? = some f) {S : List Bs} (h : SeenB L (i + 1) S) : SeenB L (i + 2) (addB (lcpB e.1 f.1) (addB f.1 S)) := by
  refine ⟨addB_nodup (addB_nodup h.1), fun x => ?_⟩
  have h1 : L.take (i + 2) = L.take (i + 1) ++ [f] := by
    rw [List.take_succ_eq_append_getElem (List.getElem?_eq_some_iff.1 hf).1, (List.getElem?_eq_some_iff.1 hf).2]
  have h2 : (L.take (i + 1)).getLast? = some e := by
    rw [List.take_succ_eq_append_getElem (List.getElem?_eq_some_iff.1 he).1, (List.getElem?_eq_some_iff.1 he).2]
    simp
  rw [mem_addB, mem_addB, h.2, h1, mem_consec_app, List.map_append, List.mem_append, h2]
  simp only [List.map_cons, List.map_nil, List.mem_singleton, List.head?_cons, Option.mem_def, Option.some.injEq, exists_eq_left', consec, List.not_mem_nil, false_or]
  constructor
  · rintro (h | h | h | h)
    · exact .inr (.inr h)
    · exact .inl (.inr h)
    · exact .inl (.inl h)
    · exact .inr (.inl h)
  · rintro ((h | h) | h | h)
    · exact .inr (.inr (.inl h))
    · exact .inr (.inl h)
    · exact .inr (.inr (.inr h))
    · exact .inl h
theorem seen_end {L : List (Bs × Int)} {S : List Bs} (h : SeenB L L.length S) : S.Nodup ∧ ∀ x, x ∈ S ↔ x ∈ L.map (·.1) ∨ x ∈ consec L := by
  have := h
  unfold SeenB at this
  rwa [List.take_length] at this
end Go.Proofs.Ytejiecebckjflaa
