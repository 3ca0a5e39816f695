/- FibMeans: the plain law; the map of ports that were seen. -/
import Derived.Test.YthlommalbkhcjaaFuY
import Derived.Test.YthlommalbkhcjaaMpV
namespace Go.Proofs.Ythlommalbkhcjaa
open Go.RowKit Go.Sort Go.Maps
theorem tab_mem (l : List Nx) : ∀ (k : Nat) (x : Int), x ∈ tabGo l k → ∃ i, i < k ∧ x = (nxAt l i).1
  | 0, x, h => by simp [tabGo] at h
  | k + 1, x, h => by
    unfold tabGo at h
    rcases List.mem_append.1 h with h | h
    · obtain ⟨i, h1, h2⟩ := tab_mem l k x h
      exact ⟨i, by omega, h2⟩
    · exact ⟨k, by omega, (List.mem_replicate.1 h).2⟩
theorem table_port {l : List Nx} (hm : mayF l = true) {x : Int} (h : x ∈ tableF l) : 0 ≤ x ∧ x < 8 := by
  obtain ⟨i, h1, rfl⟩ := tab_mem l l.length x h
  have := may_port hm h1
  exact ⟨this.1, this.2.1⟩
/-- What the ways of a table are like. -/
structure WkOk (wz : Int × List Int) : Prop where
  len : wz.2.length = 256
  no : wz.1 ≠ 3 → wz.2 = zs0
  port : ∀ x ∈ wz.2, 0 ≤ x ∧ x < 8
theorem zs0_port : ∀ x ∈ zs0, (0 : Int) ≤ x ∧ x < 8 := fun x hx => by
  unfold zs0 at hx
  rw [(List.mem_replicate.1 hx).2]
  omega
theorem wayR_ok {r : Rt} (h : mayR r = true) : WkOk (wayR r) := by
  refine ⟨wayR_len h, ?_, ?_⟩
  · unfold wayR
    split
    · intro _; rfl
    · split
      · intro _; rfl
      · intro h; exact absurd rfl h
  · unfold wayR
    split
    · exact zs0_port
    · split
      · exact zs0_port
      · rename_i h1 h2
        have hm : mayF r.nx = true := by
          unfold mayR at h
          rw [decide_eq_false (fun e => h2 (.inr e))] at h
          simp at h
          exact h.2
        exact fun x hx => table_port hm hx
theorem wkL_ok (l : List Rt) (v : Int) : WkOk (wkL l v) := by
  unfold wkL
  split
  · split
    · rename_i r _ h
      exact wayR_ok h.2
    · exact ⟨zs0_len, fun _ => rfl, zs0_port⟩
  · exact ⟨zs0_len, fun _ => rfl, zs0_port⟩
theorem wkL_0 (l : List Rt) : (wkL l 0).1 = 0 := by
  unfold wkL
  split
  · rw [if_neg (by omega)]
  · rfl
theorem WkOk.at_no {wz : Int × List Int} (h : WkOk wz) (hk : wz.1 ≠ 3) (i : Nat) : wz.2.getD i 0 = 0 := by
  rw [h.no hk]
  unfold zs0
  rw [List.getD_eq_getElem?_getD, List.getElem?_replicate]
  split <;> rfl
theorem WkOk.at_port {wz : Int × List Int} (h : WkOk wz) (i : Nat) : 0 ≤ wz.2.getD i 0 ∧ wz.2.getD i 0 < 8 := by
  rw [List.getD_eq_getElem?_getD]
  cases he : wz.2[i]? with
  | none => simp
  | some x => exact h.port x (List.mem_of_getElem? he)
/-- The map of ports that were seen: just those of S. -/
def SeenM (w : World) (b : Nat) (S : List Int) : Prop := ∃ F, MapV Try.prog 3 w b 1000 F S.length ∧ S.Nodup ∧ (∀ x ∈ S, 0 ≤ x ∧ x < 8) ∧ ∀ x : Int, F (.int .i64 x) = if x ∈ S then some (.agg #[.bool true]) else none
theorem intKeyedF : Keyed Try.prog 3 := int_keyed Try.underlying3
theorem int_keyF {x : Int} (h : 0 ≤ x ∧ x < 8) : keyOf Try.prog 3 (.int .i64 x) = some (.int .i64 x) := keyOf_int_mk Try.underlying3 (WalkArith.wf_i64 (by omega))
theorem zero_seen (w : World) : (zeroValue 57).run Try.prog w = .ok (.agg #[.bool false]) w := by kernel_rfl
theorem SeenM.len {w : World} {b : Nat} {S : List Int} (h : SeenM w b S) : S.length ≤ 8 := by
  obtain ⟨F, _, h2, h3, _⟩ := h
  have hsub : ∀ x ∈ S.map Int.toNat, x ∈ List.range 8 := fun x hx => by
    obtain ⟨y, hy, rfl⟩ := List.mem_map.1 hx
    have := h3 y hy
    exact List.mem_range.2 (by omega)
  have hn2 : (S.map Int.toNat).Nodup := by
    unfold List.Nodup at h2 ⊢
    rw [List.pairwise_map]
    refine List.Pairwise.imp_of_mem ?_ h2
    intro a b ha hb h
    have := h3 a ha
    have := h3 b hb
    omega
  have := hn2.length_le_of_subset hsub
  simpa using this
theorem seen_new (w : World) : SeenM (w.alloc (.map #[] 0)) w.heap.size [] := ⟨_, (mapv_new w Try.prog 3).mono (Nat.zero_le _), List.nodup_nil, by simp, fun x => by simp⟩
theorem SeenM.below {w w' : World} {b : Nat} {S : List Int} (h : SeenM w b S) (hb : Below w.heap.size w w') : SeenM w' b S := by
  obtain ⟨F, h1, h2⟩ := h
  exact ⟨F, h1.below hb, h2⟩
theorem SeenM.lt {w : World} {b : Nat} {S : List Int} (h : SeenM w b S) : b < w.heap.size := by
  obtain ⟨F, h1, h2⟩ := h
  exact h1.lt
/-- A port's mark is looked up. -/
theorem SeenM.look {w : World} {b : Nat} {S : List Int} (h : SeenM w b S) {x : Int} (hx : 0 ≤ x ∧ x < 8) : (Instr.lookup 54 (.map (some b)) (.int .i64 x) false).run Try.prog w = .ok (.agg #[.bool (decide (x ∈ S))]) w := by
  obtain ⟨F, h1, h2, h3, h4⟩ := h
  have := h1.look intKeyedF Try.underlying54 (zero_seen w) (int_keyF hx)
  rw [this, h4]
  by_cases hm : x ∈ S <;> simp [hm]
theorem SeenM.size {w : World} {b : Nat} {S : List Int} (h : SeenM w b S) (ty : TypeId) : (Builtin.len_ #[54] ty #[.map (some b)]).run Try.prog w = .ok (.int .i64 (S.length : Int)) w := by
  obtain ⟨F, h1, _⟩ := h
  exact h1.len Try.underlying54 ty
/-- A port is marked. -/
theorem SeenM.add {w : World} {b : Nat} {S : List Int} (h : SeenM w b S) {x : Int} (hx : 0 ≤ x ∧ x < 8) : ∃ w' S', (Instr.mapUpdate 54 (.map (some b)) (.int .i64 x) (.agg #[.bool true])).run Try.prog w = .ok () w' ∧ SeenM w' b S' ∧ (∀ y, y ∈ S' ↔ y = x ∨ y ∈ S) ∧ Upd (only b) w w' := by
  have hl := h.len
  obtain ⟨F, h1, h2, h3, h4⟩ := h
  have h1' : MapV Try.prog 3 w b 999 F S.length := h1.tight.mono (by omega)
  obtain ⟨w', hr, hm, hu, _⟩ := h1'.store intKeyedF Try.underlying54 (by omega) (int_keyF hx) (.agg #[.bool true])
  by_cases hin : x ∈ S
  · rw [h4, if_pos hin] at hm
    refine ⟨w', S, hr, ⟨_, hm, h2, h3, fun y => ?_⟩, fun y => ⟨.inr, fun h => h.elim (fun e => by rw [e]; exact hin) id⟩, hu⟩
    unfold setK
    by_cases e : y = x
    · subst e
      rw [if_pos rfl, if_pos hin]
    · rw [if_neg (fun h => e (by injection h)), h4]
  · rw [h4, if_neg hin] at hm
    refine ⟨w', x :: S, hr, ⟨_, hm, List.nodup_cons.2 ⟨hin, h2⟩, fun y hy => ?_, fun y => ?_⟩, fun y => List.mem_cons, hu⟩
    · rcases List.mem_cons.1 hy with rfl | hy
      · exact hx
      · exact h3 y hy
    · unfold setK
      by_cases e : y = x
      · subst e
        rw [if_pos rfl, if_pos (by simp)]
      · rw [if_neg (fun h => e (by injection h)), h4]
        by_cases hy : y ∈ S <;> simp [hy, e]
/-- All ports that are picked were seen: no more, no less. -/
theorem seen_ports {wz : Int × List Int} {S : List Int} (h2 : S.Nodup) (hS : ∀ y, y ∈ S ↔ wz.1 = 3 ∧ y ∈ wz.2) : S.length = (portsOf wz).length := by
  have hp : (portsOf wz).Nodup := (ports_up wz).imp fun h => by omega
  have a := h2.length_le_of_subset (l₂ := portsOf wz) fun x hx => ports_mem.2 ((hS x).1 hx)
  have b := hp.length_le_of_subset (l₂ := S) fun x hx => (hS x).2 (ports_mem.1 hx)
  omega
end Go.Proofs.Ythlommalbkhcjaa
