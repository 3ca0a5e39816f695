/- Layer 12: LfiRests' plain law, what the walk asks. -/
import Derived.Test.YtahdjfegihnolaaLfS
import Derived.Test.YtahdjfegihnolaaLwC
namespace Go.Proofs.Ytahdjfegihnolaa
/-- What is owed is not much. -/
theorem oi_len {c : Lc} (h : LcOk c) {W : List Tl} (hi : OI c W) : W.length ≤ 8 * c.all.length := by
  have hcnt : ∀ q p, cntO W q p ≤ 1 := fun q p => by
    rw [hi.h q p]
    cases hf : findE c.all p with
    | none => exact Nat.zero_le _
    | some x => exact (h.e x (find_mem hf).1).aw q
  have hnd : (W.map fun t => (t.1, t.2.1)).Nodup := by
    rw [List.nodup_iff_count]
    intro a
    have e : List.count a (W.map fun t => (t.1, t.2.1)) = cntO W a.1 a.2 := by
      unfold cntO
      rw [List.count_eq_countP, List.countP_map]
      congr 1
    rw [e]
    exact hcnt _ _
  have hsub : (W.map fun t => (t.1, t.2.1)) ⊆ (List.range 8).flatMap fun q => c.all.map fun x => (q, x.p) := by
    intro a ha
    obtain ⟨t, ht, rfl⟩ := List.mem_map.1 ha
    have h2 : cntO W t.1 t.2.1 ≠ 0 := by
      unfold cntO
      have := (List.countP_pos_iff (p := fun u : Tl => u.1 == t.1 && u.2.1 == t.2.1) (l := W)).2 ⟨t, ht, by simp⟩
      omega
    rw [hi.h] at h2
    cases hf : findE c.all t.2.1 with
    | none => rw [hf] at h2; exact absurd rfl h2
    | some x =>
      rw [hf] at h2
      obtain ⟨hm, hp⟩ := find_mem hf
      have hup : c.pc.up t.1 = true := by
        cases hu : c.pc.up t.1 with
        | true => rfl
        | false => exact absurd ((h.e x hm).sd t.1 hu).2 h2
      refine List.mem_flatMap.2 ⟨t.1, List.mem_range.2 (h.pc.lt t.1 hup), List.mem_map.2 ⟨x, hm, by rw [hp]⟩⟩
  have := hnd.length_le_of_subset hsub
  rw [List.length_map] at this
  refine Nat.le_trans this ?_
  simp [List.range, List.range.loop]
  omega
theorem oi_new {room : Int} {l : List Pf} {all : List Le} (h : newF room l = some all) : OI ⟨room, ⟨fun _ => false, fun _ => 0⟩, all⟩ [] := by
  have hok := (newF_ok h).1
  refine ⟨fun q p => ?_⟩
  show 0 = awO q (findE all p)
  cases hf : findE all p with
  | none => rfl
  | some x => exact ((hok.e x (find_mem hf).1).sd q rfl).2.symm
/-- Nothing is owed: all are passive. -/
theorem oi_pas {c : Lc} (h : LcOk c) (hi : OI c []) : ∀ x ∈ c.all, actF x = false := fun x hx => act_of fun q hq => by
  have := hi.h q x.p
  have hs : findE c.all x.p = some x := by
    cases hf : findE c.all x.p with
    | none => exact absurd rfl (find_none hf x hx)
    | some y =>
      obtain ⟨h1, h2⟩ := find_mem hf
      have hp : (c.all.map (·.p)).Pairwise lessP := h.srt
      clear hf this
      generalize c.all = l at hx h1 hp
      induction l with
      | nil => cases hx
      | cons a l ih =>
        rw [List.map_cons, List.pairwise_cons] at hp
        have hn : ∀ z ∈ l, z.p ≠ a.p := fun z hz e => by
          have h9 := hp.1 z.p (List.mem_map_of_mem hz)
          rw [e] at h9
          unfold lessP at h9
          omega
        rcases List.mem_cons.1 hx with e1 | hx'
        · rcases List.mem_cons.1 h1 with e2 | h1'
          · rw [e1, e2]
          · exact absurd (h2.trans (by rw [e1])) (hn y h1')
        · rcases List.mem_cons.1 h1 with e2 | h1'
          · exact absurd (h2.symm.trans (by rw [e2])) (hn x hx')
          · exact ih hx' h1' hp.2
  rw [hs] at this
  exact this.symm
/-- The successors up to a port. -/
def nxK (c : Pc) (x : Le) (k : Nat) : List (Nat × Int) := ((List.range k).filter fun p => x.tk && !x.own && c.up p && decide (x.said p < x.feas) && decide (x.said p + c.cost p < 255)).map fun p => (p, x.said p + c.cost p)
def nxB (c : Pc) (x : Le) (p : Nat) : Bool := x.tk && !x.own && c.up p && decide (x.said p < x.feas) && decide (x.said p + c.cost p < 255)
theorem nxK_succ (c : Pc) (x : Le) (k : Nat) : nxK c x (k + 1) = nxK c x k ++ (if nxB c x k = true then [(k, x.said k + c.cost k)] else []) := by
  unfold nxK
  rw [List.range_succ, List.filter_append, List.map_append]
  congr 1
  by_cases h : nxB c x k = true
  · rw [if_pos h]; unfold nxB at h; simp [h]
  · rw [if_neg h]; unfold nxB at h; simp [h]
theorem nxK_pre (c : Pc) (x : Le) : ∀ (m k : Nat), ∃ r, nxK c x (k + m) = nxK c x k ++ r
  | 0, k => ⟨[], by simp⟩
  | m + 1, k => by
    obtain ⟨r, hr⟩ := nxK_pre c x m k
    exact ⟨r ++ _, by rw [← Nat.add_assoc, nxK_succ, hr, List.append_assoc]⟩
theorem nxK_all (c : Pc) (x : Le) : nextF c x = nxK c x 8 := rfl
theorem nxK_le (c : Pc) (x : Le) {k : Nat} (hk : k ≤ 8) : (nxK c x k).length ≤ (nextF c x).length := by
  obtain ⟨r, hr⟩ := nxK_pre c x (8 - k) k
  rw [nxK_all, show 8 = k + (8 - k) by omega, hr, List.length_append]
  omega
theorem nxK_at {c : Pc} {x : Le} {k : Nat} (hk : k < 8) (h : nxB c x k = true) : (nextF c x)[(nxK c x k).length]? = some (k, x.said k + c.cost k) := by
  obtain ⟨r, hr⟩ := nxK_pre c x (8 - (k + 1)) (k + 1)
  rw [nxK_all, show 8 = (k + 1) + (8 - (k + 1)) by omega, hr, nxK_succ, if_pos h]
  simp
theorem nxK_lt {c : Pc} {x : Le} {k : Nat} (hk : k < 8) (h : nxB c x k = true) : (nxK c x k).length < (nextF c x).length := (List.getElem?_eq_some_iff.1 (nxK_at hk h)).1
theorem nxK_len (c : Pc) (x : Le) (k : Nat) : (nxK c x k).length ≤ k := by
  unfold nxK
  rw [List.length_map]
  exact Nat.le_trans (List.length_filter_le _ _) (by rw [List.length_range]; exact Nat.le_refl _)
/-- An event that is refused changes nothing; one that is done brings at most one entry. -/
theorem do_no {c : Lc} {e : Ev} (h : (doF c e).2.2 ≠ 0) : doF c e = (c, [], (doF c e).2.2) := by
  unfold doF at h ⊢
  split
  · rfl
  · rename_i hw
    rw [if_neg hw] at h
    cases hs : stepE c e with
    | inr n => rfl
    | inl r => rw [hs] at h; exact absurd rfl h
end Go.Proofs.Ytahdjfegihnolaa
