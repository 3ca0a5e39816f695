/- Layer 12: LfiHeld's plain law, what the walk asks. -/
import Derived.Test.YtahdjfegihnolaaLfR
import Derived.Test.YtahdjfegihnolaaLwR
import Derived.Test.YtahdjfegihnolaaLzS
namespace Go.Proofs.Ytahdjfegihnolaa
theorem takeR_out (c : Pc) (room : Int) : ∀ (l : List Le) (n : Nat), (takeR c room n l).2.1.length ≤ 8 * (takeR c room n l).2.2
  | [], _ => Nat.le_refl _
  | x :: l, n => by
    unfold takeR
    by_cases h : x.tk = false ∧ (n : Int) < room
    · rw [if_pos h]
      have h1 := takeR_out c room l (n + 1)
      have h2 := lookF_len c { x with tk := true }
      dsimp only
      rw [List.length_append]
      omega
    · rw [if_neg h]
      exact takeR_out c room l n
theorem tidy_out (c : Pc) (room : Int) : ∀ (m : Nat) (l : List Le), l.length + untk l ≤ m → (tidyW c room l).2.length ≤ 8 * untk l
  | m, l, hm => by
    have d1 := takeR_len c room (stayL l) (cntT (stayL l))
    have d3 : untk (stayL l) ≤ untk l := untk_filter l
    have d4 : (stayL l).length ≤ l.length := List.length_filter_le staysF l
    have d5 := takeR_out c room (stayL l) (cntT (stayL l))
    rw [tidyW]
    split
    · exact Nat.zero_le _
    · rename_i hh
      match m with
      | 0 => omega
      | m + 1 =>
        have ih := tidy_out c room m (takeR c room (cntT (stayL l)) (stayL l)).1 (by omega)
        dsimp only
        rw [List.length_append]
        omega
/-- What an event tells is not much. -/
theorem do_out {S : Lc} (h : LcOk S) (e : Ev) : (doF S e).2.1.length ≤ 20000 := by
  unfold doF
  split
  · exact Nat.zero_le _
  · rename_i hw
    cases hs : stepE S e with
    | inr n => exact Nat.zero_le _
    | inl r =>
      obtain ⟨pc, l, o⟩ := r
      have hw' : wrongF S.pc e = 0 := by simpa using hw
      obtain ⟨s1, s2, s3, s4, s5⟩ := step_ok h hw' hs
      have h1 := step_len hs
      have h2 := tidy_out pc S.room _ l (Nat.le_refl _)
      have h3 : untk l ≤ l.length := List.countP_le_length
      have h4 := h.len
      dsimp only
      rw [List.length_append]
      omega
/-- What some port may hold. -/
theorem held_le {T : Lc} (h : LcOk T) {H : Held} (hi : HI T H) {q : Nat} (hq : T.pc.up q = true) {x : Le} (hx : x ∈ T.all) : ∀ z ∈ H q x.p, x.feas ≤ z := by
  intro z hz
  have hne : H q x.p ≠ [] := fun e => by rw [e] at hz; cases hz
  have h1 := hi.h q hq x.p
  rw [hv_ne hne] at h1
  have hs : findE T.all x.p = some x := by
    have := h.srt
    cases hf : findE T.all x.p with
    | none => exact absurd rfl (find_none hf x hx)
    | some y =>
      obtain ⟨h1, h2⟩ := find_mem hf
      have hp : (T.all.map (·.p)).Pairwise lessP := this
      clear hf
      generalize T.all = l at hx h1 hp
      induction l with
      | nil => cases hx
      | cons a l ih =>
        rw [List.map_cons, List.pairwise_cons] at hp
        have hn : ∀ z ∈ l, z.p ≠ a.p := fun z hz e => by
          have h9 := hp.1 z.p (List.mem_map_of_mem hz)
          rw [e] at h9
          unfold lessP at h9
          omega
        rcases List.mem_cons.1 hx with e1 | hx'
        · rcases List.mem_cons.1 h1 with e2 | h1'
          · rw [e1, e2]
          · exact absurd (h2.trans (by rw [e1])) (hn y h1')
        · rcases List.mem_cons.1 h1 with e2 | h1'
          · exact absurd (h2.symm.trans (by rw [e2])) (hn x hx')
          · exact ih hx' h1' hp.2
  rw [hs] at h1
  have hf := (h.e x hx).f.2
  rcases h1 with ⟨_, hL⟩ | ⟨_, v, hL, hle⟩
  · rw [hL] at hz
    have : z = x.told := by simpa using hz
    omega
  · rw [hL] at hz
    rcases List.mem_cons.1 hz with e | e
    · omega
    · have : z = x.told := by simpa using e
      omega
theorem held_none {T : Lc} {H : Held} (hi : HI T H) {q : Nat} (hq : T.pc.up q = true) {p : Pf} (hn : findE T.all p = none) : ∀ z ∈ H q p, z = 255 := by
  intro z hz
  have hne : H q p ≠ [] := fun e => by rw [e] at hz; cases hz
  have h1 := hi.h q hq p
  rw [hv_ne hne, hn] at h1
  have h2 : H q p = [255] := h1
  rw [h2] at hz
  simpa using hz
theorem pas_feas {T : Lc} (h : LcOk T) {x : Le} (hx : x ∈ T.all) (ha : actF x = false) : ¬ distF T.pc x < x.feas := by
  have := (h.e x hx).pas ha
  omega
/-- The books, step by step. -/
def heldA (H : Held) (e : Ev) : Held := if e.kind = 1 ∨ e.kind = 2 then fun r p => if r = e.port.toNat then [] else H r p else H
def heldB (H : Held) (e : Ev) : Held := if e.kind = 5 then fun r p => if r = e.port.toNat ∧ p = e.p then (H r p).tail else H r p else H
theorem held_steps {H H' : Held} {e : Ev} {o : List Tl} (h : heldDo H e o = some H') : H' = tellsH (heldB (heldA H e) e) o ∧ (e.kind = 5 → 2 ≤ (H e.port.toNat e.p).length) := by
  unfold heldDo at h
  dsimp only at h
  unfold heldB heldA
  by_cases k12 : e.kind = 1 ∨ e.kind = 2
  · rw [if_pos k12] at h ⊢
    injection h with h
    rw [if_neg (by omega)]
    exact ⟨h.symm, fun e5 => by omega⟩
  · rw [if_neg k12] at h ⊢
    by_cases k5 : e.kind = 5
    · rw [if_pos k5] at h ⊢
      by_cases h2 : (H e.port.toNat e.p).length < 2
      · rw [if_pos h2] at h; cases h
      · rw [if_neg h2] at h
        injection h with h
        exact ⟨h.symm, fun _ => by omega⟩
    · rw [if_neg k5] at h ⊢
      injection h with h
      exact ⟨h.symm, fun e5 => absurd e5 k5⟩
theorem tells_snoc (H : Held) (o : List Tl) {k : Nat} {t : Tl} (h : o[k]? = some t) : tellsH H (o.take (k + 1)) = tellH (tellsH H (o.take k)) t := by
  unfold tellsH
  rw [List.take_add_one, h]
  simp
theorem hv_len (l : List Int) : (hv l).length ≤ l.length + 1 := by
  unfold hv
  split
  · simp
  · omega
theorem tells_len {K : Nat} : ∀ (o : List Tl) (H : Held), (∀ q p, (H q p).length ≤ K) → ∀ q p, (tellsH H o q p).length ≤ K + 2 * o.length
  | [], _, h => fun q p => by simpa [tellsH] using h q p
  | t :: o, H, h => fun q p => by
    have h1 : ∀ q p, (tellH H t q p).length ≤ K + 2 := fun q p => by
      unfold tellH
      have := hv_len (H q p)
      have := h q p
      split
      · rw [List.length_append, List.length_singleton]; omega
      · omega
    have h2 := tells_len (K := K + 2) o (tellH H t) h1 q p
    have e1 : tellsH H (t :: o) = tellsH (tellH H t) o := rfl
    rw [e1, List.length_cons]
    omega
/-- A port that is up has been up, or comes up. -/
theorem up_from {S T : Lc} {e : Ev} {o : List Tl} (hd : doF S e = (T, o, 0)) {q : Nat} (hq : T.pc.up q = true) : S.pc.up q = true ∨ ((e.kind = 1 ∨ e.kind = 2) ∧ q = e.port.toNat) := by
  obtain ⟨hok, hw, l, o1, hs, e1, e2, _⟩ := do_parts hd
  unfold stepE at hs
  dsimp only at hs
  by_cases k1 : e.kind = 1
  · by_cases hqe : q = e.port.toNat
    · exact .inr ⟨.inl k1, hqe⟩
    · left
      rw [if_pos k1] at hs
      injection hs with hs
      injection hs with hs _
      rw [← hs] at hq
      unfold upF setB at hq
      dsimp only at hq
      rw [if_neg hqe] at hq
      by_cases hu : S.pc.up e.port.toNat = true
      · rw [if_pos hu] at hq
        unfold downF setB at hq
        dsimp only at hq
        rwa [if_neg hqe] at hq
      · rwa [if_neg hu] at hq
  rw [if_neg k1] at hs
  by_cases k2 : e.kind = 2
  · by_cases hqe : q = e.port.toNat
    · exact .inr ⟨.inr k2, hqe⟩
    · left
      rw [if_pos k2] at hs
      injection hs with hs
      injection hs with hs _
      rw [← hs] at hq
      unfold downF setB at hq
      dsimp only at hq
      rwa [if_neg hqe] at hq
  rw [if_neg k2] at hs
  left
  by_cases k3 : e.kind = 3
  · rw [if_pos k3] at hs
    injection hs with hs
    injection hs with hs _
    rw [← hs] at hq
    exact hq
  rw [if_neg k3] at hs
  by_cases k4 : e.kind = 4
  · rw [if_pos k4] at hs
    split at hs
    · cases hs
    · injection hs with hs
      injection hs with hs _
      rw [← hs] at hq
      exact hq
  rw [if_neg k4] at hs
  split at hs
  · cases hs
  · split at hs
    · cases hs
    · injection hs with hs
      injection hs with hs _
      rw [← hs] at hq
      exact hq
theorem ack_up {S T : Lc} {e : Ev} {o : List Tl} (hd : doF S e = (T, o, 0)) (hk : e.kind ≠ 1) : S.pc.up e.port.toNat = true := by
  obtain ⟨hok, hw, _⟩ := do_parts hd
  unfold wrongF at hw
  rw [hok, if_neg (by simp)] at hw
  cases hh : S.pc.up e.port.toNat with
  | true => rfl
  | false => rw [hh, if_pos ⟨hk, rfl⟩] at hw; cases hw
end Go.Proofs.Ytahdjfegihnolaa
