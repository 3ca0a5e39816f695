/- Layer 12: Do. -/
import Derived.Test.YtahdjfegihnolaaLzS
namespace Go.Proofs.Ytahdjfegihnolaa
open Go.RowKit Go.Sort
theorem flat_len {f : Le → List Tl} (hf : ∀ x, (f x).length ≤ 8) : ∀ l : List Le, (l.flatMap f).length ≤ 8 * l.length
  | [] => by simp
  | x :: l => by
    have := flat_len hf l
    have := hf x
    rw [List.flatMap_cons, List.length_append, List.length_cons]
    omega
theorem lookAllF_len (c : Pc) (l : List Le) : (lookAllF c l).2.length ≤ 8 * l.length := flat_len (fun x => lookF_len c x) l
theorem outE_len (l : List Le) (p : Pf) {f : Le → List Tl} (hf : ∀ x, (f x).length ≤ 8) : (outE l p f).length ≤ 8 * l.length :=
  flat_len (fun x => by split <;> first | exact hf x | simp) l
theorem step_len {c : Lc} {e : Ev} {pc : Pc} {l : List Le} {o : List Tl} (hs : stepE c e = .inl (pc, l, o)) : o.length ≤ 9 * (c.all.length + 1) := by
  unfold stepE at hs
  dsimp only at hs
  have hd : ∀ p, (portDownF c.pc c.all p).1.length = c.all.length ∧ (portDownF c.pc c.all p).2.length ≤ 8 * c.all.length := fun p => by
    unfold portDownF
    refine ⟨by unfold lookAllF; simp, ?_⟩
    have := lookAllF_len (downF c.pc p) (c.all.map (cutE p))
    rwa [List.length_map] at this
  have ht : ∀ p (l : List Le), (tellUp p l).2.length ≤ l.length := fun p l => by
    unfold tellUp
    rw [List.length_map]
    exact List.length_filter_le _ _
  by_cases h1 : e.kind = 1
  · rw [if_pos h1] at hs
    injection hs with hs
    injection hs with _ hs
    injection hs with _ hs
    rw [← hs, List.length_append]
    by_cases hu : c.pc.up e.port.toNat = true
    · rw [if_pos hu]
      have := hd e.port.toNat
      have := ht e.port.toNat (portDownF c.pc c.all e.port.toNat).1
      omega
    · rw [if_neg hu]
      have := ht e.port.toNat c.all
      simp only [List.length_nil]
      omega
  rw [if_neg h1] at hs
  by_cases h2 : e.kind = 2
  · rw [if_pos h2] at hs
    injection hs with hs
    injection hs with _ hs
    have := (hd e.port.toNat).2
    rw [hs] at this
    dsimp only at this
    omega
  rw [if_neg h2] at hs
  by_cases h3 : e.kind = 3
  · rw [if_pos h3] at hs
    injection hs with hs
    injection hs with _ hs
    have := lookAllF_len ⟨c.pc.up, setAt c.pc.cost e.port.toNat e.cost⟩ c.all
    rw [hs] at this
    dsimp only at this
    omega
  rw [if_neg h3] at hs
  by_cases h4 : e.kind = 4
  · rw [if_pos h4] at hs
    split at hs
    · cases hs
    · injection hs with hs
      injection hs with _ hs
      injection hs with _ hs
      rw [← hs]
      have := outE_len (if findE c.all e.p = none then insE (newE e.p (decide ((cntT c.all : Int) < c.room))) c.all else c.all) e.p (f := fun x => (lookF c.pc (hearF e.port.toNat e.dist x)).2) (fun x => lookF_len _ _)
      have h5 : (if findE c.all e.p = none then insE (newE e.p (decide ((cntT c.all : Int) < c.room))) c.all else c.all).length ≤ c.all.length + 1 := by
        split
        · rw [insE_len]; omega
        · omega
      omega
  rw [if_neg h4] at hs
  split at hs
  · cases hs
  · split at hs
    · cases hs
    · injection hs with hs
      injection hs with _ hs
      injection hs with _ hs
      rw [← hs]
      have := outE_len c.all e.p (f := fun x => (lookF c.pc (ackF e.port.toNat x)).2) (fun x => lookF_len _ _)
      omega
/-- What Do leaves. -/
def DoPost (w : World) (cb mb : Nat) (room : Int) (c : Pc) (G : List GE) (e : Ev) (en : Ending) (w' : World) : Prop :=
  ∃ (v : Value) (G' : List GE) (ov' : Value), en = .returned (.tuple #[v, .int .i64 (((doF ⟨room, c, G.map (·.x)⟩ e).2.2 : Nat) : Int)]) ∧ OutM w' w.heap.size v (doF ⟨room, c, G.map (·.x)⟩ e).2.1 ∧
    CoM w' cb mb ov' room (doF ⟨room, c, G.map (·.x)⟩ e).1.pc G' ∧ G'.map (·.x) = (doF ⟨room, c, G.map (·.x)⟩ e).1.all ∧ OldB w G G' ∧ Upd (CoMut cb mb G) w w'
theorem zero_fn (w : World) : (zeroValue 89).run Try.prog w = .ok .nilFunc w := by kernel_rfl
end Go.Proofs.Ytahdjfegihnolaa
