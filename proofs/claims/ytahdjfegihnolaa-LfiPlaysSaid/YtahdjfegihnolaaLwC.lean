/- Layer 12: a new core; the document's example; what the law of room asks. Plain. -/
import Derived.Test.YtahdjfegihnolaaLfN
namespace Go.Proofs.Ytahdjfegihnolaa
theorem newF_ok {room : Int} {l : List Pf} {all : List Le} (h : newF room l = some all) : LcOk ⟨room, ⟨fun _ => false, fun _ => 0⟩, all⟩ ∧ all.length ≤ 8 := by
  have main : ∀ (l : List Pf) (a : Option (List Le)) (m : Nat) (b : List Le), (∀ z, a = some z → sortedL z ∧ (∀ x ∈ z, ∃ p, x = ownE p ∧ mayP p = true) ∧ z.length ≤ m) →
      l.foldl (fun a p => match a with | none => none | some l => if mayP p = true ∧ findE l p = none then some (insE (ownE p) l) else none) a = some b → sortedL b ∧ (∀ x ∈ b, ∃ p, x = ownE p ∧ mayP p = true) ∧ b.length ≤ m + l.length := by
    intro l
    induction l with
    | nil => intro a m b h1 h2; simpa using h1 b h2
    | cons p l ih =>
      intro a m b h1 h2
      rw [List.foldl_cons] at h2
      have := ih _ (m + 1) b ?_ h2
      · rw [List.length_cons]
        exact ⟨this.1, this.2.1, by omega⟩
      · intro z hz
        cases a with
        | none => cases hz
        | some y =>
          dsimp only at hz
          split at hz
          · rename_i hp
            injection hz with hz
            subst hz
            obtain ⟨s1, s2, s3⟩ := h1 y rfl
            refine ⟨insE_sorted s1 hp.2, fun x hx => ?_, by rw [insE_len]; omega⟩
            rcases mem_insE.1 hx with rfl | hx
            · exact ⟨p, rfl, hp.1⟩
            · exact s2 x hx
          · cases hz
  unfold newF at h
  dsimp only at h
  by_cases hc : 0 ≤ room ∧ room ≤ 64 ∧ l.length ≤ 8
  · rw [if_pos hc] at h
    obtain ⟨s1, s2, s3⟩ := main l (some []) 0 all (fun z hz => by injection hz with hz; subst hz; exact ⟨List.Pairwise.nil, fun x hx => (by cases hx), Nat.le_refl _⟩) h
    have hcn : cntT all = 0 := by
      unfold cntT
      rw [List.countP_eq_zero]
      intro x hx
      obtain ⟨p, rfl, _⟩ := s2 x hx
      simp [ownE]
    refine ⟨⟨⟨fun q => ⟨Int.le_refl _, by show (0 : Int) ≤ 50; decide⟩, fun q _ => rfl, fun q hq => by cases hq⟩, s1, fun x hx => ?_, by show all.length ≤ 1024; omega, ⟨hc.1, hc.2.1⟩, by show ((cntT all : Nat) : Int) ≤ room; rw [hcn]; exact hc.1, fun x hx => ?_⟩, by omega⟩
    · obtain ⟨p, rfl, hp⟩ := s2 x hx
      exact ⟨⟨hp, fun _ => rfl, fun q => ⟨by show (0 : Int) ≤ 255; decide, Int.le_refl _⟩, fun q _ => ⟨rfl, rfl⟩, fun q => Nat.zero_le _, ⟨Int.le_refl _, by show (0 : Int) ≤ 255; decide⟩, ⟨Int.le_refl _, Int.le_refl _⟩, fun e => by cases e⟩, fun _ => ⟨rfl, rfl⟩⟩
    · obtain ⟨p, rfl, hp⟩ := s2 x hx
      exact .inl rfl
  · rw [if_neg hc] at h
    have : ∀ l : List Pf, l.foldl (fun (a : Option (List Le)) p => match a with | none => none | some l => if mayP p = true ∧ findE l p = none then some (insE (ownE p) l) else none) none = none := fun l => by
      induction l with
      | nil => rfl
      | cons a l ih => exact ih
    have h2 := (this l).symm.trans h
    cases h2
/-! ### The example -/
theorem tidy_stop {c : Pc} {room : Int} {l : List Le} (h1 : (stayL l).length = l.length) (h2 : (takeR c room (cntT (stayL l)) (stayL l)).2.2 = 0) : tidyW c room l = (l, []) := by
  rw [tidyW, if_pos ⟨h1, h2⟩]
theorem tidy_go {c : Pc} {room : Int} {l m : List Le} (h1 : (stayL l).length ≠ l.length) (h2 : (takeR c room (cntT (stayL l)) (stayL l)) = (m, [], 0)) (h3 : tidyW c room m = (m, [])) : tidyW c room l = (m, []) := by
  rw [tidyW, if_neg (fun h => h1 h.1), h2, h3]
  rfl
theorem do_of {c : Lc} {e : Ev} {pc : Pc} {l l' : List Le} {o : List Tl} (hw : wrongF c.pc e = 0) (hs : stepE c e = .inl (pc, l, o)) (ht : tidyW pc c.room l = (l', [])) : doF c e = (⟨c.room, pc, l'⟩, o, 0) := by
  unfold doF
  rw [hw, if_neg (by simp), hs]
  dsimp only
  rw [ht, List.append_nil]
def kP : Pf := (167772160, 8)
def kQ : Pf := (184549376, 8)
def kPc : Pc := upF ⟨fun _ => false, fun _ => 0⟩ 0 3
def kX : Le := { ownE kP with aw := setN (fun _ => 0) 0 1 }
def kQ2 : Le := (lookF kPc (hearF 0 4 (newE kQ true))).1
def kQ3 : Le := (lookF kPc (ackF 0 kQ2)).1
def kQ4 : Le := (lookF kPc (hearF 0 255 kQ3)).1
def kQ5 : Le := (lookF kPc (ackF 0 kQ4)).1
set_option maxRecDepth 100000 in
theorem k_new : newF 9 [kP] = some [ownE kP] := rfl
set_option maxRecDepth 100000 in
theorem k_1 : doF ⟨9, ⟨fun _ => false, fun _ => 0⟩, [ownE kP]⟩ ⟨1, 0, 3, (0, 0), 0⟩ = (⟨9, kPc, [kX]⟩, [(0, kP, 0)], 0) := do_of rfl rfl (tidy_stop rfl rfl)
set_option maxRecDepth 100000 in
theorem k_2 : doF ⟨9, kPc, [kX]⟩ ⟨4, 0, 0, kQ, 4⟩ = (⟨9, kPc, [kX, kQ2]⟩, [(0, kQ, 7)], 0) := do_of rfl rfl (tidy_stop rfl rfl)
set_option maxRecDepth 100000 in
theorem k_3 : doF ⟨9, kPc, [kX, kQ2]⟩ ⟨5, 0, 0, kQ, 0⟩ = (⟨9, kPc, [kX, kQ3]⟩, [], 0) := do_of rfl rfl (tidy_stop rfl rfl)
set_option maxRecDepth 100000 in
theorem k_4 : doF ⟨9, kPc, [kX, kQ3]⟩ ⟨4, 0, 0, kQ, 255⟩ = (⟨9, kPc, [kX, kQ4]⟩, [(0, kQ, 255)], 0) := do_of rfl rfl (tidy_stop rfl rfl)
set_option maxRecDepth 100000 in
theorem k_5 : doF ⟨9, kPc, [kX, kQ4]⟩ ⟨5, 0, 0, kQ, 0⟩ = (⟨9, kPc, [kX]⟩, [], 0) := do_of (l := [kX, kQ5]) rfl rfl (tidy_go (by decide) rfl (tidy_stop rfl rfl))
set_option maxRecDepth 100000 in
theorem k_f : actF kQ2 = true ∧ nextF kPc kQ2 = [(0, 7)] ∧ distF kPc kQ2 = 7 ∧ nextF kPc kQ4 = [] := ⟨rfl, rfl, rfl, rfl⟩
/-! ### The law of room -/
theorem room_law {c : Lc} (h : LcOk c) : (cntT c.all : Int) ≤ c.room ∧ (∀ x ∈ c.all, x.tk = false → nextF c.pc x = [] ∧ x.told = 255 ∧ distF c.pc x = 255) ∧ ((∃ x ∈ c.all, x.tk = false) → ¬ (cntT c.all : Int) < c.room) := by
  refine ⟨h.cnt, fun x hx ht => ⟨?_, ((h.e x hx).un ht).1, ?_⟩, fun ⟨x, hx, ht⟩ => ?_⟩
  · unfold nextF
    have : ((List.range 8).filter fun p => x.tk && !x.own && c.pc.up p && decide (x.said p < x.feas) && decide (x.said p + c.pc.cost p < 255)) = [] := by
      rw [List.filter_eq_nil_iff]
      intro p _
      rw [ht]
      simp
    rw [this]
    rfl
  · have ho : x.own = false := by
      cases hoo : x.own with
      | false => rfl
      | true => have := (h.e x hx).own hoo; rw [ht] at this; cases this
    unfold distF
    rw [ho, if_neg (by simp), if_pos ht]
  · rcases h.left x hx with h1 | h1
    · rw [ht] at h1; cases h1
    · omega
end Go.Proofs.Ytahdjfegihnolaa
