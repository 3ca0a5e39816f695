/- Layer 12: LfiTells' plain law. -/
import Derived.Test.YtahdjfegihnolaaLfP
namespace Go.Proofs.Ytahdjfegihnolaa

def las (s : List (Nat × Int)) : Option Int := (s.map (·.2)).getLast?
theorem las_app (a b : List (Nat × Int)) : las (a ++ b) = (las b).or (las a) := by unfold las; rw [List.map_append, List.getLast?_append]
theorem las_tls {c : Pc} {x : Le} {d : Int} (h : las (tls c x) = some d) : d = (lookF c x).1.told ∧ upsF c ≠ [] := by
  unfold tls at h
  split at h
  · rename_i hh
    have hu : upsF c ≠ [] := by
      intro e
      rw [e] at h
      cases h
    have hd : d = distF c x := by
      unfold las at h
      have := List.mem_of_getLast? h
      rw [List.map_map] at this
      obtain ⟨q, _, rfl⟩ := List.mem_map.1 this
      rfl
    refine ⟨?_, hu⟩
    unfold lookF
    rw [if_neg (by rw [hh.1]; simp), if_neg hh.2]
    exact hd
  · cases h
theorem tls_nil {c : Pc} {x : Le} (h : las (tls c x) = none) : (lookF c x).1.told = x.told ∨ upsF c = [] := by
  unfold tls at h
  split at h
  · right
    unfold las at h
    rw [List.getLast?_eq_none_iff, List.map_eq_nil_iff, List.map_eq_nil_iff] at h
    exact h
  · rename_i hh
    left
    unfold lookF
    by_cases ha : actF x = true
    · rw [if_pos ha]
    · rw [if_neg ha]
      by_cases hd : distF c x = x.told
      · rw [if_pos hd]
      · exact absurd ⟨by simpa using ha, hd⟩ hh
theorem mem_tls {c : Pc} {x : Le} {q : Nat} {d : Int} (h : (q, d) ∈ tls c x) : q < 8 ∧ c.up q = true ∧ ∀ q', q' < 8 → c.up q' = true → (q', d) ∈ tls c x := by
  unfold tls at h ⊢
  split at h
  · rename_i hh
    obtain ⟨a, ha, e⟩ := List.mem_map.1 h
    simp only [Prod.mk.injEq] at e
    obtain ⟨rfl, rfl⟩ := e
    obtain ⟨h1, h2⟩ := mem_ups.1 ha
    exact ⟨h1, h2, fun q' h3 h4 => by rw [if_pos hh]; exact List.mem_map.2 ⟨q', mem_ups.2 ⟨h3, h4⟩, rfl⟩⟩
  · cases h
/-- What is told of an entry, ex: ports that stand apart. -/
structure KT (c : Pc) (ex : Nat → Prop) (ox : Option Le) (s : List (Nat × Int)) : Prop where
  g : ∀ q d, (q, d) ∈ s → q < 8 ∧ c.up q = true ∧ (¬ ex q → ∀ q', q' < 8 → c.up q' = true → ¬ ex q' → (q', d) ∈ s)
  l : ∀ x, ox = some x → ∀ d, las s = some d → d = x.told
theorem KT.ups {c : Pc} {ex : Nat → Prop} {ox : Option Le} {s : List (Nat × Int)} (h : KT c ex ox s) (hu : upsF c = []) : s = [] := by
  rw [List.eq_nil_iff_forall_not_mem]
  rintro ⟨q, d⟩ hm
  obtain ⟨h1, h2, _⟩ := h.g q d hm
  have := mem_ups.2 ⟨h1, h2⟩
  rw [hu] at this
  cases this
theorem KT.look {c : Pc} {ex : Nat → Prop} {x : Le} {s : List (Nat × Int)} (h : KT c ex (some x) s) {y : Le} (hy : y.told = x.told) : KT c ex (some (lookF c y).1) (s ++ tls c y) := by
  refine ⟨fun q d hm => ?_, fun z hz d hd => ?_⟩
  · rcases List.mem_append.1 hm with hm | hm
    · obtain ⟨h1, h2, h3⟩ := h.g q d hm
      exact ⟨h1, h2, fun he q' a b e => List.mem_append_left _ (h3 he q' a b e)⟩
    · obtain ⟨h1, h2, h3⟩ := mem_tls hm
      exact ⟨h1, h2, fun _ q' a b _ => List.mem_append_right _ (h3 q' a b)⟩
  · injection hz with hz
    subst hz
    rw [las_app] at hd
    cases ht : las (tls c y) with
    | some d' =>
      rw [ht] at hd
      injection hd with hd
      subst hd
      exact (las_tls ht).1
    | none =>
      rw [ht] at hd
      rcases tls_nil ht with h1 | h1
      · rw [h1, hy]
        exact h.l x rfl d hd
      · rw [h.ups h1] at hd
        cases hd
theorem KT.nil {c : Pc} {ex : Nat → Prop} {ox : Option Le} : KT c ex ox [] := ⟨fun _ _ h => (by cases h), fun _ _ _ h => (by cases h)⟩
theorem step_kt {c : Lc} (_h : LcOk c) {e : Ev} (hok : okE e = true) (p : Pf) (ox : Option Le) : KT (pcX c e) (fun q => e.kind = 1 ∧ q = e.port.toNat) (stepX c e p ox).1 (stepX c e p ox).2 := by
  obtain ⟨hp0, hp8⟩ := okE_p hok
  have hp : e.port.toNat < 8 := by omega
  unfold stepX pcX
  simp only
  by_cases k1 : e.kind = 1
  · rw [if_pos k1, if_pos k1]
    have hup : ∀ d : Pc, (upF d e.port.toNat e.cost).up e.port.toNat = true := fun d => by unfold upF setB; simp
    have hoth : ∀ (d : Pc) q, d.up q = true → (upF d e.port.toNat e.cost).up q = true := fun d q hq => by unfold upF setB; simp only; split; rfl; exact hq
    have hback : ∀ (d : Pc) q, q ≠ e.port.toNat → (upF d e.port.toNat e.cost).up q = true → d.up q = true := fun d q hq h => by unfold upF setB at h; simp only [if_neg hq] at h; exact h
    have htell : ∀ (d : Pc) (s : List (Nat × Int)) (oy : Option Le), (∀ q v, (q, v) ∈ s → q < 8 ∧ d.up q = true ∧ ∀ q', q' < 8 → d.up q' = true → (q', v) ∈ s) → (∀ y, oy = some y → ∀ v, las s = some v → v = y.told) → KT (upF d e.port.toNat e.cost) (fun q => e.kind = 1 ∧ q = e.port.toNat) (oy.map (tellX e.port.toNat)) (s ++ optS (tellS e.port.toNat) oy) := fun d s oy h1 h2 => by
      refine ⟨fun q v hm => ?_, fun z hz v hv => ?_⟩
      · rcases List.mem_append.1 hm with hm | hm
        · obtain ⟨a1, a2, a3⟩ := h1 q v hm
          exact ⟨a1, hoth d q a2, fun _ q' b1 b2 b3 => List.mem_append_left _ (a3 q' b1 (hback d q' (fun e2 => b3 ⟨k1, e2⟩) b2))⟩
        · unfold optS tellS at hm
          cases oy with
          | none => cases hm
          | some y =>
            simp only at hm
            split at hm
            · rw [List.mem_singleton] at hm
              simp only [Prod.mk.injEq] at hm
              obtain ⟨rfl, rfl⟩ := hm
              exact ⟨hp, hup d, fun hn => absurd ⟨k1, rfl⟩ hn⟩
            · cases hm
      · cases oy with
        | none => cases hz
        | some y =>
          simp only [Option.map_some, Option.some.injEq] at hz
          subst hz
          have ht : (tellX e.port.toNat y).told = y.told := by unfold tellX; split <;> rfl
          rw [ht]
          rw [las_app] at hv
          unfold optS tellS at hv
          simp only at hv
          split at hv
          · simp [las] at hv
            exact hv.symm
          · have : las ([] : List (Nat × Int)) = none := rfl
            rw [this] at hv
            exact h2 y rfl v hv
    by_cases hu : c.pc.up e.port.toNat = true
    · rw [if_pos hu, if_pos hu]
      refine htell _ _ _ (fun q v hm => ?_) fun y hy v hv => ?_
      · cases ox with
        | none => cases hm
        | some x => exact mem_tls hm
      · cases ox with
        | none => cases hy
        | some x =>
          simp only [Option.map_some, Option.some.injEq] at hy
          subst hy
          exact (las_tls hv).1
    · rw [if_neg hu, if_neg hu]
      have := htell c.pc [] ox (fun q v hm => by cases hm) (fun y _ v hv => by cases hv)
      rwa [List.nil_append] at this
  rw [if_neg k1, if_neg k1]
  have hl : ∀ (d : Pc) (ex : Nat → Prop) (f : Le → Le), (∀ x, (f x).told = x.told) → KT d ex (ox.map fun x => (lookF d (f x)).1) (optS (fun x => tls d (f x)) ox) := fun d ex f hf => by
    cases ox with
    | none => exact KT.nil
    | some x =>
      have := (KT.nil (c := d) (ex := ex) (ox := some x)).look (hf x)
      rwa [List.nil_append] at this
  by_cases k2 : e.kind = 2
  · rw [if_pos k2, if_pos k2]
    exact hl _ _ (cutE e.port.toNat) fun _ => rfl
  rw [if_neg k2, if_neg k2]
  by_cases k3 : e.kind = 3
  · rw [if_pos k3, if_pos k3]
    exact hl _ _ id fun _ => rfl
  rw [if_neg k3, if_neg k3]
  by_cases hpe : p ≠ e.p
  · rw [if_pos hpe]
    exact KT.nil
  rw [if_neg hpe]
  by_cases k4 : e.kind = 4
  · rw [if_pos k4]
    have := (KT.nil (c := c.pc) (ex := fun q => e.kind = 1 ∧ q = e.port.toNat) (ox := some (ox.getD (newE p (decide ((cntT c.all : Int) < c.room)))))).look (y := hearF e.port.toNat e.dist (ox.getD (newE p (decide ((cntT c.all : Int) < c.room))))) rfl
    rwa [List.nil_append] at this
  · rw [if_neg k4]
    exact hl _ _ (ackF e.port.toNat) fun _ => rfl
/-- What an event that is not refused tells. -/
theorem do_parts {c : Lc} {e : Ev} {c' : Lc} {o : List Tl} (hd : doF c e = (c', o, 0)) : okE e = true ∧ wrongF c.pc e = 0 ∧ ∃ l o1, stepE c e = .inl (c'.pc, l, o1) ∧ c'.all = (tidyW c'.pc c.room l).1 ∧ o = o1 ++ (tidyW c'.pc c.room l).2 ∧ c'.room = c.room := by
  unfold doF at hd
  by_cases hw : wrongF c.pc e = 0
  · rw [if_neg (by simpa using hw)] at hd
    have hok : okE e = true := by
      unfold wrongF at hw
      cases hh : okE e with
      | true => rfl
      | false => rw [hh] at hw; simp at hw
    refine ⟨hok, hw, ?_⟩
    cases hs : stepE c e with
    | inr n =>
      rw [hs] at hd
      simp only [Prod.mk.injEq] at hd
      exfalso
      obtain ⟨_, _, rfl⟩ := hd
      unfold stepE at hs
      simp only at hs
      split at hs
      · cases hs
      split at hs
      · cases hs
      split at hs
      · cases hs
      split at hs
      · split at hs
        · cases hs
        · cases hs
      · split at hs
        · cases hs
        · split at hs <;> cases hs
    | inl r =>
      obtain ⟨pc, l, o1⟩ := r
      rw [hs] at hd
      simp only [Prod.mk.injEq] at hd
      obtain ⟨rfl, rfl, _⟩ := hd
      exact ⟨l, o1, rfl, rfl, rfl, rfl⟩
  · rw [if_pos hw] at hd
    simp only [Prod.mk.injEq] at hd
    exact absurd hd.2.2 hw
theorem tells_law {c : Lc} (h : LcOk c) {e : Ev} {c' : Lc} {o : List Tl} (hd : doF c e = (c', o, 0)) (p : Pf) :
    KT c'.pc (fun q => e.kind = 1 ∧ q = e.port.toNat) (findE c'.all p) (selp o p) ∧ ((e.kind = 3 ∨ e.kind = 4) → ∀ x, findE c.all p = some x → actF x = true → selp o p = []) := by
  obtain ⟨hok, hw, l, o1, hs, e1, e2, _⟩ := do_parts hd
  obtain ⟨s1, s2, s3, s4, s5⟩ := step_ok h hw hs
  obtain ⟨x1, x2, x3⟩ := step_x h hs p
  have hev := tidy_evt c'.pc c.room p _ l (Nat.le_refl _) s2
  rw [e1, e2, selp_app]
  constructor
  · refine hev.ind (K := KT c'.pc fun q => e.kind = 1 ∧ q = e.port.toNat) (fun x s hk _ => ⟨hk.g, fun _ hh => (by cases hh)⟩) (fun x s hk _ => hk.look rfl) _ ?_
    rw [x2, x3, x1]
    exact step_kt h hok p _
  · intro hk x hx ha
    have ht : x.tk = true := by
      cases hh : x.tk with
      | true => rfl
      | false =>
        have := (h.e x (find_mem hx).1).un hh
        rw [act_of fun q _ => this.2 q] at ha
        cases ha
    have := hev.ind (K := fun ox s => s = [] ∧ ∃ x, ox = some x ∧ actF x = true ∧ x.tk = true) (fun x s hk hst => by
        obtain ⟨_, y, hy, h1, _⟩ := hk
        injection hy with hy
        subst hy
        unfold staysF at hst
        rw [h1] at hst
        simp at hst) (fun x s hk hst => by
        obtain ⟨_, y, hy, _, h2⟩ := hk
        injection hy with hy
        subst hy
        rw [hst] at h2
        cases h2) (selp o1 p) (by
        have hlk : ∀ (d : Pc) (y : Le), actF y = true → tls d y = [] ∧ actF (lookF d y).1 = true ∧ (lookF d y).1.tk = y.tk := fun d y hy => by
          unfold tls lookF
          rw [if_neg (by rw [hy]; simp), if_pos hy]
          exact ⟨rfl, hy, rfl⟩
        rw [x2, x3, hx]
        unfold stepX
        simp only
        rw [if_neg (by omega), if_neg (by omega)]
        rcases hk with hk | hk
        · rw [if_pos hk]
          obtain ⟨a1, a2, a3⟩ := hlk ⟨c.pc.up, setAt c.pc.cost e.port.toNat e.cost⟩ x ha
          exact ⟨a1, _, rfl, a2, a3.trans ht⟩
        · rw [if_neg (by omega)]
          by_cases hpe : p ≠ e.p
          · rw [if_pos hpe]
            exact ⟨rfl, x, rfl, ha, ht⟩
          · rw [if_neg hpe, if_pos hk]
            obtain ⟨a1, a2, a3⟩ := hlk c.pc (hearF e.port.toNat e.dist x) ha
            exact ⟨a1, _, rfl, a2, a3.trans ht⟩)
    exact this.1
end Go.Proofs.Ytahdjfegihnolaa
