/- Layer 12: LfiTells' plain law, what the walk asks. -/
import Derived.Test.YtahdjfegihnolaaLfQ
import Derived.Test.YtahdjfegihnolaaLwC
namespace Go.Proofs.Ytahdjfegihnolaa
/-- What an event that is done tells. -/
structure TlP (S T : Lc) (e : Ev) (o : List Tl) : Prop where
  port : ∃ po : Nat, e.port = (po : Int) ∧ po < 8
  up : ∀ t ∈ o, t.1 < 8 ∧ T.pc.up t.1 = true
  pas : ∀ t ∈ o, ∀ x, findE S.all t.2.1 = some x → actF x = true → e.kind = 5 ∨ e.kind = 2 ∨ e.kind = 1
  all : ∀ t ∈ o, ¬ (e.kind = 1 ∧ (t.1 : Int) = e.port) → ∀ p, p < 8 → T.pc.up p = true → ¬ (e.kind = 1 ∧ (p : Int) = e.port) → ∃ t' ∈ o, t'.1 = p ∧ t'.2 = t.2
  last : ∀ x ∈ T.all, ∀ d, las (selp o x.p) = some d → d = x.told
theorem tells_plain {S T : Lc} (h : LcOk S) {e : Ev} {o : List Tl} (hd : doF S e = (T, o, 0)) : TlP S T e o := by
  have hok := (do_parts hd).1
  obtain ⟨hp0, hp8⟩ := okE_p hok
  have hkind : e.kind = 1 ∨ e.kind = 2 ∨ e.kind = 3 ∨ e.kind = 4 ∨ e.kind = 5 := by
    unfold okE at hok
    by_cases k1 : e.kind = 1
    · exact .inl k1
    by_cases k2 : e.kind = 2
    · exact .inr (.inl k2)
    by_cases k3 : e.kind = 3
    · exact .inr (.inr (.inl k3))
    by_cases k4 : e.kind = 4
    · exact .inr (.inr (.inr (.inl k4)))
    by_cases k5 : e.kind = 5
    · exact .inr (.inr (.inr (.inr k5)))
    · simp [k1, k2, k3, k4, k5] at hok
  have hpe : ∀ q : Nat, q = e.port.toNat ↔ (q : Int) = e.port := fun q => by omega
  have hT : LcOk T := by have := do_ok h e; rw [hd] at this; exact this
  refine ⟨⟨e.port.toNat, by omega, by omega⟩, fun t ht => ?_, fun t ht x hx ha => ?_, fun t ht hn p hp hup hnp => ?_, fun x hx d hl => ?_⟩
  · obtain ⟨k1, _⟩ := tells_law h hd t.2.1
    obtain ⟨a, b, _⟩ := k1.g t.1 t.2.2 (mem_selp.2 ht)
    exact ⟨a, b⟩
  · obtain ⟨_, k2⟩ := tells_law h hd t.2.1
    rcases hkind with hk | hk | hk | hk | hk
    · exact .inr (.inr hk)
    · exact .inr (.inl hk)
    · have := k2 (.inl hk) x hx ha
      have hm := mem_selp.2 ht
      rw [this] at hm
      cases hm
    · have := k2 (.inr hk) x hx ha
      have hm := mem_selp.2 ht
      rw [this] at hm
      cases hm
    · exact .inl hk
  · obtain ⟨k1, _⟩ := tells_law h hd t.2.1
    obtain ⟨a, b, c⟩ := k1.g t.1 t.2.2 (mem_selp.2 ht)
    have := c (fun hh => hn ⟨hh.1, (hpe _).1 hh.2⟩) p hp hup (fun hh => hnp ⟨hh.1, (hpe _).1 hh.2⟩)
    exact ⟨_, mem_selp.1 this, rfl, rfl⟩
  · obtain ⟨k1, _⟩ := tells_law h hd x.p
    refine k1.l x ?_ d hl
    have hs := hT.srt
    cases hf : findE T.all x.p with
    | none => exact absurd rfl (find_none hf x hx)
    | some y =>
      obtain ⟨h1, h2⟩ := find_mem hf
      have hp : (T.all.map (·.p)).Pairwise lessP := hs
      clear hf hl k1
      generalize T.all = l at hx h1 hp
      induction l with
      | nil => cases hx
      | cons a l ih =>
        rw [List.map_cons, List.pairwise_cons] at hp
        have hn : ∀ z ∈ l, z.p ≠ a.p := fun z hz e => by
          have h9 := hp.1 z.p (List.mem_map_of_mem hz)
          rw [e] at h9
          unfold lessP at h9
          omega
        rcases List.mem_cons.1 hx with e1 | hx'
        · rcases List.mem_cons.1 h1 with e2 | h1'
          · rw [e1, e2]
          · exact absurd (h2.trans (by rw [e1])) (hn y h1')
        · rcases List.mem_cons.1 h1 with e2 | h1'
          · exact absurd (h2.symm.trans (by rw [e2])) (hn x hx')
          · exact ih hx' h1' hp.2
theorem evt_none {c : Pc} {a b : Option Le} {s : List (Nat × Int)} (h : Evt c a s b) : a = none → s = [] ∧ b = none := by
  induction h with
  | refl x => exact fun e => ⟨rfl, e⟩
  | gone x _ => exact fun e => by cases e
  | take x _ => exact fun e => by cases e
  | trans _ _ ih1 ih2 =>
    intro e
    obtain ⟨h1, h2⟩ := ih1 e
    obtain ⟨h3, h4⟩ := ih2 h2
    exact ⟨by rw [h1, h3]; rfl, h4⟩
/-- Of what an update is. -/
theorem tells_from {S T : Lc} (h : LcOk S) {e : Ev} {o : List Tl} (hd : doF S e = (T, o, 0)) : ∀ t ∈ o, (∃ x ∈ S.all, x.p = t.2.1) ∨ (e.kind = 4 ∧ t.2.1 = e.p) := by
  intro t ht
  obtain ⟨hok, hw, l, o1, hs, e1, e2, _⟩ := do_parts hd
  obtain ⟨s1, s2, s3, s4, s5⟩ := step_ok h hw hs
  obtain ⟨x1, x2, x3⟩ := step_x h hs t.2.1
  cases hf : findE S.all t.2.1 with
  | some x => exact .inl ⟨x, find_mem hf⟩
  | none =>
    by_cases h4 : e.kind = 4 ∧ t.2.1 = e.p
    · exact .inr h4
    · exfalso
      rw [hf] at x2 x3
      have hx : stepX S e t.2.1 none = (none, []) := by
        unfold stepX
        dsimp only
        by_cases k1 : e.kind = 1
        · rw [if_pos k1]
          split <;> rfl
        rw [if_neg k1]
        by_cases k2 : e.kind = 2
        · rw [if_pos k2]; rfl
        rw [if_neg k2]
        by_cases k3 : e.kind = 3
        · rw [if_pos k3]; rfl
        rw [if_neg k3]
        by_cases kp : t.2.1 ≠ e.p
        · rw [if_pos kp]
        rw [if_neg kp, if_neg (fun k4 => h4 ⟨k4, by simpa using kp⟩)]
        rfl
      rw [hx] at x2 x3
      have hev := tidy_evt T.pc S.room t.2.1 _ l (Nat.le_refl _) s2
      obtain ⟨h5, _⟩ := evt_none hev x2
      have hm := mem_selp.2 ht
      rw [e2, selp_app, x3, h5] at hm
      cases hm
theorem tells_may {S T : Lc} (h : LcOk S) (hm : ∀ x ∈ S.all, x.p.1 < 2 ^ 32) {e : Ev} (hp : e.p.1 < 2 ^ 32) {o : List Tl} (hd : doF S e = (T, o, 0)) : ∀ t ∈ o, mayP t.2.1 = true ∧ t.2.1.1 < 2 ^ 32 := by
  intro t ht
  rcases tells_from h hd t ht with ⟨x, hx, hxp⟩ | ⟨h4, hpe⟩
  · rw [← hxp]
    exact ⟨(h.e x hx).may, hm x hx⟩
  · rw [hpe]
    refine ⟨?_, hp⟩
    have hok := (do_parts hd).1
    unfold okE at hok
    rw [if_neg (by omega), if_neg (by omega), if_pos h4] at hok
    simp only [Bool.and_eq_true] at hok
    exact hok.2.1.1.2
/-- An event that is refused changes nothing. -/
theorem do_nop {c : Lc} {e : Ev} (h : (doF c e).2.2 ≠ 0) : doF c e = (c, [], (doF c e).2.2) := by
  unfold doF at h ⊢
  split
  · rfl
  · rename_i hw
    rw [if_neg hw] at h
    cases hs : stepE c e with
    | inr n => rfl
    | inl r => rw [hs] at h; exact absurd rfl h
/-- Is one of the first k such? -/
def fndK (o : List Tl) (p : Nat) (u : Pf × Int) (k : Nat) : Bool := (o.take k).any fun t => t.1 == p && t.2 == u
theorem fndK_succ {o : List Tl} {p : Nat} {u : Pf × Int} {k : Nat} {t : Tl} (h : o[k]? = some t) : fndK o p u (k + 1) = (fndK o p u k || (t.1 == p && t.2 == u)) := by
  unfold fndK
  rw [List.take_add_one, h, List.any_append]
  simp
theorem fndK_all {o : List Tl} {p : Nat} {u : Pf × Int} (h : ∃ t ∈ o, t.1 = p ∧ t.2 = u) : fndK o p u o.length = true := by
  obtain ⟨t, ht, h1, h2⟩ := h
  unfold fndK
  rw [List.take_length, List.any_eq_true]
  exact ⟨t, ht, by simp [h1, h2]⟩
/-- What was told last of a prefix, and whether. -/
def lasV (o : List Tl) (p : Pf) (k : Nat) : Int := (las (selp (o.take k) p)).getD 0
def lasB (o : List Tl) (p : Pf) (k : Nat) : Bool := (las (selp (o.take k) p)).isSome
theorem las_succ {o : List Tl} {p : Pf} {k : Nat} {t : Tl} (h : o[k]? = some t) : las (selp (o.take (k + 1)) p) = if t.2.1 = p then some t.2.2 else las (selp (o.take k) p) := by
  rw [List.take_add_one, h, selp_app, las_app]
  by_cases e : t.2.1 = p
  · rw [if_pos e]
    subst e
    simp [selp, las]
  · rw [if_neg e]
    have : selp ((some t).toList) p = [] := selp_none fun x hx => by
      have : x = t := by simpa using hx
      rw [this]; exact e
    rw [this]
    rfl
theorem las_yes {o : List Tl} {p : Pf} {k : Nat} {t : Tl} (h : o[k]? = some t) (e : t.2.1 = p) : lasV o p (k + 1) = t.2.2 ∧ lasB o p (k + 1) = true := by
  unfold lasV lasB
  rw [las_succ h, if_pos e]
  exact ⟨rfl, rfl⟩
theorem las_no {o : List Tl} {p : Pf} {k : Nat} {t : Tl} (h : o[k]? = some t) (e : t.2.1 ≠ p) : lasV o p (k + 1) = lasV o p k ∧ lasB o p (k + 1) = lasB o p k := by
  unfold lasV lasB
  rw [las_succ h, if_neg e]
  exact ⟨rfl, rfl⟩
theorem las_end {S T : Lc} {e : Ev} {o : List Tl} (h : TlP S T e o) {x : Le} (hx : x ∈ T.all) (hb : lasB o x.p o.length = true) : lasV o x.p o.length = x.told := by
  unfold lasB at hb
  unfold lasV
  rw [List.take_length] at hb ⊢
  cases hl : las (selp o x.p) with
  | none => rw [hl] at hb; cases hb
  | some d => exact h.last x hx d hl
end Go.Proofs.Ytahdjfegihnolaa
