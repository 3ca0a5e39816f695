/- A drawn region cut into stages, inside a fence. -/
import Derived.Test.YtfddkehnhkfjeaaRgS
import Derived.Test.YtfddkehnhkfjeaaRgP
import Derived.TacticsIn
namespace Go.Proofs.Ytfddkehnhkfjeaa
open Go.Sort
section
variable {F : Fence} {n0 : Nat} {P : Program} {Q : Exit → Act → World → Prop}
theorem wpAnyIn_more {md : Region.Mode} {ops : Array Oper} : ∀ (f : Nat) (listed : Array Bool) (a : Act) (w : World), wpAnyIn F n0 P md ops Q f listed a w → wpAnyIn F n0 P md ops Q (f + 1) listed a w
  | 0, listed, a, w, h => ⟨fun _ => h.2, fun i hi => by rw [h.1] at hi; cases hi⟩
  | f + 1, listed, a, w, h => ⟨h.1, fun i hi => wpOpIn_mono (fun a w => wpAnyIn_more f _ a w) (h.2 i hi)⟩

theorem wpAnyIn_much {md : Region.Mode} {ops : Array Oper} {f : Nat} {listed : Array Bool} {a : Act} {w : World} (h : wpAnyIn F n0 P md ops Q f listed a w) : ∀ g : Nat, wpAnyIn F n0 P md ops Q (g + f) listed a w
  | 0 => by rw [Nat.zero_add]; exact h
  | g + 1 => by
    have := wpAnyIn_more _ _ _ _ (wpAnyIn_much h g)
    rwa [show g + 1 + f = g + f + 1 by omega]

theorem wpIn_unthen {o : Oper} {a : Act} {w : World} {K K0 : Act → World → Prop} (h : o.wpIn F n0 P a w K (Exit.then K0 Q)) : o.wpIn F n0 P a w K Q := by
  unfold Oper.wpIn at *
  refine ⟨h.1, ?_⟩
  have h := h.2
  generalize (o.semAt F.round a.eval).run P w = r at *
  cases r with
  | ok x w' =>
    cases x <;> simp only [Oper.uponIn] at h ⊢ <;>
      first
        | exact h
        | exact ⟨h.1, CallsIn.mono h.2 (fun e w'' he => by cases e <;> exact he)⟩
        | exact ⟨h.1, RoundIn.mono h.2 (fun e w'' he => by cases e <;> exact he)⟩
  | halt x w' => cases x <;> simp only [Oper.uponIn] at h ⊢ <;> exact h

theorem wpOpIn_unthen {ops : Array Oper} {i : Nat} {a : Act} {w : World} {K K0 : Act → World → Prop} (h : wpOpIn F n0 P ops (Exit.then K0 Q) i K a w) : wpOpIn F n0 P ops Q i K a w := by
  unfold wpOpIn at *
  split
  · rename_i ho; simp only [ho] at h; exact h
  · rename_i o ho
    simp only [ho] at h
    split
    · rename_i hw; simp only [hw, if_true] at h; exact wpIn_unthen h
    · rename_i hw; simp only [hw] at h; exact h
theorem semAt_same {o o' : Oper} {r : Option Nat} (hop : o'.op = o.op) (hty : o'.type = o.type) (ρ : Operand → Value) : o'.semAt r ρ = o.semAt r ρ := by
  obtain ⟨d, op, ty, pos, af, gd⟩ := o
  obtain ⟨d', op', ty', pos', af', gd'⟩ := o'
  simp only at hop hty
  subst hop hty
  rfl
theorem about_same {o o' : Oper} (hop : o'.op = o.op) (hty : o'.type = o.type) (w : World) (ρ : Operand → Value) : o'.about P w ρ = o.about P w ρ := by
  obtain ⟨d, op, ty, pos, af, gd⟩ := o
  obtain ⟨d', op', ty', pos', af', gd'⟩ := o'
  simp only at hop hty
  subst hop hty
  rfl

theorem wpOpIn_of_eq {ops ops' : Array Oper} {i j : Nat} {a : Act} {w : World} {K : Act → World → Prop} {o o' : Oper} (hi : ops[i]? = some o) (hj : ops'[j]? = some o') (hd : o'.dst = o.dst) (hop : o'.op = o.op) (hty : o'.type = o.type) (hw : ∀ tmps, Region.wanted o' (yielded ops' tmps) = Region.wanted o (yielded ops tmps)) (h : wpOpIn F n0 P ops' Q j K a w) : wpOpIn F n0 P ops Q i K a w := by
  unfold wpOpIn at *
  simp only [hi]
  simp only [hj] at h
  rw [hw] at h
  split
  · rename_i hw'
    simp only [hw', if_true] at h
    unfold Oper.wpIn at *
    rw [semAt_same hop hty, about_same hop hty] at h
    refine ⟨h.1, ?_⟩
    have h := h.2
    generalize (o.semAt F.round a.eval).run P w = r at *
    cases r with
    | ok x w' => cases x <;> simp only [Oper.uponIn, hd] at h ⊢ <;> exact h
    | halt x w' => cases x <;> simp only [Oper.uponIn] at h ⊢ <;> exact h
  · rename_i hw'
    simp only [hw'] at h
    rw [hd, about_same hop hty] at h
    exact h

theorem stageIn_any {hd tl : List Oper} (hB : stageB (hd ++ tl) hd.length = true) {g : Nat} : ∀ (f : Nat) (listed : Array Bool) (a : Act) (w : World), listed.size = hd.length → (∀ (j : Nat) (o : Oper), hd[j]? = some o → listed.getD j false = true → ∀ e ∈ o.after, Region.binds .any e = true → listed.getD e.on false = true) →
    wpAnyIn F n0 P .any hd.toArray (Exit.then (fun a w => wpAnyIn F n0 P .any (hd ++ tl).toArray Q g (Array.replicate hd.length true ++ Array.replicate tl.length false) a w) Q) f listed a w →
    wpAnyIn F n0 P .any (hd ++ tl).toArray Q (f + g) (listed ++ Array.replicate tl.length false) a w := by
  unfold stageB at hB
  simp only [Bool.and_eq_true, decide_eq_true_eq] at hB
  obtain ⟨⟨⟨⟨hn, hE⟩, hG⟩, hR⟩, hS⟩ := hB
  have hlt : ∀ (i : Nat) (o : Oper), hd[i]? = some o → (hd ++ tl)[i]? = some o := fun i o h => by
    rw [List.getElem?_append_left (List.getElem?_eq_some_iff.1 h).1]; exact h
  -- ready in the head
  have hready : ∀ (listed : Array Bool), listed.size = hd.length → ∀ i, i < hd.length → (i ∈ Region.ready .any (hd ++ tl).toArray (listed ++ Array.replicate tl.length false) ↔ i ∈ Region.ready .any hd.toArray listed) := by
    intro listed hsz i hi
    have ho : hd[i]? = some hd[i] := List.getElem?_eq_getElem hi
    rw [mem_ready, mem_ready]
    simp only [List.getElem?_toArray]
    rw [getD_app_left _ (by omega), hlt i _ ho, ho]
    have hed := edgeOk_spec hE (hlt i _ ho)
    constructor
    · rintro ⟨h1, o, h2, h3⟩
      injection h2 with h2
      subst h2
      exact ⟨h1, _, rfl, fun e he hb => by
        have := h3 e he hb
        rwa [getD_app_left _ (by have := hed e he hb; omega)] at this⟩
    · rintro ⟨h1, o, h2, h3⟩
      injection h2 with h2
      subst h2
      exact ⟨h1, _, rfl, fun e he hb => by
        rw [getD_app_left _ (by have := hed e he hb; omega)]
        exact h3 e he hb⟩
  -- nothing of the tail is ready while something of the head has not run
  have htail : ∀ (listed : Array Bool), listed.size = hd.length → (∀ (j : Nat) (o : Oper), hd[j]? = some o → listed.getD j false = true → ∀ e ∈ o.after, Region.binds .any e = true → listed.getD e.on false = true) →
      ∀ (d i : Nat), hd.length - i = d → i < hd.length → listed.getD i false = false → ∀ t, hd.length ≤ t → t ∉ Region.ready .any (hd ++ tl).toArray (listed ++ Array.replicate tl.length false) := by
    intro listed hsz hcl d
    induction d using Nat.strongRecOn with
    | _ d ih =>
      intro i hdi hi hun t ht hr
      obtain ⟨_, ot, hot, hall⟩ := mem_ready.1 hr
      rw [List.getElem?_toArray] at hot
      have htlt : t < (hd ++ tl).length := (List.getElem?_eq_some_iff.1 hot).1
      by_cases htn : t = hd.length
      · subst htn
        have h1 := List.all_eq_true.1 hS i (List.mem_range.2 hi)
        obtain ⟨j, hj, hj2⟩ := List.any_eq_true.1 h1
        simp only [Bool.and_eq_true, decide_eq_true_eq] at hj2
        obtain ⟨oj, hoj, e, he, hb, hon⟩ := Region.waitsFor_spec hj2.2
        rw [List.getElem?_toArray] at hoj
        have hjle : j ≤ hd.length := by have := List.mem_range.1 hj; omega
        by_cases hjt : j = hd.length
        · subst hjt
          rw [hoj] at hot
          injection hot with hot
          subst hot
          have h2 := hall e he hb
          rw [hon, getD_app_left _ (by omega), hun] at h2
          cases h2
        · have hjlt : j < hd.length := by omega
          rw [List.getElem?_append_left hjlt] at hoj
          cases hl : listed.getD j false with
          | true =>
            have h2 := hcl j oj hoj hl e he hb
            rw [hon, hun] at h2
            cases h2
          | false => exact ih (hd.length - j) (by omega) j rfl hjlt hl _ (Nat.le_refl _) hr
      · have h1 := List.all_eq_true.1 hR t (List.mem_range.2 htlt)
        simp only [Bool.or_eq_true, decide_eq_true_eq] at h1
        rcases h1 with h1 | h1
        · omega
        · obtain ⟨j, hj, hj2⟩ := List.any_eq_true.1 h1
          simp only [Bool.and_eq_true, decide_eq_true_eq] at hj2
          obtain ⟨o', ho', e, he, hb, hon⟩ := Region.waitsFor_spec hj2.2
          rw [List.getElem?_toArray, hot] at ho'
          injection ho' with ho'
          subst ho'
          have h2 := hall e he hb
          have hjt := List.mem_range.1 hj
          simp only [List.length_append] at htlt
          rw [hon, getD_app_right _ (by omega), getD_rep _ _ (by omega)] at h2
          cases h2
  -- the head has something ready, or all of it has run
  have hdone : ∀ (listed : Array Bool), listed.size = hd.length → Region.ready .any hd.toArray listed = [] → listed = Array.replicate hd.length true := by
    intro listed hsz hr
    have hall : ∀ i, i < hd.length → listed.getD i false = true := by
      intro i
      induction i using Nat.strongRecOn with
      | _ i ih =>
        intro hi
        cases hl : listed.getD i false with
        | true => rfl
        | false =>
          have ho : hd[i]? = some hd[i] := List.getElem?_eq_getElem hi
          have : i ∈ Region.ready .any hd.toArray listed := mem_ready.2 ⟨by rw [getD_any (by omega) true false]; exact hl, _, by rw [List.getElem?_toArray]; exact ho, fun e he hb => by
            have := edgeOk_spec hE (hlt i _ ho) e he hb
            exact ih e.on this (by omega)⟩
          rw [hr] at this
          cases this
    apply Array.ext (by simp [hsz])
    intro i h1 h2
    have := hall i (by omega)
    simp only [Array.getD_eq_getD_getElem?, Array.getElem?_eq_getElem h1, Option.getD_some] at this
    rw [this]
    simp
  intro f
  induction f with
  | zero =>
    intro listed a w hsz hcl h
    obtain ⟨h1, h2⟩ := h
    rw [hdone listed hsz h1, Nat.zero_add]
    exact h2
  | succ f ih =>
    intro listed a w hsz hcl h
    cases hr : Region.ready .any hd.toArray listed with
    | nil =>
      rw [hdone listed hsz hr]
      exact wpAnyIn_much (h.1 hr) (f + 1)
    | cons i0 r0 =>
      have hi0 : i0 ∈ Region.ready .any hd.toArray listed := by rw [hr]; exact List.mem_cons_self
      obtain ⟨hi0u, o0, ho0, _⟩ := mem_ready.1 hi0
      rw [List.getElem?_toArray] at ho0
      have hi0l := (List.getElem?_eq_some_iff.1 ho0).1
      rw [show f + 1 + g = f + g + 1 by omega]
      have hnt := htail listed hsz hcl _ i0 rfl hi0l (by rw [getD_any (by omega) false true]; exact hi0u)
      refine ⟨fun h0 => ?_, fun i hi => ?_⟩
      · have := (hready listed hsz i0 hi0l).2 hi0
        rw [h0] at this
        cases this
      · have hil : i < hd.length := by
          rcases Nat.lt_or_ge i hd.length with h1 | h1
          · exact h1
          · exact absurd hi (hnt i h1)
        have hih := (hready listed hsz i hil).1 hi
        obtain ⟨_, o, ho, hall⟩ := mem_ready.1 hih
        rw [List.getElem?_toArray] at ho
        have h2 := wpOpIn_unthen (h.2 i hih)
        have h3 := wpOpIn_mono (fun a w h => ih (listed.setIfInBounds i true) a w (by simp [hsz]) (fun j oj hoj hl e he hb => ?_) h) h2
        · rw [set_app_left (by omega)]
          refine wpOpIn_of_eq (by rw [List.getElem?_toArray]; exact hlt i o ho) (by rw [List.getElem?_toArray]; exact ho) rfl rfl rfl (fun tmps => ?_) h3
          refine wanted_like (fun h => h) fun gd hgd => ⟨gd.1, hgd, ?_⟩
          have := (guardOk_spec hG (hlt i o ho) hgd).1 hil
          simp only [List.getElem?_toArray]
          rw [List.getElem?_append_left this]
        · by_cases hji : i = j
          · subst hji
            rw [ho] at hoj
            injection hoj with hoj
            subst hoj
            exact getD_set_true (hall e he hb)
          · rw [getD_set_ne false hji] at hl
            exact getD_set_true (hcl j oj hoj hl e he hb)

theorem shiftIn_any {hd tl : List Oper} (hG : guardOk (hd ++ tl) hd.length = true) : ∀ (f : Nat) (l' : Array Bool) (a : Act) (w : World), l'.size = tl.length →
    wpAnyIn F n0 P .any (tl.map (shiftO hd.length)).toArray Q f l' a w → wpAnyIn F n0 P .any (hd ++ tl).toArray Q f (Array.replicate hd.length true ++ l') a w := by
  have hget : ∀ j, (hd ++ tl)[hd.length + j]? = tl[j]? := fun j => by rw [List.getElem?_append_right (by omega)]; congr 1; omega
  have hready : ∀ (l' : Array Bool), l'.size = tl.length → ∀ j, (hd.length + j ∈ Region.ready .any (hd ++ tl).toArray (Array.replicate hd.length true ++ l') ↔ j ∈ Region.ready .any (tl.map (shiftO hd.length)).toArray l') := by
    intro l' hsz j
    rw [mem_ready, mem_ready]
    simp only [List.getElem?_toArray, List.getElem?_map]
    rw [hget, getD_app_right _ (by simp), Array.size_replicate, Nat.add_sub_cancel_left]
    cases ht : tl[j]? with
    | none => simp
    | some o =>
      simp only [Option.map_some, Option.some.injEq, exists_eq_left']
      refine and_congr_right fun _ => ⟨fun h e he hb => ?_, fun h e he hb => ?_⟩
      · simp only [shiftO, List.mem_toArray, List.mem_map, List.mem_filter, decide_eq_true_eq] at he
        obtain ⟨e0, ⟨he0, hn⟩, rfl⟩ := he
        have := h e0 (by simpa using he0) hb
        rw [getD_app_right _ (by simpa using hn), Array.size_replicate] at this
        exact this
      · by_cases hn : hd.length ≤ e.on
        · rw [getD_app_right _ (by simpa using hn), Array.size_replicate]
          refine h { e with on := e.on - hd.length } ?_ hb
          simp only [shiftO, List.mem_toArray, List.mem_map, List.mem_filter, decide_eq_true_eq]
          exact ⟨e, ⟨by simpa using he, hn⟩, rfl⟩
        · rw [getD_app_left _ (by simp; omega), getD_rep _ _ (by omega)]
  have hlow : ∀ (l' : Array Bool) i, i < hd.length → i ∉ Region.ready .any (hd ++ tl).toArray (Array.replicate hd.length true ++ l') := fun l' i hi hr => by
    have := (mem_ready.1 hr).1
    rw [getD_app_left _ (by simpa using hi), getD_rep _ _ hi] at this
    cases this
  have hnil : ∀ (l' : Array Bool), l'.size = tl.length → Region.ready .any (hd ++ tl).toArray (Array.replicate hd.length true ++ l') = [] → Region.ready .any (tl.map (shiftO hd.length)).toArray l' = [] := fun l' hsz h => by
    cases hr : Region.ready .any (tl.map (shiftO hd.length)).toArray l' with
    | nil => rfl
    | cons j r =>
      have := (hready l' hsz j).2 (by rw [hr]; exact List.mem_cons_self)
      rw [h] at this
      cases this
  intro f
  induction f with
  | zero =>
    intro l' a w hsz h
    refine ⟨?_, h.2⟩
    cases hr : Region.ready .any (hd ++ tl).toArray (Array.replicate hd.length true ++ l') with
    | nil => rfl
    | cons i r =>
      exfalso
      have hi : i ∈ Region.ready .any (hd ++ tl).toArray (Array.replicate hd.length true ++ l') := by rw [hr]; exact List.mem_cons_self
      rcases Nat.lt_or_ge i hd.length with h1 | h1
      · exact hlow l' i h1 hi
      · obtain ⟨j, rfl⟩ : ∃ j, i = hd.length + j := ⟨i - hd.length, by omega⟩
        have := (hready l' hsz j).1 hi
        rw [h.1] at this
        cases this
  | succ f ih =>
    intro l' a w hsz h
    refine ⟨fun h0 => h.1 (hnil l' hsz h0), fun i hi => ?_⟩
    rcases Nat.lt_or_ge i hd.length with h1 | h1
    · exact absurd hi (hlow l' i h1)
    · obtain ⟨j, rfl⟩ : ∃ j, i = hd.length + j := ⟨i - hd.length, by omega⟩
      have hj := (hready l' hsz j).1 hi
      have h2 := h.2 j hj
      obtain ⟨_, o', ho', _⟩ := mem_ready.1 hj
      simp only [List.getElem?_toArray, List.getElem?_map] at ho'
      cases ht : tl[j]? with
      | none => rw [ht] at ho'; cases ho'
      | some o =>
        rw [ht] at ho'
        injection ho' with ho'
        have h3 := wpOpIn_mono (fun a w h => ih (l'.setIfInBounds j true) a w (by simp [hsz]) h) h2
        have hset := set_app_right (l := Array.replicate hd.length true) (r := l') (j := j)
        rw [Array.size_replicate] at hset
        rw [hset]
        refine wpOpIn_of_eq (o := o) (o' := shiftO hd.length o) (by rw [List.getElem?_toArray, hget]; exact ht) (by rw [List.getElem?_toArray, List.getElem?_map, ht]; rfl) rfl rfl rfl (fun tmps => ?_) h3
        refine wanted_like (fun h => by simp [shiftO, h]) fun gd hgd => ⟨gd.1 - hd.length, by simp [shiftO, hgd], ?_⟩
        have hg2 := (guardOk_spec hG (by rw [hget]; exact ht) hgd).2 (by omega)
        have h5 := hget (gd.1 - hd.length)
        rw [show hd.length + (gd.1 - hd.length) = gd.1 by omega] at h5
        simp only [List.getElem?_toArray, List.getElem?_map]
        rw [h5]
        cases tl[gd.1 - hd.length]? <;> rfl

def SameLx (ops ops' : Array Oper) : List Oper → List Oper → Prop
  | [], [] => True
  | o :: s, o' :: s' => (SameO ops ops' o o' ∧ o'.op = o.op ∧ o'.type = o.type) ∧ SameLx ops ops' s s'
  | _, _ => False
theorem sameLx_of {ops ops' : Array Oper} : ∀ {s s' : List Oper}, s'.length = s.length → (∀ (j : Nat) (o o' : Oper), s[j]? = some o → s'[j]? = some o' → SameO ops ops' o o' ∧ o'.op = o.op ∧ o'.type = o.type) → SameLx ops ops' s s'
  | [], [], _, _ => trivial
  | [], _ :: _, h, _ => by cases h
  | _ :: _, [], h, _ => by cases h
  | o :: s, o' :: s', h, hh => ⟨hh 0 o o' rfl rfl, sameLx_of (by simpa using h) fun j x x' h1 h2 => hh (j + 1) x x' (by simpa using h1) (by simpa using h2)⟩
theorem listIn_same {ops ops' : Array Oper} {K : Act → World → Prop} : ∀ {s s' : List Oper} {a : Act} {w : World}, SameLx ops ops' s s' → wpListIn F n0 P ops (Exit.then K Q) s a w → wpListIn F n0 P ops' (Exit.then K Q) s' a w
  | [], [], _, _, _, h => h
  | [], _ :: _, _, _, h, _ => h.elim
  | _ :: _, [], _, _, h, _ => h.elim
  | o :: s, o' :: s', a, w, ⟨⟨⟨hd, _, hw⟩, hop, hty⟩, hs⟩, h => by
    unfold wpListIn at h ⊢
    rw [hw]
    split
    · rename_i hw'
      rw [if_pos hw'] at h
      have h := Oper.wpIn_mono (fun a w h => listIn_same hs h) h
      unfold Oper.wpIn at *
      rw [semAt_same hop hty, about_same hop hty]
      refine ⟨h.1, ?_⟩
      have h := h.2
      generalize (o.semAt F.round a.eval).run P w = r at *
      cases r with
      | ok x w' => cases x <;> simp only [Oper.uponIn, hd] at h ⊢ <;> exact h
      | halt x w' => cases x <;> simp only [Oper.uponIn] at h ⊢ <;> exact h
    · rename_i hw'
      rw [if_neg hw'] at h
      rw [hd, about_same hop hty]
      exact ⟨h.1, listIn_same hs h.2⟩

theorem listIn_mono {ops : Array Oper} {K K' : Act → World → Prop} (hk : ∀ a w, K a w → K' a w) : ∀ {s : List Oper} {a : Act} {w : World}, wpListIn F n0 P ops (Exit.then K Q) s a w → wpListIn F n0 P ops (Exit.then K' Q) s a w
  | [], _, _, h => hk _ _ h
  | o :: s, a, w, h => by
    unfold wpListIn at h ⊢
    split
    · rename_i hw'
      rw [if_pos hw'] at h
      have h := Oper.wpIn_mono (fun a w h => listIn_mono hk h) h
      unfold Oper.wpIn at *
      refine ⟨h.1, ?_⟩
      have h := h.2
      generalize (o.semAt F.round a.eval).run P w = r at *
      cases r with
      | ok x w' =>
        cases x <;> simp only [Oper.uponIn] at h ⊢ <;>
          first
            | exact h
            | exact ⟨h.1, CallsIn.mono h.2 (fun e w'' he => by cases e <;> exact he)⟩
            | exact ⟨h.1, RoundIn.mono h.2 (fun e w'' he => by cases e <;> exact he)⟩
      | halt x w' => cases x <;> simp only [Oper.uponIn] at h ⊢ <;> exact h
    · rename_i hw'
      rw [if_neg hw'] at h
      exact ⟨h.1, listIn_mono hk h.2⟩

theorem chainIn_any {l : List Oper} (hB : chainL l = true) : ∀ (s pre : List Oper) (a : Act) (w : World), l = pre ++ s → wpListIn F n0 P l.toArray Q s a w → wpAnyIn F n0 P .any l.toArray Q s.length (Array.replicate pre.length true ++ Array.replicate s.length false) a w := by
  unfold chainL at hB
  simp only [Bool.and_eq_true] at hB
  obtain ⟨hE, hC⟩ := hB
  intro s
  induction s with
  | nil =>
    intro pre a w hl h
    refine ⟨?_, h⟩
    rw [List.append_nil] at hl
    subst hl
    cases hr : Region.ready .any l.toArray (Array.replicate l.length true ++ Array.replicate ([] : List Oper).length false) with
    | nil => rfl
    | cons i r =>
      exfalso
      have hi : i ∈ Region.ready .any l.toArray (Array.replicate l.length true ++ Array.replicate ([] : List Oper).length false) := by rw [hr]; exact List.mem_cons_self
      obtain ⟨h1, o, h2, _⟩ := mem_ready.1 hi
      rw [List.getElem?_toArray] at h2
      have hil := (List.getElem?_eq_some_iff.1 h2).1
      rw [getD_app_left _ (by simpa using hil), getD_rep _ _ hil] at h1
      cases h1
  | cons o s ih =>
    intro pre a w hl h
    have ho : l[pre.length]? = some o := by rw [hl, List.getElem?_append_right (Nat.le_refl _)]; simp
    have hrd : pre.length ∈ Region.ready .any l.toArray (Array.replicate pre.length true ++ Array.replicate (o :: s).length false) := mem_ready.2 ⟨by rw [getD_app_right _ (by simp), getD_rep _ _ (by simp)], o, by rw [List.getElem?_toArray]; exact ho, fun e he hb => by
      have := edgeOk_spec hE ho e he hb
      rw [getD_app_left _ (by simpa using this), getD_rep _ _ this]⟩
    refine ⟨fun h0 => (by rw [h0] at hrd; cases hrd), fun i hi => ?_⟩
    have hii : i = pre.length := by
      obtain ⟨h1, oi, h2, h3⟩ := mem_ready.1 hi
      rcases Nat.lt_trichotomy i pre.length with hlt | heq | hgt
      · rw [getD_app_left _ (by simpa using hlt), getD_rep _ _ hlt] at h1
        cases h1
      · exact heq
      · exfalso
        rw [List.getElem?_toArray] at h2
        have hil := (List.getElem?_eq_some_iff.1 h2).1
        have h4 := List.all_eq_true.1 hC i (List.mem_range.2 hil)
        simp only [Bool.or_eq_true, decide_eq_true_eq] at h4
        rcases h4 with h4 | h4
        · omega
        · obtain ⟨o', ho', e, he, hb, hon⟩ := Region.waitsFor_spec h4
          rw [List.getElem?_toArray, h2] at ho'
          injection ho' with ho'
          subst ho'
          have h5 := h3 e he hb
          rw [hon, getD_app_right _ (by simp; omega), getD_rep _ _ (by rw [hl] at hil; simp at hil ⊢; omega)] at h5
          cases h5
    subst hii
    have hset : (Array.replicate pre.length true ++ Array.replicate (o :: s).length false).setIfInBounds pre.length true = Array.replicate (pre ++ [o]).length true ++ Array.replicate s.length false := by
      apply Array.ext_getElem?
      intro k
      simp only [Array.getElem?_setIfInBounds, Array.getElem?_append, Array.size_append, Array.size_replicate, Array.getElem?_replicate, List.length_cons, List.length_append, List.length_nil]
      by_cases h1 : pre.length = k
      · subst h1
        rw [if_pos rfl, if_pos (by omega), if_pos (by omega), if_pos (by omega)]
      · rw [if_neg h1]
        by_cases h2 : k < pre.length
        · rw [if_pos h2, if_pos h2, if_pos (by omega), if_pos (by omega)]
        · by_cases h3 : k - pre.length < s.length + 1
          · rw [if_neg h2, if_pos h3, if_neg (show ¬ k < pre.length + (0 + 1) by omega), if_pos (by omega)]
          · rw [if_neg h2, if_neg h3, if_neg (show ¬ k < pre.length + (0 + 1) by omega), if_neg (by omega)]
    rw [hset]
    unfold wpListIn at h
    unfold wpOpIn
    simp only [List.getElem?_toArray, ho]
    split
    · rename_i hw
      rw [if_pos hw] at h
      exact Oper.wpIn_mono (fun a w h => ih (pre ++ [o]) a w (by rw [hl]; simp) h) h
    · rename_i hw
      rw [if_neg hw] at h
      exact ⟨h.1, ih (pre ++ [o]) _ w (by rw [hl]; simp) h.2⟩

theorem wpAnyIn_unthen {ops : Array Oper} {md : Region.Mode} : ∀ (f : Nat) (listed : Array Bool) (a : Act) (w : World), wpAnyIn F n0 P md ops (Exit.then (fun a w => Q .normal a w) Q) f listed a w → wpAnyIn F n0 P md ops Q f listed a w
  | 0, _, _, _, h => ⟨h.1, h.2⟩
  | f + 1, _, _, _, h => ⟨fun h0 => h.1 h0, fun i hi => wpOpIn_mono (fun a w h => wpAnyIn_unthen f _ a w h) (wpOpIn_unthen (h.2 i hi))⟩

theorem LikeL.samex {n : Nat} {whole : Array Oper} {tl l' : List Oper} (h : LikeL n whole tl l') {k : Nat} (hk : k ≤ tl.length) (hg : ∀ (j : Nat) (o : Oper), (l'.take k)[j]? = some o → ∀ g : Nat × Bool, o.guard = some g → g.1 < k) : SameLx whole (l'.take k).toArray (tl.take k) (l'.take k) := by
  have hs := h.same hk hg
  have key : ∀ {s s' : List Oper} {ops ops' : Array Oper}, SameL ops ops' s s' → (∀ (j : Nat) (o o' : Oper), s[j]? = some o → s'[j]? = some o' → o'.op = o.op ∧ o'.type = o.type) → SameLx ops ops' s s' := by
    intro s
    induction s with
    | nil => intro s' ops ops' h _; cases s' with
      | nil => trivial
      | cons _ _ => exact h.elim
    | cons o s ih => intro s' ops ops' h hh; cases s' with
      | nil => exact h.elim
      | cons o' s' => exact ⟨⟨h.1, hh 0 o o' rfl rfl⟩, ih h.2 fun j x x' h1 h2 => hh (j + 1) x x' (by simpa using h1) (by simpa using h2)⟩
  refine key hs fun j o o' ho ho' => ?_
  have hjk : j < k := by have := (List.getElem?_eq_some_iff.1 ho).1; simp at this; omega
  rw [List.getElem?_take_of_lt hjk] at ho ho'
  obtain ⟨A, hA⟩ := h.like j o ho
  rw [hA] at ho'
  injection ho' with ho'
  subst ho'
  exact ⟨rfl, rfl⟩
/-- Stages in a fence: true: reads alone, operations that call nothing; false: a chain. -/
def wpStIn (F : Fence) (n0 : Nat) (P : Program) (ops : Array Oper) (Q : Exit → Act → World → Prop) : List (Bool × Nat) → List Oper → Act → World → Prop
  | [], _, a, w => Q .normal a w
  | (true, k) :: ns, l, a, w => wpQuiet P ops (fun w' => ∃ n, w' = w.drewN n) (fun a' => ∀ w', (∃ n, w' = w.drewN n) → wpStIn F n0 P ops Q ns (l.drop k) a' w') (l.take k) a
  | (false, k) :: ns, l, a, w => wpListIn F n0 P ops (Exit.then (fun a w => wpStIn F n0 P ops Q ns (l.drop k) a w) Q) (l.take k) a w
/-- All quiet stages call nothing. -/
def stPlain : List (Bool × Nat) → List Oper → Bool
  | [], _ => true
  | (q, k) :: ns, l => (!q || (l.take k).all plainB) && stPlain ns ((l.drop k).map (shiftO k))
theorem wpIn_weak {Q' : Exit → Act → World → Prop} {o : Oper} {a : Act} {w : World} {K K' : Act → World → Prop} (hk : ∀ a w, K a w → K' a w) (hp : ∀ c a w, Q (.panic c) a w → Q' (.panic c) a w) (ho : ∀ a w, Q .outgrown a w → Q' .outgrown a w) (h : o.wpIn F n0 P a w K Q) : o.wpIn F n0 P a w K' Q' := by
  have h := Oper.wpIn_mono hk h
  unfold Oper.wpIn at *
  refine ⟨h.1, ?_⟩
  have h := h.2
  generalize (o.semAt F.round a.eval).run P w = r at *
  cases r with
  | ok x w' =>
    cases x <;> simp only [Oper.uponIn] at h ⊢ <;>
      first
        | exact h
        | exact ⟨h.1, CallsIn.mono h.2 (fun e w'' he => by cases e <;> first | exact he | exact hp _ _ _ he | (obtain ⟨a, w, h⟩ := he; exact ⟨a, w, ho a w h⟩))⟩
        | exact ⟨h.1, RoundIn.mono h.2 (fun e w'' he => by cases e <;> first | exact he | exact hp _ _ _ he | (obtain ⟨a, w, h⟩ := he; exact ⟨a, w, ho a w h⟩))⟩
  | halt x w' => cases x <;> simp only [Oper.uponIn] at h ⊢ <;> first | exact h | exact hp _ _ _ h
theorem anyIn_weak {Q' : Exit → Act → World → Prop} {ops : Array Oper} {md : Region.Mode} (hn : ∀ a w, Q .normal a w → Q' .normal a w) (hp : ∀ c a w, Q (.panic c) a w → Q' (.panic c) a w) (ho : ∀ a w, Q .outgrown a w → Q' .outgrown a w) : ∀ (f : Nat) (listed : Array Bool) (a : Act) (w : World), wpAnyIn F n0 P md ops Q f listed a w → wpAnyIn F n0 P md ops Q' f listed a w
  | 0, _, _, _, h => ⟨h.1, hn _ _ h.2⟩
  | f + 1, _, _, _, h => ⟨fun h0 => hn _ _ (h.1 h0), fun i hi => by
    have h2 := h.2 i hi
    unfold wpOpIn at *
    split
    · rename_i h0; simp only [h0] at h2; exact anyIn_weak hn hp ho f _ _ _ h2
    · rename_i o h0
      simp only [h0] at h2
      split
      · rename_i hw; simp only [hw, if_true] at h2; exact wpIn_weak (fun a w h => anyIn_weak hn hp ho f _ a w h) hp ho h2
      · rename_i hw; simp only [hw] at h2; exact ⟨h2.1, anyIn_weak hn hp ho f _ _ _ h2.2⟩⟩
theorem headIn_any {n : Nat} {whole : Array Oper} {tl l' : List Oper} (h : LikeL n whole tl l') {k : Nat} (hk : k ≤ tl.length) (hg : ∀ (j : Nat) (o : Oper), (l'.take k)[j]? = some o → ∀ g : Nat × Bool, o.guard = some g → g.1 < k) {q : Bool} (hpl : q = true → (l'.take k).all plainB = true) (hF : ∀ f, F.fn f) (hq : (if q = true then Region.lexB .any (l'.take k).toArray else chainL (l'.take k)) = true) {ns : List (Bool × Nat)} {K : Act → World → Prop} (hK : ∀ a w, wpStIn F n0 P whole Q ns (tl.drop k) a w → K a w) {a : Act} {w : World}
    (hs : wpStIn F n0 P whole Q ((q, k) :: ns) tl a w) : wpAnyIn F n0 P .any (l'.take k).toArray (Exit.then K Q) k (Array.replicate k false) a w := by
  have hsz : (l'.take k).length = k := by rw [List.length_take, h.len]; omega
  cases q with
  | true =>
    rw [if_pos rfl] at hq
    have h1 := quiet_same (h.same hk hg) hs
    simp only [Region.lexB, Bool.and_eq_true] at hq
    have h2 := wpAnyQ_lex (C := fun w' => ∃ n, w' = w.drewN n) (md := .any) hq.1 (l'.take k) 0 (Array.replicate k false) a (by simp) (by have := hq.2; simp only [List.size_toArray] at this; rw [hsz] at this ⊢; exact this) h1
    rw [hsz] at h2
    have h3 : wpAny P .any (l'.take k).toArray (fun e a w => e = .normal ∧ K a w) k (Array.replicate k false) a w := wpAny_of_quiet (C := fun w' => ∃ n, w' = w.drewN n) (fun a' w' hc hh => ⟨rfl, hK a' w' (hh w' hc)⟩) _ _ _ _ ⟨0, rfl⟩ h2
    have h4 := plain_any (F := F) (n := n0) hF (fun h => by obtain ⟨_, _, h, _⟩ := h; cases h) (by simpa using hpl rfl) _ _ _ _ h3
    exact anyIn_weak (fun a w h => h.2) (fun c a w h => by cases h.1) (fun a w h => by cases h.1) _ _ _ _ h4
  | false =>
    rw [if_neg (by decide)] at hq
    have h1 := listIn_same (h.samex hk hg) (listIn_mono hK hs)
    have h2 := chainIn_any hq (l'.take k) [] a w rfl h1
    rw [hsz] at h2
    simpa using h2
theorem stIn_any {whole : Array Oper} (hF : ∀ f, F.fn f) : ∀ (ns : List (Bool × Nat)) (n : Nat) (tl l' : List Oper) (a : Act) (w : World), LikeL n whole tl l' → stB ns l' = true → stPlain ns l' = true → wpStIn F n0 P whole Q ns tl a w → wpAnyIn F n0 P .any l'.toArray Q l'.length (Array.replicate l'.length false) a w
  | [], n, tl, l', a, w, h, hB, hPl, hs => by
    have : l' = [] := by simpa [stB] using hB
    subst this
    exact ⟨rfl, hs⟩
  | (q, k) :: ns, n, tl, l', a, w, h, hB, hPl, hs => by
    unfold stB at hB
    simp only [Bool.and_eq_true] at hB
    obtain ⟨⟨hB1, hB2⟩, hB3⟩ := hB
    unfold stPlain at hPl
    simp only [Bool.and_eq_true] at hPl
    have hpl : q = true → (l'.take k).all plainB = true := fun hq => by have := hPl.1; rw [hq] at this; exact this
    by_cases hk : k = l'.length
    · rw [if_pos hk] at hB1
      have hn : ns = [] ∨ ns ≠ [] := by cases ns <;> simp
      have hg : ∀ (j : Nat) (o : Oper), (l'.take k)[j]? = some o → ∀ g : Nat × Bool, o.guard = some g → g.1 < k := fun j o ho g hgo => by
        have hj : j < l'.length := by have := (List.getElem?_eq_some_iff.1 ho).1; simp at this; omega
        rw [List.getElem?_take_of_lt (by omega)] at ho
        have := (guardOk_spec hB1 ho hgo).1 hj
        omega
      have hd : tl.drop k = [] := List.drop_eq_nil_of_le (by rw [← h.len]; omega)
      have hd' : l'.drop k = [] := List.drop_eq_nil_of_le (by omega)
      have hend : ∀ (ns : List (Bool × Nat)) (a : Act) (w : World), stB ns [] = true → wpStIn F n0 P whole Q ns [] a w → Q .normal a w := by
        intro ns
        induction ns with
        | nil => intro a w _ h; exact h
        | cons x ns ih =>
          intro a w hb h
          obtain ⟨q, k⟩ := x
          unfold stB at hb
          simp only [Bool.and_eq_true, List.take_nil, List.drop_nil, List.map_nil] at hb
          cases q with
          | true =>
            have h' : ∀ w', (∃ n, w' = w.drewN n) → wpStIn F n0 P whole Q ns (([] : List Oper).drop k) a w' := by
              have h0 := h
              unfold wpStIn at h0
              rw [List.take_nil] at h0
              exact h0
            have := h' w ⟨0, rfl⟩
            rw [List.drop_nil] at this
            exact ih a w hb.2 this
          | false =>
            have h' : wpStIn F n0 P whole Q ns (([] : List Oper).drop k) a w := by
              have h0 := h
              unfold wpStIn at h0
              rw [List.take_nil] at h0
              exact h0
            rw [List.drop_nil] at h'
            exact ih a w hb.2 h'
      rw [hd', List.map_nil] at hB3
      have h3 := headIn_any h (by rw [← h.len]; omega) hg hpl hF hB2 (K := fun a w => Q .normal a w) (fun a w hh => by rw [hd] at hh; exact hend ns a w hB3 hh) hs
      rw [List.take_of_length_le (by omega)] at h3
      have h4 := wpAnyIn_unthen _ _ _ _ h3
      rw [hk] at h4
      exact h4
    · rw [if_neg hk] at hB1
      have hB0 := hB1
      unfold stageB at hB1
      simp only [Bool.and_eq_true, decide_eq_true_eq] at hB1
      obtain ⟨⟨⟨⟨hn, hE⟩, hG⟩, hR⟩, hS⟩ := hB1
      have hsz : (l'.take k).length = k := by rw [List.length_take]; omega
      have hg : ∀ (j : Nat) (o : Oper), (l'.take k)[j]? = some o → ∀ g : Nat × Bool, o.guard = some g → g.1 < k := fun j o ho g hgo => by
        have hj : j < k := by have := (List.getElem?_eq_some_iff.1 ho).1; simp at this; omega
        rw [List.getElem?_take_of_lt hj] at ho
        exact (guardOk_spec hG ho hgo).1 hj
      have happ : l' = l'.take k ++ l'.drop k := (List.take_append_drop k l').symm
      have hdl : (l'.drop k).length = l'.length - k := List.length_drop
      have h3 := headIn_any h (by rw [← h.len]; omega) hg hpl hF hB2 (K := fun a w => wpAnyIn F n0 P .any (l'.take k ++ l'.drop k).toArray Q (l'.drop k).length (Array.replicate (l'.take k).length true ++ Array.replicate (l'.drop k).length false) a w) (fun a w hh => by
        refine shiftIn_any (by rw [hsz, ← happ]; exact hG) _ _ a w (by simp) ?_
        have := stIn_any hF ns (n + k) (tl.drop k) ((l'.drop k).map (shiftO k)) a w (h.next hG) hB3 hPl.2 hh
        rw [List.length_map] at this
        rw [hsz]
        exact this) hs
      have h4 := stageIn_any (hd := l'.take k) (tl := l'.drop k) (by rw [hsz, ← happ]; exact hB0) k (Array.replicate k false) a w (by simp [hsz]) (fun j o ho hl => by
        have hj : j < k := by have := (List.getElem?_eq_some_iff.1 ho).1; simp at this; omega
        rw [getD_rep _ _ hj] at hl
        cases hl) h3
      rw [← happ] at h4
      have hrep : Array.replicate k false ++ Array.replicate (l'.drop k).length false = Array.replicate l'.length false := by
        apply Array.ext (by simp; omega)
        intro i h1 h2
        simp only [Array.getElem_append, Array.getElem_replicate]
        split <;> rfl
      rw [hrep] at h4
      rwa [show k + (l'.drop k).length = l'.length by omega] at h4
theorem wpIn_region_st {id : Nat} {a : Act} {w : World} {l : List Oper} (hF : ∀ f, F.fn f) (ns : List (Bool × Nat)) (hm : P.follows .mixedOrders = true) (hB : stB ns l = true) (hPl : stPlain ns l = true) (h : wpStIn F n0 P l.toArray Q ns l a w.drew) : (Code.region id l.toArray true).wpIn F n0 P Q a w := by
  refine wpIn_region_any hm ?_
  have hl : LikeL 0 l.toArray l l := ⟨rfl, fun j _ => by rw [List.getElem?_toArray, Nat.zero_add], fun j o ho => ⟨o.after, by rw [ho]; congr 1; cases hg : o.guard with
    | none => cases o; simp only at hg; subst hg; rfl
    | some g => cases o; simp only at hg; subst hg; rfl⟩, fun _ _ _ _ _ => Nat.zero_le _⟩
  have := stIn_any hF ns 0 l l a _ hl hB hPl h
  simpa using this
theorem wpStIn_q {ops : Array Oper} {k : Nat} {ns : List (Bool × Nat)} {l : List Oper} {a : Act} {w : World} (h : wpQuiet P ops (fun w' => ∃ n, w' = w.drewN n) (fun a' => ∀ w', (∃ n, w' = w.drewN n) → wpStIn F n0 P ops Q ns (l.drop k) a' w') (l.take k) a) : wpStIn F n0 P ops Q ((true, k) :: ns) l a w := h
theorem wpStIn_l {ops : Array Oper} {k : Nat} {ns : List (Bool × Nat)} {l : List Oper} {a : Act} {w : World} (h : wpListIn F n0 P ops (Exit.then (fun a w => wpStIn F n0 P ops Q ns (l.drop k) a w) Q) (l.take k) a w) : wpStIn F n0 P ops Q ((false, k) :: ns) l a w := h
theorem wpStIn_end {ops : Array Oper} {l : List Oper} {a : Act} {w : World} (h : Q .normal a w) : wpStIn F n0 P ops Q [] l a w := h
end
end Go.Proofs.Ytfddkehnhkfjeaa
