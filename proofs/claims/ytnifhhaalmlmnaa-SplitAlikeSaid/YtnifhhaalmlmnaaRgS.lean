/- A drawn region cut into stages, each of which waits for all of the stages ahead of it: quiet stages (reads, and calls that only make memory) and plain ones (a chain of operations, each of which waits for the one ahead). -/
import Derived.Test.YtnifhhaalmlmnaaProg
import Derived.Lib.QuietBelow
import Derived.StillTail
namespace Go.Proofs.Ytnifhhaalmlmnaa
open Go.Sort
section
variable {P : Program} {Q : Exit → Act → World → Prop}

/-- An operation of a later stage, with the places counted from that stage's head. -/
def shiftO (n : Nat) (o : Oper) : Oper := { o with after := ((o.after.toList.filter fun e => decide (n ≤ e.on)).map fun e => { e with on := e.on - n }).toArray, guard := o.guard.map fun g => (g.1 - n, g.2) }
def edgeOk (l : List Oper) : Bool := (List.range l.length).all fun i => match l[i]? with
  | some o => o.after.toList.all fun e => !Region.binds .any e || decide (e.on < i)
  | none => true
def guardOk (l : List Oper) (n : Nat) : Bool := (List.range l.length).all fun i => match l[i]? with
  | some o => (match o.guard with
    | some g => if i < n then decide (g.1 < n) else decide (n ≤ g.1) && decide (g.1 < l.length)
    | none => true)
  | none => true
def rootB (l : List Oper) (n : Nat) : Bool := (List.range l.length).all fun t => decide (t ≤ n) || (List.range t).any fun j => decide (n ≤ j) && Region.waitsFor .any l.toArray t j
def sinkL (l : List Oper) (n : Nat) : Bool := (List.range n).all fun i => (List.range (n + 1)).any fun j => decide (i < j) && Region.waitsFor .any l.toArray j i
/-- May the region be cut behind its first n operations? -/
def stageB (l : List Oper) (n : Nat) : Bool := decide (n < l.length) && edgeOk l && guardOk l n && rootB l n && sinkL l n

theorem edgeOk_spec {l : List Oper} (h : edgeOk l = true) {i : Nat} {o : Oper} (ho : l[i]? = some o) : ∀ e ∈ o.after, Region.binds .any e = true → e.on < i := by
  intro e he hb
  have h1 := List.all_eq_true.1 h i (List.mem_range.2 (List.getElem?_eq_some_iff.1 ho).1)
  rw [ho] at h1
  have h2 := List.all_eq_true.1 h1 e (by simpa using he)
  rw [hb] at h2
  simpa using h2
theorem guardOk_spec {l : List Oper} {n : Nat} (h : guardOk l n = true) {i : Nat} {o : Oper} (ho : l[i]? = some o) {g : Nat × Bool} (hg : o.guard = some g) : (i < n → g.1 < n) ∧ (n ≤ i → n ≤ g.1 ∧ g.1 < l.length) := by
  have h1 := List.all_eq_true.1 h i (List.mem_range.2 (List.getElem?_eq_some_iff.1 ho).1)
  rw [ho] at h1
  simp only [hg] at h1
  constructor
  · intro hi
    rw [if_pos hi] at h1
    simpa using h1
  · intro hi
    rw [if_neg (by omega)] at h1
    simpa using h1

theorem wpAny_more {md : Region.Mode} {ops : Array Oper} : ∀ (f : Nat) (listed : Array Bool) (a : Act) (w : World), wpAny P md ops Q f listed a w → wpAny P md ops Q (f + 1) listed a w
  | 0, listed, a, w, h => ⟨fun _ => h.2, fun i hi => by rw [h.1] at hi; cases hi⟩
  | f + 1, listed, a, w, h => ⟨h.1, fun i hi => wpOp_mono (fun a w => wpAny_more f _ a w) (h.2 i hi)⟩
theorem wpAny_much {md : Region.Mode} {ops : Array Oper} {f : Nat} {listed : Array Bool} {a : Act} {w : World} (h : wpAny P md ops Q f listed a w) : ∀ g : Nat, wpAny P md ops Q (g + f) listed a w
  | 0 => by rw [Nat.zero_add]; exact h
  | g + 1 => by
    have := wpAny_more _ _ _ _ (wpAny_much h g)
    rwa [show g + 1 + f = g + f + 1 by omega]

theorem wp_unthen {o : Oper} {a : Act} {w : World} {K K0 : Act → World → Prop} (h : o.wp P a w K (Exit.then K0 Q)) : o.wp P a w K Q := by
  unfold Oper.wp at *
  generalize (execOp a.eval o).run P w = r at *
  cases r with
  | ok n w' =>
    cases n <;> simp only [Oper.upon] at h ⊢ <;>
      first
        | exact h
        | exact Calls.mono h (fun e w'' he => by cases e <;> exact he)
  | halt x w' => cases x <;> simp only [Oper.upon] at h ⊢ <;> exact h
theorem wpOp_unthen {ops : Array Oper} {i : Nat} {a : Act} {w : World} {K K0 : Act → World → Prop} (h : wpOp P ops (Exit.then K0 Q) i K a w) : wpOp P ops Q i K a w := by
  unfold wpOp at *
  split
  · rename_i ho; simp only [ho] at h; exact h
  · rename_i o ho
    simp only [ho] at h
    split
    · rename_i hw; simp only [hw, if_true] at h; exact h.imp wp_unthen fun ⟨h1, h2⟩ => ⟨h1, h2⟩
    · rename_i hw; simp only [hw] at h; exact h
theorem wpOp_of_eq {ops ops' : Array Oper} {i j : Nat} {a : Act} {w : World} {K : Act → World → Prop} {o o' : Oper} (hi : ops[i]? = some o) (hj : ops'[j]? = some o') (hd : o'.dst = o.dst) (he : ∀ ρ, execOp ρ o' = execOp ρ o) (hw : ∀ tmps, Region.wanted o' (yielded ops' tmps) = Region.wanted o (yielded ops tmps)) (h : wpOp P ops' Q j K a w) : wpOp P ops Q i K a w := by
  unfold wpOp at *
  simp only [hi]
  simp only [hj] at h
  rw [hw] at h
  split
  · rename_i hw'
    simp only [hw', if_true] at h
    refine h.imp (fun h => ?_) (fun ⟨h1, h2⟩ => ⟨?_, h2⟩)
    · unfold Oper.wp at *
      rw [he] at h
      generalize (execOp a.eval o).run P w = r at *
      cases r with
      | ok n w' => cases n <;> simp only [Oper.upon, hd] at h ⊢ <;> exact h
      | halt x w' => cases x <;> simp only [Oper.upon] at h ⊢ <;> exact h
    · unfold Oper.asks at *
      rw [he] at h1
      exact h1
  · rename_i hw'
    simp only [hw'] at h
    rw [hd] at h
    exact h

theorem getD_app_left {l r : Array Bool} {i : Nat} (d : Bool) (h : i < l.size) : (l ++ r).getD i d = l.getD i d := by
  simp [Array.getD_eq_getD_getElem?, Array.getElem?_append_left h]
theorem getD_app_right {l r : Array Bool} {i : Nat} (d : Bool) (h : l.size ≤ i) : (l ++ r).getD i d = r.getD (i - l.size) d := by
  simp [Array.getD_eq_getD_getElem?, Array.getElem?_append_right h]
theorem getD_rep {n i : Nat} (b d : Bool) (h : i < n) : (Array.replicate n b).getD i d = b := by
  simp [Array.getD_eq_getD_getElem?, h]
theorem getD_out {l : Array Bool} {i : Nat} (d : Bool) (h : l.size ≤ i) : l.getD i d = d := by
  simp [Array.getD_eq_getD_getElem?, Array.getElem?_eq_none h]
theorem getD_any {l : Array Bool} {i : Nat} (h : i < l.size) (d d' : Bool) : l.getD i d = l.getD i d' := by
  simp [Array.getD_eq_getD_getElem?, h]

theorem set_app_left {l r : Array Bool} {i : Nat} (h : i < l.size) : (l ++ r).setIfInBounds i true = l.setIfInBounds i true ++ r := by
  apply Array.ext_getElem?
  intro k
  simp only [Array.getElem?_setIfInBounds, Array.getElem?_append, Array.size_setIfInBounds, Array.size_append]
  by_cases hk : i = k
  · subst hk
    rw [if_pos rfl, if_pos (by omega), if_pos h, if_pos rfl, if_pos h]
  · rw [if_neg hk, if_neg hk]
theorem set_app_right {l r : Array Bool} {j : Nat} : (l ++ r).setIfInBounds (l.size + j) true = l ++ r.setIfInBounds j true := by
  apply Array.ext_getElem?
  intro k
  simp only [Array.getElem?_setIfInBounds, Array.getElem?_append, Array.size_append]
  by_cases hk : k < l.size
  · rw [if_neg (by omega), if_pos hk, if_pos hk]
  · rw [if_neg hk, if_neg hk]
    by_cases hkj : l.size + j = k
    · subst hkj
      rw [if_pos rfl, show l.size + j - l.size = j by omega, if_pos rfl]
      by_cases hr : j < r.size
      · rw [if_pos (by omega), if_pos (by omega)]
      · rw [if_neg (by omega), if_neg (by omega)]
    · rw [if_neg hkj, if_neg (by omega)]
theorem wanted_like {o o' : Oper} {ops ops' : Array Oper} {tmps : Array Value} (hn : o.guard = none → o'.guard = none) (h : ∀ g, o.guard = some g → ∃ g', o'.guard = some (g', g.2) ∧ (ops'[g']?).bind (·.dst) = (ops[g.1]?).bind (·.dst)) :
    Region.wanted o' (yielded ops' tmps) = Region.wanted o (yielded ops tmps) := by
  unfold Region.wanted
  cases hg : o.guard with
  | none => rw [hn hg]
  | some g =>
    obtain ⟨g', h1, h2⟩ := h g hg
    rw [h1]
    simp only
    unfold yielded
    rw [h2]

/-- The first n operations in whatever order, then what follows. -/
theorem stage_any {hd tl : List Oper} (hB : stageB (hd ++ tl) hd.length = true) {g : Nat} : ∀ (f : Nat) (listed : Array Bool) (a : Act) (w : World), listed.size = hd.length → (∀ (j : Nat) (o : Oper), hd[j]? = some o → listed.getD j false = true → ∀ e ∈ o.after, Region.binds .any e = true → listed.getD e.on false = true) →
    wpAny P .any hd.toArray (Exit.then (fun a w => wpAny P .any (hd ++ tl).toArray Q g (Array.replicate hd.length true ++ Array.replicate tl.length false) a w) Q) f listed a w →
    wpAny P .any (hd ++ tl).toArray Q (f + g) (listed ++ Array.replicate tl.length false) a w := by
  unfold stageB at hB
  simp only [Bool.and_eq_true, decide_eq_true_eq] at hB
  obtain ⟨⟨⟨⟨hn, hE⟩, hG⟩, hR⟩, hS⟩ := hB
  have hlt : ∀ (i : Nat) (o : Oper), hd[i]? = some o → (hd ++ tl)[i]? = some o := fun i o h => by
    rw [List.getElem?_append_left (List.getElem?_eq_some_iff.1 h).1]; exact h
  -- ready in the head
  have hready : ∀ (listed : Array Bool), listed.size = hd.length → ∀ i, i < hd.length → (i ∈ Region.ready .any (hd ++ tl).toArray (listed ++ Array.replicate tl.length false) ↔ i ∈ Region.ready .any hd.toArray listed) := by
    intro listed hsz i hi
    have ho : hd[i]? = some hd[i] := List.getElem?_eq_getElem hi
    rw [mem_ready, mem_ready]
    simp only [List.getElem?_toArray]
    rw [getD_app_left _ (by omega), hlt i _ ho, ho]
    have hed := edgeOk_spec hE (hlt i _ ho)
    constructor
    · rintro ⟨h1, o, h2, h3⟩
      injection h2 with h2
      subst h2
      exact ⟨h1, _, rfl, fun e he hb => by
        have := h3 e he hb
        rwa [getD_app_left _ (by have := hed e he hb; omega)] at this⟩
    · rintro ⟨h1, o, h2, h3⟩
      injection h2 with h2
      subst h2
      exact ⟨h1, _, rfl, fun e he hb => by
        rw [getD_app_left _ (by have := hed e he hb; omega)]
        exact h3 e he hb⟩
  -- nothing of the tail is ready while something of the head has not run
  have htail : ∀ (listed : Array Bool), listed.size = hd.length → (∀ (j : Nat) (o : Oper), hd[j]? = some o → listed.getD j false = true → ∀ e ∈ o.after, Region.binds .any e = true → listed.getD e.on false = true) →
      ∀ (d i : Nat), hd.length - i = d → i < hd.length → listed.getD i false = false → ∀ t, hd.length ≤ t → t ∉ Region.ready .any (hd ++ tl).toArray (listed ++ Array.replicate tl.length false) := by
    intro listed hsz hcl d
    induction d using Nat.strongRecOn with
    | _ d ih =>
      intro i hdi hi hun t ht hr
      obtain ⟨_, ot, hot, hall⟩ := mem_ready.1 hr
      rw [List.getElem?_toArray] at hot
      have htlt : t < (hd ++ tl).length := (List.getElem?_eq_some_iff.1 hot).1
      by_cases htn : t = hd.length
      · subst htn
        have h1 := List.all_eq_true.1 hS i (List.mem_range.2 hi)
        obtain ⟨j, hj, hj2⟩ := List.any_eq_true.1 h1
        simp only [Bool.and_eq_true, decide_eq_true_eq] at hj2
        obtain ⟨oj, hoj, e, he, hb, hon⟩ := Region.waitsFor_spec hj2.2
        rw [List.getElem?_toArray] at hoj
        have hjle : j ≤ hd.length := by have := List.mem_range.1 hj; omega
        by_cases hjt : j = hd.length
        · subst hjt
          rw [hoj] at hot
          injection hot with hot
          subst hot
          have h2 := hall e he hb
          rw [hon, getD_app_left _ (by omega), hun] at h2
          cases h2
        · have hjlt : j < hd.length := by omega
          rw [List.getElem?_append_left hjlt] at hoj
          cases hl : listed.getD j false with
          | true =>
            have h2 := hcl j oj hoj hl e he hb
            rw [hon, hun] at h2
            cases h2
          | false => exact ih (hd.length - j) (by omega) j rfl hjlt hl _ (Nat.le_refl _) hr
      · have h1 := List.all_eq_true.1 hR t (List.mem_range.2 htlt)
        simp only [Bool.or_eq_true, decide_eq_true_eq] at h1
        rcases h1 with h1 | h1
        · omega
        · obtain ⟨j, hj, hj2⟩ := List.any_eq_true.1 h1
          simp only [Bool.and_eq_true, decide_eq_true_eq] at hj2
          obtain ⟨o', ho', e, he, hb, hon⟩ := Region.waitsFor_spec hj2.2
          rw [List.getElem?_toArray, hot] at ho'
          injection ho' with ho'
          subst ho'
          have h2 := hall e he hb
          have hjt := List.mem_range.1 hj
          simp only [List.length_append] at htlt
          rw [hon, getD_app_right _ (by omega), getD_rep _ _ (by omega)] at h2
          cases h2
  -- the head has something ready, or all of it has run
  have hdone : ∀ (listed : Array Bool), listed.size = hd.length → Region.ready .any hd.toArray listed = [] → listed = Array.replicate hd.length true := by
    intro listed hsz hr
    have hall : ∀ i, i < hd.length → listed.getD i false = true := by
      intro i
      induction i using Nat.strongRecOn with
      | _ i ih =>
        intro hi
        cases hl : listed.getD i false with
        | true => rfl
        | false =>
          have ho : hd[i]? = some hd[i] := List.getElem?_eq_getElem hi
          have : i ∈ Region.ready .any hd.toArray listed := mem_ready.2 ⟨by rw [getD_any (by omega) true false]; exact hl, _, by rw [List.getElem?_toArray]; exact ho, fun e he hb => by
            have := edgeOk_spec hE (hlt i _ ho) e he hb
            exact ih e.on this (by omega)⟩
          rw [hr] at this
          cases this
    apply Array.ext (by simp [hsz])
    intro i h1 h2
    have := hall i (by omega)
    simp only [Array.getD_eq_getD_getElem?, Array.getElem?_eq_getElem h1, Option.getD_some] at this
    rw [this]
    simp
  intro f
  induction f with
  | zero =>
    intro listed a w hsz hcl h
    obtain ⟨h1, h2⟩ := h
    rw [hdone listed hsz h1, Nat.zero_add]
    exact h2
  | succ f ih =>
    intro listed a w hsz hcl h
    cases hr : Region.ready .any hd.toArray listed with
    | nil =>
      rw [hdone listed hsz hr]
      exact wpAny_much (h.1 hr) (f + 1)
    | cons i0 r0 =>
      have hi0 : i0 ∈ Region.ready .any hd.toArray listed := by rw [hr]; exact List.mem_cons_self
      obtain ⟨hi0u, o0, ho0, _⟩ := mem_ready.1 hi0
      rw [List.getElem?_toArray] at ho0
      have hi0l := (List.getElem?_eq_some_iff.1 ho0).1
      rw [show f + 1 + g = f + g + 1 by omega]
      have hnt := htail listed hsz hcl _ i0 rfl hi0l (by rw [getD_any (by omega) false true]; exact hi0u)
      refine ⟨fun h0 => ?_, fun i hi => ?_⟩
      · have := (hready listed hsz i0 hi0l).2 hi0
        rw [h0] at this
        cases this
      · have hil : i < hd.length := by
          rcases Nat.lt_or_ge i hd.length with h1 | h1
          · exact h1
          · exact absurd hi (hnt i h1)
        have hih := (hready listed hsz i hil).1 hi
        obtain ⟨_, o, ho, hall⟩ := mem_ready.1 hih
        rw [List.getElem?_toArray] at ho
        have h2 := wpOp_unthen (h.2 i hih)
        have h3 := wpOp_mono (fun a w h => ih (listed.setIfInBounds i true) a w (by simp [hsz]) (fun j oj hoj hl e he hb => ?_) h) h2
        · rw [set_app_left (by omega)]
          refine wpOp_of_eq (by rw [List.getElem?_toArray]; exact hlt i o ho) (by rw [List.getElem?_toArray]; exact ho) rfl (fun _ => rfl) (fun tmps => ?_) h3
          refine wanted_like (fun h => h) fun gd hgd => ⟨gd.1, hgd, ?_⟩
          have := (guardOk_spec hG (hlt i o ho) hgd).1 hil
          simp only [List.getElem?_toArray]
          rw [List.getElem?_append_left this]
        · by_cases hji : i = j
          · subst hji
            rw [ho] at hoj
            injection hoj with hoj
            subst hoj
            exact getD_set_true (hall e he hb)
          · rw [getD_set_ne false hji] at hl
            exact getD_set_true (hcl j oj hoj hl e he hb)

/-- What is behind the first n, as a region of its own. -/
theorem shift_any {hd tl : List Oper} (hG : guardOk (hd ++ tl) hd.length = true) : ∀ (f : Nat) (l' : Array Bool) (a : Act) (w : World), l'.size = tl.length →
    wpAny P .any (tl.map (shiftO hd.length)).toArray Q f l' a w → wpAny P .any (hd ++ tl).toArray Q f (Array.replicate hd.length true ++ l') a w := by
  have hget : ∀ j, (hd ++ tl)[hd.length + j]? = tl[j]? := fun j => by rw [List.getElem?_append_right (by omega)]; congr 1; omega
  have hready : ∀ (l' : Array Bool), l'.size = tl.length → ∀ j, (hd.length + j ∈ Region.ready .any (hd ++ tl).toArray (Array.replicate hd.length true ++ l') ↔ j ∈ Region.ready .any (tl.map (shiftO hd.length)).toArray l') := by
    intro l' hsz j
    rw [mem_ready, mem_ready]
    simp only [List.getElem?_toArray, List.getElem?_map]
    rw [hget, getD_app_right _ (by simp), Array.size_replicate, Nat.add_sub_cancel_left]
    cases ht : tl[j]? with
    | none => simp
    | some o =>
      simp only [Option.map_some, Option.some.injEq, exists_eq_left']
      refine and_congr_right fun _ => ⟨fun h e he hb => ?_, fun h e he hb => ?_⟩
      · simp only [shiftO, List.mem_toArray, List.mem_map, List.mem_filter, decide_eq_true_eq] at he
        obtain ⟨e0, ⟨he0, hn⟩, rfl⟩ := he
        have := h e0 (by simpa using he0) hb
        rw [getD_app_right _ (by simpa using hn), Array.size_replicate] at this
        exact this
      · by_cases hn : hd.length ≤ e.on
        · rw [getD_app_right _ (by simpa using hn), Array.size_replicate]
          refine h { e with on := e.on - hd.length } ?_ hb
          simp only [shiftO, List.mem_toArray, List.mem_map, List.mem_filter, decide_eq_true_eq]
          exact ⟨e, ⟨by simpa using he, hn⟩, rfl⟩
        · rw [getD_app_left _ (by simp; omega), getD_rep _ _ (by omega)]
  have hlow : ∀ (l' : Array Bool) i, i < hd.length → i ∉ Region.ready .any (hd ++ tl).toArray (Array.replicate hd.length true ++ l') := fun l' i hi hr => by
    have := (mem_ready.1 hr).1
    rw [getD_app_left _ (by simpa using hi), getD_rep _ _ hi] at this
    cases this
  have hnil : ∀ (l' : Array Bool), l'.size = tl.length → Region.ready .any (hd ++ tl).toArray (Array.replicate hd.length true ++ l') = [] → Region.ready .any (tl.map (shiftO hd.length)).toArray l' = [] := fun l' hsz h => by
    cases hr : Region.ready .any (tl.map (shiftO hd.length)).toArray l' with
    | nil => rfl
    | cons j r =>
      have := (hready l' hsz j).2 (by rw [hr]; exact List.mem_cons_self)
      rw [h] at this
      cases this
  intro f
  induction f with
  | zero =>
    intro l' a w hsz h
    refine ⟨?_, h.2⟩
    cases hr : Region.ready .any (hd ++ tl).toArray (Array.replicate hd.length true ++ l') with
    | nil => rfl
    | cons i r =>
      exfalso
      have hi : i ∈ Region.ready .any (hd ++ tl).toArray (Array.replicate hd.length true ++ l') := by rw [hr]; exact List.mem_cons_self
      rcases Nat.lt_or_ge i hd.length with h1 | h1
      · exact hlow l' i h1 hi
      · obtain ⟨j, rfl⟩ : ∃ j, i = hd.length + j := ⟨i - hd.length, by omega⟩
        have := (hready l' hsz j).1 hi
        rw [h.1] at this
        cases this
  | succ f ih =>
    intro l' a w hsz h
    refine ⟨fun h0 => h.1 (hnil l' hsz h0), fun i hi => ?_⟩
    rcases Nat.lt_or_ge i hd.length with h1 | h1
    · exact absurd hi (hlow l' i h1)
    · obtain ⟨j, rfl⟩ : ∃ j, i = hd.length + j := ⟨i - hd.length, by omega⟩
      have hj := (hready l' hsz j).1 hi
      have h2 := h.2 j hj
      obtain ⟨_, o', ho', _⟩ := mem_ready.1 hj
      simp only [List.getElem?_toArray, List.getElem?_map] at ho'
      cases ht : tl[j]? with
      | none => rw [ht] at ho'; cases ho'
      | some o =>
        rw [ht] at ho'
        injection ho' with ho'
        have h3 := wpOp_mono (fun a w h => ih (l'.setIfInBounds j true) a w (by simp [hsz]) h) h2
        have hset := set_app_right (l := Array.replicate hd.length true) (r := l') (j := j)
        rw [Array.size_replicate] at hset
        rw [hset]
        refine wpOp_of_eq (o := o) (o' := shiftO hd.length o) (by rw [List.getElem?_toArray, hget]; exact ht) (by rw [List.getElem?_toArray, List.getElem?_map, ht]; rfl) rfl (fun _ => rfl) (fun tmps => ?_) h3
        refine wanted_like (fun h => by simp [shiftO, h]) fun gd hgd => ⟨gd.1 - hd.length, by simp [shiftO, hgd], ?_⟩
        have hg2 := (guardOk_spec hG (by rw [hget]; exact ht) hgd).2 (by omega)
        have h5 := hget (gd.1 - hd.length)
        rw [show hd.length + (gd.1 - hd.length) = gd.1 by omega] at h5
        simp only [List.getElem?_toArray, List.getElem?_map]
        rw [h5]
        cases tl[gd.1 - hd.length]? <;> rfl

/-! ### Stages -/
def SameO (ops ops' : Array Oper) (o o' : Oper) : Prop := o'.dst = o.dst ∧ (∀ ρ, execOp ρ o' = execOp ρ o) ∧ ∀ tmps, Region.wanted o' (yielded ops' tmps) = Region.wanted o (yielded ops tmps)
def SameL (ops ops' : Array Oper) : List Oper → List Oper → Prop
  | [], [] => True
  | o :: s, o' :: s' => SameO ops ops' o o' ∧ SameL ops ops' s s'
  | _, _ => False
theorem sameL_of {ops ops' : Array Oper} : ∀ {s s' : List Oper}, s'.length = s.length → (∀ (j : Nat) (o o' : Oper), s[j]? = some o → s'[j]? = some o' → SameO ops ops' o o') → SameL ops ops' s s'
  | [], [], _, _ => trivial
  | [], _ :: _, h, _ => by cases h
  | _ :: _, [], h, _ => by cases h
  | o :: s, o' :: s', h, hh => ⟨hh 0 o o' rfl rfl, sameL_of (by simpa using h) fun j x x' h1 h2 => hh (j + 1) x x' (by simpa using h1) (by simpa using h2)⟩
theorem quiet_same {ops ops' : Array Oper} {C : World → Prop} {K : Act → Prop} : ∀ {s s' : List Oper} {a : Act}, SameL ops ops' s s' → wpQuiet P ops C K s a → wpQuiet P ops' C K s' a
  | [], [], _, _, h => h
  | [], _ :: _, _, h, _ => h.elim
  | _ :: _, [], _, h, _ => h.elim
  | o :: s, o' :: s', a, ⟨⟨hd, he, hw⟩, hs⟩, h => by
    unfold wpQuiet at h ⊢
    rw [hw]
    split
    · rename_i hw'
      rw [if_pos hw'] at h
      obtain ⟨v, h1, h2⟩ := h
      refine ⟨v, fun w hc => ?_, by rw [hd]; exact quiet_same hs h2⟩
      have := h1 w hc
      unfold Oper.quietAt at *
      rwa [he]
    · rename_i hw'
      rw [if_neg hw'] at h
      rw [hd]
      exact quiet_same hs h
theorem list_same {ops ops' : Array Oper} {K : Act → World → Prop} : ∀ {s s' : List Oper} {a : Act} {w : World}, SameL ops ops' s s' → wpList P ops (Exit.then K Q) s a w → wpList P ops' (Exit.then K Q) s' a w
  | [], [], _, _, _, h => h
  | [], _ :: _, _, _, h, _ => h.elim
  | _ :: _, [], _, _, h, _ => h.elim
  | o :: s, o' :: s', a, w, ⟨⟨hd, he, hw⟩, hs⟩, h => by
    unfold wpList at h ⊢
    rw [hw]
    split
    · rename_i hw'
      rw [if_pos hw'] at h
      refine h.imp (fun h => ?_) (fun ⟨h1, h2⟩ => ⟨?_, h2⟩)
      · have h := Oper.wp_mono (fun a w h => list_same hs h) h
        unfold Oper.wp at *
        rw [he]
        generalize (execOp a.eval o).run P w = r at *
        cases r with
        | ok n w' => cases n <;> simp only [Oper.upon, hd] at h ⊢ <;> exact h
        | halt x w' => cases x <;> simp only [Oper.upon] at h ⊢ <;> exact h
      · unfold Oper.asks at *
        rw [he]
        exact h1
    · rename_i hw'
      rw [if_neg hw'] at h
      rw [hd]
      exact list_same hs h
theorem list_mono {ops : Array Oper} {K K' : Act → World → Prop} (hk : ∀ a w, K a w → K' a w) : ∀ {s : List Oper} {a : Act} {w : World}, wpList P ops (Exit.then K Q) s a w → wpList P ops (Exit.then K' Q) s a w
  | [], _, _, h => hk _ _ h
  | o :: s, a, w, h => by
    unfold wpList at h ⊢
    split
    · rename_i hw'
      rw [if_pos hw'] at h
      refine h.imp (fun h => ?_) (fun ⟨h1, h2⟩ => ⟨h1, h2⟩)
      have h := Oper.wp_mono (fun a w h => list_mono hk h) h
      unfold Oper.wp at *
      generalize (execOp a.eval o).run P w = r at *
      cases r with
      | ok n w' =>
        cases n <;> simp only [Oper.upon] at h ⊢ <;>
          first
            | exact h
            | exact Calls.mono h (fun e w'' he => by cases e <;> exact he)
      | halt x w' => cases x <;> simp only [Oper.upon] at h ⊢ <;> exact h
    · rename_i hw'
      rw [if_neg hw'] at h
      exact list_mono hk h
def chainL (l : List Oper) : Bool := edgeOk l && (List.range l.length).all fun t => decide (t = 0) || Region.waitsFor .any l.toArray t (t - 1)
theorem chain_any {l : List Oper} (hB : chainL l = true) : ∀ (s pre : List Oper) (a : Act) (w : World), l = pre ++ s → wpList P l.toArray Q s a w → wpAny P .any l.toArray Q s.length (Array.replicate pre.length true ++ Array.replicate s.length false) a w := by
  unfold chainL at hB
  simp only [Bool.and_eq_true] at hB
  obtain ⟨hE, hC⟩ := hB
  intro s
  induction s with
  | nil =>
    intro pre a w hl h
    refine ⟨?_, h⟩
    rw [List.append_nil] at hl
    subst hl
    cases hr : Region.ready .any l.toArray (Array.replicate l.length true ++ Array.replicate ([] : List Oper).length false) with
    | nil => rfl
    | cons i r =>
      exfalso
      have hi : i ∈ Region.ready .any l.toArray (Array.replicate l.length true ++ Array.replicate ([] : List Oper).length false) := by rw [hr]; exact List.mem_cons_self
      obtain ⟨h1, o, h2, _⟩ := mem_ready.1 hi
      rw [List.getElem?_toArray] at h2
      have hil := (List.getElem?_eq_some_iff.1 h2).1
      rw [getD_app_left _ (by simpa using hil), getD_rep _ _ hil] at h1
      cases h1
  | cons o s ih =>
    intro pre a w hl h
    have ho : l[pre.length]? = some o := by rw [hl, List.getElem?_append_right (Nat.le_refl _)]; simp
    have hrd : pre.length ∈ Region.ready .any l.toArray (Array.replicate pre.length true ++ Array.replicate (o :: s).length false) := mem_ready.2 ⟨by rw [getD_app_right _ (by simp), getD_rep _ _ (by simp)], o, by rw [List.getElem?_toArray]; exact ho, fun e he hb => by
      have := edgeOk_spec hE ho e he hb
      rw [getD_app_left _ (by simpa using this), getD_rep _ _ this]⟩
    refine ⟨fun h0 => (by rw [h0] at hrd; cases hrd), fun i hi => ?_⟩
    have hii : i = pre.length := by
      obtain ⟨h1, oi, h2, h3⟩ := mem_ready.1 hi
      rcases Nat.lt_trichotomy i pre.length with hlt | heq | hgt
      · rw [getD_app_left _ (by simpa using hlt), getD_rep _ _ hlt] at h1
        cases h1
      · exact heq
      · exfalso
        rw [List.getElem?_toArray] at h2
        have hil := (List.getElem?_eq_some_iff.1 h2).1
        have h4 := List.all_eq_true.1 hC i (List.mem_range.2 hil)
        simp only [Bool.or_eq_true, decide_eq_true_eq] at h4
        rcases h4 with h4 | h4
        · omega
        · obtain ⟨o', ho', e, he, hb, hon⟩ := Region.waitsFor_spec h4
          rw [List.getElem?_toArray, h2] at ho'
          injection ho' with ho'
          subst ho'
          have h5 := h3 e he hb
          rw [hon, getD_app_right _ (by simp; omega), getD_rep _ _ (by rw [hl] at hil; simp at hil ⊢; omega)] at h5
          cases h5
    subst hii
    have hset : (Array.replicate pre.length true ++ Array.replicate (o :: s).length false).setIfInBounds pre.length true = Array.replicate (pre ++ [o]).length true ++ Array.replicate s.length false := by
      apply Array.ext_getElem?
      intro k
      simp only [Array.getElem?_setIfInBounds, Array.getElem?_append, Array.size_append, Array.size_replicate, Array.getElem?_replicate, List.length_cons, List.length_append, List.length_nil]
      by_cases h1 : pre.length = k
      · subst h1
        rw [if_pos rfl, if_pos (by omega), if_pos (by omega), if_pos (by omega)]
      · rw [if_neg h1]
        by_cases h2 : k < pre.length
        · rw [if_pos h2, if_pos h2, if_pos (by omega), if_pos (by omega)]
        · by_cases h3 : k - pre.length < s.length + 1
          · rw [if_neg h2, if_pos h3, if_neg (show ¬ k < pre.length + (0 + 1) by omega), if_pos (by omega)]
          · rw [if_neg h2, if_neg h3, if_neg (show ¬ k < pre.length + (0 + 1) by omega), if_neg (by omega)]
    rw [hset]
    unfold wpList at h
    unfold wpOp
    simp only [List.getElem?_toArray, ho]
    split
    · rename_i hw
      rw [if_pos hw] at h
      exact h.imp (Oper.wp_mono fun a w h => ih (pre ++ [o]) a w (by rw [hl]; simp) h) id
    · rename_i hw
      rw [if_neg hw] at h
      exact ih (pre ++ [o]) _ w (by rw [hl]; simp) h
theorem wpAny_unthen {ops : Array Oper} {md : Region.Mode} : ∀ (f : Nat) (listed : Array Bool) (a : Act) (w : World), wpAny P md ops (Exit.then (fun a w => Q .normal a w) Q) f listed a w → wpAny P md ops Q f listed a w
  | 0, _, _, _, h => ⟨h.1, h.2⟩
  | f + 1, _, _, _, h => ⟨fun h0 => h.1 h0, fun i hi => wpOp_mono (fun a w h => wpAny_unthen f _ a w h) (wpOp_unthen (h.2 i hi))⟩

def stB : List (Bool × Nat) → List Oper → Bool
  | [], l => l.isEmpty
  | (q, k) :: ns, l => (if k = l.length then guardOk l l.length else stageB l k) && (if q = true then Region.lexB .any (l.take k).toArray else chainL (l.take k)) && stB ns ((l.drop k).map (shiftO k))
/-- The stages, one behind the other: true: quiet (of what was there nothing turns), false: a chain. -/
def wpSt (P : Program) (ops : Array Oper) (Q : Exit → Act → World → Prop) : List (Bool × Nat) → List Oper → Act → World → Prop
  | [], _, a, w => Q .normal a w
  | (true, k) :: ns, l, a, w => wpQuiet P ops (fun w' => ∃ p : Regrown, w' = grow (redrawn w p.d) p.os) (fun a' => ∀ w', (∃ p : Regrown, w' = grow (redrawn w p.d) p.os) → wpSt P ops Q ns (l.drop k) a' w') (l.take k) a
  | (false, k) :: ns, l, a, w => wpList P ops (Exit.then (fun a w => wpSt P ops Q ns (l.drop k) a w) Q) (l.take k) a w
structure LikeL (n : Nat) (all : Array Oper) (tl l' : List Oper) : Prop where
  len : l'.length = tl.length
  whole : ∀ j : Nat, j < tl.length → all[n + j]? = tl[j]?
  like : ∀ (j : Nat) (o : Oper), tl[j]? = some o → ∃ A : Array Edge, l'[j]? = some { o with after := A, guard := o.guard.map fun g => (g.1 - n, g.2) }
  grd : ∀ (j : Nat) (o : Oper), tl[j]? = some o → ∀ g : Nat × Bool, o.guard = some g → n ≤ g.1
theorem LikeL.next {n k : Nat} {whole : Array Oper} {tl l' : List Oper} (h : LikeL n whole tl l') (hg : guardOk l' k = true) : LikeL (n + k) whole (tl.drop k) ((l'.drop k).map (shiftO k)) := by
  have hd : ∀ (j : Nat) (o : Oper), (tl.drop k)[j]? = some o → tl[k + j]? = some o := fun j o ho => by rwa [List.getElem?_drop] at ho
  have hgr : ∀ (j : Nat) (o : Oper), (tl.drop k)[j]? = some o → ∀ g : Nat × Bool, o.guard = some g → n + k ≤ g.1 := fun j o ho g hgo => by
    obtain ⟨A, hA⟩ := h.like (k + j) o (hd j o ho)
    have h1 := h.grd (k + j) o (hd j o ho) g hgo
    have h2 := (guardOk_spec hg hA (g := (g.1 - n, g.2)) (by simp [hgo])).2 (by omega)
    have h3 : k ≤ g.1 - n := h2.1
    omega
  refine ⟨by simp [h.len], fun j hj => ?_, fun j o ho => ?_, hgr⟩
  · rw [List.getElem?_drop, ← h.whole (k + j) (by rw [List.length_drop] at hj; omega), Nat.add_assoc]
  · obtain ⟨A, hA⟩ := h.like (k + j) o (hd j o ho)
    refine ⟨((A.toList.filter fun e => decide (k ≤ e.on)).map fun e => { e with on := e.on - k }).toArray, ?_⟩
    rw [List.getElem?_map, List.getElem?_drop, hA, Option.map_some]
    unfold shiftO
    congr 2
    cases hgo : o.guard with
    | none => rfl
    | some g =>
      simp only [Option.map_some]
      congr 2
      omega
theorem LikeL.same {n : Nat} {whole : Array Oper} {tl l' : List Oper} (h : LikeL n whole tl l') {k : Nat} (hk : k ≤ tl.length) (hg : ∀ (j : Nat) (o : Oper), (l'.take k)[j]? = some o → ∀ g : Nat × Bool, o.guard = some g → g.1 < k) : SameL whole (l'.take k).toArray (tl.take k) (l'.take k) := by
  refine sameL_of (by simp [h.len]) fun j o o' ho ho' => ?_
  have hjk : j < k := by have := (List.getElem?_eq_some_iff.1 ho).1; simp at this; omega
  have ho1 : tl[j]? = some o := by rwa [List.getElem?_take_of_lt hjk] at ho
  obtain ⟨A, hA⟩ := h.like j o ho1
  have ho2 := ho'
  rw [List.getElem?_take_of_lt hjk, hA] at ho'
  injection ho' with ho'
  subst ho'
  refine ⟨rfl, fun _ => rfl, fun tmps => wanted_like (fun hn => by simp [hn]) fun g hgo => ⟨g.1 - n, by simp [hgo], ?_⟩⟩
  have h1 := hg j _ ho2 (g.1 - n, g.2) (by simp [hgo])
  have h2 := h.grd j o ho1 g hgo
  have h1' : g.1 - n < k := h1
  rw [List.getElem?_toArray, List.getElem?_take_of_lt h1']
  have hlt : g.1 - n < tl.length := by omega
  have h3 := h.whole (g.1 - n) hlt
  rw [show n + (g.1 - n) = g.1 by omega] at h3
  rw [h3]
  have h4 : tl[g.1 - n]? = some tl[g.1 - n] := List.getElem?_eq_getElem hlt
  obtain ⟨B, hB⟩ := h.like _ _ h4
  rw [hB, h4]
  rfl

theorem back_class (w : World) : ∃ p : Regrown, w = grow (redrawn w p.d) p.os := ⟨⟨w.drawn, #[]⟩, by rw [grow_empty]; rfl⟩
/-- One stage, whatever follows. -/
theorem head_any {n : Nat} {whole : Array Oper} {tl l' : List Oper} (h : LikeL n whole tl l') {k : Nat} (hk : k ≤ tl.length) (hg : ∀ (j : Nat) (o : Oper), (l'.take k)[j]? = some o → ∀ g : Nat × Bool, o.guard = some g → g.1 < k) {q : Bool} (hq : (if q = true then Region.lexB .any (l'.take k).toArray else chainL (l'.take k)) = true) {ns : List (Bool × Nat)} {K : Act → World → Prop} (hK : ∀ a w, wpSt P whole Q ns (tl.drop k) a w → K a w) {a : Act} {w : World}
    (hs : wpSt P whole Q ((q, k) :: ns) tl a w) : wpAny P .any (l'.take k).toArray (Exit.then K Q) k (Array.replicate k false) a w := by
  have hsz : (l'.take k).length = k := by rw [List.length_take, h.len]; omega
  cases q with
  | true =>
    rw [if_pos rfl] at hq
    have h1 := quiet_same (h.same hk hg) hs
    simp only [Region.lexB, Bool.and_eq_true] at hq
    have h2 := wpAnyQ_lex (C := fun w' => ∃ p : Regrown, w' = grow (redrawn w p.d) p.os) (md := .any) hq.1 (l'.take k) 0 (Array.replicate k false) a (by simp) (by have := hq.2; simp only [List.size_toArray] at this; rw [hsz] at this ⊢; exact this) h1
    rw [hsz] at h2
    exact wpAny_of_quiet (C := fun w' => ∃ p : Regrown, w' = grow (redrawn w p.d) p.os) (fun a' w' hc hh => hK a' w' (hh w' hc)) _ _ _ _ (back_class w) h2
  | false =>
    rw [if_neg (by decide)] at hq
    have h1 := list_same (h.same hk hg) (list_mono hK hs)
    have h2 := chain_any hq (l'.take k) [] a w rfl h1
    rw [hsz] at h2
    simpa using h2
theorem st_any {whole : Array Oper} : ∀ (ns : List (Bool × Nat)) (n : Nat) (tl l' : List Oper) (a : Act) (w : World), LikeL n whole tl l' → stB ns l' = true → wpSt P whole Q ns tl a w → wpAny P .any l'.toArray Q l'.length (Array.replicate l'.length false) a w
  | [], n, tl, l', a, w, h, hB, hs => by
    have : l' = [] := by simpa [stB] using hB
    subst this
    exact ⟨rfl, hs⟩
  | (q, k) :: ns, n, tl, l', a, w, h, hB, hs => by
    unfold stB at hB
    simp only [Bool.and_eq_true] at hB
    obtain ⟨⟨hB1, hB2⟩, hB3⟩ := hB
    by_cases hk : k = l'.length
    · rw [if_pos hk] at hB1
      have hn : ns = [] ∨ ns ≠ [] := by cases ns <;> simp
      have hg : ∀ (j : Nat) (o : Oper), (l'.take k)[j]? = some o → ∀ g : Nat × Bool, o.guard = some g → g.1 < k := fun j o ho g hgo => by
        have hj : j < l'.length := by have := (List.getElem?_eq_some_iff.1 ho).1; simp at this; omega
        rw [List.getElem?_take_of_lt (by omega)] at ho
        have := (guardOk_spec hB1 ho hgo).1 hj
        omega
      have hd : tl.drop k = [] := List.drop_eq_nil_of_le (by rw [← h.len]; omega)
      have hd' : l'.drop k = [] := List.drop_eq_nil_of_le (by omega)
      have hend : ∀ (ns : List (Bool × Nat)) (a : Act) (w : World), stB ns [] = true → wpSt P whole Q ns [] a w → Q .normal a w := by
        intro ns
        induction ns with
        | nil => intro a w _ h; exact h
        | cons x ns ih =>
          intro a w hb h
          obtain ⟨q, k⟩ := x
          unfold stB at hb
          simp only [Bool.and_eq_true, List.take_nil, List.drop_nil, List.map_nil] at hb
          cases q with
          | true =>
            have h' : ∀ w', (∃ p : Regrown, w' = grow (redrawn w p.d) p.os) → wpSt P whole Q ns (([] : List Oper).drop k) a w' := by
              have h0 := h
              unfold wpSt at h0
              rw [List.take_nil] at h0
              exact h0
            have := h' w (back_class w)
            rw [List.drop_nil] at this
            exact ih a w hb.2 this
          | false =>
            have h' : wpSt P whole Q ns (([] : List Oper).drop k) a w := by
              have h0 := h
              unfold wpSt at h0
              rw [List.take_nil] at h0
              exact h0
            rw [List.drop_nil] at h'
            exact ih a w hb.2 h'
      rw [hd', List.map_nil] at hB3
      have h3 := head_any h (by rw [← h.len]; omega) hg hB2 (K := fun a w => Q .normal a w) (fun a w hh => by rw [hd] at hh; exact hend ns a w hB3 hh) hs
      rw [List.take_of_length_le (by omega)] at h3
      have h4 := wpAny_unthen _ _ _ _ h3
      rw [hk] at h4
      exact h4
    · rw [if_neg hk] at hB1
      have hB0 := hB1
      unfold stageB at hB1
      simp only [Bool.and_eq_true, decide_eq_true_eq] at hB1
      obtain ⟨⟨⟨⟨hn, hE⟩, hG⟩, hR⟩, hS⟩ := hB1
      have hsz : (l'.take k).length = k := by rw [List.length_take]; omega
      have hg : ∀ (j : Nat) (o : Oper), (l'.take k)[j]? = some o → ∀ g : Nat × Bool, o.guard = some g → g.1 < k := fun j o ho g hgo => by
        have hj : j < k := by have := (List.getElem?_eq_some_iff.1 ho).1; simp at this; omega
        rw [List.getElem?_take_of_lt hj] at ho
        exact (guardOk_spec hG ho hgo).1 hj
      have happ : l' = l'.take k ++ l'.drop k := (List.take_append_drop k l').symm
      have hdl : (l'.drop k).length = l'.length - k := List.length_drop
      have h3 := head_any h (by rw [← h.len]; omega) hg hB2 (K := fun a w => wpAny P .any (l'.take k ++ l'.drop k).toArray Q (l'.drop k).length (Array.replicate (l'.take k).length true ++ Array.replicate (l'.drop k).length false) a w) (fun a w hh => by
        refine shift_any (by rw [hsz, ← happ]; exact hG) _ _ a w (by simp) ?_
        have := st_any ns (n + k) (tl.drop k) ((l'.drop k).map (shiftO k)) a w (h.next hG) hB3 hh
        rw [List.length_map] at this
        rw [hsz]
        exact this) hs
      have h4 := stage_any (hd := l'.take k) (tl := l'.drop k) (by rw [hsz, ← happ]; exact hB0) k (Array.replicate k false) a w (by simp [hsz]) (fun j o ho hl => by
        have hj : j < k := by have := (List.getElem?_eq_some_iff.1 ho).1; simp at this; omega
        rw [getD_rep _ _ hj] at hl
        cases hl) h3
      rw [← happ] at h4
      have hrep : Array.replicate k false ++ Array.replicate (l'.drop k).length false = Array.replicate l'.length false := by
        apply Array.ext (by simp; omega)
        intro i h1 h2
        simp only [Array.getElem_append, Array.getElem_replicate]
        split <;> rfl
      rw [hrep] at h4
      rwa [show k + (l'.drop k).length = l'.length by omega] at h4
/-- **A drawn region in stages.** -/
theorem wp_region_st {id : Nat} {a : Act} {w : World} {l : List Oper} (ns : List (Bool × Nat)) (hm : P.follows .mixedOrders = true) (hB : stB ns l = true) (h : wpSt P l.toArray Q ns l a { w with drawn := w.drawn + 1 }) : (Code.region id l.toArray true).wp P Q a w := by
  refine wp_region_any hm ?_
  have hl : LikeL 0 l.toArray l l := ⟨rfl, fun j _ => by rw [List.getElem?_toArray, Nat.zero_add], fun j o ho => ⟨o.after, by rw [ho]; congr 1; cases hg : o.guard with
    | none => cases o; simp only at hg; subst hg; rfl
    | some g => cases o; simp only at hg; subst hg; rfl⟩, fun _ _ _ _ _ => Nat.zero_le _⟩
  have := st_any ns 0 l l a _ hl hB h
  simpa using this
theorem wp_region_stages {id : Nat} {a : Act} {w : World} {l : List Oper} (ns : List (Bool × Nat)) (hm : P.follows .mixedOrders = true) (hB : stB ns l = true) (h : ∀ wz, RowKit.Below w.heap.size w wz → RowKit.Below wz.heap.size wz w → wpSt P l.toArray Q ns l a wz) : (Code.region id l.toArray true).wp P Q a w :=
  wp_region_st ns hm hB (h _ ⟨rfl, rfl, rfl, Nat.le_refl _, fun _ _ => rfl⟩ ⟨rfl, rfl, rfl, Nat.le_refl _, fun _ _ => rfl⟩)
theorem wpSt_q {ops : Array Oper} {k : Nat} {ns : List (Bool × Nat)} {l : List Oper} {a : Act} {w : World} (h : wpQuiet P ops (fun w' => ∃ p : Regrown, w' = grow (redrawn w p.d) p.os) (fun a' => ∀ w', (∃ p : Regrown, w' = grow (redrawn w p.d) p.os) → wpSt P ops Q ns (l.drop k) a' w') (l.take k) a) : wpSt P ops Q ((true, k) :: ns) l a w := h
theorem wpSt_l {ops : Array Oper} {k : Nat} {ns : List (Bool × Nat)} {l : List Oper} {a : Act} {w : World} (h : wpList P ops (Exit.then (fun a w => wpSt P ops Q ns (l.drop k) a w) Q) (l.take k) a w) : wpSt P ops Q ((false, k) :: ns) l a w := h
theorem wpSt_end {ops : Array Oper} {l : List Oper} {a : Act} {w : World} (h : Q .normal a w) : wpSt P ops Q [] l a w := h
end
end Go.Proofs.Ytnifhhaalmlmnaa
