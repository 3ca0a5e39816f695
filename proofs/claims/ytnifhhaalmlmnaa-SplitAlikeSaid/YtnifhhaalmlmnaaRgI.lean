/- A region that draws its order, by what each operation leaves, whatever the order is. -/
import Derived.Test.YtnifhhaalmlmnaaProg
import Derived.RegionTactic
namespace Go.Proofs.Ytnifhhaalmlmnaa
section
variable {P : Program} {Q : Exit → Act → World → Prop}
/-- What an operation's run comes to: a value, and a world. -/
def comesV (P : Program) (K : Value → World → Prop) : Result Next → Prop
  | .ok (.value v) w => K v w
  | .ok .skip w => K undef w
  | .ok (.enter f args) w => Calls P f args w fun e w' => ∃ v, e = .returned v ∧ K v w'
  | _ => False
theorem comesV_value (K : Value → World → Prop) (v : Value) (w : World) : comesV P K (.ok (.value v) w) = K v w := rfl
theorem comesV_skip (K : Value → World → Prop) (w : World) : comesV P K (.ok .skip w) = K undef w := rfl
theorem comesV_enter (K : Value → World → Prop) (f : FuncId) (args : Array Value) (w : World) : comesV P K (.ok (.enter f args) w) = Calls P f args w fun e w' => ∃ v, e = .returned v ∧ K v w' := rfl
theorem upon_comes {o : Oper} {a : Act} {K : Act → World → Prop} {r : Result Next} (h : comesV P (fun v w => K (a.put o.dst v) w) r) : o.upon P a K Q r := by
  cases r with
  | ok n w =>
    cases n <;> first
      | exact h
      | exact Calls.mono h (fun e w' ⟨v, he, hk⟩ => by rw [he]; exact hk)
      | exact h.elim
  | halt x w => exact h.elim

/-- The value of slot s: what the operation that writes it has left. -/
def lookV : List Oper → Nat → (Nat → Value) → Nat → Option Value
  | [], _, _, _ => none
  | o :: r, j, val, s => if o.dst = some s then some (val j) else lookV r (j + 1) val s
def rhoV (ops : List Oper) (a : Act) (val : Nat → Value) : Operand → Value
  | .tmp s => (lookV ops 0 val s).getD (a.eval (.tmp s))
  | x => a.eval x
def wantedV (o : Oper) (val : Nat → Value) : Bool := match o.guard with
  | none => true
  | some (g, want) => match val g with
    | .bool b => b == want
    | _ => false
def putAll : List Oper → Nat → (Nat → Value) → Act → Act
  | [], _, _, a => a
  | o :: r, j, val, a => putAll r (j + 1) val (a.put o.dst (val j))
def slotOf (a : Act) (o : Oper) : Value := match o.dst with
  | some s => a.eval (.tmp s)
  | none => undef
def valOf (ops : List Oper) (a : Act) (j : Nat) : Value := match ops[j]? with
  | some o => slotOf a o
  | none => undef
def binding (o : Oper) (i : Nat) : Bool := o.after.toList.any fun e => Region.binds .any e && e.on == i
def updV (val : Nat → Value) (i : Nat) (v : Value) : Nat → Value := fun j => if j = i then v else val j

theorem lookV_val (ops : List Oper) (a : Act) (s : Nat) : ∀ (l : List Oper) (k : Nat), (∀ j o, l[j]? = some o → ops[k + j]? = some o) → (lookV l k (valOf ops a) s).getD (a.eval (.tmp s)) = a.eval (.tmp s)
  | [], _, _ => rfl
  | o :: r, k, h => by
    unfold lookV
    split
    · rename_i hd
      have h0 := h 0 o rfl
      rw [Nat.add_zero] at h0
      simp [valOf, h0, slotOf, hd]
    · exact lookV_val ops a s r (k + 1) fun j o' hj => by
        have := h (j + 1) o' (by simpa using hj)
        rwa [show k + (j + 1) = k + 1 + j by omega] at this
theorem lookV_none (val : Nat → Value) (s : Nat) : ∀ (l : List Oper) (k : Nat), (∀ o ∈ l, o.dst ≠ some s) → lookV l k val s = none
  | [], _, _ => rfl
  | o :: r, k, h => by
    unfold lookV
    rw [if_neg (h o List.mem_cons_self)]
    exact lookV_none val s r (k + 1) fun o' ho => h o' (List.mem_cons_of_mem _ ho)

/-- How a frame on the way stands to the first one. -/
structure FrV (ops : List Oper) (a a' : Act) : Prop where
  defers : a'.defers = a.defers
  size : a'.tmps.size = a.tmps.size
  other : ∀ s, (∀ o ∈ ops, o.dst ≠ some s) → a'.eval (.tmp s) = a.eval (.tmp s)
theorem rho_eq {ops : List Oper} {a a' : Act} (h : FrV ops a a') : a'.eval = rhoV ops a (valOf ops a') := by
  funext x
  cases x with
  | tmp s =>
    show _ = (lookV ops 0 (valOf ops a') s).getD (a.eval (.tmp s))
    by_cases hs : ∀ o ∈ ops, o.dst ≠ some s
    · rw [lookV_none _ s ops 0 hs]
      exact h.other s hs
    · have h1 := lookV_val ops a' s ops 0 (fun j o hj => by rw [Nat.zero_add]; exact hj)
      cases hl : lookV ops 0 (valOf ops a') s with
      | some v => rw [hl] at h1; exact h1.symm
      | none =>
        exfalso
        have key : ∀ (l : List Oper) (k : Nat), lookV l k (valOf ops a') s = none → ∀ o ∈ l, o.dst ≠ some s := by
          intro l
          induction l with
          | nil => intro k _ o ho; cases ho
          | cons f r ih =>
            intro k hn o ho
            unfold lookV at hn
            split at hn
            · cases hn
            · rename_i hf
              rcases List.mem_cons.1 ho with rfl | ho
              · exact hf
              · exact ih _ hn o ho
        exact hs (key ops 0 hl)
  | const v => rfl
  | global g => rfl
  | func f => rfl
theorem eval_put_same {a : Act} {s : Nat} {v : Value} (h : s < a.tmps.size) : (a.put (some s) v).eval (.tmp s) = v := by
  simp [Act.put, Act.eval, h]
theorem eval_put_other {a : Act} {s t : Nat} {v : Value} (h : t ≠ s) : (a.put (some t) v).eval (.tmp s) = a.eval (.tmp s) := by
  simp [Act.put, Act.eval, Array.getElem?_setIfInBounds_ne h]
theorem put_size (a : Act) (d : Option Tmp) (v : Value) : (a.put d v).tmps.size = a.tmps.size := by cases d <;> simp [Act.put]
theorem put_defers (a : Act) (d : Option Tmp) (v : Value) : (a.put d v).defers = a.defers := by cases d <;> rfl
theorem wanted_eq {ops : List Oper} {a' : Act} {o : Oper} (hg : ∀ g want, o.guard = some (g, want) → g < ops.length) : Region.wanted o (yielded ops.toArray a'.tmps) = wantedV o (valOf ops a') := by
  unfold Region.wanted wantedV
  cases ho : o.guard with
  | none => rfl
  | some gw =>
    obtain ⟨g, want⟩ := gw
    have hlt := hg g want ho
    simp only
    have h1 : ops[g]? = some ops[g] := List.getElem?_eq_getElem hlt
    unfold yielded valOf
    rw [List.getElem?_toArray, h1]
    simp only [Option.bind_some]
    unfold slotOf
    cases hd : ops[g].dst with
    | none => simp [undef]
    | some s =>
      simp only [Option.bind_some, Act.eval, Array.getD_eq_getD_getElem?]
      cases ht : a'.tmps[s]? with
      | none => simp [undef]
      | some v =>
        simp only [Option.getD_some]
        cases v <;> simp

/-- The frame behind all operations. -/
theorem putAll_fr {ops : List Oper} {a a' : Act} (h : FrV ops a a') : ∀ (l : List Oper) (k : Nat) (b : Act), (∀ j o, l[j]? = some o → ops[k + j]? = some o) → b.defers = a.defers → b.tmps.size = a.tmps.size →
    (∀ s, (∀ o ∈ l, o.dst ≠ some s) → b.eval (.tmp s) = a'.eval (.tmp s)) → putAll l k (valOf ops a') b = a'
  | [], k, b, _, hd, hs, he => by
    have h1 : b.tmps = a'.tmps := by
      apply Array.ext (by rw [hs, h.size])
      intro i hi hi'
      have := he i (fun o ho => by cases ho)
      simp only [Act.eval, Array.getD_eq_getD_getElem?, Array.getElem?_eq_getElem hi, Array.getElem?_eq_getElem hi', Option.getD_some] at this
      exact this
    show b = a'
    obtain ⟨t, d⟩ := b
    obtain ⟨t', d'⟩ := a'
    have h2 := h.defers
    simp only at h1 hd h2
    rw [h1, hd, ← h2]
  | o :: r, k, b, hl, hd, hs, he => by
    unfold putAll
    refine putAll_fr h r (k + 1) _ (fun j o' hj => by
      have := hl (j + 1) o' (by simpa using hj)
      rwa [show k + (j + 1) = k + 1 + j by omega] at this) (by rw [put_defers, hd]) (by rw [put_size, hs]) fun s hsr => ?_
    have h0 := hl 0 o rfl
    rw [Nat.add_zero] at h0
    have hv : valOf ops a' k = slotOf a' o := by unfold valOf; rw [h0]
    by_cases hds : o.dst = some s
    · rw [hv, hds]
      have : slotOf a' o = a'.eval (.tmp s) := by unfold slotOf; rw [hds]
      rw [this]
      by_cases hlt : s < b.tmps.size
      · exact eval_put_same hlt
      · have hlt' : ¬ s < a'.tmps.size := by rw [h.size, ← hs]; exact hlt
        simp [Act.put, Act.eval, hlt, hlt']
    · have hso : ∀ o' ∈ o :: r, o'.dst ≠ some s := fun o' ho => by
        rcases List.mem_cons.1 ho with rfl | ho
        · exact hds
        · exact hsr o' ho
      rw [← he s hso]
      cases hd2 : o.dst with
      | none => rfl
      | some t => exact eval_put_other fun e => hds (by rw [hd2, e])

/-! ### The law -/
def normV (o : Oper) (v : Value) : Value := match o.dst with
  | some _ => v
  | none => undef
def backB (ops : List Oper) (o : Oper) : Nat → Nat → Bool
  | 0, j => binding o j
  | n + 1, j => binding o j || ops.zipIdx.any fun y => binding y.1 j && backB ops o n y.2
theorem binding_edge {o : Oper} {j : Nat} (h : binding o j = true) : ∃ e ∈ o.after.toList, Region.binds .any e = true ∧ e.on = j := by
  unfold binding at h
  rw [List.any_eq_true] at h
  obtain ⟨e, he, hb⟩ := h
  simp only [Bool.and_eq_true, beq_iff_eq] at hb
  exact ⟨e, he, hb.1, hb.2⟩
theorem backB_ok {ops : List Oper} {o : Oper} (p : Nat → Prop) (h1 : ∀ e ∈ o.after.toList, Region.binds .any e = true → p e.on) (h2 : ∀ (k : Nat) (o' : Oper), ops[k]? = some o' → p k → ∀ e ∈ o'.after.toList, Region.binds .any e = true → p e.on) : ∀ (n j : Nat), backB ops o n j = true → p j
  | 0, j, h => by
    obtain ⟨e, he, hb, heo⟩ := binding_edge h
    rw [← heo]; exact h1 e he hb
  | n + 1, j, h => by
    unfold backB at h
    rcases Bool.or_eq_true_iff.1 h with h | h
    · obtain ⟨e, he, hb, heo⟩ := binding_edge h
      rw [← heo]; exact h1 e he hb
    · rw [List.any_eq_true] at h
      obtain ⟨y, hy, hyb⟩ := h
      obtain ⟨hb1, hb2⟩ := Bool.and_eq_true_iff.1 hyb
      obtain ⟨e, he, hb, heo⟩ := binding_edge hb1
      rw [← heo]
      exact h2 y.2 y.1 (List.mem_zipIdx_iff_getElem?.1 hy) (backB_ok p h1 h2 n y.2 hb2) e he hb
def fitV (ops : List Oper) (size last : Nat) : Bool :=
  (ops.zipIdx.all fun x => ops.zipIdx.all fun y => x.2 == y.2 || x.1.dst.isNone || x.1.dst != y.1.dst) &&
  (ops.all fun o => match o.dst with | some s => decide (s < size) | none => true) &&
  (ops.all fun o => match o.guard with | some (g, _) => decide (g < ops.length) | none => true) &&
  (ops.zipIdx.all fun x => x.1.after.toList.all fun e => !Region.binds .any e || decide (e.on < x.2)) &&
  (match ops[last]? with | some o => (List.range ops.length).all fun j => j == last || backB ops o 4 j | none => true)
structure FitV (ops : List Oper) (size last : Nat) : Prop where
  dist : ∀ (i j : Nat) (o o' : Oper) (s : Nat), ops[i]? = some o → ops[j]? = some o' → o.dst = some s → o'.dst = some s → i = j
  room : ∀ o ∈ ops, ∀ s, o.dst = some s → s < size
  grd : ∀ o ∈ ops, ∀ g want, o.guard = some (g, want) → g < ops.length
  ord : ∀ (i : Nat) (o : Oper), ops[i]? = some o → ∀ e ∈ o.after.toList, Region.binds .any e = true → e.on < i
  lst : ∀ o, ops[last]? = some o → ∀ j, j < ops.length → j ≠ last → ∀ p : Nat → Prop, (∀ e ∈ o.after.toList, Region.binds .any e = true → p e.on) → (∀ (k : Nat) (o' : Oper), ops[k]? = some o' → p k → ∀ e ∈ o'.after.toList, Region.binds .any e = true → p e.on) → p j
theorem fitV_ok {ops : List Oper} {size last : Nat} (h : fitV ops size last = true) : FitV ops size last := by
  unfold fitV at h
  simp only [Bool.and_eq_true, List.all_eq_true] at h
  obtain ⟨⟨⟨⟨h1, h2⟩, h3⟩, h4⟩, h5⟩ := h
  refine ⟨fun i j o o' s hi hj ho ho' => ?_, fun o ho s hs => ?_, fun o ho g want hg => ?_, fun i o hi e he hb => ?_, fun o ho j hj hne => ?_⟩
  · have := h1 (o, i) (List.mem_zipIdx_iff_getElem?.2 hi) (o', j) (List.mem_zipIdx_iff_getElem?.2 hj)
    simp only [ho, ho', Option.isNone_some, Bool.or_false, bne_self_eq_false, beq_iff_eq] at this
    exact this
  · have := h2 o ho
    rw [hs] at this
    simpa using this
  · have := h3 o ho
    rw [hg] at this
    simpa using this
  · have := h4 (o, i) (List.mem_zipIdx_iff_getElem?.2 hi) e he
    rw [hb] at this
    simpa using this
  · rw [ho] at h5
    have := List.all_eq_true.1 h5 j (List.mem_range.2 hj)
    simp only [Bool.or_eq_true, beq_iff_eq] at this
    rcases this with this | this
    · exact absurd this hne
    · exact fun p h1 h2 => backB_ok p h1 h2 4 j this
theorem valOf_put {ops : List Oper} {size last : Nat} (hf : FitV ops size last) {a : Act} (hs : a.tmps.size = size) {i : Nat} {o : Oper} (ho : ops[i]? = some o) (v : Value) : valOf ops (a.put o.dst v) = updV (valOf ops a) i (normV o v) := by
  funext j
  unfold updV
  by_cases hj : j = i
  · subst hj
    rw [if_pos rfl]
    unfold valOf normV
    rw [ho]
    show slotOf _ _ = _
    unfold slotOf
    cases hd : o.dst with
    | none => rfl
    | some s => exact eval_put_same (by rw [hs]; exact hf.room o (List.mem_of_getElem? ho) s hd)
  · rw [if_neg hj]
    unfold valOf
    cases hj2 : ops[j]? with
    | none => rfl
    | some o' =>
      show slotOf _ _ = slotOf _ _
      unfold slotOf
      cases hd' : o'.dst with
      | none => rfl
      | some s =>
        cases hd : o.dst with
        | none => rfl
        | some t => exact eval_put_other fun e => hj (hf.dist j i o' o s hj2 ho hd' (by rw [hd, e]))
section
variable (ops : List Oper) (a : Act) (w0 : World) (Gr : World → World → Prop) (Φ : Nat → Value → World → Prop) (last : Nat) (Fin : (Nat → Value) → World → Prop) (dead : Nat → Nat → Bool) (Ψ : Nat → World → Prop)
structure StV (listed : Array Bool) (a' : Act) (w : World) : Prop where
  fr : FrV ops a a'
  lsz : listed.size = ops.length
  closed : ∀ (j : Nat) (o : Oper), ops[j]? = some o → listed.getD j false = true → ∀ e ∈ o.after.toList, Region.binds .any e = true → listed.getD e.on false = true
  fresh : ∀ (j : Nat) (o : Oper), ops[j]? = some o → listed.getD j false = false → valOf ops a' j = slotOf a o
  going : listed.getD last false = false → Gr w0 w ∧ ∀ j, j < ops.length → listed.getD j false = true → (∀ i, i < ops.length → listed.getD i false = true → dead i j = false) → Φ j (valOf ops a' j) w
  done : listed.getD last false = true → Fin (valOf ops a') w
  wait : ∀ j, j < ops.length → listed.getD j false = false → Ψ j w
/-- May operation i lean on what j has left? Not if something that j's is dead behind may have run. -/
def useB (ops : List Oper) (dead : Nat → Nat → Bool) (i j : Nat) : Bool := ops.zipIdx.all fun x => !dead x.2 j || x.2 == i || backB ops x.1 4 i
/-- What is to be shown of operation i; Ψ i holds as long as it has not run. -/
def OblP (P : Program) (i : Nat) (o : Oper) : Prop := ∀ (val : Nat → Value) (w : World), Gr w0 w → Ψ i w → (∀ j, backB ops o 4 j = true → useB ops dead i j = true → Φ j (val j) w) → (∀ (j : Nat) (o' : Oper), ops[j]? = some o' → binding o' i = true → val j = slotOf a o') → val i = slotOf a o →
  ∀ K : Value → World → Prop, (∀ v w', Gr w w' → Φ i (normV o v) w' → (∀ j, j ≠ i → dead i j = false → (∀ o', ops[j]? = some o' → backB ops o' 4 i = false) → Φ j (val j) w → Φ j (val j) w') → (∀ j, j ≠ i → backB ops o 4 j = false → Ψ j w → Ψ j w') → K v w') → if wantedV o val = true then comesV P K ((execOp (rhoV ops a val) o).run P w) else K undef w
def OblV (P : Program) (i : Nat) (o : Oper) : Prop := ∀ (val : Nat → Value) (w : World), Gr w0 w → (∀ j, backB ops o 4 j = true → useB ops dead i j = true → Φ j (val j) w) → (∀ (j : Nat) (o' : Oper), ops[j]? = some o' → binding o' i = true → val j = slotOf a o') → val i = slotOf a o →
  ∀ K : Value → World → Prop, (∀ v w', Gr w w' → Φ i (normV o v) w' → (∀ j, j ≠ i → dead i j = false → (∀ o', ops[j]? = some o' → backB ops o' 4 i = false) → Φ j (val j) w → Φ j (val j) w') → K v w') → if wantedV o val = true then comesV P K ((execOp (rhoV ops a val) o).run P w) else K undef w
theorem OblV.p {P : Program} {i : Nat} {o : Oper} (h : OblV ops a w0 Gr Φ dead P i o) : OblP ops a w0 Gr Φ dead (fun _ _ => True) P i o :=
  fun val w hg _ hd hb hs K hK => h val w hg hd hb hs K fun v w' h1 h2 h3 => hK v w' h1 h2 h3 fun _ _ _ _ => trivial
/-- What is to be shown of the last one. -/
def OblL (P : Program) (o : Oper) : Prop := ∀ (val : Nat → Value) (w : World), Gr w0 w → (∀ j, j < ops.length → j ≠ last → (∀ i, i < ops.length → i ≠ last → dead i j = false) → Φ j (val j) w) → val last = slotOf a o →
  ∀ K : Value → World → Prop, (∀ v w', Fin (updV val last (normV o v)) w' → K v w') → if wantedV o val = true then comesV P K ((execOp (rhoV ops a val) o).run P w) else K undef w
end
theorem getD_set {l : Array Bool} {i j : Nat} (d : Bool) (hi : i < l.size) : (l.setIfInBounds i true).getD j d = if j = i then true else l.getD j d := by
  by_cases h : j = i
  · subst h; rw [if_pos rfl]; simp [hi]
  · rw [if_neg h]
    simp [Array.getD_eq_getD_getElem?, Array.getElem?_setIfInBounds_ne (fun e => h e.symm)]
theorem filter_lt {α : Type} {p q : α → Bool} : ∀ {l : List α}, (∀ x ∈ l, p x = true → q x = true) → ∀ x ∈ l, q x = true → p x = false → (l.filter p).length < (l.filter q).length
  | y :: r, h, x, hx, hq, hp => by
    have hle : ∀ {m : List α}, (∀ x ∈ m, p x = true → q x = true) → (m.filter p).length ≤ (m.filter q).length := by
      intro m
      induction m with
      | nil => intro _; exact Nat.le_refl _
      | cons z s ih =>
        intro hm
        have := ih fun x hx => hm x (List.mem_cons_of_mem _ hx)
        rw [List.filter_cons, List.filter_cons]
        by_cases hz : p z = true
        · rw [if_pos hz, if_pos (hm z List.mem_cons_self hz)]; simpa using this
        · rw [if_neg hz]; split
          · simp; omega
          · exact this
    rw [List.filter_cons, List.filter_cons]
    rcases List.mem_cons.1 hx with rfl | hx
    · rw [if_neg (by rw [hp]; decide), if_pos hq]
      have := hle (m := r) fun x hx => h x (List.mem_cons_of_mem _ hx)
      simp; omega
    · have ih := filter_lt (fun x hx => h x (List.mem_cons_of_mem _ hx)) x hx hq hp
      by_cases hz : p y = true
      · rw [if_pos hz, if_pos (h y List.mem_cons_self hz)]; simpa using ih
      · rw [if_neg hz]; split
        · simp; omega
        · exact ih
theorem ready_iff {ops : List Oper} {listed : Array Bool} {i : Nat} (hl : listed.size = ops.length) : i ∈ Region.ready .any ops.toArray listed ↔ ∃ o, ops[i]? = some o ∧ listed.getD i false = false ∧ ∀ e ∈ o.after.toList, Region.binds .any e = true → listed.getD e.on false = true := by
  unfold Region.ready
  rw [List.mem_filter, List.mem_range]
  constructor
  · rintro ⟨hi, h⟩
    simp only [List.size_toArray] at hi
    have h1 : ops[i]? = some ops[i] := List.getElem?_eq_getElem hi
    simp only [List.getElem?_toArray, h1, Option.map_some, Option.getD_some, Bool.and_eq_true, Bool.not_eq_true', ← Array.all_toList, List.all_eq_true, Bool.or_eq_true] at h
    refine ⟨_, h1, ?_, fun e he hb => ?_⟩
    · have := h.1
      simpa [Array.getD, hl, hi] using this
    · rcases h.2 e he with h3 | h3
      · rw [hb] at h3; cases h3
      · exact h3
  · rintro ⟨o, ho, h1, h2⟩
    have hi := (List.getElem?_eq_some_iff.1 ho).1
    refine ⟨by simpa using hi, ?_⟩
    simp only [List.getElem?_toArray, ho, Option.map_some, Option.getD_some, Bool.and_eq_true, Bool.not_eq_true', ← Array.all_toList, List.all_eq_true, Bool.or_eq_true]
    refine ⟨?_, fun e he => ?_⟩
    · simpa [Array.getD, hl, hi] using h1
    · cases hb : Region.binds .any e with
      | false => exact .inl rfl
      | true => exact .inr (h2 e he hb)

theorem st_walk {ops : List Oper} {a : Act} {w0 : World} {Gr : World → World → Prop} {Φ : Nat → Value → World → Prop} {last : Nat} {Fin : (Nat → Value) → World → Prop} {dead : Nat → Nat → Bool} {Ψ : Nat → World → Prop} (hf : FitV ops a.tmps.size last) (htr : ∀ {x y z : World}, Gr x y → Gr y z → Gr x z)
    (hob : ∀ i o, ops[i]? = some o → i ≠ last → OblP ops a w0 Gr Φ dead Ψ P i o) (hol : ∀ o, ops[last]? = some o → OblL ops a w0 Gr Φ last Fin dead P o)
    (hfin : ∀ val w', (if last < ops.length then Fin val w' else Gr w0 w' ∧ ∀ j, j < ops.length → (∀ i, i < ops.length → dead i j = false) → Φ j (val j) w') → Q .normal (putAll ops 0 val a) w') :
    ∀ (fuel : Nat) (listed : Array Bool) (a' : Act) (w : World), StV ops a w0 Gr Φ last Fin dead Ψ listed a' w → ((List.range ops.length).filter fun i => !listed.getD i false).length ≤ fuel → wpAny P .any ops.toArray Q fuel listed a' w := by
  have fin : ∀ (listed : Array Bool) (a' : Act) (w : World), StV ops a w0 Gr Φ last Fin dead Ψ listed a' w → Region.ready .any ops.toArray listed = [] → Q .normal a' w := by
    intro listed a' w st hr
    have hall : ∀ i, i < ops.length → listed.getD i false = true := by
      intro i
      induction i using Nat.strongRecOn with
      | _ i ih =>
        intro hi
        cases hl : listed.getD i false with
        | true => rfl
        | false =>
          have h1 : ops[i]? = some ops[i] := List.getElem?_eq_getElem hi
          have : i ∈ Region.ready .any ops.toArray listed := (ready_iff st.lsz).2 ⟨_, h1, hl, fun e he hb => ih e.on (hf.ord i _ h1 e he hb) (Nat.lt_trans (hf.ord i _ h1 e he hb) hi)⟩
          rw [hr] at this
          cases this
    have ha' := putAll_fr st.fr ops 0 a (fun j o h => by rw [Nat.zero_add]; exact h) rfl rfl fun s hs => (st.fr.other s hs).symm
    rw [← ha']
    refine hfin _ _ ?_
    split
    · rename_i hlt
      exact st.done (hall last hlt)
    · rename_i hge
      have hn : listed.getD last false = false := by
        have : ¬ last < listed.size := by rw [st.lsz]; exact hge
        simp [Array.getD, this]
      obtain ⟨g1, g2⟩ := st.going hn
      exact ⟨g1, fun j hj hdj => g2 j hj (hall j hj) fun i hi _ => hdj i hi⟩
  intro fuel
  induction fuel with
  | zero =>
    intro listed a' w st hc
    have hr : Region.ready .any ops.toArray listed = [] := by
      cases hr : Region.ready .any ops.toArray listed with
      | nil => rfl
      | cons i r =>
        exfalso
        have hi : i ∈ Region.ready .any ops.toArray listed := by rw [hr]; exact List.mem_cons_self
        obtain ⟨o, ho, hl, _⟩ := (ready_iff st.lsz).1 hi
        have : i ∈ (List.range ops.length).filter fun i => !listed.getD i false := List.mem_filter.2 ⟨List.mem_range.2 (List.getElem?_eq_some_iff.1 ho).1, by rw [hl]; rfl⟩
        have := List.length_pos_of_mem this
        omega
    exact ⟨hr, fin _ _ _ st hr⟩
  | succ fuel ih =>
    intro listed a' w st hc
    refine ⟨fin _ _ _ st, fun i hi => ?_⟩
    obtain ⟨o, ho, hl, hdep⟩ := (ready_iff st.lsz).1 hi
    have hilt := (List.getElem?_eq_some_iff.1 ho).1
    have hisz : i < listed.size := by rw [st.lsz]; exact hilt
    have hset : ∀ j d, (listed.setIfInBounds i true).getD j d = if j = i then true else listed.getD j d := fun j d => getD_set d hisz
    have hcount : ((List.range ops.length).filter fun j => !(listed.setIfInBounds i true).getD j false).length ≤ fuel := by
      have := filter_lt (p := fun j => !(listed.setIfInBounds i true).getD j false) (q := fun j => !listed.getD j false) (l := List.range ops.length) (fun x _ hx => by
        rw [hset] at hx
        split at hx
        · cases hx
        · exact hx) i (List.mem_range.2 hilt) (by rw [hl]; rfl) (by rw [hset, if_pos rfl]; rfl)
      omega
    have hlast : i ≠ last → last < ops.length → listed.getD last false = false := fun hne hlt => by
      cases hll : listed.getD last false with
      | false => rfl
      | true =>
        have h1 : ops[last]? = some ops[last] := List.getElem?_eq_getElem hlt
        have := hf.lst _ h1 i hilt hne (fun k => listed.getD k false = true) (fun e he hb => st.closed last _ h1 hll e he hb) fun k o' hk hp e he hb => st.closed k o' hk hp e he hb
        rw [hl] at this
        cases this
    have hlast2 : i ≠ last → listed.getD last false = false := fun hne => by
      by_cases hlt : last < ops.length
      · exact hlast hne hlt
      · have : ¬ last < listed.size := by rw [st.lsz]; exact hlt
        simp [Array.getD, this]
    -- how the frame goes on
    have hfr : ∀ v, FrV ops a (a'.put o.dst v) := fun v => ⟨by rw [put_defers, st.fr.defers], by rw [put_size, st.fr.size], fun s hs => by
      rw [← st.fr.other s hs]
      cases hd : o.dst with
      | none => rfl
      | some t => exact eval_put_other fun e => hs o (List.mem_of_getElem? ho) (by rw [hd, e])⟩
    have hval : ∀ v, valOf ops (a'.put o.dst v) = updV (valOf ops a') i (normV o v) := fun v => valOf_put hf st.fr.size ho v
    have hclosed : ∀ (j : Nat) (o' : Oper), ops[j]? = some o' → (listed.setIfInBounds i true).getD j false = true → ∀ e ∈ o'.after.toList, Region.binds .any e = true → (listed.setIfInBounds i true).getD e.on false = true := fun j o' hj hlj e he hb => by
      rw [hset] at hlj ⊢
      split
      · rfl
      · split at hlj
        · rename_i hji
          subst hji
          rw [ho] at hj
          injection hj with hj
          subst hj
          exact hdep e he hb
        · exact st.closed j o' hj hlj e he hb
    have hfresh : ∀ v (j : Nat) (o' : Oper), ops[j]? = some o' → (listed.setIfInBounds i true).getD j false = false → valOf ops (a'.put o.dst v) j = slotOf a o' := fun v j o' hj hlj => by
      rw [hset] at hlj
      split at hlj
      · cases hlj
      · rename_i hji
        rw [hval]
        unfold updV
        rw [if_neg hji]
        exact st.fresh j o' hj hlj
    refine wpOp_step (by rw [List.getElem?_toArray]; exact ho) fun K' hK => ?_
    rw [wanted_eq fun g want hg => hf.grd o (List.mem_of_getElem? ho) g want hg]
    have hown : valOf ops a' i = slotOf a o := st.fresh i o ho hl
    have conv : (if wantedV o (valOf ops a') = true then comesV P (fun v w' => K' (a'.put o.dst v) w') ((execOp (rhoV ops a (valOf ops a')) o).run P w) else K' (a'.put o.dst undef) w) →
        if wantedV o (valOf ops a') = true then Oper.wp P o a' w K' Q else K' (a'.put o.dst undef) w := by
      intro h
      split
      · rename_i hw
        rw [if_pos hw] at h
        unfold Oper.wp
        rw [rho_eq st.fr]
        exact upon_comes h
      · rename_i hw
        rw [if_neg hw] at h
        exact h
    refine conv ?_
    by_cases hil : i = last
    · subst hil
      obtain ⟨g1, g2⟩ := st.going hl
      refine hol o ho (valOf ops a') w g1 (fun j hj hne hdj => g2 j hj ?_ fun k hk hlk => hdj k hk fun e => by rw [e, hl] at hlk; cases hlk) hown (fun v w' => K' (a'.put o.dst v) w') fun v w' hF => hK _ _ (ih _ _ _ ⟨hfr v, by simp [st.lsz], hclosed, hfresh v, fun h => ?_, fun _ => ?_, fun j hj hlj => ?_⟩ hcount)
      · exact hf.lst o ho j hj hne (fun k => listed.getD k false = true) (fun e he hb => hdep e he hb) fun k o' hk hp e he hb => st.closed k o' hk hp e he hb
      · rw [hset, if_pos rfl] at h; cases h
      · rw [hval]; exact hF
      · rw [hset] at hlj
        split at hlj
        · cases hlj
        · rename_i hji
          have := hf.lst o ho j hj hji (fun k => listed.getD k false = true) (fun e he hb => hdep e he hb) fun k o' hk hp e he hb => st.closed k o' hk hp e he hb
          rw [hlj] at this
          cases this
    · obtain ⟨g1, g2⟩ := st.going (hlast2 hil)
      refine hob i o ho hil (valOf ops a') w g1 (st.wait i hilt hl) (fun j hbj huse => ?_) (fun j o' hj hbj => ?_) hown (fun v w' => K' (a'.put o.dst v) w') fun v w' hG hφ hkeep hwait => hK _ _ (ih _ _ _ ⟨hfr v, by simp [st.lsz], hclosed, hfresh v, fun _ => ⟨htr g1 hG, fun j hj hlj hdj => ?_⟩, fun h => ?_, fun j hj hlj => ?_⟩ hcount)
      · have hlj : listed.getD j false = true := backB_ok (ops := ops) (fun m => listed.getD m false = true) (fun e he hb => hdep e he hb) (fun m o2 hm hp e he hb => st.closed m o2 hm hp e he hb) 4 j hbj
        have hjl : j < ops.length := by
          rcases Nat.lt_or_ge j ops.length with h | h
          · exact h
          · have : ¬ j < listed.size := by rw [st.lsz]; omega
            simp [Array.getD, this] at hlj
        refine g2 j hjl hlj fun k hk hlk => ?_
        cases hdk : dead k j with
        | false => rfl
        | true =>
          exfalso
          have h1 : ops[k]? = some ops[k] := List.getElem?_eq_getElem hk
          have h3 := List.all_eq_true.1 huse (ops[k], k) (List.mem_zipIdx_iff_getElem?.2 h1)
          rw [hdk] at h3
          simp only [Bool.not_true, Bool.false_or, Bool.or_eq_true, beq_iff_eq] at h3
          rcases h3 with h2 | h2
          · rw [h2, hl] at hlk; cases hlk
          · have := backB_ok (ops := ops) (fun m => listed.getD m false = true) (fun e he hb => st.closed k _ h1 hlk e he hb) (fun m o2 hm hp e he hb => st.closed m o2 hm hp e he hb) 4 i h2
            simp only [hl] at this
            cases this
      · refine st.fresh j o' hj ?_
        cases hlj : listed.getD j false with
        | false => rfl
        | true =>
          unfold binding at hbj
          rw [List.any_eq_true] at hbj
          obtain ⟨e, he, hb⟩ := hbj
          simp only [Bool.and_eq_true, beq_iff_eq] at hb
          have := st.closed j o' hj hlj e he hb.1
          rw [hb.2, hl] at this
          cases this
      · rw [hset] at hlj
        rw [hval]
        unfold updV
        by_cases hji : j = i
        · rw [if_pos hji, hji]; exact hφ
        · rw [if_neg hji]
          rw [if_neg hji] at hlj
          refine hkeep j hji (hdj i hilt (by rw [hset, if_pos rfl])) (fun o' hj' => ?_) (g2 j hj hlj fun k hk hlk => hdj k hk ?_)
          · cases hbb : backB ops o' 4 i with
            | false => rfl
            | true =>
              exfalso
              have := backB_ok (ops := ops) (fun k => listed.getD k false = true) (fun e he hb => st.closed j o' hj' hlj e he hb) (fun k o2 hk hp e he hb => st.closed k o2 hk hp e he hb) 4 i hbb
              simp only [hl] at this
              cases this
          rw [hset]
          split
          · rfl
          · exact hlk
      · rw [hset, if_neg (fun e => hil e.symm), hlast2 hil] at h
        cases h
      · rw [hset] at hlj
        split at hlj
        · cases hlj
        · rename_i hji
          refine hwait j hji ?_ (st.wait j hj hlj)
          cases hbb : backB ops o 4 j with
          | false => rfl
          | true =>
            exfalso
            have := backB_ok (ops := ops) (fun m => listed.getD m false = true) (fun e he hb => hdep e he hb) (fun m o2 hm hp e he hb => st.closed m o2 hm hp e he hb) 4 j hbb
            simp only [hlj] at this
            cases this

/-- The law: what each operation leaves, from what those ahead of it have left, in whatever world on the way; Ψ i holds until operation i runs; the last one (if there is one behind all others) is told apart. -/
theorem wp_region_psi {id : Nat} {ops : List Oper} {a : Act} {w : World} (hm : P.follows .mixedOrders = true) (Gr : World → World → Prop) (Φ : Nat → Value → World → Prop) (last : Nat) (Fin : (Nat → Value) → World → Prop) (dead : Nat → Nat → Bool) (Ψ : Nat → World → Prop) (hfit : fitV ops a.tmps.size last = true)
    (hrf : ∀ x, Gr x x) (htr : ∀ {x y z : World}, Gr x y → Gr y z → Gr x z) (hΨ : ∀ j, Ψ j { w with drawn := w.drawn + 1 })
    (hob : ∀ i o, ops[i]? = some o → i ≠ last → OblP ops a { w with drawn := w.drawn + 1 } Gr Φ dead Ψ P i o) (hol : ∀ o, ops[last]? = some o → OblL ops a { w with drawn := w.drawn + 1 } Gr Φ last Fin dead P o)
    (hfin : ∀ val w', (if last < ops.length then Fin val w' else Gr { w with drawn := w.drawn + 1 } w' ∧ ∀ j, j < ops.length → (∀ i, i < ops.length → dead i j = false) → Φ j (val j) w') → Q .normal (putAll ops 0 val a) w') : (Code.region id ops.toArray true).wp P Q a w := by
  refine wp_region_any hm (st_walk (w0 := { w with drawn := w.drawn + 1 }) (Gr := Gr) (Φ := Φ) (last := last) (Fin := Fin) (Ψ := Ψ) (fitV_ok hfit) htr hob hol hfin _ _ _ _ ⟨⟨rfl, rfl, fun _ _ => rfl⟩, by simp, ?_, ?_, ?_, ?_, fun j _ _ => hΨ j⟩ ?_)
  · intro j o _ h
    simp [Array.getD] at h
  · intro j o ho _
    unfold valOf
    rw [ho]
  · intro _
    refine ⟨hrf _, fun j _ h _ => ?_⟩
    simp [Array.getD] at h
  · intro h
    simp [Array.getD] at h
  · have := List.length_filter_le (fun i => !(Array.replicate ops.toArray.size false).getD i false) (List.range ops.length)
    simp only [List.length_range] at this
    simpa using this
theorem wp_region_rel {id : Nat} {ops : List Oper} {a : Act} {w : World} (hm : P.follows .mixedOrders = true) (Gr : World → World → Prop) (Φ : Nat → Value → World → Prop) (last : Nat) (Fin : (Nat → Value) → World → Prop) (dead : Nat → Nat → Bool) (hfit : fitV ops a.tmps.size last = true)
    (hrf : ∀ x, Gr x x) (htr : ∀ {x y z : World}, Gr x y → Gr y z → Gr x z)
    (hob : ∀ i o, ops[i]? = some o → i ≠ last → OblV ops a { w with drawn := w.drawn + 1 } Gr Φ dead P i o) (hol : ∀ o, ops[last]? = some o → OblL ops a { w with drawn := w.drawn + 1 } Gr Φ last Fin dead P o)
    (hfin : ∀ val w', (if last < ops.length then Fin val w' else Gr { w with drawn := w.drawn + 1 } w' ∧ ∀ j, j < ops.length → (∀ i, i < ops.length → dead i j = false) → Φ j (val j) w') → Q .normal (putAll ops 0 val a) w') : (Code.region id ops.toArray true).wp P Q a w :=
  wp_region_psi hm Gr Φ last Fin dead (fun _ _ => True) hfit hrf htr (fun _ => trivial) (fun i o ho hne => (hob i o ho hne).p) hol hfin
def OblAllP (ops : List Oper) (a : Act) (w0 : World) (Gr : World → World → Prop) (Φ : Nat → Value → World → Prop) (dead : Nat → Nat → Bool) (Ψ : Nat → World → Prop) (P : Program) (last : Nat) : List Oper → Nat → Prop
  | [], _ => True
  | o :: r, i => (i ≠ last → OblP ops a w0 Gr Φ dead Ψ P i o) ∧ OblAllP ops a w0 Gr Φ dead Ψ P last r (i + 1)
theorem oblp_all {ops : List Oper} {a : Act} {w0 : World} {Gr : World → World → Prop} {Φ : Nat → Value → World → Prop} {dead : Nat → Nat → Bool} {Ψ : Nat → World → Prop} {last : Nat} : ∀ (l : List Oper) (k : Nat), OblAllP ops a w0 Gr Φ dead Ψ P last l k → ∀ i o, l[i]? = some o → k + i ≠ last → OblP ops a w0 Gr Φ dead Ψ P (k + i) o
  | [], _, _, i, o, h, _ => by cases h
  | x :: r, k, h, 0, o, ho, hne => by
    obtain rfl : x = o := by simpa using ho
    exact h.1 hne
  | x :: r, k, h, i + 1, o, ho, hne => by
    have := oblp_all r (k + 1) h.2 i o (by simpa using ho) (by rwa [show k + 1 + i = k + (i + 1) by omega])
    rwa [show k + 1 + i = k + (i + 1) by omega] at this
theorem oblp_of {ops : List Oper} {a : Act} {w0 : World} {Gr : World → World → Prop} {Φ : Nat → Value → World → Prop} {dead : Nat → Nat → Bool} {Ψ : Nat → World → Prop} {last : Nat} (h : OblAllP ops a w0 Gr Φ dead Ψ P last ops 0) : ∀ i o, ops[i]? = some o → i ≠ last → OblP ops a w0 Gr Φ dead Ψ P i o := fun i o ho hne => by
  have := oblp_all ops 0 h i o ho (by rwa [Nat.zero_add])
  rwa [Nat.zero_add] at this
/-- All operations, one behind the other. -/
def OblAll (ops : List Oper) (a : Act) (w0 : World) (Gr : World → World → Prop) (Φ : Nat → Value → World → Prop) (dead : Nat → Nat → Bool) (P : Program) (last : Nat) : List Oper → Nat → Prop
  | [], _ => True
  | o :: r, i => (i ≠ last → OblV ops a w0 Gr Φ dead P i o) ∧ OblAll ops a w0 Gr Φ dead P last r (i + 1)
theorem obl_all {ops : List Oper} {a : Act} {w0 : World} {Gr : World → World → Prop} {Φ : Nat → Value → World → Prop} {dead : Nat → Nat → Bool} {last : Nat} : ∀ (l : List Oper) (k : Nat), OblAll ops a w0 Gr Φ dead P last l k → ∀ i o, l[i]? = some o → k + i ≠ last → OblV ops a w0 Gr Φ dead P (k + i) o
  | [], _, _, i, o, h, _ => by cases h
  | x :: r, k, h, 0, o, ho, hne => by
    obtain rfl : x = o := by simpa using ho
    exact h.1 hne
  | x :: r, k, h, i + 1, o, ho, hne => by
    have := obl_all r (k + 1) h.2 i o (by simpa using ho) (by rwa [show k + 1 + i = k + (i + 1) by omega])
    rwa [show k + 1 + i = k + (i + 1) by omega] at this
theorem obl_of {ops : List Oper} {a : Act} {w0 : World} {Gr : World → World → Prop} {Φ : Nat → Value → World → Prop} {dead : Nat → Nat → Bool} {last : Nat} (h : OblAll ops a w0 Gr Φ dead P last ops 0) : ∀ i o, ops[i]? = some o → i ≠ last → OblV ops a w0 Gr Φ dead P i o := fun i o ho hne => by
  have := obl_all ops 0 h i o ho (by rwa [Nat.zero_add])
  rwa [Nat.zero_add] at this
end
end Go.Proofs.Ytnifhhaalmlmnaa
