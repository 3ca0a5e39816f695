/- The law that goes by what each operation leaves, where that may speak, too, of what one other (x) has left. -/
import Derived.Test.YtnifhhaalmlmnaaRgI
namespace Go.Proofs.Ytnifhhaalmlmnaa.J
open Go.Proofs.Ytnifhhaalmlmnaa
section
variable {P : Program} {Q : Exit → Act → World → Prop}
section
variable (ops : List Oper) (a : Act) (w0 : World) (Gr : World → World → Prop) (x : Nat) (Φ : Nat → Value → Value → World → Prop) (last : Nat) (Fin : (Nat → Value) → World → Prop) (dead : Nat → Nat → Bool) (Ψ : Nat → World → Prop)
structure StV (listed : Array Bool) (a' : Act) (w : World) : Prop where
  fr : FrV ops a a'
  lsz : listed.size = ops.length
  closed : ∀ (j : Nat) (o : Oper), ops[j]? = some o → listed.getD j false = true → ∀ e ∈ o.after.toList, Region.binds .any e = true → listed.getD e.on false = true
  fresh : ∀ (j : Nat) (o : Oper), ops[j]? = some o → listed.getD j false = false → valOf ops a' j = slotOf a o
  going : listed.getD last false = false → Gr w0 w ∧ ∀ j, j < ops.length → listed.getD j false = true → (∀ i, i < ops.length → listed.getD i false = true → dead i j = false) → Φ j (valOf ops a' j) (valOf ops a' x) w
  done : listed.getD last false = true → Fin (valOf ops a') w
  wait : ∀ j, j < ops.length → listed.getD j false = false → Ψ j w
/-- What is to be shown of operation i; Ψ i holds as long as it has not run. -/
def OblP (P : Program) (i : Nat) (o : Oper) : Prop := ∀ (val : Nat → Value) (w : World), Gr w0 w → Ψ i w → (∀ j, backB ops o 4 j = true → useB ops dead i j = true → Φ j (val j) (val x) w) → (∀ (j : Nat) (o' : Oper), ops[j]? = some o' → binding o' i = true → val j = slotOf a o') → val i = slotOf a o →
  ∀ K : Value → World → Prop, (∀ v w', Gr w w' → Φ i (normV o v) (updV val i (normV o v) x) w' → (∀ j, j ≠ i → dead i j = false → (∀ o', ops[j]? = some o' → backB ops o' 4 i = false) → Φ j (val j) (val x) w → Φ j (val j) (updV val i (normV o v) x) w') → (∀ j, j ≠ i → backB ops o 4 j = false → Ψ j w → Ψ j w') → K v w') → if wantedV o val = true then comesV P K ((execOp (rhoV ops a val) o).run P w) else K undef w
/-- What is to be shown of the last one. -/
def OblL (P : Program) (o : Oper) : Prop := ∀ (val : Nat → Value) (w : World), Gr w0 w → (∀ j, j < ops.length → j ≠ last → (∀ i, i < ops.length → i ≠ last → dead i j = false) → Φ j (val j) (val x) w) → val last = slotOf a o →
  ∀ K : Value → World → Prop, (∀ v w', Fin (updV val last (normV o v)) w' → K v w') → if wantedV o val = true then comesV P K ((execOp (rhoV ops a val) o).run P w) else K undef w
end
theorem st_walk {ops : List Oper} {a : Act} {w0 : World} {Gr : World → World → Prop} {x : Nat} {Φ : Nat → Value → Value → World → Prop} {last : Nat} {Fin : (Nat → Value) → World → Prop} {dead : Nat → Nat → Bool} {Ψ : Nat → World → Prop} (hf : FitV ops a.tmps.size last) (htr : ∀ {x y z : World}, Gr x y → Gr y z → Gr x z)
    (hob : ∀ i o, ops[i]? = some o → i ≠ last → OblP ops a w0 Gr x Φ dead Ψ P i o) (hol : ∀ o, ops[last]? = some o → OblL ops a w0 Gr x Φ last Fin dead P o)
    (hfin : ∀ val w', (if last < ops.length then Fin val w' else Gr w0 w' ∧ ∀ j, j < ops.length → (∀ i, i < ops.length → dead i j = false) → Φ j (val j) (val x) w') → Q .normal (putAll ops 0 val a) w') :
    ∀ (fuel : Nat) (listed : Array Bool) (a' : Act) (w : World), StV ops a w0 Gr x Φ last Fin dead Ψ listed a' w → ((List.range ops.length).filter fun i => !listed.getD i false).length ≤ fuel → wpAny P .any ops.toArray Q fuel listed a' w := by
  have fin : ∀ (listed : Array Bool) (a' : Act) (w : World), StV ops a w0 Gr x Φ last Fin dead Ψ listed a' w → Region.ready .any ops.toArray listed = [] → Q .normal a' w := by
    intro listed a' w st hr
    have hall : ∀ i, i < ops.length → listed.getD i false = true := by
      intro i
      induction i using Nat.strongRecOn with
      | _ i ih =>
        intro hi
        cases hl : listed.getD i false with
        | true => rfl
        | false =>
          have h1 : ops[i]? = some ops[i] := List.getElem?_eq_getElem hi
          have : i ∈ Region.ready .any ops.toArray listed := (ready_iff st.lsz).2 ⟨_, h1, hl, fun e he hb => ih e.on (hf.ord i _ h1 e he hb) (Nat.lt_trans (hf.ord i _ h1 e he hb) hi)⟩
          rw [hr] at this
          cases this
    have ha' := putAll_fr st.fr ops 0 a (fun j o h => by rw [Nat.zero_add]; exact h) rfl rfl fun s hs => (st.fr.other s hs).symm
    rw [← ha']
    refine hfin _ _ ?_
    split
    · rename_i hlt
      exact st.done (hall last hlt)
    · rename_i hge
      have hn : listed.getD last false = false := by
        have : ¬ last < listed.size := by rw [st.lsz]; exact hge
        simp [Array.getD, this]
      obtain ⟨g1, g2⟩ := st.going hn
      exact ⟨g1, fun j hj hdj => g2 j hj (hall j hj) fun i hi _ => hdj i hi⟩
  intro fuel
  induction fuel with
  | zero =>
    intro listed a' w st hc
    have hr : Region.ready .any ops.toArray listed = [] := by
      cases hr : Region.ready .any ops.toArray listed with
      | nil => rfl
      | cons i r =>
        exfalso
        have hi : i ∈ Region.ready .any ops.toArray listed := by rw [hr]; exact List.mem_cons_self
        obtain ⟨o, ho, hl, _⟩ := (ready_iff st.lsz).1 hi
        have : i ∈ (List.range ops.length).filter fun i => !listed.getD i false := List.mem_filter.2 ⟨List.mem_range.2 (List.getElem?_eq_some_iff.1 ho).1, by rw [hl]; rfl⟩
        have := List.length_pos_of_mem this
        omega
    exact ⟨hr, fin _ _ _ st hr⟩
  | succ fuel ih =>
    intro listed a' w st hc
    refine ⟨fin _ _ _ st, fun i hi => ?_⟩
    obtain ⟨o, ho, hl, hdep⟩ := (ready_iff st.lsz).1 hi
    have hilt := (List.getElem?_eq_some_iff.1 ho).1
    have hisz : i < listed.size := by rw [st.lsz]; exact hilt
    have hset : ∀ j d, (listed.setIfInBounds i true).getD j d = if j = i then true else listed.getD j d := fun j d => getD_set d hisz
    have hcount : ((List.range ops.length).filter fun j => !(listed.setIfInBounds i true).getD j false).length ≤ fuel := by
      have := filter_lt (p := fun j => !(listed.setIfInBounds i true).getD j false) (q := fun j => !listed.getD j false) (l := List.range ops.length) (fun x _ hx => by
        rw [hset] at hx
        split at hx
        · cases hx
        · exact hx) i (List.mem_range.2 hilt) (by rw [hl]; rfl) (by rw [hset, if_pos rfl]; rfl)
      omega
    have hlast : i ≠ last → last < ops.length → listed.getD last false = false := fun hne hlt => by
      cases hll : listed.getD last false with
      | false => rfl
      | true =>
        have h1 : ops[last]? = some ops[last] := List.getElem?_eq_getElem hlt
        have := hf.lst _ h1 i hilt hne (fun k => listed.getD k false = true) (fun e he hb => st.closed last _ h1 hll e he hb) fun k o' hk hp e he hb => st.closed k o' hk hp e he hb
        rw [hl] at this
        cases this
    have hlast2 : i ≠ last → listed.getD last false = false := fun hne => by
      by_cases hlt : last < ops.length
      · exact hlast hne hlt
      · have : ¬ last < listed.size := by rw [st.lsz]; exact hlt
        simp [Array.getD, this]
    -- how the frame goes on
    have hfr : ∀ v, FrV ops a (a'.put o.dst v) := fun v => ⟨by rw [put_defers, st.fr.defers], by rw [put_size, st.fr.size], fun s hs => by
      rw [← st.fr.other s hs]
      cases hd : o.dst with
      | none => rfl
      | some t => exact eval_put_other fun e => hs o (List.mem_of_getElem? ho) (by rw [hd, e])⟩
    have hval : ∀ v, valOf ops (a'.put o.dst v) = updV (valOf ops a') i (normV o v) := fun v => valOf_put hf st.fr.size ho v
    have hclosed : ∀ (j : Nat) (o' : Oper), ops[j]? = some o' → (listed.setIfInBounds i true).getD j false = true → ∀ e ∈ o'.after.toList, Region.binds .any e = true → (listed.setIfInBounds i true).getD e.on false = true := fun j o' hj hlj e he hb => by
      rw [hset] at hlj ⊢
      split
      · rfl
      · split at hlj
        · rename_i hji
          subst hji
          rw [ho] at hj
          injection hj with hj
          subst hj
          exact hdep e he hb
        · exact st.closed j o' hj hlj e he hb
    have hfresh : ∀ v (j : Nat) (o' : Oper), ops[j]? = some o' → (listed.setIfInBounds i true).getD j false = false → valOf ops (a'.put o.dst v) j = slotOf a o' := fun v j o' hj hlj => by
      rw [hset] at hlj
      split at hlj
      · cases hlj
      · rename_i hji
        rw [hval]
        unfold updV
        rw [if_neg hji]
        exact st.fresh j o' hj hlj
    refine wpOp_step (by rw [List.getElem?_toArray]; exact ho) fun K' hK => ?_
    rw [wanted_eq fun g want hg => hf.grd o (List.mem_of_getElem? ho) g want hg]
    have hown : valOf ops a' i = slotOf a o := st.fresh i o ho hl
    have conv : (if wantedV o (valOf ops a') = true then comesV P (fun v w' => K' (a'.put o.dst v) w') ((execOp (rhoV ops a (valOf ops a')) o).run P w) else K' (a'.put o.dst undef) w) →
        if wantedV o (valOf ops a') = true then Oper.wp P o a' w K' Q else K' (a'.put o.dst undef) w := by
      intro h
      split
      · rename_i hw
        rw [if_pos hw] at h
        unfold Oper.wp
        rw [rho_eq st.fr]
        exact upon_comes h
      · rename_i hw
        rw [if_neg hw] at h
        exact h
    refine conv ?_
    by_cases hil : i = last
    · subst hil
      obtain ⟨g1, g2⟩ := st.going hl
      refine hol o ho (valOf ops a') w g1 (fun j hj hne hdj => g2 j hj ?_ fun k hk hlk => hdj k hk fun e => by rw [e, hl] at hlk; cases hlk) hown (fun v w' => K' (a'.put o.dst v) w') fun v w' hF => hK _ _ (ih _ _ _ ⟨hfr v, by simp [st.lsz], hclosed, hfresh v, fun h => ?_, fun _ => ?_, fun j hj hlj => ?_⟩ hcount)
      · exact hf.lst o ho j hj hne (fun k => listed.getD k false = true) (fun e he hb => hdep e he hb) fun k o' hk hp e he hb => st.closed k o' hk hp e he hb
      · rw [hset, if_pos rfl] at h; cases h
      · rw [hval]; exact hF
      · rw [hset] at hlj
        split at hlj
        · cases hlj
        · rename_i hji
          have := hf.lst o ho j hj hji (fun k => listed.getD k false = true) (fun e he hb => hdep e he hb) fun k o' hk hp e he hb => st.closed k o' hk hp e he hb
          rw [hlj] at this
          cases this
    · obtain ⟨g1, g2⟩ := st.going (hlast2 hil)
      refine hob i o ho hil (valOf ops a') w g1 (st.wait i hilt hl) (fun j hbj huse => ?_) (fun j o' hj hbj => ?_) hown (fun v w' => K' (a'.put o.dst v) w') fun v w' hG hφ hkeep hwait => hK _ _ (ih _ _ _ ⟨hfr v, by simp [st.lsz], hclosed, hfresh v, fun _ => ⟨htr g1 hG, fun j hj hlj hdj => ?_⟩, fun h => ?_, fun j hj hlj => ?_⟩ hcount)
      · have hlj : listed.getD j false = true := backB_ok (ops := ops) (fun m => listed.getD m false = true) (fun e he hb => hdep e he hb) (fun m o2 hm hp e he hb => st.closed m o2 hm hp e he hb) 4 j hbj
        have hjl : j < ops.length := by
          rcases Nat.lt_or_ge j ops.length with h | h
          · exact h
          · have : ¬ j < listed.size := by rw [st.lsz]; omega
            simp [Array.getD, this] at hlj
        refine g2 j hjl hlj fun k hk hlk => ?_
        cases hdk : dead k j with
        | false => rfl
        | true =>
          exfalso
          have h1 : ops[k]? = some ops[k] := List.getElem?_eq_getElem hk
          have h3 := List.all_eq_true.1 huse (ops[k], k) (List.mem_zipIdx_iff_getElem?.2 h1)
          rw [hdk] at h3
          simp only [Bool.not_true, Bool.false_or, Bool.or_eq_true, beq_iff_eq] at h3
          rcases h3 with h2 | h2
          · rw [h2, hl] at hlk; cases hlk
          · have := backB_ok (ops := ops) (fun m => listed.getD m false = true) (fun e he hb => st.closed k _ h1 hlk e he hb) (fun m o2 hm hp e he hb => st.closed m o2 hm hp e he hb) 4 i h2
            simp only [hl] at this
            cases this
      · refine st.fresh j o' hj ?_
        cases hlj : listed.getD j false with
        | false => rfl
        | true =>
          unfold binding at hbj
          rw [List.any_eq_true] at hbj
          obtain ⟨e, he, hb⟩ := hbj
          simp only [Bool.and_eq_true, beq_iff_eq] at hb
          have := st.closed j o' hj hlj e he hb.1
          rw [hb.2, hl] at this
          cases this
      · rw [hset] at hlj
        rw [hval]
        by_cases hji : j = i
        · subst hji
          rw [show updV (valOf ops a') j (normV o v) j = normV o v from if_pos rfl]; exact hφ
        · rw [show updV (valOf ops a') i (normV o v) j = valOf ops a' j from if_neg hji]
          rw [if_neg hji] at hlj
          refine hkeep j hji (hdj i hilt (by rw [hset, if_pos rfl])) (fun o' hj' => ?_) (g2 j hj hlj fun k hk hlk => hdj k hk ?_)
          · cases hbb : backB ops o' 4 i with
            | false => rfl
            | true =>
              exfalso
              have := backB_ok (ops := ops) (fun k => listed.getD k false = true) (fun e he hb => st.closed j o' hj' hlj e he hb) (fun k o2 hk hp e he hb => st.closed k o2 hk hp e he hb) 4 i hbb
              simp only [hl] at this
              cases this
          rw [hset]
          split
          · rfl
          · exact hlk
      · rw [hset, if_neg (fun e => hil e.symm), hlast2 hil] at h
        cases h
      · rw [hset] at hlj
        split at hlj
        · cases hlj
        · rename_i hji
          refine hwait j hji ?_ (st.wait j hj hlj)
          cases hbb : backB ops o 4 j with
          | false => rfl
          | true =>
            exfalso
            have := backB_ok (ops := ops) (fun m => listed.getD m false = true) (fun e he hb => hdep e he hb) (fun m o2 hm hp e he hb => st.closed m o2 hm hp e he hb) 4 j hbb
            simp only [hlj] at this
            cases this

/-- The law: what each operation leaves, from what those ahead of it have left, in whatever world on the way; Ψ i holds until operation i runs; the last one (if there is one behind all others) is told apart. -/
theorem wp_region_psj {id : Nat} {ops : List Oper} {a : Act} {w : World} (hm : P.follows .mixedOrders = true) (Gr : World → World → Prop) (x : Nat) (Φ : Nat → Value → Value → World → Prop) (last : Nat) (Fin : (Nat → Value) → World → Prop) (dead : Nat → Nat → Bool) (Ψ : Nat → World → Prop) (hfit : fitV ops a.tmps.size last = true)
    (hrf : ∀ x, Gr x x) (htr : ∀ {x y z : World}, Gr x y → Gr y z → Gr x z) (hΨ : ∀ j, Ψ j { w with drawn := w.drawn + 1 })
    (hob : ∀ i o, ops[i]? = some o → i ≠ last → OblP ops a { w with drawn := w.drawn + 1 } Gr x Φ dead Ψ P i o) (hol : ∀ o, ops[last]? = some o → OblL ops a { w with drawn := w.drawn + 1 } Gr x Φ last Fin dead P o)
    (hfin : ∀ val w', (if last < ops.length then Fin val w' else Gr { w with drawn := w.drawn + 1 } w' ∧ ∀ j, j < ops.length → (∀ i, i < ops.length → dead i j = false) → Φ j (val j) (val x) w') → Q .normal (putAll ops 0 val a) w') : (Code.region id ops.toArray true).wp P Q a w := by
  refine wp_region_any hm (st_walk (w0 := { w with drawn := w.drawn + 1 }) (Gr := Gr) (x := x) (Φ := Φ) (last := last) (Fin := Fin) (Ψ := Ψ) (fitV_ok hfit) htr hob hol hfin _ _ _ _ ⟨⟨rfl, rfl, fun _ _ => rfl⟩, by simp, ?_, ?_, ?_, ?_, fun j _ _ => hΨ j⟩ ?_)
  · intro j o _ h
    simp [Array.getD] at h
  · intro j o ho _
    unfold valOf
    rw [ho]
  · intro _
    refine ⟨hrf _, fun j _ h _ => ?_⟩
    simp [Array.getD] at h
  · intro h
    simp [Array.getD] at h
  · have := List.length_filter_le (fun i => !(Array.replicate ops.toArray.size false).getD i false) (List.range ops.length)
    simp only [List.length_range] at this
    simpa using this
def OblAllP (ops : List Oper) (a : Act) (w0 : World) (Gr : World → World → Prop) (x : Nat) (Φ : Nat → Value → Value → World → Prop) (dead : Nat → Nat → Bool) (Ψ : Nat → World → Prop) (P : Program) (last : Nat) : List Oper → Nat → Prop
  | [], _ => True
  | o :: r, i => (i ≠ last → OblP ops a w0 Gr x Φ dead Ψ P i o) ∧ OblAllP ops a w0 Gr x Φ dead Ψ P last r (i + 1)
theorem oblp_all {ops : List Oper} {a : Act} {w0 : World} {Gr : World → World → Prop} {x : Nat} {Φ : Nat → Value → Value → World → Prop} {dead : Nat → Nat → Bool} {Ψ : Nat → World → Prop} {last : Nat} : ∀ (l : List Oper) (k : Nat), OblAllP ops a w0 Gr x Φ dead Ψ P last l k → ∀ i o, l[i]? = some o → k + i ≠ last → OblP ops a w0 Gr x Φ dead Ψ P (k + i) o
  | [], _, _, i, o, h, _ => by cases h
  | x :: r, k, h, 0, o, ho, hne => by
    obtain rfl : x = o := by simpa using ho
    exact h.1 hne
  | x :: r, k, h, i + 1, o, ho, hne => by
    have := oblp_all r (k + 1) h.2 i o (by simpa using ho) (by rwa [show k + 1 + i = k + (i + 1) by omega])
    rwa [show k + 1 + i = k + (i + 1) by omega] at this
theorem oblp_of {ops : List Oper} {a : Act} {w0 : World} {Gr : World → World → Prop} {x : Nat} {Φ : Nat → Value → Value → World → Prop} {dead : Nat → Nat → Bool} {Ψ : Nat → World → Prop} {last : Nat} (h : OblAllP ops a w0 Gr x Φ dead Ψ P last ops 0) : ∀ i o, ops[i]? = some o → i ≠ last → OblP ops a w0 Gr x Φ dead Ψ P i o := fun i o ho hne => by
  have := oblp_all ops 0 h i o ho (by rwa [Nat.zero_add])
  rwa [Nat.zero_add] at this
end
end Go.Proofs.Ytnifhhaalmlmnaa.J
