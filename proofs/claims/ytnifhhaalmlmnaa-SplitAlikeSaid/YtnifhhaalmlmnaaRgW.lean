/- In a round behind the wide fence every law of a drawn region serves that goes by the orders of the open machine. -/
import Derived.Test.YtnifhhaalmlmnaaRgS
import Derived.Test.YtnifhhaalmlmnaaRgI
import Derived.OrdersIn
import Derived.RangeFuncCalls
namespace Go.Proofs.Ytnifhhaalmlmnaa
open Go.Sort
section
variable {n0 lp : Nat} {P : Program} {Q : Exit → Act → World → Prop}
def noDefer (o : Oper) : Bool := match o.op with
  | .defer _ => false
  | _ => true
theorem noDefer_ne {o : Oper} (h : noDefer o = true) (c : Call) : o.op ≠ .defer c := fun e => by
  unfold noDefer at h
  rw [e] at h
  cases h
theorem rowsIn_wide {row : String} {args : Array Value} {w : World} {R : Value → World → Prop} (h : Rows P row args w R) : RowsIn Fence.wide n0 P row args w R :=
  fun c cs _ => let ⟨v, w', r, s⟩ := h c cs; ⟨v, w', r, stepsIn_wide.2 s⟩
theorem wide_wpIn {o : Oper} (hd : noDefer o = true) {a : Act} {w : World} {K : Act → World → Prop} (hw : o.wp P a w K Q) : o.wpIn (Fence.wide.inRound lp) n0 P a w K Q := by
  refine ⟨fun f _ => trivial, ?_⟩
  rw [Oper.semAt_eq _ _ _ (noDefer_ne hd)]
  unfold Oper.wp at hw
  generalize (execOp a.eval o).run P w = r at hw
  cases r with
  | ok x w' =>
    cases x with
    | value v => exact hw
    | skip => exact hw
    | defer d => exact hw
    | enter f args => exact ⟨fun h => (by cases h), CallsIn.inRound lp (callsIn_wide.2 hw)⟩
    | row row args => exact ⟨fun h => (by cases h), rowsIn_wide hw⟩
    | _ => exact hw.elim
  | halt x w' => cases x <;> exact hw
theorem wide_any (hQ : ¬ LetsOut Q) {ops : Array Oper} {md : Region.Mode} (hp : ops.toList.all noDefer = true) : ∀ (fuel : Nat) (listed : Array Bool) (a : Act) (w : World), wpAny P md ops Q fuel listed a w → wpAnyIn (Fence.wide.inRound lp) n0 P md ops Q fuel listed a w
  | 0, _, _, _, h => h
  | fuel + 1, listed, a, w, h => by
    refine ⟨h.1, fun i hi => ?_⟩
    have h2 := h.2 i hi
    unfold wpOp at h2
    unfold wpOpIn
    cases ho : ops[i]? with
    | none => rw [ho] at h2; exact wide_any hQ hp fuel _ a w h2
    | some o =>
      rw [ho] at h2
      simp only at h2 ⊢
      split
      · rename_i hw
        rw [if_pos hw] at h2
        rcases h2 with h2 | h2
        · exact Oper.wpIn_mono (fun a w h => wide_any hQ hp fuel _ a w h) (wide_wpIn (List.all_eq_true.1 hp o (Array.mem_toList_iff.2 (Array.mem_of_getElem? ho))) h2)
        · exact absurd h2.2 hQ
      · rename_i hw
        rw [if_neg hw] at h2
        exact ⟨fun f _ => trivial, wide_any hQ hp fuel _ _ w h2⟩
/-- From the orders of the open machine to a round. -/
theorem wpIn_region_wide {id : Nat} {a : Act} {w : World} {l : List Oper} (hd : l.all noDefer = true) (hm : P.follows .mixedOrders = true)
    (h : wpAny P .any l.toArray (fun e a w => e = .normal ∧ Q .normal a w) l.length (Array.replicate l.length false) a { w with drawn := w.drawn + 1 }) : (Code.region id l.toArray true).wpIn (Fence.wide.inRound lp) n0 P Q a w := by
  refine wpIn_mono (Q := fun e a w => e = .normal ∧ Q .normal a w) ?_ fun e a w h => by obtain ⟨rfl, h⟩ := h; exact h
  refine wpIn_region_any hm (wide_any (fun h => by obtain ⟨_, _, h, _⟩ := h; cases h) (by simpa using hd) _ _ _ _ ?_)
  simpa using h
theorem wpIn_region_stages {id : Nat} {a : Act} {w : World} {l : List Oper} (ns : List (Bool × Nat)) (hd : l.all noDefer = true) (hm : P.follows .mixedOrders = true) (hB : stB ns l = true)
    (h : ∀ wz, RowKit.Below w.heap.size w wz → RowKit.Below wz.heap.size wz w → wpSt P l.toArray (fun e a w => e = .normal ∧ Q .normal a w) ns l a wz) : (Code.region id l.toArray true).wpIn (Fence.wide.inRound lp) n0 P Q a w := by
  refine wpIn_region_wide hd hm ?_
  have hl : LikeL 0 l.toArray l l := ⟨rfl, fun j _ => by rw [List.getElem?_toArray, Nat.zero_add], fun j o ho => ⟨o.after, by rw [ho]; congr 1; cases hg : o.guard with
    | none => cases o; simp only at hg; subst hg; rfl
    | some g => cases o; simp only at hg; subst hg; rfl⟩, fun _ _ _ _ _ => Nat.zero_le _⟩
  exact st_any ns 0 l l a _ hl hB (h _ ⟨rfl, rfl, rfl, Nat.le_refl _, fun _ _ => rfl⟩ ⟨rfl, rfl, rfl, Nat.le_refl _, fun _ _ => rfl⟩)
/-- The law that goes by what each operation leaves, in a round; Ψ i holds until operation i runs. -/
theorem wpIn_region_psi {id : Nat} {ops : List Oper} {a : Act} {w : World} (hd : ops.all noDefer = true) (hm : P.follows .mixedOrders = true) (Gr : World → World → Prop) (Φ : Nat → Value → World → Prop) (last : Nat) (Fin : (Nat → Value) → World → Prop) (dead : Nat → Nat → Bool) (Ψ : Nat → World → Prop) (hfit : fitV ops a.tmps.size last = true)
    (hrf : ∀ x, Gr x x) (htr : ∀ {x y z : World}, Gr x y → Gr y z → Gr x z) (hΨ : ∀ j, Ψ j { w with drawn := w.drawn + 1 })
    (hob : ∀ i o, ops[i]? = some o → i ≠ last → OblP ops a { w with drawn := w.drawn + 1 } Gr Φ dead Ψ P i o) (hol : ∀ o, ops[last]? = some o → OblL ops a { w with drawn := w.drawn + 1 } Gr Φ last Fin dead P o)
    (hfin : ∀ val w', (if last < ops.length then Fin val w' else Gr { w with drawn := w.drawn + 1 } w' ∧ ∀ j, j < ops.length → (∀ i, i < ops.length → dead i j = false) → Φ j (val j) w') → Q .normal (putAll ops 0 val a) w') : (Code.region id ops.toArray true).wpIn (Fence.wide.inRound lp) n0 P Q a w := by
  refine wpIn_region_wide hd hm ?_
  refine st_walk (w0 := { w with drawn := w.drawn + 1 }) (Gr := Gr) (Φ := Φ) (last := last) (Fin := Fin) (Ψ := Ψ) (fitV_ok hfit) htr hob hol (fun val w' h => ⟨rfl, hfin val w' h⟩) _ _ _ _ ⟨⟨rfl, rfl, fun _ _ => rfl⟩, by simp, ?_, ?_, ?_, ?_, fun j _ _ => hΨ j⟩ ?_
  · intro j o _ h
    simp [Array.getD] at h
  · intro j o ho _
    unfold valOf
    rw [ho]
  · intro _
    refine ⟨hrf _, fun j _ h _ => ?_⟩
    simp [Array.getD] at h
  · intro h
    simp [Array.getD] at h
  · have := List.length_filter_le (fun i => !(Array.replicate ops.length false).getD i false) (List.range ops.length)
    simp only [List.length_range] at this
    simpa using this
theorem wpIn_region_rel {id : Nat} {ops : List Oper} {a : Act} {w : World} (hd : ops.all noDefer = true) (hm : P.follows .mixedOrders = true) (Gr : World → World → Prop) (Φ : Nat → Value → World → Prop) (last : Nat) (Fin : (Nat → Value) → World → Prop) (dead : Nat → Nat → Bool) (hfit : fitV ops a.tmps.size last = true)
    (hrf : ∀ x, Gr x x) (htr : ∀ {x y z : World}, Gr x y → Gr y z → Gr x z)
    (hob : ∀ i o, ops[i]? = some o → i ≠ last → OblV ops a { w with drawn := w.drawn + 1 } Gr Φ dead P i o) (hol : ∀ o, ops[last]? = some o → OblL ops a { w with drawn := w.drawn + 1 } Gr Φ last Fin dead P o)
    (hfin : ∀ val w', (if last < ops.length then Fin val w' else Gr { w with drawn := w.drawn + 1 } w' ∧ ∀ j, j < ops.length → (∀ i, i < ops.length → dead i j = false) → Φ j (val j) w') → Q .normal (putAll ops 0 val a) w') : (Code.region id ops.toArray true).wpIn (Fence.wide.inRound lp) n0 P Q a w :=
  wpIn_region_psi hd hm Gr Φ last Fin dead (fun _ _ => True) hfit hrf htr (fun _ => trivial) (fun i o ho hne => (hob i o ho hne).p) hol hfin
end
end Go.Proofs.Ytnifhhaalmlmnaa
