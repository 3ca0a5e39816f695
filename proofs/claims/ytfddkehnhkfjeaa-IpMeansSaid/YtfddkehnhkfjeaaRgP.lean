/- A drawn region that only reads, inside a round's fence: by the quiet law of the open machine. -/
import Derived.Test.YtfddkehnhkfjeaaProg
import Derived.Deep.Quiet
import Derived.OrdersIn
namespace Go.Proofs.Ytfddkehnhkfjeaa
section
variable {P : Program} {F : Fence} {n : Nat} {Q : Exit → Act → World → Prop}
/-- Operations that call nothing. -/
def plainB (o : Oper) : Bool := match o.op with
  | .move _ | .assign _ | .pick _ _ _ | .load _ _ | .binOp _ _ _ _ _ | .unOp _ _ _ | .fieldAddr _ _ _ | .indexAddr _ _ _ | .extract _ _ | .slice _ _ _ _ _ => true
  | .call c => match c.callee with
    | .builtin .len => true
    | _ => false
  | _ => false
def onlyV : Result Next → Prop
  | .ok (.value _) _ => True
  | .halt _ _ => True
  | _ => False
theorem onlyV_v (s : Sem Value) (w : World) : onlyV ((do pure (Next.value (← s)) : Sem Next).run P w) := by
  simp only [Sem.run_bind, Sem.run_pure]
  cases s.run P w <;> trivial
theorem plain_only {o : Oper} (h : plainB o = true) (ρ : Operand → Value) (w : World) : onlyV ((execOp ρ o).run P w) := by
  unfold plainB at h
  unfold execOp
  cases ho : o.op <;> rw [ho] at h <;> simp only at h <;> first
    | (cases h; done)
    | trivial
    | exact onlyV_v _ _
    | skip
  case pick c x y =>
    simp only [Sem.run_bind, Sem.run_pure]
    cases (asBool (ρ c)).run P w <;> trivial
  case call c =>
    obtain ⟨callee, args, tys⟩ := c
    cases callee with
    | value f => cases h
    | invoke r m => cases h
    | builtin b =>
      cases b <;> simp only at h <;> first
        | (cases h; done)
        | skip
      simp only [resolve, invoke, builtin, Sem.run_bind, Sem.run_pure, Result.andThen_ok]
      cases (Builtin.len_ tys o.type (Array.map ρ args)).run P w <;> trivial
theorem plain_defer {o : Oper} (h : plainB o = true) (c : Call) : o.op ≠ .defer c := fun e => by
  unfold plainB at h
  rw [e] at h
  cases h
theorem plain_wpIn (hF : ∀ f, F.fn f) {o : Oper} (h : plainB o = true) {a : Act} {w : World} {K : Act → World → Prop} (hw : o.wp P a w K Q) : o.wpIn F n P a w K Q := by
  refine ⟨fun f _ => hF f, ?_⟩
  rw [Oper.semAt_eq _ _ _ (plain_defer h)]
  have h1 := plain_only (P := P) h a.eval w
  unfold Oper.wp at hw
  generalize (execOp a.eval o).run P w = r at h1 hw
  cases r with
  | ok x w' => cases x <;> first | exact hw | exact h1.elim
  | halt x w' => cases x <;> first | exact hw | exact hw.elim
theorem plain_any (hF : ∀ f, F.fn f) (hQ : ¬ LetsOut Q) {ops : Array Oper} {md : Region.Mode} (hp : ops.toList.all plainB = true) : ∀ (fuel : Nat) (listed : Array Bool) (a : Act) (w : World), wpAny P md ops Q fuel listed a w → wpAnyIn F n P md ops Q fuel listed a w
  | 0, _, _, _, h => h
  | fuel + 1, listed, a, w, h => by
    refine ⟨h.1, fun i hi => ?_⟩
    have h2 := h.2 i hi
    unfold wpOp at h2
    unfold wpOpIn
    cases ho : ops[i]? with
    | none => rw [ho] at h2; exact plain_any hF hQ hp fuel _ a w h2
    | some o =>
      rw [ho] at h2
      simp only at h2 ⊢
      split
      · rename_i hw
        rw [if_pos hw] at h2
        rcases h2 with h2 | h2
        · exact Oper.wpIn_mono (fun a w h => plain_any hF hQ hp fuel _ a w h) (plain_wpIn hF (List.all_eq_true.1 hp o (Array.mem_toList_iff.2 (Array.mem_of_getElem? ho))) h2)
        · exact absurd h2.2 hQ
      · rename_i hw
        rw [if_neg hw] at h2
        exact ⟨fun f _ => hF f, plain_any hF hQ hp fuel _ _ w h2⟩
/-- One walk of the lexical order serves, in a round too. -/
theorem wpIn_region_plain {id : Nat} {a : Act} {w : World} {l : List Oper} (hF : ∀ f, F.fn f) (hp : l.all plainB = true) (hm : P.follows .mixedOrders = true) (hB : Region.lexB .any l.toArray = true)
    (h : wpQuiet P l.toArray (fun w' => ∃ n, w' = w.drewN n) (fun a' => ∀ w', (∃ n, w' = w.drewN n) → Q .normal a' w') l a) : (Code.region id l.toArray true).wpIn F n P Q a w := by
  refine wpIn_mono (Q := fun e a w => e = .normal ∧ Q .normal a w) ?_ fun e a w h => by obtain ⟨rfl, h⟩ := h; exact h
  refine wpIn_region_any hm (plain_any hF (fun h => by obtain ⟨_, _, h, _⟩ := h; cases h) (by simpa using hp) _ _ _ _ ?_)
  have hB2 := hB
  simp only [Region.lexB, Bool.and_eq_true] at hB2
  refine wpAny_of_quiet (C := fun w' => ∃ n, w' = w.drewN n) (Q := fun a' => ∀ w', (∃ n, w' = w.drewN n) → Q .normal a' w') (fun _ w' hw' h => ⟨rfl, h w' hw'⟩) _ _ _ _ ⟨1, rfl⟩ ?_
  have := wpAnyQ_lex (C := fun w' => ∃ n, w' = w.drewN n) (md := .any) hB2.1 l 0 (Array.replicate l.toArray.size false) a (by simp) (by simpa using hB2.2) h
  simpa using this
end
end Go.Proofs.Ytfddkehnhkfjeaa
