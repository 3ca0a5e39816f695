/- A range over an iterator that tells each round something of what it hands over (Fit). -/
import Derived.Test.YtfddkehnhkfjeaaProg
import Derived.RangeFuncNested
namespace Go.Proofs.Ytfddkehnhkfjeaa
open Go.RowKit

/-- An iterator's contract: x is handed to a round only where Fit holds of what was handed over, of x, and of the world. -/
def SeqFit {α : Type} (F : Fence) (n : Nat) (P : Program) (g : Nat) (lb : Array Value) (encs : α → Array Value) (Kp : World → World → Prop) (S Sp : List α → Prop) (Fit : List α → α → World → Prop) (w : World) : Prop :=
  ∀ (l : Nat) (J Jx : List α → World → Prop) (W : World), Below w.heap.size w W → AbidesFrom W.heap.size J → AbidesFrom W.heap.size Jx → J [] W →
    (∀ pre x V, J pre V → Fit pre x V → YieldAt F (n - 1) P l (encs x) V fun e V' => (e = .returned (.bool true) ∧ J (pre ++ [x]) V' ∧ Kp V V') ∨ (e = .returned (.bool false) ∧ Jx (pre ++ [x]) V')) →
    CallsIn F n P g (#[.func (.yield l) #[] #[]] ++ lb) W fun e V => (∃ v, e = .returned v) ∧ ((∃ xs, S xs ∧ J xs V) ∨ (∃ pre, Sp pre ∧ Jx pre V))

section
variable {α : Type} {F : Fence} {n : Nat} {P : Program} {g : Operand} {ps : Array Tmp} {assign body : Code} {Q : Exit → Act → World → Prop} {a : Act} {w w0 : World}

/-- The loop's record, in the function fn. -/
def recR (fn : FuncId) (a : Act) (ps : Array Tmp) (assign body : Code) (d : Nat) (st : LoopState) (pe : Option Code) : Loop := { state := st, pending := pe, fn := fn, tmps := a.tmps, params := ps, assign := assign, body := body, defers := d }

/-- The loop, from a caller's invariant. B is the heap's size ahead of it. -/
theorem wpIn_range_fit (hro : F.round = none) (h1 : 1 ≤ n) {gf : Nat} {lb : Array Value} (hg : a.eval g = .func (.func gf) #[] lb) (hFg : F.fn gf) (eg : ∀ args w, (callFunc gf args).run P w = .ok (.enter gf args) w)
    {encs : α → Array Value} {Kp : World → World → Prop} {S Sp : List α → Prop} {Fit : List α → α → World → Prop} (hseq : SeqFit F (n - 1) P gf lb encs Kp S Sp Fit w0)
    (hKt : ∀ {A B C : World}, Kp A B → Kp B C → Kp A C) (hKb : ∀ (W : World) (l : Nat) (o o' : Obj), w.heap.size ≤ l → W.heap[l]? = some o → o.isCells = false → o.isWalk = false → Kp W (W.putObj l o')) (hb0 : Below w0.heap.size w0 w) (hps : ∀ x, (encs x).size = ps.size)
    (I : List α → World → Prop) (Ix : Code → List α → World → Prop) (hI : OwnFrom w.heap.size I) (hIx : ∀ c, OwnFrom w.heap.size (Ix c)) (h0 : I [] w) (Ax : Array Value → List α → α → Act → World → Prop) (hAx : ∀ pre x a', OwnFrom w.heap.size (fun (_ : Unit) W => Ax a.tmps pre x a' W))
    (hassign : ∀ (l : Nat) (pre : List α) (x : α) (W : World) (K : Act → World → Prop), I pre W → Fit pre x W → w.heap.size ≤ W.heap.size → (∀ a' W', KeepsFrom w.heap.size W W' → Kp W W' → I pre W' → Ax a.tmps pre x a' W' → K a' W') →
      assign.wpIn (F.inRound l) (n - 1 - 1) P (Exit.then K (fun _ _ _ => False)) { tmps := (ps.zip (encs x)).foldl (fun t (p, v) => t.setIfInBounds p v) a.tmps, defers := [] } W)
    (hbody : ∀ (l : Nat) (pre : List α) (x : α) (a' : Act) (W : World), w.heap.size ≤ l → (∃ r, W.heap[l]? = some (.loop r)) → I pre W → Ax a.tmps pre x a' W → body.wpIn (F.inRound l) (n - 1 - 1) P (ownPostG w.heap.size Kp I Ix (pre ++ [x]) W) a' W)
    (hdone : ∀ (D : Nat) (xs : List α) (W : World), w.heap.size ≤ D → S xs → I xs W → W.heap[D]? = some (.deferred (some [])) → Q .normal { a with defers := { target := .collected D, args := #[] } :: a.defers } W)
    (hstop : ∀ (D : Nat) (c : Code) (pre : List α) (W : World), w.heap.size ≤ D → Sp pre → Ix c pre W → W.heap[D]? = some (.deferred (some [])) → c.wpIn F n P Q { a with defers := { target := .collected D, args := #[] } :: a.defers } W) :
    (Code.rangeFunc g ps assign body).wpIn F n P Q a w := by
  refine wpIn_rangeFunc fun fn hfn => ?_
  rw [hro]
  obtain ⟨B, hB⟩ : ∃ B, B = w.heap.size := ⟨_, rfl⟩
  obtain ⟨R, hR⟩ : ∃ R, R = recR fn a ps assign body B := ⟨_, rfl⟩
  obtain ⟨V, hV⟩ : ∃ V, V = (w.alloc (.deferred (some []))).alloc (.loop (R .ready none)) := ⟨_, rfl⟩
  have vsz : V.heap.size = B + 1 + 1 := by rw [hV, hB]; simp
  have vl : V.heap[B + 1]? = some (.loop (R .ready none)) := by
    have := World.alloc_heap_new (w.alloc (.deferred (some []))) (.loop (R .ready none))
    rw [World.size_alloc, ← hB] at this
    rw [hV]; exact this
  have vd : V.heap[B]? = some (.deferred (some [])) := by
    rw [hV, hB]
    exact (Below.heap_alloc _ _ _ (by simp)).trans (World.alloc_heap_new w _)
  have vI : I [] V := by rw [hV]; exact hI.alloc _ (hI.alloc _ h0)
  have vb : Below w0.heap.size w0 V := by
    rw [hV]
    exact ((hb0.alloc hb0.size _).alloc (Nat.le_trans hb0.size (by simp)) _)
  have pend : ∀ st pe, (R st pe).pending = pe := fun st pe => by rw [hR]; rfl
  have stat : ∀ st pe, (R st pe).state = st := fun st pe => by rw [hR]; rfl
  rw [← hB] at hKb hI hIx hAx hassign hbody hdone hstop
  refine ⟨B + 1, [{ target := .collected B, args := #[] }], V, { target := .fn (.func gf) lb, args := #[.func (.yield (B + 1)) #[] #[]] }, V, gf, #[.func (.yield (B + 1)) #[] #[]] ++ lb, V, ?_, ?_, ?_, ?_, fun _ => h1, ?_⟩
  · rw [hV, hR, hB]; exact run_enterLoop_outer _ _ _ _ _
  · simp only [resolve, hg]
    simp [go_sem]
  · intro f' hf'
    simp [Target.leads] at hf'
    subst hf'
    exact hFg
  · simp [invoke, go_sem, eg]
  -- the two blocks of the loop's own
  have own2 : ∀ {A C : World} {row : Option Nat}, A.grownBy C row → (∀ r, row = some r → V.heap.size ≤ r ∧ ∃ o : Obj, A.heap[r]? = some o ∧ o.isWalk = true) →
      (∀ r, row = some r → B ≤ r ∧ ∃ o : Obj, A.heap[r]? = some o ∧ o.isCells = false) ∧ (∀ k, k = B ∨ k = B + 1 → ∀ o : Obj, A.heap[k]? = some o → C.heap[k]? = some o) := fun {A C row} hgr hr => by
    refine ⟨fun r e => ?_, fun k hk o ho => (hgr.block k (Array.getElem?_eq_some_iff.1 ho).1 fun e => ?_).trans ho⟩
    · obtain ⟨hr1, o, ho, hw⟩ := hr r e
      exact ⟨by omega, o, ho, Obj.not_cells_of_walk hw⟩
    · have := (hr k e.symm).1
      omega
  refine (hseq (B + 1) (fun pre W => I pre W ∧ W.heap[B + 1]? = some (.loop (R .ready none)) ∧ W.heap[B]? = some (.deferred (some [])))
    (fun pre W => ∃ c, Ix c pre W ∧ W.heap[B + 1]? = some (.loop (R .done (some c))) ∧ W.heap[B]? = some (.deferred (some []))) V vb ?_ ?_ ⟨vI, vl, vd⟩ ?_).mono ?_
  · intro s A C row hs hgr hr
    obtain ⟨o1, o2⟩ := own2 hgr hr
    exact ⟨hI s A C row hs.1 hgr o1, o2 _ (.inr rfl) _ hs.2.1, o2 _ (.inl rfl) _ hs.2.2⟩
  · rintro s A C row ⟨c, hc, hl, hd⟩ hgr hr
    obtain ⟨o1, o2⟩ := own2 hgr hr
    exact ⟨c, hIx c s A C row hc hgr o1, o2 _ (.inr rfl) _ hl, o2 _ (.inl rfl) _ hd⟩
  · -- a round
    rintro pre x W ⟨hi, hl, hd⟩ hfit
    have hy := run_yield (P := P) (args := encs x) hl (by rw [hR]; exact hps x)
    rw [hR] at hy
    refine ⟨fn, _, assign, body, hy, roundIn_of_wpIn hfn (hassign _ pre x W _ hi hfit (by have := (Array.getElem?_eq_some_iff.1 hl).1; omega) ?_)⟩
    intro a' W1 k1 p1 i1 x1
    have l1 := k1.same _ _ (by omega) hl rfl
    have d1 := k1.same _ _ (Nat.le_refl _) hd rfl
    have lt1 : B + 1 < W1.heap.size := (Array.getElem?_eq_some_iff.1 l1).1
    refine ⟨_, run_beginRound l1 (stat _ _), ?_⟩
    have busy : ({ (R .ready none) with state := .busy } : Loop) = R .busy none := by rw [hR]; rfl
    rw [busy]
    have l2 : (W1.putObj (B + 1) (.loop (R .busy none))).heap[B + 1]? = some (.loop (R .busy none)) := World.putObj_heap_same lt1
    have d2 : (W1.putObj (B + 1) (.loop (R .busy none))).heap[B]? = some (.deferred (some [])) := (World.putObj_heap_other (by omega)).trans d1
    have p2 : Kp W1 (W1.putObj (B + 1) (.loop (R .busy none))) := hKb _ _ _ _ (by omega) l1 rfl rfl
    refine wpIn_mono (hbody _ pre x a' _ (by omega) ⟨_, l2⟩ (hI.putObj _ i1 (by omega) l1 rfl) ((hAx pre x a').putObj (s := ()) _ x1 (by omega) l1 rfl)) ?_
    -- the round's end
    have fin : ∀ (j : Option Code) (W3 : World), KeepsFrom B (W1.putObj (B + 1) (.loop (R .busy none))) W3 →
        (Instr.endRound (B + 1) j).run P W3 = .ok (.bool j.isNone) (W3.putObj (B + 1) (.loop (R (if j.isNone then .ready else .done) j))) ∧ W3.heap[B + 1]? = some (.loop (R .busy none)) ∧
        (W3.putObj (B + 1) (.loop (R (if j.isNone then .ready else .done) j))).heap[B + 1]? = some (.loop (R (if j.isNone then .ready else .done) j)) ∧
        (W3.putObj (B + 1) (.loop (R (if j.isNone then .ready else .done) j))).heap[B]? = some (.deferred (some [])) := fun j W3 k3 => by
      have l3 := k3.same _ _ (by omega) l2 rfl
      have := run_endRound (P := P) j l3
      rw [show ({ (R .busy none) with state := if j.isNone then .ready else .done, pending := j } : Loop) = R (if j.isNone then .ready else .done) j from by rw [hR]; rfl] at this
      exact ⟨this, l3, World.putObj_heap_same (Array.getElem?_eq_some_iff.1 l3).1, (World.putObj_heap_other (by omega)).trans (k3.same _ _ (Nat.le_refl _) d2 rfl)⟩
    rintro e a3 W3 hp
    cases e with
    | normal =>
      obtain ⟨k3, p3, i3⟩ := hp
      obtain ⟨hr, l3, l4, d4⟩ := fin none W3 k3
      exact ⟨_, _, hr, .inl ⟨rfl, ⟨hI.putObj _ i3 (by omega) l3 rfl, l4, d4⟩, hKt p1 (hKt (hKt p2 p3) (hKb _ _ _ _ (by omega) l3 rfl rfl))⟩⟩
    | ret =>
      obtain ⟨k3, i3⟩ := hp
      obtain ⟨hr, l3, l4, d4⟩ := fin (some .ret) W3 k3
      exact ⟨_, _, hr, .inr ⟨rfl, .ret, (hIx _).putObj _ i3 (by omega) l3 rfl, l4, d4⟩⟩
    | exit id =>
      obtain ⟨k3, i3⟩ := hp
      obtain ⟨hr, l3, l4, d4⟩ := fin (some (.exit id)) W3 k3
      exact ⟨_, _, hr, .inr ⟨rfl, .exit id, (hIx _).putObj _ i3 (by omega) l3 rfl, l4, d4⟩⟩
    | goto t =>
      obtain ⟨k3, i3⟩ := hp
      obtain ⟨hr, l3, l4, d4⟩ := fin (some (.goto t)) W3 k3
      exact ⟨_, _, hr, .inr ⟨rfl, .goto t, (hIx _).putObj _ i3 (by omega) l3 rfl, l4, d4⟩⟩
    | panic ch => exact hp.elim
    | outgrown => exact hp.elim
  · -- behind the iterator
    rintro e W2 ⟨⟨v, rfl⟩, (⟨xs, hS, hi, hl, hd⟩ | ⟨pre, hSp, c, hi, hl, hd⟩)⟩
    · have := run_endLoop (P := P) hl (by rw [stat]; simp)
      rw [pend] at this
      exact ⟨none, _, this, hdone _ xs _ (Nat.le_refl _) hS (hI.putObj _ hi (by omega) hl rfl) ((World.putObj_heap_other (by omega)).trans hd)⟩
    · have := run_endLoop (P := P) hl (by rw [stat]; simp)
      rw [pend] at this
      exact ⟨some c, _, this, hstop _ c pre _ (Nat.le_refl _) hSp ((hIx c).putObj _ hi (by omega) hl rfl) ((World.putObj_heap_other (by omega)).trans hd)⟩
end
end Go.Proofs.Ytfddkehnhkfjeaa
