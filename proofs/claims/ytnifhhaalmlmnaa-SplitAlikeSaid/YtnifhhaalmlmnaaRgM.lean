/- A drawn region of two kinds of operations: quiet ones (reads, and calls that only make memory), walked once, in the order of the text; and a chain of others (each waits for the one ahead), walked behind them. Between two of the chain any quiet one may run: so each of the chain is walked in any world that has grown. -/
import Derived.Test.YtnifhhaalmlmnaaRgS
import Derived.BigQuiet
namespace Go.Proofs.Ytnifhhaalmlmnaa
open Go.Sort Go.RowKit
section
variable {P : Program} {ops : Array Oper} {Q : Exit → Act → World → Prop} {C : World → Prop} {ms : Nat}

def exW (w w' : World) : Prop := ∃ p : Regrown, w' = grow (redrawn w p.d) p.os
theorem exW_of {w w' : World} (h : Below w.heap.size w w') : exW w w' := regrown_of_below h
theorem exW.below {w w' : World} (h : exW w w') : Below w.heap.size w w' := by obtain ⟨p, rfl⟩ := h; exact below_regrown _ _ _
theorem exW_refl (w : World) : exW w w := back_class w
theorem exW_trans {a b c : World} (h : exW a b) (k : exW b c) : exW a c := exW_of (h.below.trans (k.below.mono h.below.size))

def offX : Exit → Act → World → Prop := fun _ _ _ => False
/-- Operation i comes up; it does not panic. -/
def xOp (P : Program) (ops : Array Oper) (i : Nat) (K : Act → World → Prop) (a : Act) (w : World) : Prop := match ops[i]? with
  | none => K a w
  | some o => if Region.wanted o (yielded ops a.tmps) = true then o.wp P a w K offX else K (a.put o.dst undef) w
/-- ms: an operation that waits for all quiet ones: ahead of it C holds, and any quiet one may run. -/
def wpX (P : Program) (ops : Array Oper) (C : World → Prop) (ms : Nat) (Q : Exit → Act → World → Prop) : Nat → Array Bool → Act → World → Prop
  | 0, l, a, w => (l.getD ms false = false → C w) ∧ ∀ w', exW w w' → (l.getD ms false = true → w' = w) → Region.ready .any ops l = [] ∧ Q .normal a w'
  | f + 1, l, a, w => (l.getD ms false = false → C w) ∧ ∀ w', exW w w' → (l.getD ms false = true → w' = w) → (Region.ready .any ops l = [] → Q .normal a w') ∧ ∀ i ∈ Region.ready .any ops l, xOp P ops i (wpX P ops C ms Q f (l.setIfInBounds i true)) a w'
theorem wpX_c : ∀ {f : Nat} {l : Array Bool} {a : Act} {w : World}, wpX P ops C ms Q f l a w → l.getD ms false = false → C w
  | 0, _, _, _, h => h.1
  | _ + 1, _, _, _, h => h.1
theorem wpX_ext (hC : ∀ x y, C x → Below x.heap.size x y → C y) : ∀ {f : Nat} {l : Array Bool} {a : Act} {w w' : World}, wpX P ops C ms Q f l a w → l.getD ms false = false → exW w w' → wpX P ops C ms Q f l a w'
  | 0, _, _, _, _, h, hl, hw => ⟨fun _ => hC _ _ (h.1 hl) hw.below, fun _ h2 _ => h.2 _ (exW_trans hw h2) fun e => by rw [hl] at e; cases e⟩
  | _ + 1, _, _, _, _, h, hl, hw => ⟨fun _ => hC _ _ (h.1 hl) hw.below, fun _ h2 _ => h.2 _ (exW_trans hw h2) fun e => by rw [hl] at e; cases e⟩
theorem wp_off {o : Oper} {a : Act} {w : World} {K : Act → World → Prop} (h : o.wp P a w K offX) : o.wp P a w K Q := by
  unfold Oper.wp at *
  generalize (execOp a.eval o).run P w = r at *
  cases r with
  | ok n w' =>
    cases n <;> simp only [Oper.upon] at h ⊢ <;>
      first
        | exact h
        | (refine Calls.mono h fun e w'' he => ?_
           cases e
           · exact he
           · exact he.elim
           · obtain ⟨_, _, he⟩ := he; exact he.elim)
  | halt x w' => cases x <;> simp only [Oper.upon] at h ⊢ <;> exact h.elim
theorem xOp_mono {i : Nat} {K K' : Act → World → Prop} {a : Act} {w : World} (h : ∀ a w, K a w → K' a w) (hh : xOp P ops i K a w) : xOp P ops i K' a w := by
  unfold xOp at *
  split
  · rename_i ho; simp only [ho] at hh; exact h _ _ hh
  · rename_i o ho
    simp only [ho] at hh
    split
    · rename_i hw; rw [if_pos hw] at hh; exact Oper.wp_mono h hh
    · rename_i hw; rw [if_neg hw] at hh; exact h _ _ hh
theorem wpX_any : ∀ {f : Nat} {l : Array Bool} {a : Act} {w : World}, wpX P ops C ms Q f l a w → wpAny P .any ops Q f l a w
  | 0, _, _, w, h => h.2 w (exW_refl w) fun _ => rfl
  | f + 1, l, a, w, h => by
    have h := h.2 w (exW_refl w) fun _ => rfl
    refine ⟨h.1, fun i hi => ?_⟩
    have h2 := xOp_mono (fun a w => wpX_any) (h.2 i hi)
    unfold xOp at h2
    unfold wpOp
    split
    · rename_i ho; simp only [ho] at h2; exact h2
    · rename_i o ho
      simp only [ho] at h2
      split
      · rename_i hw; rw [if_pos hw] at h2; exact .inl (wp_off h2)
      · rename_i hw; rw [if_neg hw] at h2; exact h2

/-- In frame a, in every world of C, operation o yields v, and leaves a world that has grown. -/
def YieldsX (P : Program) (ops : Array Oper) (C : World → Prop) (o : Oper) (v : Value) (a : Act) : Prop :=
  (Region.wanted o (yielded ops a.tmps) = true ∧ ∀ w, C w → o.quietAt P a (exW w) w v) ∨ (Region.wanted o (yielded ops a.tmps) = false ∧ v = undef)
theorem YieldsX.xOp {i : Nat} {o : Oper} {v : Value} {a : Act} {w : World} (hi : ops[i]? = some o) (hy : YieldsX P ops C o v a) (hw : C w) {K : Act → World → Prop} (h : ∀ w', exW w w' → K (a.put o.dst v) w') : xOp P ops i K a w := by
  unfold Go.Proofs.Ytnifhhaalmlmnaa.xOp
  simp only [hi]
  rcases hy with ⟨hg, hv⟩ | ⟨hg, rfl⟩
  · rw [if_pos hg]
    have h3 := hv w hw
    unfold Oper.quietAt at h3
    unfold Oper.wp
    generalize (execOp a.eval o).run P w = r at *
    cases r with
    | ok n w' =>
      cases n <;> simp only [Oper.quietUpon] at h3 <;> simp only [Oper.upon]
      case value u =>
        obtain ⟨e1, e2⟩ := h3
        rw [e1, e2]
        exact h _ (exW_refl _)
      case skip =>
        obtain ⟨e1, e2⟩ := h3
        rw [e1, ← e2]
        exact h _ (exW_refl _)
      case enter f args =>
        obtain ⟨e1, hc⟩ := h3
        rw [e1]
        exact hc.mono fun e w'' ⟨he, hw''⟩ => by subst he; exact h _ hw''
    | halt x w' => simp only [Oper.quietUpon] at h3
  · rw [if_neg (by rw [hg]; decide)]
    exact h _ (exW_refl _)
theorem YieldsX.of_same {o : Oper} {v : Value} {a a' : Act} (hy : YieldsX P ops C o v a) (he : execOp a'.eval o = execOp a.eval o)
    (hw : Region.wanted o (yielded ops a'.tmps) = Region.wanted o (yielded ops a.tmps)) : YieldsX P ops C o v a' := by
  unfold YieldsX Oper.quietAt at *
  rw [he, hw]
  exact hy
theorem put_defer (a : Act) (d : Deferred) (x y : Option Tmp) (v u : Value) (h : ∀ k, x = some k → y ≠ some k) : ({ (a.put x v) with defers := d :: (a.put x v).defers } : Act).put y u = (({ a with defers := d :: a.defers } : Act).put y u).put x v := by
  have e : ({ (a.put x v) with defers := d :: (a.put x v).defers } : Act) = ({ a with defers := d :: a.defers } : Act).put x v := by cases x <;> rfl
  rw [e, Act.put_comm _ v u h]
theorem eval_defer (a : Act) (d : List Deferred) : ({ a with defers := d } : Act).eval = a.eval := by funext x; cases x <;> rfl
theorem xOp_put {j : Nat} {oi oj : Oper} {v : Value} (hj : ops[j]? = some oj) (hap : oi.apart ops oj = true) (hsi : ∀ cs b, oi.op ≠ .select cs b) (hsj : ∀ cs b, oj.op ≠ .select cs b) {K : Act → World → Prop} {a : Act} {w : World}
    (hy : YieldsX P ops C oi v a) (h : xOp P ops j K (a.put oi.dst v) w) : xOp P ops j (fun a' w' => YieldsX P ops C oi v a' ∧ K (a'.put oi.dst v) w') a w := by
  obtain ⟨h1, h2, h3⟩ := Oper.apart_spec hap
  have keep : ∀ (a : Act), YieldsX P ops C oi v a → ∀ u, YieldsX P ops C oi v (a.put oj.dst u) := fun a hy u =>
    hy.of_same (execOp_put oi hsi a oj.dst u h3) (wanted_put oi a oj.dst u h3)
  unfold xOp at *
  simp only [hj] at *
  rw [wanted_put oj a oi.dst v h1] at h
  split
  · rename_i hw
    rw [if_pos hw] at h
    unfold Oper.wp at *
    rw [execOp_put oj hsj a oi.dst v h1] at h
    generalize (execOp a.eval oj).run P w = r at *
    cases r with
    | ok n w' =>
      cases n <;> simp only [Oper.upon] at h ⊢
      case value u => exact ⟨keep a hy u, by rw [← Act.put_comm a v u h2]; exact h⟩
      case skip => exact ⟨keep a hy _, by rw [← Act.put_comm a v undef h2]; exact h⟩
      case defer d =>
        refine ⟨?_, by rw [← put_defer a d _ _ v undef h2]; exact h⟩
        have hy' : YieldsX P ops C oi v ({ a with defers := d :: a.defers } : Act) := hy.of_same (by rw [eval_defer]) rfl
        exact hy'.of_same (execOp_put oi hsi _ oj.dst undef h3) (wanted_put oi _ oj.dst undef h3)
      case enter f args =>
        refine Calls.mono h fun e w'' he => ?_
        cases e with
        | returned u => exact ⟨keep a hy u, by rw [← Act.put_comm a v u h2]; exact he⟩
        | panicked c => exact he
        | outgrown => exact he
      case row row args =>
        exact Rows.mono h fun u w'' he => ⟨keep a hy u, by rw [← Act.put_comm a v u h2]; exact he⟩
      all_goals exact h
    | halt x w' => cases x <;> simp only [Oper.upon] at h ⊢ <;> exact h
  · rename_i hw
    rw [if_neg hw] at h
    exact ⟨keep a hy _, by rw [← Act.put_comm a v undef h2]; exact h⟩
/-- What is done is done with all that it waited for. -/
def ClosedX (ops : Array Oper) (l : Array Bool) : Prop := ∀ (j : Nat) (o : Oper), ops[j]? = some o → l.getD j false = true → ∀ e ∈ o.after, Region.binds .any e = true → l.getD e.on false = true
theorem ClosedX.set {l : Array Bool} {j : Nat} (h : ClosedX ops l) (hj : j ∈ Region.ready .any ops l) : ClosedX ops (l.setIfInBounds j true) := by
  intro k o hk hl e he hb
  by_cases hkj : j = k
  · subst hkj
    obtain ⟨_, o', ho', hall⟩ := mem_ready.1 hj
    rw [hk] at ho'
    injection ho' with ho'
    subst ho'
    exact getD_set_true (hall e he hb)
  · rw [getD_set_ne false hkj] at hl
    exact getD_set_true (h k o hk hl e he hb)
/-- ms waits for i, or for one that waits for it. -/
def AwaitsX (ops : Array Oper) (ms i : Nat) : Prop := ∀ o, ops[ms]? = some o → ∀ p : Nat → Prop, (∀ e ∈ o.after, Region.binds .any e = true → p e.on) → (∀ (k : Nat) (o' : Oper), ops[k]? = some o' → p k → ∀ e ∈ o'.after, Region.binds .any e = true → p e.on) → p i
theorem AwaitsX.ne {l : Array Bool} {i j : Nat} (ha : AwaitsX ops ms i) (hc : ClosedX ops l) (hi : l.getD i true = false) (hj : j ∈ Region.ready .any ops l) : j ≠ ms := by
  rintro rfl
  obtain ⟨_, o, ho, hall⟩ := mem_ready.1 hj
  have := ha o ho (fun k => l.getD k false = true) hall hc
  rcases Nat.lt_or_ge i l.size with h' | h'
  · simp [h'] at hi this; rw [hi] at this; cases this
  · simp [Array.getElem?_eq_none h'] at hi
/-- A quiet operation that may come up now may be taken first. -/
theorem wpX_first (hC : ∀ x y, C x → Below x.heap.size x y → C y) {i : Nat} {oi : Oper} {v : Value} (hi : ops[i]? = some oi) (hsel : ∀ (j : Nat) (o : Oper) cs b, ops[j]? = some o → o.op ≠ .select cs b) (haw : AwaitsX ops ms i) (him : i ≠ ms) :
    ∀ (fuel : Nat) (listed : Array Bool) (a : Act) (w : World), ClosedX ops listed → listed.getD ms false = false →
      (∀ j oj, ops[j]? = some oj → j ≠ i → listed.getD j true = false → (∀ e ∈ oj.after, Region.binds .any e = true → e.on ≠ i) → oi.apart ops oj = true) →
      i ∈ Region.ready .any ops listed → YieldsX P ops C oi v a →
      wpX P ops C ms Q fuel (listed.setIfInBounds i true) (a.put oi.dst v) w → wpX P ops C ms Q (fuel + 1) listed a w := by
  intro fuel
  induction fuel with
  | zero =>
    intro listed a w hcl hml _ hr hy H
    have hml' : (listed.setIfInBounds i true).getD ms false = false := by rw [getD_set_ne false him]; exact hml
    refine ⟨fun _ => wpX_c H hml', fun w' hw' _ => ⟨fun h => (by rw [h] at hr; cases hr), fun j hj => ?_⟩⟩
    have H' := wpX_ext hC H hml' hw'
    by_cases hji : j = i
    · subst hji; exact hy.xOp hi (wpX_c H' hml') fun w'' h2 => wpX_ext hC H' hml' h2
    · have := ready_mono hj hji
      rw [(H'.2 w' (exW_refl _) fun _ => rfl).1] at this
      cases this
  | succ fuel ih =>
    intro listed a w hcl hml hfree hr hy H
    have hml' : (listed.setIfInBounds i true).getD ms false = false := by rw [getD_set_ne false him]; exact hml
    refine ⟨fun _ => wpX_c H hml', fun w' hw' _ => ⟨fun h => (by rw [h] at hr; cases hr), fun j hj => ?_⟩⟩
    have H' := wpX_ext hC H hml' hw'
    by_cases hji : j = i
    · subst hji; exact hy.xOp hi (wpX_c H' hml') fun w'' h2 => wpX_ext hC H' hml' h2
    · have h1 := (H'.2 w' (exW_refl _) fun _ => rfl).2 j (ready_mono hj hji)
      obtain ⟨hjun, oj, hoj, hall⟩ := mem_ready.1 hj
      have hjm := haw.ne hcl (mem_ready.1 hr).1 hj
      have hnot : ∀ e ∈ oj.after, Region.binds .any e = true → e.on ≠ i := fun e he hb heq => by
        have h1 := hall e he hb
        have h0 := (mem_ready.1 hr).1
        rw [heq] at h1
        rcases Nat.lt_or_ge i listed.size with h' | h'
        · simp [h'] at h0 h1; rw [h0] at h1; cases h1
        · simp [Array.getElem?_eq_none h'] at h1
      have h2 := xOp_put hoj (hfree j oj hoj hji hjun hnot) (fun cs b => hsel i oi cs b hi) (fun cs b => hsel j oj cs b hoj) hy h1
      have hfree' : ∀ k ok, ops[k]? = some ok → k ≠ i → (listed.setIfInBounds j true).getD k true = false →
          (∀ e ∈ ok.after, Region.binds .any e = true → e.on ≠ i) → oi.apart ops ok = true := fun k ok hk hki hun hno => by
        refine hfree k ok hk hki ?_ hno
        by_cases hjk : j = k
        · subst hjk; exact hjun
        · rw [getD_set_ne true hjk] at hun; exact hun
      refine xOp_mono (fun a' w'' h3 => ih (listed.setIfInBounds j true) a' w'' (hcl.set hj) (by rw [getD_set_ne false hjm]; exact hml) hfree' (ready_mono hr (Ne.symm hji)) h3.1 ?_) h2
      rw [Array.setIfInBounds_comm _ _ hji]
      exact h3.2

/-! ### The two kinds -/
def pickSeg : List (Bool × Nat) → Bool → List Oper → List Oper
  | [], _, _ => []
  | (q, n) :: r, b, l => if q = b then l.take n ++ pickSeg r b (l.drop n) else pickSeg r b (l.drop n)
theorem pick_nil (b : Bool) (l : List Oper) : pickSeg [] b l = [] := rfl
theorem pick_tt (n : Nat) (r : List (Bool × Nat)) (l : List Oper) : pickSeg ((true, n) :: r) true l = l.take n ++ pickSeg r true (l.drop n) := rfl
theorem pick_ff (n : Nat) (r : List (Bool × Nat)) (l : List Oper) : pickSeg ((false, n) :: r) false l = l.take n ++ pickSeg r false (l.drop n) := rfl
theorem pick_tf (n : Nat) (r : List (Bool × Nat)) (l : List Oper) : pickSeg ((true, n) :: r) false l = pickSeg r false (l.drop n) := rfl
theorem pick_ft (n : Nat) (r : List (Bool × Nat)) (l : List Oper) : pickSeg ((false, n) :: r) true l = pickSeg r true (l.drop n) := rfl
def idxSeg : List (Bool × Nat) → Bool → Nat → List Nat
  | [], _, _ => []
  | (q, n) :: r, b, k => if q = b then List.range' k n ++ idxSeg r b (k + n) else idxSeg r b (k + n)
theorem take_range (l : List Oper) : ∀ (n k : Nat), (l.drop k).take n = (List.range' k n).filterMap (l[·]?)
  | 0, _ => by simp
  | n + 1, k => by
    rw [List.range'_succ, List.filterMap_cons, ← take_range l n (k + 1)]
    cases h : l[k]? with
    | none =>
      have := List.getElem?_eq_none_iff.1 h
      rw [List.drop_eq_nil_of_le this, List.drop_eq_nil_of_le (by omega)]
      simp
    | some o =>
      have hk := (List.getElem?_eq_some_iff.1 h).1
      rw [List.drop_eq_getElem_cons hk, List.take_succ_cons]
      have := (List.getElem?_eq_some_iff.1 h).2
      rw [this]
theorem pick_idx (l : List Oper) (b : Bool) : ∀ (ns : List (Bool × Nat)) (k : Nat), pickSeg ns b (l.drop k) = (idxSeg ns b k).filterMap (l[·]?)
  | [], _ => rfl
  | (q, n) :: r, k => by
    unfold pickSeg idxSeg
    rw [List.drop_drop, pick_idx l b r (k + n), take_range l n k]
    split
    · rw [List.filterMap_append]
    · rfl
def mixSeq (ops : Array Oper) : List Nat → Array Bool → Bool
  | [], listed => (Region.ready .any ops listed).isEmpty
  | m :: r, listed => Region.ready .any ops listed == [m] && mixSeq ops r (listed.setIfInBounds m true)
def mixFrom (ops : Array Oper) (ms : List Nat) : List Nat → Array Bool → Bool
  | [], listed => mixSeq ops ms listed
  | i :: r, listed => (Region.ready .any ops listed).contains i && Region.free .any ops listed i && mixFrom ops ms r (listed.setIfInBounds i true)
def dstB (size : Nat) (l : List Oper) : Bool := match l with
  | [] => true
  | o :: r => (match o.dst with | some d => decide (d < size) && r.all fun o' => o'.dst != some d | none => false) && dstB size r
def mBack (l : List Oper) (o : Oper) : Nat → Nat → Bool
  | 0, j => o.after.toList.any fun e => Region.binds .any e && e.on == j
  | n + 1, j => (o.after.toList.any fun e => Region.binds .any e && e.on == j) || l.zipIdx.any fun y => (y.1.after.toList.any fun e => Region.binds .any e && e.on == j) && mBack l o n y.2
theorem mBack_ok {l : List Oper} {o : Oper} (p : Nat → Prop) (h1 : ∀ e ∈ o.after, Region.binds .any e = true → p e.on) (h2 : ∀ (k : Nat) (o' : Oper), l.toArray[k]? = some o' → p k → ∀ e ∈ o'.after, Region.binds .any e = true → p e.on) : ∀ (n j : Nat), mBack l o n j = true → p j
  | 0, j, h => by
    unfold mBack at h
    obtain ⟨e, he, hb⟩ := List.any_eq_true.1 h
    simp only [Bool.and_eq_true, beq_iff_eq] at hb
    rw [← hb.2]; exact h1 e (by simpa using he) hb.1
  | n + 1, j, h => by
    unfold mBack at h
    rcases Bool.or_eq_true_iff.1 h with h | h
    · obtain ⟨e, he, hb⟩ := List.any_eq_true.1 h
      simp only [Bool.and_eq_true, beq_iff_eq] at hb
      rw [← hb.2]; exact h1 e (by simpa using he) hb.1
    · obtain ⟨y, hy, hyb⟩ := List.any_eq_true.1 h
      obtain ⟨hb1, hb2⟩ := Bool.and_eq_true_iff.1 hyb
      obtain ⟨e, he, hb⟩ := List.any_eq_true.1 hb1
      simp only [Bool.and_eq_true, beq_iff_eq] at hb
      rw [← hb.2]
      exact h2 y.2 y.1 (by rw [List.getElem?_toArray]; exact List.mem_zipIdx_iff_getElem?.1 hy) (mBack_ok p h1 h2 n y.2 hb2) e (by simpa using he) hb.1
/-- The operation behind which no quiet one is left: the c-th of the chain (none: the region's length). -/
def msOf (ns : List (Bool × Nat)) (c len : Nat) : Nat := ((idxSeg ns false 0)[c - 1]?).getD len
def seqMs (ms : Nat) : List Nat → Nat → Bool
  | [], _ => true
  | _, 0 => true
  | j :: _, 1 => j == ms
  | j :: r, c + 2 => j != ms && seqMs ms r (c + 1)
def awaitB (l : List Oper) (ms : Nat) (qs : List Nat) : Bool := match l[ms]? with
  | none => true
  | some o => qs.all fun i => mBack l o 16 i
def mixB (ns : List (Bool × Nat)) (c : Nat) (l : List Oper) (size : Nat) : Bool :=
  Region.noSelect l.toArray && dstB size (pickSeg ns true l) && mixFrom l.toArray (idxSeg ns false 0) (idxSeg ns true 0) (Array.replicate l.length false) && decide ((idxSeg ns true 0).length + (idxSeg ns false 0).length = l.length) &&
  awaitB l (msOf ns c l.length) (idxSeg ns true 0) && (idxSeg ns true 0).all (fun i => i != msOf ns c l.length) && seqMs (msOf ns c l.length) (idxSeg ns false 0) c && decide (0 < c)

/-- The chain's walk: up to its c-th operation quiet ones may run between. -/
def wpMix (P : Program) (ops : Array Oper) (C : World → Prop) (Q : Exit → Act → World → Prop) : Nat → List Oper → Act → World → Prop
  | 0, l, a, w => wpList P ops (Exit.then (fun a w => Q .normal a w) offX) l a w
  | _ + 1, [], a, w => C w ∧ ∀ w', exW w w' → Q .normal a w'
  | c + 1, o :: rest, a, w => C w ∧ ∀ w', exW w w' → wpList P ops (Exit.then (wpMix P ops C Q c rest) offX) [o] a w'
theorem xOp_list {l : List Oper} {o : Oper} {m : Nat} {K : Act → World → Prop} {Q0 : Exit → Act → World → Prop} {rest : List Oper} {a : Act} {w : World} (ho : l.toArray[m]? = some o) (h : wpList P l.toArray (Exit.then (fun a w => Q0 .normal a w) offX) (o :: rest) a w) (hK : ∀ a w, wpList P l.toArray (Exit.then (fun a w => Q0 .normal a w) offX) rest a w → K a w) : xOp P l.toArray m K a w := by
  unfold xOp
  simp only [ho]
  unfold wpList at h
  split
  · rename_i hw
    rw [if_pos hw] at h
    rcases h with h | ⟨_, _, _, h⟩
    · exact wp_unthen (K0 := fun a w => Q0 .normal a w) (Oper.wp_mono (fun a w hh => hK a w hh) h)
    · exact h.elim
  · rename_i hw
    rw [if_neg hw] at h
    exact hK _ _ h
theorem seq_plain {l : List Oper} : ∀ (js : List Nat) (listed : Array Bool) (a : Act) (w : World), mixSeq l.toArray js listed = true → listed.getD ms false = true → wpList P l.toArray (Exit.then (fun a w => Q .normal a w) offX) (js.filterMap (l[·]?)) a w → wpX P l.toArray C ms Q js.length listed a w
  | [], listed, a, w, hB, hm, h => by
    unfold mixSeq at hB
    refine ⟨fun e => (by rw [hm] at e; cases e), fun w' _ hw' => ⟨List.isEmpty_iff.1 hB, ?_⟩⟩
    rw [hw' hm]
    exact h
  | m :: r, listed, a, w, hB, hm, h => by
    unfold mixSeq at hB
    obtain ⟨h1, h2⟩ := Bool.and_eq_true_iff.1 hB
    have h1 : Region.ready .any l.toArray listed = [m] := by simpa using h1
    have hmr : m ∈ Region.ready .any l.toArray listed := by rw [h1]; exact List.mem_cons_self
    obtain ⟨_, o, ho, _⟩ := mem_ready.1 hmr
    have ho' : l[m]? = some o := by simpa using ho
    rw [List.filterMap_cons, ho'] at h
    have h : wpList P l.toArray (Exit.then (fun a w => Q .normal a w) offX) (o :: r.filterMap (l[·]?)) a w := h
    refine ⟨fun e => (by rw [hm] at e; cases e), fun w' _ hw' => ⟨fun h0 => (by rw [h1] at h0; cases h0), fun i hi => ?_⟩⟩
    rw [hw' hm]
    rw [h1] at hi
    obtain rfl : i = m := by simpa using hi
    exact xOp_list ho h fun a w hh => seq_plain r _ a w h2 (getD_set_true hm) hh
theorem getD_set_self {l : Array Bool} {i : Nat} (h : l.getD i true = false) : (l.setIfInBounds i true).getD i false = true := by
  rcases Nat.lt_or_ge i l.size with h' | h'
  · simp [h']
  · simp [Array.getElem?_eq_none h'] at h
theorem mix_seq {l : List Oper} : ∀ (js : List Nat) (c : Nat) (listed : Array Bool) (a : Act) (w : World), mixSeq l.toArray js listed = true → seqMs ms js (c + 1) = true → listed.getD ms false = false → wpMix P l.toArray C Q (c + 1) (js.filterMap (l[·]?)) a w → wpX P l.toArray C ms Q js.length listed a w
  | [], c, listed, a, w, hB, _, _, h => by
    unfold mixSeq at hB
    exact ⟨fun _ => h.1, fun w' hw' _ => ⟨List.isEmpty_iff.1 hB, h.2 w' hw'⟩⟩
  | m :: r, c, listed, a, w, hB, hs, hml, h => by
    unfold mixSeq at hB
    obtain ⟨h1, h2⟩ := Bool.and_eq_true_iff.1 hB
    have h1 : Region.ready .any l.toArray listed = [m] := by simpa using h1
    have hm : m ∈ Region.ready .any l.toArray listed := by rw [h1]; exact List.mem_cons_self
    obtain ⟨hun, o, ho, _⟩ := mem_ready.1 hm
    have ho' : l[m]? = some o := by simpa using ho
    rw [List.filterMap_cons, ho'] at h
    have h : wpMix P l.toArray C Q (c + 1) (o :: r.filterMap (l[·]?)) a w := h
    refine ⟨fun _ => h.1, fun w' hw' _ => ⟨fun h0 => (by rw [h1] at h0; cases h0), fun i hi => ?_⟩⟩
    rw [h1] at hi
    obtain rfl : i = m := by simpa using hi
    refine xOp_list (Q0 := fun _ a w => wpMix P l.toArray C Q c (r.filterMap (l[·]?)) a w) ho (h.2 w' hw') fun a w hh => ?_
    have hh : wpMix P l.toArray C Q c (r.filterMap (l[·]?)) a w := hh
    cases c with
    | zero =>
      obtain rfl : i = ms := by simpa [seqMs] using hs
      exact seq_plain r _ a w h2 (getD_set_self hun) hh
    | succ c =>
      have hs2 : i ≠ ms ∧ seqMs ms r (c + 1) = true := by simpa [seqMs] using hs
      exact mix_seq r c _ a w h2 hs2.2 (by rw [getD_set_ne false hs2.1]; exact hml) hh
theorem quiet_keep {C : World → Prop} {a' : Act} {d : Nat} : ∀ {s : List Oper} {b : Act}, wpQuiet P ops C (fun x => x = a') s b → (∀ o ∈ s, o.dst ≠ some d) → a'.eval (.tmp d) = b.eval (.tmp d)
  | [], b, h, _ => by have h : b = a' := h; rw [h]
  | o :: s, b, h, hd => by
    unfold wpQuiet at h
    have hne : ∀ v, (b.put o.dst v).eval (.tmp d) = b.eval (.tmp d) := fun v => Act.eval_put fun k hk hkd => hd o List.mem_cons_self (by rw [hk]; injection hkd with hkd; rw [hkd])
    split at h
    · obtain ⟨v, _, h⟩ := h
      rw [quiet_keep h fun o' ho' => hd o' (List.mem_cons_of_mem _ ho'), hne]
    · rw [quiet_keep h fun o' ho' => hd o' (List.mem_cons_of_mem _ ho'), hne]
theorem quiet_first {a a' : Act} {o : Oper} {s : List Oper} (hd : dstB a.tmps.size (o :: s) = true) (h : ∀ w, C w → wpQuiet P ops (exW w) (fun x => x = a') (o :: s) a) :
    ∃ v, YieldsX P ops C o v a ∧ dstB (a.put o.dst v).tmps.size s = true ∧ ∀ w, C w → wpQuiet P ops (exW w) (fun x => x = a') s (a.put o.dst v) := by
  unfold dstB at hd
  obtain ⟨hd1, hd2⟩ := Bool.and_eq_true_iff.1 hd
  have hsz : ∀ (x : Option Tmp) (v : Value), (a.put x v).tmps.size = a.tmps.size := fun x v => by cases x <;> simp [Act.put]
  cases hw : Region.wanted o (yielded ops a.tmps) with
  | false =>
    refine ⟨undef, .inr ⟨hw, rfl⟩, by rw [hsz]; exact hd2, fun w hC => ?_⟩
    have := h w hC
    unfold wpQuiet at this
    rwa [if_neg (by rw [hw]; decide)] at this
  | true =>
    cases ho : o.dst with
    | none => rw [ho] at hd1; cases hd1
    | some d =>
      rw [ho] at hd1
      simp only [Bool.and_eq_true, decide_eq_true_eq, List.all_eq_true, bne_iff_ne] at hd1
      have key : ∀ w, C w → (∀ w', exW w w' → o.quietAt P a (exW w) w' (a'.eval (.tmp d))) ∧ wpQuiet P ops (exW w) (fun x => x = a') s (a.put (some d) (a'.eval (.tmp d))) := fun w hC => by
        have := h w hC
        unfold wpQuiet at this
        rw [if_pos hw] at this
        obtain ⟨v, h1, h2⟩ := this
        rw [ho] at h2
        have h3 := quiet_keep h2 fun o' ho' => hd1.2 o' ho'
        have h4 : (a.put (some d) v).eval (.tmp d) = v := by simp [Act.put, Act.eval, hd1.1]
        rw [h4] at h3
        rw [h3]
        exact ⟨h1, h2⟩
      exact ⟨a'.eval (.tmp d), .inl ⟨hw, fun w hC => (key w hC).1 w (exW_refl w)⟩, by rw [hsz]; exact hd2, fun w hC => (key w hC).2⟩
theorem await_ok {l : List Oper} {qs : List Nat} (h : awaitB l ms qs = true) : ∀ i ∈ qs, AwaitsX l.toArray ms i := fun i hi o ho p h1 h2 => by
  unfold awaitB at h
  rw [List.getElem?_toArray] at ho
  rw [ho] at h
  exact mBack_ok p h1 h2 16 i (List.all_eq_true.1 h i hi)
theorem mix_from {l : List Oper} {a' : Act} {js : List Nat} {c : Nat} (hC : ∀ x y, C x → Below x.heap.size x y → C y) (hs : Region.noSelect l.toArray = true) (hq : seqMs ms js (c + 1) = true) {w : World} (hw : C w) (hm : wpMix P l.toArray C Q (c + 1) (js.filterMap (l[·]?)) a' w) : ∀ (qs : List Nat) (listed : Array Bool) (a : Act), (∀ i ∈ qs, AwaitsX l.toArray ms i ∧ i ≠ ms) → ClosedX l.toArray listed → listed.getD ms false = false → mixFrom l.toArray js qs listed = true → dstB a.tmps.size (qs.filterMap (l[·]?)) = true →
    (∀ w, C w → wpQuiet P l.toArray (exW w) (fun x => x = a') (qs.filterMap (l[·]?)) a) → wpX P l.toArray C ms Q (qs.length + js.length) listed a w
  | [], listed, a, _, _, hml, hB, _, h => by
    obtain rfl : a = a' := h w hw
    rw [List.length_nil, Nat.zero_add]
    exact mix_seq js c listed a w hB hq hml hm
  | i :: r, listed, a, haw, hcl, hml, hB, hd, h => by
    unfold mixFrom at hB
    simp only [Bool.and_eq_true] at hB
    obtain ⟨⟨h1, h2⟩, h3⟩ := hB
    have hi : i ∈ Region.ready .any l.toArray listed := by simpa using h1
    obtain ⟨_, o, ho, _⟩ := mem_ready.1 hi
    have ho' : l[i]? = some o := by simpa using ho
    rw [List.filterMap_cons, ho'] at hd h
    obtain ⟨v, hy, hd', hq'⟩ := quiet_first hd h
    obtain ⟨haw1, haw2⟩ := haw i List.mem_cons_self
    rw [List.length_cons, show r.length + 1 + js.length = r.length + js.length + 1 by omega]
    exact wpX_first hC ho (Region.noSelect_spec hs) haw1 haw2 _ listed a w hcl hml (Region.free_spec ho h2) hi hy (mix_from hC hs hq hw hm r _ _ (fun k hk => haw k (List.mem_cons_of_mem _ hk)) (hcl.set hi) (by rw [getD_set_ne false haw2]; exact hml) h3 hd' hq')
/-- **The law.** ns: which operations are quiet (true), which the chain (false); c: behind the c-th of the chain no quiet one is left (greater than the chain's length: any may be left). -/
theorem wp_region_mix {id : Nat} {l : List Oper} {a a' : Act} {w : World} (ns : List (Bool × Nat)) (c : Nat) (hm : P.follows .mixedOrders = true) (C : World → Prop) (hC : ∀ x y, C x → Below x.heap.size x y → C y) (hB : mixB ns (c + 1) l a.tmps.size = true) (hw : C w)
    (hq : ∀ wz, C wz → wpQuiet P l.toArray (fun w' => ∃ p : Regrown, w' = grow (redrawn wz p.d) p.os) (fun x => x = a') (pickSeg ns true l) a)
    (h : ∀ wz, Below w.heap.size w wz → wpMix P l.toArray C Q (c + 1) (pickSeg ns false l) a' wz) : (Code.region id l.toArray true).wp P Q a w := by
  unfold mixB at hB
  simp only [Bool.and_eq_true, decide_eq_true_eq] at hB
  obtain ⟨⟨⟨⟨⟨⟨⟨h1, h2⟩, h3⟩, h4⟩, h5⟩, h6⟩, h7⟩, _⟩ := hB
  have p1 := pick_idx l true ns 0
  have p2 := pick_idx l false ns 0
  rw [List.drop_zero] at p1 p2
  refine wp_region_any hm ?_
  have hw' : Below w.heap.size w { w with drawn := w.drawn + 1 } := ⟨rfl, rfl, rfl, Nat.le_refl _, fun _ _ => rfl⟩
  have hx := h _ hw'
  rw [p2] at hx
  rw [p1] at h2 hq
  have hfalse : ∀ k d, (Array.replicate l.length false).getD k d = true → d = true := fun k d hk => by
    rw [Array.getD_eq_getD_getElem?, Array.getElem?_replicate] at hk
    split at hk
    · cases hk
    · exact hk
  have := mix_from hC h1 h7 (hC _ _ hw hw') hx (idxSeg ns true 0) (Array.replicate l.length false) a (fun i hi => ⟨await_ok h5 i hi, by have := List.all_eq_true.1 h6 i hi; simpa using this⟩) (fun j o _ hl => by have := hfalse j false hl; cases this) (by
    cases hk : (Array.replicate l.length false).getD (msOf ns (c + 1) l.length) false with
    | false => rfl
    | true => have := hfalse _ _ hk; cases this) h3 h2 hq
  rw [h4] at this
  have := wpX_any this
  simpa using this
theorem wpQuiet_mono {C : World → Prop} {K K' : Act → Prop} (hk : ∀ a, K a → K' a) : ∀ (l : List Oper) (a : Act), wpQuiet P ops C K l a → wpQuiet P ops C K' l a
  | [], a, h => hk a h
  | o :: l, a, h => by
    unfold wpQuiet at h ⊢
    split
    · rename_i hg
      rw [if_pos hg] at h
      exact Oper.quiet_mono (fun a h => wpQuiet_mono hk l a h) h
    · rename_i hg
      rw [if_neg hg] at h
      exact wpQuiet_mono hk l _ h
/-- A region in the text's order, walked quietly. -/
theorem wpList_quiet {C : World → Prop} : ∀ (l : List Oper) (a : Act) (w : World), C w → wpQuiet P ops C (fun a' => ∀ w', C w' → Q .normal a' w') l a → wpList P ops Q l a w
  | [], a, w, hw, h => h w hw
  | o :: l, a, w, hw, h => by
    unfold wpQuiet at h
    unfold wpList
    split
    · rename_i hg
      rw [if_pos hg] at h
      exact .inl (Oper.wp_of_quiet hw (fun a' w' hw' h' => wpList_quiet l a' w' hw' h') h)
    · rename_i hg
      rw [if_neg hg] at h
      exact wpList_quiet l _ w hw h
theorem wp_region_text {id : Nat} {l : List Oper} {a : Act} {w : World} (h : wpQuiet P l.toArray (fun w' => ∃ p : Regrown, w' = grow (redrawn w p.d) p.os) (fun a' => ∀ w', (∃ p : Regrown, w' = grow (redrawn w p.d) p.os) → Q .normal a' w') l a) : (Code.region id l.toArray false).wp P Q a w :=
  wp_region_lit (wpList_quiet l a w (back_class w) h)
theorem wpList_run {o : Oper} {rest : List Oper} {a : Act} {w w' : World} {v : Value} (hg : o.guard = none) (hrun : (execOp a.eval o).run P w = .ok (.value v) w') (h : wpList P ops Q rest (a.put o.dst v) w') : wpList P ops Q (o :: rest) a w := by
  unfold wpList
  rw [if_pos (by unfold Region.wanted; rw [hg])]
  refine .inl ?_
  unfold Oper.wp
  rw [hrun]
  exact h
/-- From here on quietly. -/
theorem wpList_still {l : List Oper} {a : Act} {w : World} (h : wpQuiet P ops (fun w' => ∃ p : Regrown, w' = grow (redrawn w p.d) p.os) (fun a' => ∀ w', Below w.heap.size w w' → Q .normal a' w') l a) : wpList P ops Q l a w :=
  wpList_quiet l a w (back_class w) (wpQuiet_mono (fun _ h w' hw' => h w' (exW.below hw')) l a h)
/-- A region in the text's order, walked quietly. -/
theorem wp_region_calm {id : Nat} {l : List Oper} {a : Act} {w : World} (h : wpQuiet P l.toArray (fun w' => ∃ p : Regrown, w' = grow (redrawn w p.d) p.os) (fun a' => ∀ w', Below w.heap.size w w' → Q .normal a' w') l a) : (Code.region id l.toArray false).wp P Q a w :=
  wp_region_lit (wpList_still h)
theorem wpMix_pure {o : Oper} {rest : List Oper} {a : Act} {w : World} {c : Nat} (hC : ∀ x y, C x → Below x.heap.size x y → C y) (hw : C w) (x : Operand) (ho : o.op = .assign x ∨ o.op = .move x) (hg : o.guard = none) (h : ∀ w', Below w.heap.size w w' → C w' → wpMix P ops C Q c rest (a.put o.dst (a.eval x)) w') : wpMix P ops C Q (c + 1) (o :: rest) a w := by
  refine ⟨hw, fun w' hw' => ?_⟩
  unfold wpList
  rw [if_pos (by unfold Region.wanted; rw [hg])]
  refine .inl ?_
  unfold Oper.wp
  have hr : (execOp a.eval o).run P w' = .ok (.value (a.eval x)) w' := by
    rcases ho with ho | ho
    · exact BigFrame.run_assign x ho w'
    · exact BigFrame.run_move x ho w'
  rw [hr]
  exact h w' hw'.below (hC _ _ hw hw'.below)
theorem wpMix_step {o : Oper} {rest : List Oper} {a : Act} {w : World} {c : Nat} (hw : C w) (h : ∀ w', Below w.heap.size w w' → wpList P ops (Exit.then (wpMix P ops C Q c rest) offX) [o] a w') : wpMix P ops C Q (c + 1) (o :: rest) a w := ⟨hw, fun w' hw' => h w' hw'.below⟩
theorem wpMix_end {a : Act} {w : World} {c : Nat} (hw : C w) (h : ∀ w', Below w.heap.size w w' → Q .normal a w') : wpMix P ops C Q (c + 1) [] a w := ⟨hw, fun w' hw' => h w' hw'.below⟩
theorem wpMix_plain {l : List Oper} {a : Act} {w : World} (h : wpList P ops (Exit.then (fun a w => Q .normal a w) offX) l a w) : wpMix P ops C Q 0 l a w := h
end
end Go.Proofs.Ytnifhhaalmlmnaa
