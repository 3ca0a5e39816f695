/- Appends as operations of the chain of a drawn region (RgM). -/
import Derived.Test.YtnifhhaalmlmnaaRgM
import Derived.Test.YtnifhhaalmlmnaaMem
namespace Go.Proofs.Ytnifhhaalmlmnaa
open Go.Sort Go.RowKit
section
variable {P : Program} {ops : Array Oper} {Q : Exit → Act → World → Prop} {C : World → Prop} {rest : List Oper} {o o1 o2 : Oper} {a : Act} {w : World} {c0 : Nat}
theorem grown_of_below {w wm w2 : World} {row : Option Nat} (h : Below w.heap.size w wm) (hg : wm.grownBy w2 row) : w.grownBy w2 row :=
  ⟨hg.os.trans h.os, hg.tape.trans h.tape, hg.output.trans h.output, Nat.le_trans h.size hg.size, fun k hk hne => (hg.block k (Nat.lt_of_lt_of_le hk h.size) hne).trans (h.block k hk)⟩
theorem own_below {base : Nat} {e : TypeId} {size n : Nat} {v : Value} {xs : List Value} {w w' : World} (h : w.ownsRow base e size v n xs) (hb : Below w.heap.size w w') : w'.ownsRow base e size v n xs :=
  own_keep h (Same.ofBelow (I := fun k => k < w.heap.size) hb fun _ hk => hk) fun _ hg => (own_lt h hg).2
/-- append(v, y...). -/
theorem wpMix_append (hw : C w) (hgd : o.guard = none) (s x : Operand) (t : TypeId) (ho : o.op = .call { callee := .builtin .append, args := #[s, x], argTypes := #[t, t] }) (hty : o.type = t)
    (base : Nat) (e : TypeId) (i : TypeInfo) (z : Value) (size bytes : Nat) (ht : P.underlying t = some (.slice e)) (hi : P.info? e = some i) (hz : i.zero = some z)
    (hsize : i.size = size) (hby : i.bytes = bytes) (hzs : z.cells.size = size) (hsz : 0 < size)
    (v : Value) (n : Nat) (xs : List Value) (hs : a.eval s = v) (hown : w.ownsRow base e size v n xs)
    (I : Nat → Prop) (A : Option Addr) (m c : Nat) (news : List Value) (hx : a.eval x = .slice A m c) (hr : Reads w I size A m news) (h1 : ∀ u ∈ news, u.oneCell' = true)
    (h63 : n + m ≤ maxLen) (hbytes : (n + m) * bytes ≤ 140737488355328) (hbase : base ≤ w.heap.size)
    (h : ∀ v2 w2, w2.ownsRow base e size v2 (n + m) (xs ++ news) → w.grownBy w2 v.ownBlock → (v2.ownBlock = v.ownBlock ∨ ∃ g, v2.ownBlock = some g ∧ w.heap.size ≤ g) → wpMix P ops C Q c0 rest (a.put o.dst v2) w2) : wpMix P ops C Q (c0 + 1) (o :: rest) a w := by
  subst hty
  refine wpMix_step hw fun w' hb => ?_
  refine wpList_append_any w' hgd s x o.type ho base e i z size bytes ht hi hz hsize hby hzs hsz v n xs hs (own_below hown hb) (fun k => I k ∧ k < w.heap.size) A m c news hx (hr.lt.keep (Same.ofBelow hb fun k hk => hk.2)) h1 h63 hbytes (Nat.le_trans hbase hb.size) fun v2 w2 h2 hg h3 => ?_
  refine h v2 w2 h2 (grown_of_below hb hg) ?_
  rcases h3 with h3 | h3
  · exact .inl h3
  · exact .inr ⟨_, h3, hb.size⟩
/-- append(v, u): the slice of one is made, then added. -/
theorem wpMix_push (hC : ∀ x y, C x → Below x.heap.size x y → C y) (hw : C w) (e : TypeId) (us : List Value) (hg1 : o1.guard = none)
    (hrun : ∀ w', (execOp a.eval o1).run P w' = .ok (.value (.slice (some ⟨w'.heap.size, 0, none⟩) 1 1)) (w'.alloc (.cells us.toArray e)))
    (hgd : o2.guard = none) (s x : Operand) (t : TypeId) (ho : o2.op = .call { callee := .builtin .append, args := #[s, x], argTypes := #[t, t] }) (hty : o2.type = t)
    (base : Nat) (i : TypeInfo) (z : Value) (size bytes : Nat) (ht : P.underlying t = some (.slice e)) (hi : P.info? e = some i) (hz : i.zero = some z)
    (hsize : i.size = size) (hby : i.bytes = bytes) (hzs : z.cells.size = size) (hsz : 0 < size)
    (v : Value) (n : Nat) (xs : List Value) (hs : ∀ g : Nat, (a.put o1.dst (.slice (some ⟨g, 0, none⟩) 1 1)).eval s = v) (hx : ∀ g : Nat, (a.put o1.dst (.slice (some ⟨g, 0, none⟩) 1 1)).eval x = .slice (some ⟨g, 0, none⟩) 1 1) (hown : w.ownsRow base e size v n xs)
    (hul : us.length = size) (h1 : ∀ u ∈ us, u.oneCell' = true) (h63 : n + 1 ≤ maxLen) (hbytes : (n + 1) * bytes ≤ 140737488355328) (hbase : base ≤ w.heap.size)
    (h : ∀ g v2 w2, w2.ownsRow base e size v2 (n + 1) (xs ++ us) → w.grownBy w2 v.ownBlock → (v2.ownBlock = v.ownBlock ∨ ∃ g, v2.ownBlock = some g ∧ w.heap.size ≤ g) → wpMix P ops C Q c0 rest ((a.put o1.dst (.slice (some ⟨g, 0, none⟩) 1 1)).put o2.dst v2) w2) : wpMix P ops C Q (c0 + 2) (o1 :: o2 :: rest) a w := by
  refine wpMix_step hw fun w' hb => ?_
  have hb2 : Below w.heap.size w (w'.alloc (.cells us.toArray e)) := hb.alloc hb.size _
  have key : wpMix P ops C Q (c0 + 1) (o2 :: rest) (a.put o1.dst (.slice (some ⟨w'.heap.size, 0, none⟩) 1 1)) (w'.alloc (.cells us.toArray e)) := by
    have hrd : Reads (w'.alloc (.cells us.toArray e)) (fun _ => True) size (some ⟨w'.heap.size, 0, none⟩) 1 us := by
      refine ⟨by omega, fun _ => ⟨⟨w'.heap.size, 0, none⟩, rfl, trivial, by simp, fun j u hu => ?_⟩⟩
      have hk : Blk (w'.alloc (.cells us.toArray e)) w'.heap.size e us.toArray := Blk.new _ _ _
      rw [add_off, Nat.zero_add, hk.cell]
      simpa using hu
    refine wpMix_append (hC _ _ hw hb2) hgd s x t ho hty base e i z size bytes ht hi hz hsize hby hzs hsz v n xs (hs _) (own_below hown hb2) (fun _ => True) _ 1 1 us (hx _) hrd h1 h63 hbytes (Nat.le_trans hbase hb2.size) fun v2 w2 h2 hg h3 => ?_
    refine h _ v2 w2 h2 (grown_of_below hb2 hg) ?_
    rcases h3 with h3 | ⟨g, h3, h4⟩
    · exact .inl h3
    · exact .inr ⟨g, h3, Nat.le_trans hb2.size h4⟩
  unfold wpList
  rw [if_pos (by unfold Region.wanted; rw [hg1])]
  refine .inl ?_
  unfold Oper.wp
  rw [hrun w']
  exact key
end
end Go.Proofs.Ytnifhhaalmlmnaa
