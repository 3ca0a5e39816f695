/- Rows of bytes of the call's own: append. -/
import Derived.Test.YtihfihehiifdkaaB8
import Derived.Test.YtihfihehiifdkaaIpL
import Derived.Lib.Hide
namespace Go.Proofs.Ytihfihehiifdkaa
open Go.RowKit
/-- v is a row of bytes of the call's own. -/
def Row8 (B : Nat) (w : World) (v : Value) (x : By) : Prop := w.ownsRow B 5 1 v x.length (bytesV x)
section
variable {B : Nat} {w w' : World} {v : Value} {x : By}
theorem Row8.nil (B : Nat) (w : World) : Row8 B w (.slice none 0 0) [] := World.ownsRow_nil _ _ _ _
theorem Row8.form (h : Row8 B w v x) : ∃ A c, v = .slice A x.length c ∧ x.length ≤ c := own_form h
theorem Row8.lt (h : Row8 B w v x) {g : Nat} (hg : v.ownBlock = some g) : B ≤ g ∧ g < w.heap.size := own_lt h hg
theorem Row8.below (h : Row8 B w v x) (hb : Below w.heap.size w w') : Row8 B w' v x := own_keep h (Same.ofBelow (I := fun k => k < w.heap.size) hb fun _ hk => hk) fun _ hg => (own_lt h hg).2
theorem Row8.keep {I : Nat → Prop} (h : Row8 B w v x) (hs : Same I w w') (hI : ∀ g, v.ownBlock = some g → I g) : Row8 B w' v x := own_keep h hs hI
theorem Row8.reads {A : Option Addr} {n c : Nat} (h : Row8 B w (.slice A n c) x) : n = x.length ∧ Reads w (fun k => B ≤ k ∧ k < w.heap.size) 1 A n (bytesV x) := by
  obtain ⟨A1, c1, e, _⟩ := h.form
  injection e with e1 e2 e3
  subst e1 e2 e3
  exact ⟨rfl, Reads.of_own h fun g hg => h.lt hg⟩
end
theorem bytesV_app (x y : By) : bytesV (x ++ y) = bytesV x ++ bytesV y := by simp [bytesV]
section
variable {P : Program} {ops : Array Oper} {rest : List Oper} {o : Oper} {a : Act} {Q : Exit → Act → World → Prop}
/-- append(v, y...). -/
theorem wpList_app8 (w : World) (hgd : o.guard = none) (s y : Operand) (ho : o.op = .call { callee := .builtin .append, args := #[s, y], argTypes := #[22, 22] }) (hty : o.type = 22)
    (B : Nat) (v : Value) (x : By) (hs : a.eval s = v) (hown : Row8 B w v x) (I : Nat → Prop) (A : Option Addr) (m c : Nat) (z : By) (hy : a.eval y = .slice A m c) (hm : z.length = m) (hr : Reads w I 1 A m (bytesV z))
    (h63 : x.length + m ≤ 140737488355328) (hB : B ≤ w.heap.size)
    (h : ∀ v' w', Row8 B w' v' (x ++ z) → w.grownBy w' v.ownBlock → (v'.ownBlock = v.ownBlock ∨ v'.ownBlock = some w.heap.size) → wpList Try.prog ops Q rest (a.put o.dst v') w') : wpList Try.prog ops Q (o :: rest) a w := by
  obtain ⟨i0, hi, hz0, hz1, hz2⟩ := info_parts info_u8
  have ht : Try.prog.underlying o.type = some (.slice 5) := by rw [hty]; exact Try.underlying22
  refine wpList_append_any w hgd s y o.type (by rw [hty]; exact ho) B 5 i0 _ 1 1 ht hi hz0 hz1 hz2 rfl (by decide) v x.length (bytesV x) hs hown I A m c (bytesV z) hy hr (bytesV_one z) (by unfold maxLen; omega) (by omega) hB fun v2 w2 h1 h2 h3 => h v2 w2 ?_ h2 h3
  show w2.ownsRow B 5 1 v2 (x ++ z).length (bytesV (x ++ z))
  rw [bytesV_app, List.length_append, hm]
  exact h1
/-- append(v, b): the byte stands in a block that has just been made. -/
theorem wpList_push8 (w : World) (hgd : o.guard = none) (s y : Operand) (ho : o.op = .call { callee := .builtin .append, args := #[s, y], argTypes := #[22, 22] }) (hty : o.type = 22)
    (B : Nat) (v : Value) (x : By) (b : UInt8) (bi : Int) (hb : bi = b.toNat) (hs : a.eval s = v) (hown : Row8 B w v x) (hy : a.eval y = .slice (some ⟨w.heap.size, 0, none⟩) 1 1)
    (h63 : x.length + 1 ≤ 140737488355328) (hB : B ≤ w.heap.size)
    (h : ∀ v' w', Row8 B w' v' (x ++ [b]) → w.grownBy w' v.ownBlock → (v'.ownBlock = v.ownBlock ∨ ∃ g, v'.ownBlock = some g ∧ w.heap.size ≤ g) → wpList Try.prog ops Q rest (a.put o.dst v') w') : wpList Try.prog ops Q (o :: rest) a (w.alloc (.cells #[.int .u8 bi] 5)) := by
  refine wpList_app8 (w.alloc (.cells #[.int .u8 bi] 5)) hgd s y ho hty B v x hs (hown.alloc _) (fun _ => True) _ 1 1 [b] hy rfl ?_ h63 (by simp; omega) fun v2 w2 h1 h2 h3 => h v2 w2 h1 ?_ ?_
  · have := reads_new w 5 (.int .u8 bi)
    rw [hb] at this ⊢
    exact this
  · exact ⟨h2.os, h2.tape, h2.output, Nat.le_trans (by simp) h2.size, fun k hk hne => (h2.block k (by simp; omega) hne).trans (Below.heap_alloc w _ k hk)⟩
  · rcases h3 with h3 | h3
    · exact .inl h3
    · exact .inr ⟨_, h3, by simp⟩
end
section
variable {P : Program} {ops : Array Oper} {rest : List Oper} {o : Oper} {a : Act} {Q : Exit → Act → World → Prop}
/-- append(v, u), whatever the elements are: u stands in a block that has just been made. -/
theorem wpList_push1 (w : World) (hgd : o.guard = none) (s y : Operand) (t e : TypeId) (ho : o.op = .call { callee := .builtin .append, args := #[s, y], argTypes := #[t, t] }) (hty : o.type = t)
    (i : TypeInfo) (z : Value) (bytes : Nat) (ht : P.underlying t = some (.slice e)) (hi : P.info? e = some i) (hz : i.zero = some z) (hsize : i.size = 1) (hby : i.bytes = bytes) (hzs : z.cells.size = 1)
    (B : Nat) (v : Value) (n : Nat) (xs : List Value) (u : Value) (hu : u.oneCell' = true) (hs : a.eval s = v) (hown : w.ownsRow B e 1 v n xs) (hy : a.eval y = .slice (some ⟨w.heap.size, 0, none⟩) 1 1)
    (h63 : n + 1 ≤ maxLen) (hbytes : (n + 1) * bytes ≤ 140737488355328) (hB : B ≤ w.heap.size)
    (h : ∀ v' w', w'.ownsRow B e 1 v' (n + 1) (xs ++ [u]) → w.grownBy w' v.ownBlock → (v'.ownBlock = v.ownBlock ∨ ∃ g, v'.ownBlock = some g ∧ w.heap.size ≤ g) → wpList P ops Q rest (a.put o.dst v') w') : wpList P ops Q (o :: rest) a (w.alloc (.cells #[u] e)) := by
  subst hty
  refine wpList_append_any (w.alloc (.cells #[u] e)) hgd s y o.type ho B e i z 1 bytes ht hi hz hsize hby hzs (by decide) v n xs hs (hown.alloc _) (fun _ => True) _ 1 1 [u] hy (reads_new w e u) (fun x hx => by rw [List.mem_singleton.1 hx]; exact hu) h63 hbytes (by simp; omega) fun v2 w2 h1 h2 h3 => h v2 w2 h1 ?_ ?_
  · exact ⟨h2.os, h2.tape, h2.output, Nat.le_trans (by simp) h2.size, fun k hk hne => (h2.block k (by simp; omega) hne).trans (Below.heap_alloc w _ k hk)⟩
  · rcases h3 with h3 | h3
    · exact .inl h3
    · exact .inr ⟨_, h3, by simp⟩
end
theorem grown_belowB {B C : Nat} {w0 w w' : World} {v : Value} {x : By} (hb : Below B w0 w) (hr : Row8 C w v x) (hg : w.grownBy w' v.ownBlock) (hBC : B ≤ C) (hB : B ≤ w.heap.size) : Below B w0 w' :=
  hb.grown hg hB fun _ hk => Nat.le_trans hBC (hr.lt hk).1
end Go.Proofs.Ytihfihehiifdkaa
