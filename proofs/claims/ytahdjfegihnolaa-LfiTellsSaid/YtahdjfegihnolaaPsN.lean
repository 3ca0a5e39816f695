/- Rows of structs: append one. -/
import Derived.Test.YtahdjfegihnolaaMem
namespace Go.Proofs.Ytahdjfegihnolaa
open Go.RowKit
section
variable {P : Program} {ops : Array Oper} {rest : List Oper} {o : Oper} {a : Act} {Q : Exit → Act → World → Prop}
theorem reads_litN (w : World) (e : TypeId) (us : List Value) (size : Nat) (h : us.length = size) : Reads (w.alloc (.cells us.toArray e)) (fun _ => True) size (some ⟨w.heap.size, 0, none⟩) 1 us := by
  refine ⟨by omega, fun _ => ⟨⟨w.heap.size, 0, none⟩, rfl, trivial, by simp, fun j u hu => ?_⟩⟩
  have hk : Blk (w.alloc (.cells us.toArray e)) w.heap.size e us.toArray := Blk.new _ _ _
  rw [add_off, Nat.zero_add, hk.cell]
  simpa using hu
/-- append(v, u), u of some cells: it stands in a block that has just been made. -/
theorem wpList_pushN (w : World) (hgd : o.guard = none) (s y : Operand) (t e : TypeId) (ho : o.op = .call { callee := .builtin .append, args := #[s, y], argTypes := #[t, t] }) (hty : o.type = t)
    (i : TypeInfo) (z : Value) (size bytes : Nat) (ht : P.underlying t = some (.slice e)) (hi : P.info? e = some i) (hz : i.zero = some z) (hsize : i.size = size) (hby : i.bytes = bytes) (hzs : z.cells.size = size) (hs0 : 0 < size)
    (B : Nat) (v : Value) (n : Nat) (xs : List Value) (us : List Value) (hul : us.length = size) (hu : ∀ u ∈ us, u.oneCell' = true) (hs : a.eval s = v) (hown : w.ownsRow B e size v n xs) (hy : a.eval y = .slice (some ⟨w.heap.size, 0, none⟩) 1 1)
    (h63 : n + 1 ≤ maxLen) (hbytes : (n + 1) * bytes ≤ 140737488355328) (hB : B ≤ w.heap.size)
    (h : ∀ v' w', w'.ownsRow B e size v' (n + 1) (xs ++ us) → w.grownBy w' v.ownBlock → (v'.ownBlock = v.ownBlock ∨ ∃ g, v'.ownBlock = some g ∧ w.heap.size ≤ g) → wpList P ops Q rest (a.put o.dst v') w') : wpList P ops Q (o :: rest) a (w.alloc (.cells us.toArray e)) := by
  subst hty
  refine wpList_append_any (w.alloc (.cells us.toArray e)) hgd s y o.type ho B e i z size bytes ht hi hz hsize hby hzs hs0 v n xs hs (hown.alloc _) (fun _ => True) _ 1 1 us hy (reads_litN w e us size hul) hu h63 hbytes (by simp; omega) fun v2 w2 h1 h2 h3 => h v2 w2 h1 ?_ ?_
  · exact ⟨h2.os, h2.tape, h2.output, Nat.le_trans (by simp) h2.size, fun k hk hne => (h2.block k (by simp; omega) hne).trans (Below.heap_alloc w _ k hk)⟩
  · rcases h3 with h3 | h3
    · exact .inl h3
    · exact .inr ⟨_, h3, by simp⟩
end
end Go.Proofs.Ytahdjfegihnolaa
