/- Steps of the law that goes by what each operation leaves. -/
import Derived.Test.YtnifhhaalmlmnaaRgW
import Derived.Test.YtnifhhaalmlmnaaMem
namespace Go.Proofs.Ytnifhhaalmlmnaa
open Go.RowKit
theorem insRow {P : Program} {ρ : Operand → Value} {o : Oper} (w : World) (s x : Operand) (t : TypeId) (ho : o.op = .call { callee := .builtin .append, args := #[s, x], argTypes := #[t, t] })
    (base : Nat) (e : TypeId) (i : TypeInfo) (z : Value) (size bytes : Nat) (ht : P.underlying t = some (.slice e)) (hi : P.info? e = some i) (hz : i.zero = some z) (hsize : i.size = size) (hby : i.bytes = bytes) (hzs : z.cells.size = size) (hsz : 0 < size)
    {v : Value} {n : Nat} {xs : List Value} (hs : ρ s = v) (hown : w.ownsRow base e size v n xs) {I : Nat → Prop} {A : Option Addr} {m c : Nat} {news : List Value} (hx : ρ x = .slice A m c) (hr : Reads w I size A m news) (h1 : ∀ u ∈ news, u.oneCell' = true)
    (h63 : n + m ≤ maxLen) (hbytes : (n + m) * bytes ≤ 140737488355328) (hbase : base ≤ w.heap.size) {K : Value → World → Prop} (hK : ∀ v2 w2, w2.ownsRow base e size v2 (n + m) (xs ++ news) → w.grownBy w2 v.ownBlock → (v2.ownBlock = v.ownBlock ∨ v2.ownBlock = some w.heap.size) → K v2 w2) :
    comesV P K ((execOp ρ o).run P w) := by
  obtain ⟨v2, w2, e1, e2, e3, e4⟩ := run_append_any (P := P) w base t o.type e i z size bytes ht hi hz hsize hby hzs hsz v n xs hown I A m c news hr h1 h63 hbytes hbase
  unfold execOp
  simp only [ho, resolve, invoke, builtin, Sem.run_bind, Sem.run_pure, Result.andThen_ok, List.map_toArray, List.map_cons, List.map_nil, hs, hx, e1]
  exact hK v2 w2 e2 e3 e4
theorem ifv {c : Bool} {X Y : Prop} (hc : c = true) (h : X) : if c = true then X else Y := by rw [if_pos hc]; exact h
end Go.Proofs.Ytnifhhaalmlmnaa
