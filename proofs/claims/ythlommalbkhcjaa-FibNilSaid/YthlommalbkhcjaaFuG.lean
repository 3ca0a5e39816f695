/- law14's ten; rows of routes. -/
import Derived.Test.YthlommalbkhcjaaFuF
namespace Go.Proofs.Ythlommalbkhcjaa
open Go.RowKit Go.Sort
theorem ten_any (b n a : Nat) (hb : b < 256) (ha : a = 167772160 + b * 65536) (w : World) : Calls Try.prog 22 #[.int .u32 (b : Int), .int .i64 (n : Int)] w fun e w' => e = .returned (pxV a n) ∧ Below w.heap.size w w' := by
  have h1 : (b : Int) < 256 := by omega
  have HA := Lib.hid ha
  clear ha
  go_enter Try.func22, Try.ntmps22
  go_wp2
  have e : (167772160 + (b : Int) * 65536) = (a : Int) := by rw [HA.out]; omega
  rw [e]
  exact bodyPost_ret (v := pxV a n) (by simp [results, Try.results22, go_sem]) rfl ⟨rfl, (Below.refl _ _).alloc (Nat.le_refl _) _⟩
/-- A row of routes, each with its ways. -/
structure RtsM (w : World) (I : Nat → Prop) (A : Option Addr) (n : Nat) (l : List Rt) : Prop where
  row : Reads w I 6 A n (l.flatMap rtC)
  len : l.length = n
  each : ∀ r ∈ l, RtOk w I r
theorem RtsM.keep {w w' : World} {I : Nat → Prop} {A : Option Addr} {n : Nat} {l : List Rt} (h : RtsM w I A n l) (hs : Same I w w') : RtsM w' I A n l := ⟨h.row.keep hs, h.len, fun r hr => (h.each r hr).keep hs⟩
theorem RtsM.mono {w : World} {I J : Nat → Prop} {A : Option Addr} {n : Nat} {l : List Rt} (h : RtsM w I A n l) (hs : ∀ k, I k → J k) : RtsM w J A n l := ⟨h.row.mono hs, h.len, fun r hr => (h.each r hr).mono hs⟩
theorem rtC_get : ∀ {l : List Rt} {k : Nat} {r : Rt}, l[k]? = some r → ∀ {j : Nat}, j < 6 → (l.flatMap rtC)[k * 6 + j]? = (rtC r)[j]?
  | [], k, r, h, _, _ => by simp at h
  | a :: l, 0, r, h, j, hj => by
    simp at h
    subst h
    rw [List.flatMap_cons, Nat.zero_mul, Nat.zero_add, List.getElem?_append_left (by show j < 6; exact hj)]
  | a :: l, k + 1, r, h, j, hj => by
    have := rtC_get (l := l) (k := k) (r := r) (by simpa using h) hj
    rw [List.flatMap_cons, List.getElem?_append_right (by show 6 ≤ _; omega), ← this]
    congr 1
    show (k + 1) * 6 + j - 6 = _
    omega
end Go.Proofs.Ythlommalbkhcjaa
