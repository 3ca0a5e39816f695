/- The document's table as a row of entries: Make. -/
import Derived.Test.YthlommalbkhcjaaGreatFxA
import Derived.Laws.Slices
namespace Go.Proofs.YthlommalbkhcjaaGreat
open Go.RowKit Go.Sort
attribute [local go_sem] comesV_value comesV_skip comesV_enter
variable {dc : Int → Array Value}
theorem Reads.take {w : World} {I : Nat → Prop} {size n k : Nat} {A : Option Addr} {xs : List Value} (h : Reads w I size A n xs) (hk : k ≤ n) : Reads w I size A k (xs.take (k * size)) := by
  refine ⟨?_, fun hn => ?_⟩
  · rw [List.length_take, h.1]
    have := Nat.mul_le_mul_right size hk
    omega
  · obtain ⟨ad, e, hi, hb, hc⟩ := h.2 (by omega)
    exact ⟨ad, e, hi, hb, fun j u hu => hc j u (by
      rw [List.getElem?_take] at hu
      split at hu
      · exact hu
      · cases hu)⟩
theorem Reads.drop {w : World} {I : Nat → Prop} {size n k cap : Nat} {A : Option Addr} {xs : List Value} (h : Reads w I size A n xs) (hk : k ≤ n) (hc : n ≤ cap) : Reads w I size (if cap = k then A else A.map (·.add (k * size))) (n - k) (xs.drop (k * size)) := by
  refine ⟨by rw [List.length_drop, h.1, Nat.sub_mul], fun hn => ?_⟩
  obtain ⟨ad, e, hi, hb, hc2⟩ := h.2 (by omega)
  rw [if_neg (by omega), e]
  refine ⟨ad.add (k * size), rfl, ?_, ?_, fun j u hu => ?_⟩
  · rw [block_of_add]; exact hi
  · rw [block_of_add]; exact hb
  · rw [List.getElem?_drop] at hu
    have := hc2 _ _ hu
    rwa [Addr.add_add]
theorem rsz (wx : World) : (Go.sizeOf 123).run Tryz.prog wx = .ok 259 wx := by kernel_rfl
theorem sl_take (A : Option Addr) (n cap k : Nat) (wx : World) (hk : k ≤ cap) : (Instr.slice 31 (.slice A n cap) none (some (.int .i64 (k : Int))) none).run Tryz.prog wx = .ok (.slice A k cap) wx := by
  have ht' : (Tryz.prog).underlying 31 = some (.slice ((Tryz.prog).elem 31)) := by simp [Program.elem, Tryz.underlying31]
  have he : (Tryz.prog).elem 31 = 123 := by simp [Program.elem, Tryz.underlying31]
  rw [run_slice_h wx _ _ _ _ ht' .i64 _ (by omega) (by omega), he, rsz]
  cases A <;> simp [Result.andThen, sliced, Addr.add]
theorem sl_drop (A : Option Addr) (n cap k : Nat) (wx : World) (hk : k ≤ n) : (Instr.slice 31 (.slice A n cap) (some (.int .i64 (k : Int))) none none).run Tryz.prog wx = .ok (.slice (if cap = k then A else A.map (·.add (k * 259))) (n - k) (cap - k)) wx := by
  have ht' : (Tryz.prog).underlying 31 = some (.slice ((Tryz.prog).elem 31)) := by simp [Program.elem, Tryz.underlying31]
  have he : (Tryz.prog).elem 31 = 123 := by simp [Program.elem, Tryz.underlying31]
  rw [run_slice_l wx _ _ _ _ ht' .i64 _ (by omega) (by omega), he, rsz]
  by_cases h0 : cap = k
  · simp [Result.andThen, sliced, h0]
  · simp [Result.andThen, sliced, h0]
theorem info_re : (Tryz.prog.info? 123).map (fun i => (i.zero, i.size, i.bytes)) = some (some (.agg (enX 0 0 wy0)), 259, 2072) := by kernel_rfl
theorem bs_re' (w : World) (a n : Int) (f : Nat → Value) : (Instr.buildSlice 31 1 #[(0, .agg (enX a n ((List.range 257).map f).toArray))]).run Tryz.prog w = .ok (.slice (some ⟨w.heap.size, 0, none⟩) 1 1) (w.alloc (.cells (enX a n ((List.range 257).map f).toArray) 123)) := by kernel_rfl
theorem bs_re (w : World) (a n : Int) (cs : Array Value) (hc : cs.size = 257) : (Instr.buildSlice 31 1 #[(0, .agg (enX a n cs))]).run Tryz.prog w = .ok (.slice (some ⟨w.heap.size, 0, none⟩) 1 1) (w.alloc (.cells (enX a n cs) 123)) := by
  rw [cs_of cs hc]
  exact bs_re' w a n _
theorem bd_re' (w : World) (a n : Int) (f : Nat → Value) : (Instr.build 123 #[(0, .agg #[.int .u32 a, .int .i64 n]), (1, .agg ((List.range 257).map f).toArray)]).run Tryz.prog w = .ok (.agg (enX a n ((List.range 257).map f).toArray)) w := by kernel_rfl
theorem bd_re (w : World) (a n : Int) (cs : Array Value) (hc : cs.size = 257) : (Instr.build 123 #[(0, .agg #[.int .u32 a, .int .i64 n]), (1, .agg cs)]).run Tryz.prog w = .ok (.agg (enX a n cs)) w := by
  rw [cs_of cs hc]
  exact bd_re' w a n _
attribute [-go_sem] Instr.buildSlice in
theorem bs_reop (w : World) (a n : Int) (cs : Array Value) (hc : cs.size = 257) (o : Oper) (s : Operand) {ev : Operand → Value} (ho : o.op = .buildSlice 31 1 #[(0, s)]) (hs : ev s = .agg (enX a n cs)) : (execOp ev o).run Tryz.prog w = .ok (.value (.slice (some ⟨w.heap.size, 0, none⟩) 1 1)) (w.alloc (.cells (enX a n cs).toList.toArray 123)) := by
  have hb := bs_re w a n cs hc
  unfold execOp
  rw [ho]
  simp [go_sem, hs, hb]
theorem flat_take (hd : Dc dc) (L : List (Bs × Int)) : ∀ k, (flatN dc L).take (k * 259) = flatN dc (L.take k) := by
  induction L with
  | nil => intro k; simp [flatN]
  | cons e r ih =>
    intro k
    cases k with
    | zero => simp [flatN]
    | succ k =>
      have h1 := enE_len hd e
      unfold flatN at ih ⊢
      rw [List.flatMap_cons, List.take_succ_cons, List.flatMap_cons, ← ih k, List.take_append, h1, List.take_of_length_le (by rw [h1]; omega), show (k + 1) * 259 - 259 = k * 259 by omega]
theorem flat_drop (hd : Dc dc) (L : List (Bs × Int)) : ∀ k, (flatN dc L).drop (k * 259) = flatN dc (L.drop k) := by
  induction L with
  | nil => intro k; simp [flatN]
  | cons e r ih =>
    intro k
    cases k with
    | zero => simp [flatN]
    | succ k =>
      have h1 := enE_len hd e
      unfold flatN at ih ⊢
      rw [List.flatMap_cons, List.drop_succ_cons, ← ih k, List.drop_append, h1, List.drop_of_length_le (by rw [h1]; omega), show (k + 1) * 259 - 259 = k * 259 by omega, List.nil_append]
theorem ins_flat (hd : Dc dc) {L : List (Bs × Int)} {p : Bs} {v : Int} (hin : hasB p L = false) :
    (flatN dc L).take (atB p L * 259) ++ (enE dc (p, v)).toList ++ (flatN dc L).drop (atB p L * 259) = flatN dc (insS p v L) ∧ atB p L + 1 + (L.length - atB p L) = (insS p v L).length := by
  have hle := atB_le p L
  rw [insS_eq, hin, if_neg (by decide), flat_take hd, flat_drop hd]
  constructor
  · unfold flatN
    simp
  · simp [List.length_take, List.length_drop]
    omega
theorem rB_eq {p : Bs} {r : Rt} (hp : p.length ≤ 32) (ha : r.a < 2 ^ 32) (hm : mayR r = true) : decide (padB p = r.a ∧ (p.length : Int) = r.m) = decide (p = rB r) := by
  obtain ⟨h1, h2, h3⟩ := rB_may ha hm
  rw [Bool.eq_iff_iff, decide_eq_true_iff, decide_eq_true_iff, ← h2, ← h3]
  constructor
  · rintro ⟨e1, e2⟩
    exact pad_inj hp (by omega) e1
  · rintro rfl
    exact ⟨rfl, rfl⟩
theorem flatN_one (hd : Dc dc) (L : List (Bs × Int)) : ∀ u ∈ flatN dc L, u.oneCell' = true := fun u hu => by
  unfold flatN at hu
  obtain ⟨e, _, h⟩ := List.mem_flatMap.1 hu
  exact en_one hd e u h
/-- A row of entries is made. -/
def RMk (dc : Int → Array Value) (w : World) (R : Option (List (Bs × Int))) (e : Ending) (w' : World) : Prop := match R with
  | some L => ∃ A c, e = .returned (.tuple #[.slice A L.length c, .int .i64 0]) ∧ w'.ownsRow w.heap.size 123 259 (.slice A L.length c) L.length (flatN dc L) ∧ Below w.heap.size w w'
  | none => e = .returned (.tuple #[.slice none 0 0, .int .i64 2]) ∧ Below w.heap.size w w'
/-- Make's loop. -/
structure RMr (dc : Int → Array Value) (vf : Nat → Int) (w : World) (l : List Rt) (k : Nat) (v : Value) (L : List (Bs × Int)) (wr : World) : Prop where
  eqn : mkL vf 0 l [] = mkL vf k (l.drop k) L
  len : L.length = k
  sorted : SortedB L
  short : ∀ e ∈ L, e.1.length ≤ 32
  row : wr.ownsRow w.heap.size 123 259 v k (flatN dc L)
  below : Below w.heap.size w wr
theorem RMr.later {vf : Nat → Int} {w wr wx : World} {l : List Rt} {k : Nat} {v : Value} {L : List (Bs × Int)} (h : RMr dc vf w l k v L wr) (hb : Below wr.heap.size wr wx) : RMr dc vf w l k v L wx := ⟨h.eqn, h.len, h.sorted, h.short, own_below h.row hb, h.below.trans (hb.mono h.below.size)⟩
end Go.Proofs.YthlommalbkhcjaaGreat
