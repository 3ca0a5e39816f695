/- Ways compared; law14's known. -/
import Derived.Test.YthlommalbkhcjaaGreatFuK
import Derived.ChangeKeysEq
namespace Go.Proofs.YthlommalbkhcjaaGreat
open Go.RowKit Go.Sort
theorem arr_iF : ∃ i, Tryz.prog.info? 3 = some i := by
  have := info_i64
  cases h : Tryz.prog.info? 3 with
  | none => rw [h] at this; cases this
  | some i => exact ⟨i, rfl⟩
theorem all_range_eq {zs ys : List Int} (hz : zs.length = 256) (hy : ys.length = 256) : ((List.range 256).all fun i => zs.getD i 0 == ys.getD i 0) = (zs == ys) := by
  rw [Bool.eq_iff_iff, List.all_eq_true, beq_iff_eq]
  constructor
  · intro h
    apply List.ext_getElem (by omega)
    intro i h1 h2
    have := h i (List.mem_range.2 (by omega))
    simpa [h1, h2] using this
  · rintro rfl i _
    simp
theorem eqIn_bk {zs ys : List Int} (hz : zs.length = 256) (hy : ys.length = 256) (w : World) : (Op.equalIn 9999 39 (.agg (arrV zs)) (.agg (arrV ys))).run Tryz.prog w = .ok (zs == ys) w := by
  obtain ⟨i, hi⟩ := arr_iF
  have hc : Tryz.prog.cellsOf 3 = 1 := by kernel_rfl
  rw [run_equalIn_array (P := Tryz.prog) w 9998 (arrV zs) (arrV ys) Tryz.underlying39 hi, hc]
  have key : ∀ is : List Nat, (∀ j ∈ is, j < 256) → (Op.eqItems 9998 3 1 (arrV zs) (arrV ys) is).run Tryz.prog w = .ok (is.all fun i => zs.getD i 0 == ys.getD i 0) w := fun is => by
    induction is with
    | nil => intro _; simp [Op.eqItems]
    | cons j is ih =>
      intro h
      have hj := h j (by simp)
      have gf : ∀ {zs : List Int}, zs.length = 256 → (arrV zs)[j * 1]? = some (.int .i64 (zs.getD j 0)) := fun {zs} hz => by
        rw [Nat.mul_one]
        unfold arrV
        rw [List.getElem?_toArray, List.getElem?_map, List.getElem?_eq_getElem (by omega)]
        simp [List.getD_eq_getElem?_getD, List.getElem?_eq_getElem (show j < zs.length by omega)]
      have hp : (part 3 (arrV zs) (j * 1)).run Tryz.prog w = .ok (.int .i64 (zs.getD j 0)) w := run_part_plain (P := Tryz.prog) (w := w) (by kernel_rfl) (gf hz)
      have hq : (part 3 (arrV ys) (j * 1)).run Tryz.prog w = .ok (.int .i64 (ys.getD j 0)) w := run_part_plain (P := Tryz.prog) (w := w) (by kernel_rfl) (gf hy)
      unfold Op.eqItems
      simp only [Sem.run_bind, hp, hq, Result.andThen_ok]
      rw [run_equalIn_int (P := Tryz.prog) (w := w) 9997 3 .i64 .i64 (zs.getD j 0) (ys.getD j 0) Tryz.underlying3]
      simp only [Result.andThen_ok, List.all_cons]
      have ih2 := ih fun j hj => h j (by simp [hj])
      cases hb : (zs.getD j 0 == ys.getD j 0) with
      | true => simpa using ih2
      | false => simp
  rw [key _ fun j hj => List.mem_range.1 hj, all_range_eq hz hy]
theorem wyC_0 (k : Int) (zs : List Int) : (wyC k zs)[0]? = some (.int .i64 k) := by unfold wyC; simp
theorem wyC_ex (k : Int) {zs : List Int} (hz : zs.length = 256) : (wyC k zs).extract 1 257 = arrV zs := by
  unfold wyC
  apply Array.ext'
  simp
  exact List.take_of_length_le (by rw [Array.length_toList, arrV_size, hz]; exact Nat.le_refl _)
theorem eqIn_wy (k j : Int) {zs ys : List Int} (hz : zs.length = 256) (hy : ys.length = 256) (w : World) : (Op.equalIn 10000 41 (.agg (wyC k zs)) (.agg (wyC j ys))).run Tryz.prog w = .ok (k == j && zs == ys) w := by
  have h1 := wyC_0 k zs
  have h2 := wyC_0 j ys
  have h3 := wyC_ex k hz
  have h4 := wyC_ex j hy
  have h5 := eqIn_bk hz hy w
  generalize wyC k zs = X at h1 h3 ⊢
  generalize wyC j ys = Y at h2 h4 ⊢
  generalize (zs == ys) = b at h5 ⊢
  cases hk : (k == j) <;> cases b <;> go_simp
/-- Ways compared, as they are loaded. -/
theorem eql_wy (k j : Int) {zs ys : List Int} (hz : zs.length = 256) (hy : ys.length = 256) (w : World) : (binOp .eql 41 (.agg (wyC k zs)) (.agg (wyC j ys))).run Tryz.prog w = .ok (.bool (k == j && zs == ys)) w := by
  rw [run_eql_struct, eqIn_wy k j hz hy]
  rfl
theorem neq_wy (k j : Int) {zs ys : List Int} (hz : zs.length = 256) (hy : ys.length = 256) (w : World) : (binOp .neq 41 (.agg (wyC k zs)) (.agg (wyC j ys))).run Tryz.prog w = .ok (.bool (!(k == j && zs == ys))) w := by
  rw [run_neq_struct, eqIn_wy k j hz hy]
  rfl
/-- The same way. -/
theorem eqs_wy (wz : Int × List Int) (hz : wz.2.length = 256) (w : World) : (Op.equalIn 10000 41 (.agg (wayC wz)) (.agg (wayC wz))).run Tryz.prog w = .ok true w := by
  have := eqIn_wy wz.1 wz.1 hz hz w
  unfold wayC
  simpa using this
theorem way_build (w : World) : (Instr.build 41 #[]).run Tryz.prog w = .ok (.agg wy0) w := by kernel_rfl
theorem way_build2 (w : World) : (Instr.build 41 #[(0, .int .i64 2)]).run Tryz.prog w = .ok (.agg (wyC 2 zs0)) w := by kernel_rfl
/-- The ways of a row of routes; the route at k is known by k + 1. -/
def wkL (l : List Rt) (v : Int) : Int × List Int := match l[(v - 1).toNat]? with
  | some r => if 1 ≤ v ∧ mayR r = true then wayR r else (0, zs0)
  | none => (0, zs0)
theorem wayR_len {r : Rt} (h : mayR r = true) : (wayR r).2.length = 256 := by
  unfold wayR
  split
  · exact zs0_len
  · split
    · exact zs0_len
    · rename_i h1 h2
      have hm : mayF r.nx = true := by
        unfold mayR at h
        rw [decide_eq_false (fun e => h2 (.inr e))] at h
        simp at h
        exact h.2
      exact table_len hm
theorem wkL_len (l : List Rt) (v : Int) : (wkL l v).2.length = 256 := by
  unfold wkL
  split
  · split
    · rename_i r _ h
      exact wayR_len h.2
    · exact zs0_len
  · exact zs0_len
def dcL (l : List Rt) (v : Int) : Array Value := wayC (wkL l v)
theorem dcL_ok (l : List Rt) : Dc (dcL l) := ⟨fun v => wyC_size (wkL_len l v), fun v => wyC_one _ _, by
  unfold dcL wkL
  split
  · rw [if_neg (by omega)]; exact wyC_zero
  · exact wyC_zero⟩
theorem wkL_at {l : List Rt} {i : Nat} {r : Rt} (h : l[i]? = some r) (hm : mayR r = true) : wkL l ((i : Int) + 1) = wayR r := by
  unfold wkL
  rw [show ((i : Int) + 1 - 1).toNat = i by omega, h]
  show (if _ then _ else _) = _
  rw [if_pos ⟨by omega, hm⟩]
theorem dcL_at {l : List Rt} (i : Nat) (r : Rt) (h : l[i]? = some r) (hm : mayR r = true) : dcL l ((i : Int) + 1) = wayC (wayR r) := by
  unfold dcL
  rw [wkL_at h hm]
theorem dcL_wk (l : List Rt) (v : Int) : dcL l v = wayC (wkL l v) ∧ (wkL l v).2.length = 256 := ⟨rfl, wkL_len l v⟩
end Go.Proofs.YthlommalbkhcjaaGreat
namespace Go.Proofs.YthlommalbkhcjaaGreat
open Go.RowKit Go.Sort
def kr1 (A : Option Addr) : Rt := ⟨167772160, 8, false, true, 0, A, 1, 1, [(2, 3)]⟩
def kr2 (A : Option Addr) : Rt := ⟨167837696, 16, false, false, 0, A, 1, 1, [(1, 1)]⟩
def kr0 : Rt := ⟨167772160, 8, false, false, 0, none, 0, 0, []⟩
def vk (i : Nat) : Int := (i : Int) + 1
def T2 : TT := .node (bitsB 167772160 8) 1 true (.node (bitsB 167837696 16) 2 true .nil .nil) .nil
theorem mk_two (A B : Option Addr) : mkT vk 0 [kr1 A, kr2 B] .nil = some T2 := by kernel_rfl
theorem mk_dup : mkT vk 0 [kr0, kr0] .nil = none := by kernel_rfl
theorem T2_cov1 : T2.cov (bitsB 167838211 32) = [(bitsB 167772160 8, 1), (bitsB 167837696 16, 2)] := by kernel_rfl
theorem T2_cov2 : T2.cov (bitsB 167903232 32) = [(bitsB 167772160 8, 1)] := by kernel_rfl
theorem kw1 (A B : Option Addr) : wkL [kr1 A, kr2 B] 1 = (3, tableF [(2, 3)]) := by kernel_rfl
theorem kw2 (A B : Option Addr) : wkL [kr1 A, kr2 B] 2 = (2, zs0) := by kernel_rfl
theorem kt1 : (tableF [(2, 3)]).getD 77 0 = 2 := by kernel_rfl
theorem kp2 : padB (bitsB 167837696 16) = 167837696 := by kernel_rfl
theorem kl2 : (bitsB 167837696 16).length = 16 := by kernel_rfl
theorem ten0 (w : World) : Calls Tryz.prog 46 #[.int .u32 0, .int .i64 8] w fun e w' => e = .returned (.agg #[.int .u32 167772160, .int .i64 8]) ∧ Below w.heap.size w w' := ten_any 0 8 167772160 (by decide) rfl w
theorem ten1 (w : World) : Calls Tryz.prog 46 #[.int .u32 1, .int .i64 16] w fun e w' => e = .returned (.agg #[.int .u32 167837696, .int .i64 16]) ∧ Below w.heap.size w w' := ten_any 1 16 167837696 (by decide) rfl w
variable {dc : Int → Array Value}
theorem kf_look (hd : Dc dc) (a : Nat) {w wx : World} {fb : Nat} {T : TT} {lim : Int} (h : KF dc w wx fb T lim) (ha : a < 2 ^ 32) (hsm : T.list.length ≤ 1000000) :
    Calls Tryz.prog 14 #[.pointer (some ⟨fb, 0, none⟩), .int .u32 (a : Int)] wx fun e w' => MatchPost dc wx (T.cov (bitsB a 32)) e w' ∧ KF dc w w' fb T lim := by
  have h0 := h
  obtain ⟨M, tb, h1, h2, h3, h4⟩ := h
  exact (look_any hd a fb tb M lim T wx h1 ha hsm).mono fun e w' hm => ⟨hm, h0.later hm.2⟩
theorem kf_pick (hd : Dc dc) {wk : Int → Int × List Int} (hwk : ∀ v, dc v = wayC (wk v) ∧ (wk v).2.length = 256) (a hash : Nat) {w wx : World} {fb : Nat} {T : TT} {lim : Int} (h : KF dc w wx fb T lim) (ha : a < 2 ^ 32) (hsm : T.list.length ≤ 1000000) :
    Calls Tryz.prog 16 #[.pointer (some ⟨fb, 0, none⟩), .int .u32 (a : Int), .int .u32 (hash : Int)] wx fun e w' => e = .returned (pickV wk (T.cov (bitsB a 32)) hash) ∧ KF dc w w' fb T lim ∧ Below wx.heap.size wx w' := by
  have h0 := h
  obtain ⟨M, tb, h1, h2, h3, h4⟩ := h
  exact (fpick_any hd hwk a hash fb tb M lim T wx h1 ha hsm).mono fun e w' ⟨he, hb⟩ => ⟨he, h0.later hb, hb⟩
theorem fmake_kf (hd : Dc dc) (vf : Nat → Int) (A : Option Addr) (n c : Nat) (l : List Rt) (w : World) (h : RtsM w (fun k => k < w.heap.size) A n l) (hn : n ≤ 1024) (hv : ∀ i r, l[i]? = some r → mayR r = true → dc (vf i) = wayC (wayR r)) {T : TT} (hT : mkT vf 0 l .nil = some T) :
    Calls Tryz.prog 11 #[.slice A n c] w fun e w' => ∃ fb, e = .returned (.tuple #[.pointer (some ⟨fb, 0, none⟩), .int .i64 0]) ∧ KF dc w w' fb T n := by
  have := fmake_any hd vf A n c l w h hn hv
  rw [hT] at this
  exact this
theorem fmake_bad (hd : Dc dc) (vf : Nat → Int) (A : Option Addr) (n c : Nat) (l : List Rt) (w : World) (h : RtsM w (fun k => k < w.heap.size) A n l) (hn : n ≤ 1024) (hv : ∀ i r, l[i]? = some r → mayR r = true → dc (vf i) = wayC (wayR r)) (hT : mkT vf 0 l .nil = none) :
    Calls Tryz.prog 11 #[.slice A n c] w fun e w' => e = .returned (.tuple #[.pointer none, .int .i64 2]) ∧ Below w.heap.size w w' := by
  have := fmake_any hd vf A n c l w h hn hv
  rw [hT] at this
  exact this
theorem bd_nx (p d : Int) (w : World) : (Instr.build 110 #[(0, .int .i64 p), (1, .int .i64 d)]).run Tryz.prog w = .ok (.agg #[.int .i64 p, .int .i64 d]) w := by kernel_rfl
theorem bd_rt1 (a m : Int) (A : Option Addr) (n c : Nat) (w : World) : (Instr.build 54 #[(0, .agg #[.int .u32 a, .int .i64 m]), (2, .bool true), (4, .slice A n c)]).run Tryz.prog w = .ok (.agg #[.int .u32 a, .int .i64 m, .bool false, .bool true, .int .i64 0, .slice A n c]) w := by kernel_rfl
theorem bd_rt2 (a m : Int) (A : Option Addr) (n c : Nat) (w : World) : (Instr.build 54 #[(0, .agg #[.int .u32 a, .int .i64 m]), (4, .slice A n c)]).run Tryz.prog w = .ok (.agg #[.int .u32 a, .int .i64 m, .bool false, .bool false, .int .i64 0, .slice A n c]) w := by kernel_rfl
theorem bd_rt0 (a m : Int) (w : World) : (Instr.build 54 #[(0, .agg #[.int .u32 a, .int .i64 m])]).run Tryz.prog w = .ok (.agg #[.int .u32 a, .int .i64 m, .bool false, .bool false, .int .i64 0, .slice none 0 0]) w := by kernel_rfl
/-- The first table's routes, where they lie. -/
theorem kn_rts {w1 W2 w3 : World} {t : TypeId} (hW2 : W2 = w1.alloc (.cells #[.int .i64 2, .int .i64 3] t)) (hb : Below W2.heap.size W2 w3) :
    RtsM (((w3.alloc (.cells #[.int .i64 1, .int .i64 1] t)).alloc (.cells #[.int .u32 167772160, .int .i64 8, .bool false, .bool true, .int .i64 0, .slice (some ⟨w1.heap.size, 0, none⟩) 1 1, .int .u32 167837696, .int .i64 16, .bool false, .bool false, .int .i64 0, .slice (some ⟨w3.heap.size, 0, none⟩) 1 1] 54))) (fun k => k < (((w3.alloc (.cells #[.int .i64 1, .int .i64 1] t)).alloc (.cells #[.int .u32 167772160, .int .i64 8, .bool false, .bool true, .int .i64 0, .slice (some ⟨w1.heap.size, 0, none⟩) 1 1, .int .u32 167837696, .int .i64 16, .bool false, .bool false, .int .i64 0, .slice (some ⟨w3.heap.size, 0, none⟩) 1 1] 54))).heap.size)
      (some ⟨w3.heap.size + 1, 0, none⟩) 2 [kr1 (some ⟨w1.heap.size, 0, none⟩), kr2 (some ⟨w3.heap.size, 0, none⟩)] := by
  obtain ⟨W4, hW4⟩ : ∃ Z, Z = w3.alloc (.cells #[.int .i64 1, .int .i64 1] t) := ⟨_, rfl⟩
  have hz4 : W4.heap.size = w3.heap.size + 1 := by rw [hW4]; simp
  rw [← hW4, ← hz4]
  have r0 := reads_lit W4 54 #[.int .u32 167772160, .int .i64 8, .bool false, .bool true, .int .i64 0, .slice (some ⟨w1.heap.size, 0, none⟩) 1 1, .int .u32 167837696, .int .i64 16, .bool false, .bool false, .int .i64 0, .slice (some ⟨w3.heap.size, 0, none⟩) 1 1] 2 6 (0, 0) rfl
  obtain ⟨W5, hW5⟩ : ∃ Z, Z = W4.alloc (.cells #[.int .u32 167772160, .int .i64 8, .bool false, .bool true, .int .i64 0, .slice (some ⟨w1.heap.size, 0, none⟩) 1 1, .int .u32 167837696, .int .i64 16, .bool false, .bool false, .int .i64 0, .slice (some ⟨w3.heap.size, 0, none⟩) 1 1] 54) := ⟨_, rfl⟩
  rw [← hW5] at r0 ⊢
  have hb5 : Below W4.heap.size W4 W5 := by rw [hW5]; exact (Below.refl _ _).alloc (Nat.le_refl _) _
  have hz5 : W5.heap.size = W4.heap.size + 1 := by rw [hW5]; simp
  have hz2 : W2.heap.size = w1.heap.size + 1 := by rw [hW2]; simp
  have hs3 := hb.size
  have n1 : Reads W5 (fun k => k < W5.heap.size) 2 (some ⟨w1.heap.size, 0, none⟩) 1 [.int .i64 2, .int .i64 3] := by
    have := reads_lit w1 t #[.int .i64 2, .int .i64 3] 1 2 (0, 0) rfl
    rw [← hW2] at this
    refine ((this.keep (Same.ofBelow (hb.trans (((show Below w3.heap.size w3 W4 by rw [hW4]; exact (Below.refl _ _).alloc (Nat.le_refl _) _).trans (hb5.mono (by omega))).mono hs3)) fun k hk => ?_)).mono fun k hk => ?_)
    · have : k = w1.heap.size := hk
      omega
    · have : k = w1.heap.size := hk
      omega
  have n2 : Reads W5 (fun k => k < W5.heap.size) 2 (some ⟨w3.heap.size, 0, none⟩) 1 [.int .i64 1, .int .i64 1] := by
    have := reads_lit w3 t #[.int .i64 1, .int .i64 1] 1 2 (0, 0) rfl
    rw [← hW4] at this
    refine (this.keep (Same.ofBelow hb5 fun k hk => ?_)).mono fun k hk => ?_
    · have : k = w3.heap.size := hk
      omega
    · have : k = w3.heap.size := hk
      omega
  refine ⟨r0.mono fun k hk => by have : k = W4.heap.size := hk; omega, rfl, fun r hr => ?_⟩
  rcases List.mem_cons.1 hr with rfl | hr
  · exact ⟨show 167772160 < 2 ^ 32 by decide, rfl, show 1 ≤ 1000000 by decide, n1⟩
  · rcases List.mem_cons.1 hr with rfl | hr
    · exact ⟨show 167837696 < 2 ^ 32 by decide, rfl, show 1 ≤ 1000000 by decide, n2⟩
    · simp at hr
/-- The second table's. -/
theorem kn_rts2 (w : World) : RtsM (w.alloc (.cells #[.int .u32 167772160, .int .i64 8, .bool false, .bool false, .int .i64 0, .slice none 0 0, .int .u32 167772160, .int .i64 8, .bool false, .bool false, .int .i64 0, .slice none 0 0] 54)) (fun k => k < (w.alloc (.cells #[.int .u32 167772160, .int .i64 8, .bool false, .bool false, .int .i64 0, .slice none 0 0, .int .u32 167772160, .int .i64 8, .bool false, .bool false, .int .i64 0, .slice none 0 0] 54)).heap.size) (some ⟨w.heap.size, 0, none⟩) 2 [kr0, kr0] := by
  have r0 := reads_lit w 54 #[.int .u32 167772160, .int .i64 8, .bool false, .bool false, .int .i64 0, .slice none 0 0, .int .u32 167772160, .int .i64 8, .bool false, .bool false, .int .i64 0, .slice none 0 0] 2 6 (0, 0) rfl
  refine ⟨r0.mono fun k hk => by have : k = w.heap.size := hk; simp; omega, rfl, fun r hr => ?_⟩
  obtain rfl : r = kr0 := by simpa using hr
  exact ⟨by decide, rfl, by decide, rfl, fun h => absurd h (by decide)⟩
set_option maxRecDepth 20000 in
set_option maxHeartbeats 8000000 in
attribute [-go_sem] Instr.storeAt Instr.loadAt Instr.alloc Instr.build in
theorem known14_any (w : World) : Calls Tryz.prog 10 #[] w fun e w' => e = .returned (.bool true) ∧ Below w.heap.size w w' := by
  have b1 := bd_nx
  have b2 := bd_rt1
  have b3 := bd_rt2
  have b4 := bd_rt0
  have a1 := px_alloc
  have a2 := way_alloc
  go_enter Tryz.func10, Tryz.ntmps10
  go_wp2_with fail
  refine (ten0 _).mono ?_
  rintro e w1 ⟨rfl, hb1⟩
  have HB1 := Lib.hid hb1
  clear hb1
  go_wp2_with fail
  obtain ⟨W2, hW2⟩ : ∃ Z, Z = w1.alloc (.cells #[.int .i64 2, .int .i64 3] 110) := ⟨_, rfl⟩
  rw [← hW2]
  have HW2 := Lib.hid hW2
  have HB2 := Lib.hid (show Below w.heap.size w W2 by rw [hW2]; exact HB1.out.alloc HB1.out.size _)
  clear hW2
  refine (ten1 _).mono ?_
  rintro e w3 ⟨rfl, hb3⟩
  have HRT := Lib.hid (kn_rts HW2.out hb3)
  have HB3 := Lib.hid (HB2.out.trans (hb3.mono HB2.out.size))
  clear hb3
  go_wp2_with fail
  obtain ⟨l1, hl1⟩ : ∃ l, l = [kr1 (some ⟨w1.heap.size, 0, none⟩), kr2 (some ⟨w3.heap.size, 0, none⟩)] := ⟨_, rfl⟩
  rw [← hl1] at HRT
  obtain ⟨W5, hW5⟩ : ∃ Z, Z = (w3.alloc (.cells #[.int .i64 1, .int .i64 1] 110)).alloc (.cells #[.int .u32 167772160, .int .i64 8, .bool false, .bool true, .int .i64 0, .slice (some ⟨w1.heap.size, 0, none⟩) 1 1, .int .u32 167837696, .int .i64 16, .bool false, .bool false, .int .i64 0, .slice (some ⟨w3.heap.size, 0, none⟩) 1 1] 54) := ⟨_, rfl⟩
  rw [← hW5] at HRT ⊢
  have HB5 := Lib.hid (show Below w.heap.size w W5 by rw [hW5]; exact (HB3.out.alloc HB3.out.size _).alloc (Nat.le_trans HB3.out.size (by simp)) _)
  have hmk : mkT vk 0 l1 .nil = some T2 := by rw [hl1]; exact mk_two _ _
  have HK := Lib.hid (fmake_kf (dcL_ok l1) vk _ 2 2 l1 W5 HRT.out (by decide) (fun i r h hm => dcL_at i r h hm) hmk)
  have hw2 : dcL l1 2 = wyC 2 zs0 := by rw [hl1]; unfold dcL; rw [kw2]; rfl
  have hw1 : wkL l1 1 = (3, tableF [(2, 3)]) := by rw [hl1]; exact kw1 _ _
  have HW2' := Lib.hid hw2
  have HW1' := Lib.hid hw1
  clear hl1 hW5 hmk HW2 hw2 hw1
  refine HK.out.mono ?_
  rintro e w6 ⟨fb, rfl, hk6⟩
  have HK6 := Lib.hid hk6
  have HB6 := Lib.hid (HB5.out.trans (hk6.below.mono HB5.out.size))
  clear hk6
  go_upto_region 2 with (fail)
  have HLK := Lib.hid (show Calls Tryz.prog 14 #[.pointer (some ⟨fb, 0, none⟩), .int .u32 167838211] w6 fun e w' => e = .returned (.tuple #[.agg #[.int .u32 167837696, .int .i64 16], .agg (wyC 2 zs0), .bool true]) ∧ Below w6.heap.size w6 w' ∧ KF (dcL l1) W5 w' fb T2 2 from by
    refine (kf_look (dcL_ok l1) 167838211 HK6.out (by decide) (by decide)).mono fun e w' ⟨h, h2⟩ => ?_
    unfold MatchPost at h
    rw [T2_cov1] at h
    obtain ⟨h1, h3⟩ := h
    refine ⟨?_, h3, h2⟩
    rw [h1]
    show Ending.returned (.tuple #[.agg #[.int .u32 _, .int .i64 _], .agg (dcL l1 2), _]) = _
    rw [HW2'.out]
    rfl)
  go_wp2_with fail
  refine HLK.out.mono ?_
  rintro e w7 ⟨rfl, hb7, hk7⟩
  have HK7 := Lib.hid hk7
  have HB7 := Lib.hid (HB6.out.trans (hb7.mono HB6.out.size))
  clear hb7 hk7 HLK
  obtain ⟨X2, hX2⟩ : ∃ X, X = wyC 2 zs0 := ⟨_, rfl⟩
  have hx1 : X2.size = 257 := by rw [hX2]; exact wyC_size zs0_len
  have hx2 : X2.all (·.oneCell') = true := by rw [hX2]; exact wyC_one _ _
  have HX2 := Lib.hid hX2
  rw [← hX2]
  clear hX2
  obtain ⟨W8, hW8⟩ : ∃ Z, Z = (w7.alloc (.cells #[.int .u32 0, .int .i64 0] 37)).alloc (.cells wy0 41) := ⟨_, rfl⟩
  have hz1 : (w7.alloc (.cells #[.int .u32 0, .int .i64 0] 37)).heap.size = w7.heap.size + 1 := by simp
  have hb8 : Below w7.heap.size w7 W8 := by rw [hW8]; exact ((Below.refl _ _).alloc (Nat.le_refl _) _).alloc (by simp) _
  have hp8 : Blk W8 w7.heap.size 37 #[.int .u32 0, .int .i64 0] := by rw [hW8]; exact (Blk.new w7 _ _).alloc _
  have hv8 : Blk W8 (w7.heap.size + 1) 41 wy0 := by
    rw [hW8]
    have := Blk.new (w7.alloc (.cells #[.int .u32 0, .int .i64 0] 37)) 41 wy0
    rwa [hz1] at this
  have st1 : (Instr.storeAt 37 (.pointer (some ⟨w7.heap.size, 0, none⟩)) (.agg #[.int .u32 167837696, .int .i64 16])).run Tryz.prog W8 = .ok () (W8.setCells w7.heap.size 0 (#[Value.int .u32 167837696, .int .i64 16] : Array Value).toList) := stc_store px_info hp8 rfl rfl (by simp [Value.oneCell'])
  obtain ⟨w9, hw9⟩ : ∃ Z, Z = W8.setCells w7.heap.size 0 (#[Value.int .u32 167837696, .int .i64 16] : Array Value).toList := ⟨_, rfl⟩
  rw [← hw9] at st1
  have hp9 : Blk w9 w7.heap.size 37 #[.int .u32 167837696, .int .i64 16] := by rw [hw9]; exact blk_setCells hp8 rfl
  have hv9 : Blk w9 (w7.heap.size + 1) 41 wy0 := by rw [hw9]; exact blk_far_setCells (by omega) _ _ _ hv8
  have hb9 : Below w7.heap.size w7 w9 := by rw [hw9]; exact below_setCells (Nat.le_refl _) _ _ _ hb8
  have st2 := st_wyB (vs := X2) hv9 wy0_size hx1 hx2
  obtain ⟨w10, hw10⟩ : ∃ Z, Z = w9.setCells (w7.heap.size + 1) 0 X2.toList := ⟨_, rfl⟩
  rw [← hw10] at st2
  have hp10 : Blk w10 w7.heap.size 37 #[.int .u32 167837696, .int .i64 16] := by rw [hw10]; exact blk_far_setCells (by omega) _ _ _ hp9
  have hv10 : Blk w10 (w7.heap.size + 1) 41 X2 := by rw [hw10]; exact blk_setCells hv9 (by rw [hx1, wy0_size])
  have hb10 : Below w7.heap.size w7 w10 := by rw [hw10]; exact below_setCells (Nat.le_succ _) _ _ _ hb9
  have HP10 := Lib.hid hp10
  have HV10 := Lib.hid hv10
  have HB10 := Lib.hid (HB7.out.trans (hb10.mono HB7.out.size))
  have HK10 := Lib.hid (HK7.out.later hb10)
  rw [hW8] at st1
  clear hW8 hb8 hp8 hv8 hw9 hp9 hv9 hb9 hw10 hp10 hv10 hb10
  have HPK := Lib.hid (show Calls Tryz.prog 16 #[.pointer (some ⟨fb, 0, none⟩), .int .u32 167903232, .int .u32 77] w10 fun e w' => e = .returned (.tuple #[.int .i64 3, .int .i64 2]) ∧ Below w10.heap.size w10 w' from by
    refine (kf_pick (dcL_ok l1) (dcL_wk l1) 167903232 77 HK10.out (by decide) (by decide)).mono fun e w' ⟨h, h2, h3⟩ => ⟨?_, h3⟩
    rw [T2_cov2] at h
    rw [h]
    unfold pickV
    rw [if_neg (by decide)]
    show Ending.returned (.tuple #[.int .i64 (wkL l1 1).1, .int .i64 ((wkL l1 1).2.getD (77 % 256) 0)]) = _
    rw [HW1'.out]
    show Ending.returned (.tuple #[.int .i64 3, .int .i64 ((tableF [(2, 3)]).getD 77 0)]) = _
    rw [kt1])
  go_upto_region 3 with (fail)
  go_wp2_with fail
  refine HPK.out.mono ?_
  rintro e w11 ⟨rfl, hb11⟩
  have HP11 := Lib.hid (HP10.out.below hb11 HP10.out.lt)
  have HV11 := Lib.hid (HV10.out.below hb11 HV10.out.lt)
  have HB11 := Lib.hid (HB10.out.trans (hb11.mono HB10.out.size))
  clear hb11
  go_wp2_with fail
  refine (ten0 _).mono ?_
  rintro e w12 ⟨rfl, hb12⟩
  have HP12 := Lib.hid (HP11.out.below hb12 HP11.out.lt)
  have HV12 := Lib.hid (HV11.out.below hb12 HV11.out.lt)
  have HB12 := Lib.hid (HB11.out.trans (hb12.mono HB11.out.size))
  clear hb12
  go_wp2_with fail
  refine (ten0 _).mono ?_
  rintro e w13 ⟨rfl, hb13⟩
  have HP13 := Lib.hid (HP12.out.below hb13 HP12.out.lt)
  have HV13 := Lib.hid (HV12.out.below hb13 HV12.out.lt)
  have HB13 := Lib.hid (HB12.out.trans (hb13.mono HB12.out.size))
  clear hb13
  go_wp2_with fail
  have HRT2 := Lib.hid (kn_rts2 w13)
  have hb14 := (Below.refl w13.heap.size w13).alloc (Nat.le_refl _) (.cells #[.int .u32 167772160, .int .i64 8, .bool false, .bool false, .int .i64 0, .slice none 0 0, .int .u32 167772160, .int .i64 8, .bool false, .bool false, .int .i64 0, .slice none 0 0] 54)
  generalize w13.alloc (.cells #[.int .u32 167772160, .int .i64 8, .bool false, .bool false, .int .i64 0, .slice none 0 0, .int .u32 167772160, .int .i64 8, .bool false, .bool false, .int .i64 0, .slice none 0 0] 54) = w14 at hb14 HRT2 ⊢
  have HP14 := Lib.hid (HP13.out.below hb14 HP13.out.lt)
  have HV14 := Lib.hid (HV13.out.below hb14 HV13.out.lt)
  have HB14 := Lib.hid (HB13.out.trans (hb14.mono HB13.out.size))
  clear hb14
  refine (fmake_bad (dcL_ok [kr0, kr0]) vk _ 2 2 [kr0, kr0] w14 HRT2.out (by decide) (fun i r h hm => dcL_at i r h hm) mk_dup).mono ?_
  rintro e w15 ⟨rfl, hb15⟩
  have HP15 := Lib.hid (HP14.out.below hb15 HP14.out.lt)
  have HV15 := Lib.hid (HV14.out.below hb15 HV14.out.lt)
  have HB15 := Lib.hid (HB14.out.trans (hb15.mono HB14.out.size))
  clear hb15
  go_wp2_with fail
  refine (fmake_kf (dcL_ok []) vk none 0 0 [] w15 ⟨⟨rfl, fun h => absurd h (by decide)⟩, rfl, fun r hr => by simp at hr⟩ (by decide) (fun i r h hm => dcL_at i r h hm) (T := .nil) rfl).mono ?_
  rintro e w16 ⟨nb, rfl, hk16⟩
  have HP16 := Lib.hid (HP15.out.below hk16.below HP15.out.lt)
  have HV16 := Lib.hid (HV15.out.below hk16.below HV15.out.lt)
  have HB16 := Lib.hid (HB15.out.trans (hk16.below.mono HB15.out.size))
  have HPN := Lib.hid (show Calls Tryz.prog 16 #[.pointer (some ⟨nb, 0, none⟩), .int .u32 0, .int .u32 0] w16 fun e w' => e = .returned (.tuple #[.int .i64 0, .int .i64 0]) ∧ Below w16.heap.size w16 w' from by
    refine (kf_pick (dcL_ok []) (dcL_wk []) 0 0 hk16 (by decide) (by decide)).mono fun e w' ⟨h, h2, h3⟩ => ⟨?_, h3⟩
    rw [h]
    rfl)
  clear hk16
  go_wp2_with fail
  refine HPN.out.mono ?_
  rintro e w17 ⟨rfl, hb17⟩
  have HP17 := Lib.hid (HP16.out.below hb17 HP16.out.lt)
  have HV17 := Lib.hid (HV16.out.below hb17 HV16.out.lt)
  have HB17 := Lib.hid (HB16.out.trans (hb17.mono HB16.out.size))
  clear hb17
  go_wp2_with fail
  have b9 : ∀ w, (Instr.build 41 #[(0, .int .i64 2)]).run Tryz.prog w = .ok (.agg X2) w := fun w => by rw [HX2.out]; exact way_build2 w
  have e1 : ∀ w, (Op.equalIn 10000 41 (.agg X2) (.agg X2)).run Tryz.prog w = .ok true w := fun w => by rw [HX2.out]; exact eqs_wy (2, zs0) zs0_len w
  have e2 : ∀ w, (binOp .eql 41 (.agg X2) (.agg X2)).run Tryz.prog w = .ok (.bool true) w := fun w => by rw [run_eql_struct, e1]; rfl
  refine wp_region_stages [(true, 41)] (by kernel_rfl) (by kernel_rfl) fun wz hz hz2 => ?_
  have ZP := Lib.hid (HP17.out.below hz HP17.out.lt)
  have ZV := Lib.hid (HV17.out.below hz HV17.out.lt)
  have ZB := Lib.hid (HB17.out.trans (hz.mono HB17.out.size))
  clear hz hz2
  have q0 := fun (dd : Nat) (os : Array Obj) => ld_pxB (ZP.out.below (below_regrown wz dd os) ZP.out.lt)
  have q1 := fun (dd : Nat) (os : Array Obj) => ld_wyB (ZV.out.below (below_regrown wz dd os) ZV.out.lt) hx1
  have q2 := fun (dd : Nat) (os : Array Obj) => Calls.regrown_of (ten1 (grow (redrawn wz dd) os))
  have q3 := fun (n : Int) (dd : Nat) (os : Array Obj) => Calls.regrown_of ((num14_any n (grow (redrawn wz dd) os)).mono fun _ _ ⟨h, hw⟩ => ⟨h, hw ▸ Below.refl _ _⟩)
  refine wpSt_q ?_
  simp only [List.take_succ_cons, List.take_zero, List.drop_succ_cons, List.drop_zero]
  repeat (go_big_quiet_step (first | with_reducible exact q2 _ _ | with_reducible exact q3 _ _ _))
  refine wpQuiet_nil ?_
  intro _ hw'
  obtain ⟨⟨dq, osq⟩, hw''⟩ := hw'
  subst hw''
  have HBQ := Lib.hid (ZB.out.trans ((below_regrown wz dq osq).mono ZB.out.size))
  clear q0 q1 q2 q3
  generalize grow (redrawn wz dq) osq = wq at HBQ ⊢
  refine wpSt_end ?_
  go_wp2_with fail
  go_ret
  exact ⟨rfl, HBQ.out⟩
/-- An answer (a prefix, a way) is put into variables of the call's own. -/
theorem box_pw (w : World) (a n : Int) (X : Array Value) (h1 : X.size = 257) (h2 : X.all (·.oneCell') = true) : ∃ w1 w2,
    (Instr.storeAt 37 (.pointer (some ⟨w.heap.size, 0, none⟩)) (.agg #[.int .u32 a, .int .i64 n])).run Tryz.prog ((w.alloc (.cells #[.int .u32 0, .int .i64 0] 37)).alloc (.cells wy0 41)) = .ok () w1 ∧
    (Instr.storeAt 41 (.pointer (some ⟨w.heap.size + 1, 0, none⟩)) (.agg X)).run Tryz.prog w1 = .ok () w2 ∧
    Blk w2 w.heap.size 37 #[.int .u32 a, .int .i64 n] ∧ Blk w2 (w.heap.size + 1) 41 X ∧ Below w.heap.size w w2 := by
  obtain ⟨W8, hW8⟩ : ∃ Z, Z = (w.alloc (.cells #[.int .u32 0, .int .i64 0] 37)).alloc (.cells wy0 41) := ⟨_, rfl⟩
  have hz1 : (w.alloc (.cells #[.int .u32 0, .int .i64 0] 37)).heap.size = w.heap.size + 1 := by simp
  have hb8 : Below w.heap.size w W8 := by rw [hW8]; exact ((Below.refl _ _).alloc (Nat.le_refl _) _).alloc (by simp) _
  have hp8 : Blk W8 w.heap.size 37 #[.int .u32 0, .int .i64 0] := by rw [hW8]; exact (Blk.new w _ _).alloc _
  have hv8 : Blk W8 (w.heap.size + 1) 41 wy0 := by
    rw [hW8]
    have := Blk.new (w.alloc (.cells #[.int .u32 0, .int .i64 0] 37)) 41 wy0
    rwa [hz1] at this
  rw [← hW8]
  have hv9 : Blk (W8.setCells w.heap.size 0 [.int .u32 a, .int .i64 n]) (w.heap.size + 1) 41 wy0 := blk_far_setCells (by omega) _ _ _ hv8
  have hp9 : Blk (W8.setCells w.heap.size 0 [.int .u32 a, .int .i64 n]) w.heap.size 37 #[.int .u32 a, .int .i64 n] := blk_setCells hp8 rfl
  exact ⟨_, _, stc_store px_info hp8 rfl rfl (by simp [Value.oneCell']), st_wyB hv9 wy0_size h1 h2, blk_far_setCells (by omega) _ _ _ hp9, blk_setCells hv9 (by rw [h1, wy0_size]), below_setCells (Nat.le_succ _) _ _ _ (below_setCells (Nat.le_refl _) _ _ _ hb8)⟩
/-- A way is put into a variable of the call's own. -/
theorem box_wy (w : World) (X : Array Value) (h1 : X.size = 257) (h2 : X.all (·.oneCell') = true) : ∃ w2,
    (Instr.storeAt 41 (.pointer (some ⟨w.heap.size, 0, none⟩)) (.agg X)).run Tryz.prog (w.alloc (.cells wy0 41)) = .ok () w2 ∧ Blk w2 w.heap.size 41 X ∧ Below w.heap.size w w2 :=
  ⟨_, st_wyB (Blk.new w _ _) wy0_size h1 h2, blk_setCells (Blk.new w _ _) (by rw [h1, wy0_size]), below_setCells (Nat.le_refl _) _ _ _ ((Below.refl _ _).alloc (Nat.le_refl _) _)⟩
theorem wayC_ok {r : Rt} (h : mayR r = true) : (wayC (wayR r)).size = 257 ∧ (wayC (wayR r)).all (·.oneCell') = true := ⟨wyC_size (wayR_len h), wyC_one _ _⟩
end Go.Proofs.YthlommalbkhcjaaGreat
