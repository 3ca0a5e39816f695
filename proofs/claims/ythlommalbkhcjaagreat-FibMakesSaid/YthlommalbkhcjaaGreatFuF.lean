/- law14's num, ten; guidepostref14's Way and May; the document's prefixes; rows of routes. -/
import Derived.Test.YthlommalbkhcjaaGreatFuC
import Derived.Test.YthlommalbkhcjaaGreatSaU
import Derived.Test.YthlommalbkhcjaaGreatFtG
namespace Go.Proofs.YthlommalbkhcjaaGreat
open Go.RowKit Go.Sort
theorem res_cell1 {w : World} {g k : Nat} {cs : Array Value} {t : TypeId} {d : TypeDesc} (hu : Tryz.prog.underlying t = some d) (hd : d.isRow = true) (hi : (Tryz.prog.info? t).map (·.size) = some k) {fn : Func} {p : Tmp} (hf : fn.results = #[.cell p t]) (tmps : Array Value) (hp : tmps.getD p undef = .pointer (some ⟨g, 0, none⟩)) (h : Blk w g t cs) (hc : cs.size = k) :
    (results fn tmps).run Tryz.prog w = .ok (.agg cs) w := by
  have hl := stc_loadVar hu hd hi h hc
  have e1 : tmps[p]?.getD undef = .pointer (some ⟨g, 0, none⟩) := by simpa using hp
  simp only [results, hf]
  simp [e1, asAddr, hl]
theorem num14_any (n : Int) (w : World) : Calls Tryz.prog 13 #[.int .i64 n] w fun e w' => e = .returned (.int .i64 n) ∧ w = w' := by
  go_enter Tryz.func13, Tryz.ntmps13
  go_wp2_with fail
  go_ret
  exact ⟨rfl, rfl⟩
theorem bd_way1 (w : World) (k : Int) : (Instr.build 41 #[(0, .int .i64 k)]).run Tryz.prog w = .ok (.agg (wyC k zs0)) w := by kernel_rfl
theorem bd_way2' (w : World) (k : Int) (f : Nat → Value) : (Instr.build 41 #[(0, .int .i64 k), (1, .agg ((List.range 256).map f).toArray)]).run Tryz.prog w = .ok (.agg ([Value.int .i64 k] ++ ((List.range 256).map f).toArray.toList).toArray) w := by kernel_rfl
theorem bd_way2 (w : World) (k : Int) (zs : List Int) (h : zs.length = 256) : (Instr.build 41 #[(0, .int .i64 k), (1, .agg (arrV zs))]).run Tryz.prog w = .ok (.agg (wyC k zs)) w := by
  have e : arrV zs = ((List.range 256).map fun i => (arrV zs).getD i undef).toArray := by
    apply Array.ext
    · simp [arrV_size, h]
    · intro i h1 h2
      simp [h1]
  unfold wyC
  rw [e]
  exact bd_way2' w k _
set_option maxRecDepth 20000 in
set_option maxHeartbeats 8000000 in
attribute [-go_sem] Instr.storeAt Instr.loadAt Instr.alloc Instr.build in
theorem rway_any (r : Rt) (w : World) (h : RtOk w (fun k => k < w.heap.size) r) (hmr : mayR r = true) : Calls Tryz.prog 53 #[rtV r] w fun e w' => e = .returned (.agg (wayC (wayR r))) ∧ Below w.heap.size w w' := by
  obtain ⟨W0, hW0⟩ : ∃ Z, Z = (w.alloc (.cells #[.int .u32 (r.a : Int), .int .i64 r.m, .bool r.own, .bool r.tk, .int .i64 r.d, .slice r.A r.n r.c] 54)).alloc (.cells wy0 41) := ⟨_, rfl⟩
  have hz1 : (w.alloc (.cells #[.int .u32 (r.a : Int), .int .i64 r.m, .bool r.own, .bool r.tk, .int .i64 r.d, .slice r.A r.n r.c] 54)).heap.size = w.heap.size + 1 := by simp
  have hE : EnW w r wy0 W0 := by
    rw [hW0]
    refine ⟨(Blk.new w _ _).alloc _, ?_, ((Below.refl _ _).alloc (Nat.le_refl _) _).alloc (by simp) _⟩
    have := Blk.new (w.alloc (.cells #[.int .u32 (r.a : Int), .int .i64 r.m, .bool r.own, .bool r.tk, .int .i64 r.d, .slice r.A r.n r.c] 54)) 41 wy0
    rwa [hz1] at this
  have HE := Lib.hid hE
  have HW0 := Lib.hid hW0
  have HOK := Lib.hid h
  have lo := ld_btN (hE.x.cell 2)
  have lt := ld_btN (hE.x.cell 3)
  have ln := ld_nxs (hE.x.cell 5)
  have hal := way_alloc
  have HMR := Lib.hid hmr
  clear hE hW0 h hmr
  go_enter Tryz.func53, Tryz.ntmps53
  unfold rtV
  go_upto_region 1 with (fail)
  rw [← HW0.out]
  clear hal hz1
  by_cases how : r.own = true
  · have HWR := Lib.hid (show wayR r = (1, zs0) by unfold wayR; rw [if_pos how])
    have bd := fun (wx : World) => bd_way1 wx 1
    have st := st_wyB (vs := wyC 1 zs0) HE.out.v wy0_size (wyC_size zs0_len) (wyC_one _ _)
    rw [how] at lo
    go_wp2_with fail
    have hk9 := blk_setCells HE.out.v (show wy0.size = (wyC 1 zs0).size by rw [wy0_size, wyC_size zs0_len])
    refine bodyPost_ret_by (res_cell1 Tryz.underlying41 rfl wy_info rfl _ rfl hk9 (wyC_size zs0_len)) rfl ?_
    exact ⟨by rw [HWR.out]; rfl, below_setCells (Nat.le_succ _) _ _ _ HE.out.b⟩
  · have how' : r.own = false := by simpa using how
    rw [how'] at lo
    by_cases h2 : r.tk = false ∨ r.n = 0
    · have HWR := Lib.hid (show wayR r = (2, zs0) by unfold wayR; rw [if_neg how, if_pos h2])
      have bd := fun (wx : World) => bd_way1 wx 2
      have st := st_wyB (vs := wyC 2 zs0) HE.out.v wy0_size (wyC_size zs0_len) (wyC_one _ _)
      by_cases htk : r.tk = false
      · rw [htk] at lt
        go_wp2_with fail
        have hk9 := blk_setCells HE.out.v (show wy0.size = (wyC 2 zs0).size by rw [wy0_size, wyC_size zs0_len])
        refine bodyPost_ret_by (res_cell1 Tryz.underlying41 rfl wy_info rfl _ rfl hk9 (wyC_size zs0_len)) rfl ?_
        exact ⟨by rw [HWR.out]; rfl, below_setCells (Nat.le_succ _) _ _ _ HE.out.b⟩
      · have htk' : r.tk = true := by simpa using htk
        rw [htk'] at lt
        rw [h2.resolve_left htk] at ln
        go_wp2_with fail
        have hk9 := blk_setCells HE.out.v (show wy0.size = (wyC 2 zs0).size by rw [wy0_size, wyC_size zs0_len])
        refine bodyPost_ret_by (res_cell1 Tryz.underlying41 rfl wy_info rfl _ rfl hk9 (wyC_size zs0_len)) rfl ?_
        exact ⟨by rw [HWR.out]; rfl, below_setCells (Nat.le_succ _) _ _ _ HE.out.b⟩
    · have htk : ¬ r.tk = false := fun e => h2 (.inl e)
      have hn : ¬ r.n = 0 := fun e => h2 (.inr e)
      have htk' : r.tk = true := by simpa using htk
      have HWR := Lib.hid (show wayR r = (3, tableF r.nx) by unfold wayR; rw [if_neg how, if_neg h2])
      have hmf : mayF r.nx = true := by
        have hmr := HMR.out
        unfold mayR at hmr
        rw [decide_eq_false hn] at hmr
        simp at hmr
        exact hmr.2
      have hn1 : ((r.n : Int) == 0) = false := beq_eq_false_iff_ne.2 (by omega)
      have HTB := Lib.hid (rtable_any r.A r.n r.c r.nx (fun k => k < w.heap.size) W0 (HOK.out.rd.keep (Same.ofBelow HE.out.b fun k hk => hk)) HOK.out.l hmf)
      have htl := table_len hmf
      have bd := fun (wx : World) => bd_way2 wx 3 (tableF r.nx) htl
      rw [htk'] at lt
      go_wp2_with fail
      refine HTB.out.mono ?_
      rintro e w3 ⟨rfl, hb3⟩
      have hv3 := HE.out.v.below hb3 HE.out.v.lt
      have st := st_wyB (vs := wyC 3 (tableF r.nx)) hv3 wy0_size (wyC_size htl) (wyC_one _ _)
      have HV3 := Lib.hid hv3
      have HB3 := Lib.hid (HE.out.b.trans (hb3.mono HE.out.b.size))
      clear hb3 hv3
      go_wp2_with fail
      have hk9 := blk_setCells HV3.out (show wy0.size = (wyC 3 (tableF r.nx)).size by rw [wy0_size, wyC_size htl])
      refine bodyPost_ret_by (res_cell1 Tryz.underlying41 rfl wy_info rfl _ rfl hk9 (wyC_size htl)) rfl ?_
      exact ⟨by rw [HWR.out]; rfl, below_setCells (Nat.le_succ _) _ _ _ HB3.out⟩
end Go.Proofs.YthlommalbkhcjaaGreat
namespace Go.Proofs.YthlommalbkhcjaaGreat
open Go.RowKit Go.Sort Go.BigFrame
/-- A prefix, as it comes. -/
structure Px where
  a : Nat
  n : Int
def pB (x : Px) : Bs := bitsB x.a x.n.toNat
def Px.may (x : Px) : Bool := mayB x.a x.n
theorem pB_may {x : Px} (ha : x.a < 2 ^ 32) (h : x.may = true) : (pB x).length ≤ 32 ∧ padB (pB x) = x.a ∧ ((pB x).length : Int) = x.n := by
  obtain ⟨p, h1, h2, h3⟩ := may_bits ha h
  have e : pB x = p := by
    unfold pB
    rw [← h2, ← h3, Int.toNat_natCast]
    exact bits_pad p h1
  rw [e]
  exact ⟨h1, h2, h3⟩
theorem first_any (a n : Nat) (w : World) (ha : a < 2 ^ 32) (hn : n ≤ 32) : Calls Tryz.prog 112 #[.int .u32 (a : Int), .int .i64 (n : Int)] w fun e w' => e = .returned (.int .u32 (firstB a n : Int)) ∧ w = w' := by
  have HA := Lib.hid ha
  clear ha
  have hn2 : (n : Int) ≤ 32 := by omega
  go_enter Tryz.func112, Tryz.ntmps112
  go_wp2
  go_loop [0, 5] (fun x i => ∃ k y : Nat, k ≤ 32 - n ∧ i = .int .i64 (k : Int) ∧ x = .int .u32 (y : Int) ∧ y = a / 2 ^ k) (fun _ i => 32 - n - (intOf i).toNat)
  case atStart => exact ⟨0, a, Nat.zero_le _, rfl, rfl, by simp⟩
  case round =>
    obtain ⟨k, y, hk, rfl, rfl, hy⟩ := hrel
    have HY := Lib.hid hy
    clear hy
    by_cases hlt : k < 32 - n
    · have h1 : (k : Int) < 32 - (n : Int) := by omega
      have h0 : (0 : Int) ≤ y := by omega
      have h2 : (y : Int) < 4294967296 := by have := HY.out; have := Nat.div_le_self a (2 ^ k); have := HA.out; omega
      go_wp2
      go_round
      case rel => exact ⟨k + 1, y / 2, by omega, by simp, by simp, by rw [HY.out, Nat.div_div_eq_div_mul, Nat.pow_succ]⟩
      case measure => simp [intOf]; omega
    · obtain rfl : k = 32 - n := by omega
      have h1 : ¬ (((32 - n : Nat) : Int) < 32 - (n : Int)) := by omega
      obtain ⟨m, hm⟩ : ∃ m, m = 32 - n := ⟨_, rfl⟩
      rw [← hm] at h1 HY ⊢
      have HM := Lib.hid hm
      clear hm hlt hk
      go_wp2
      go_loop [0, 6] (fun x i => ∃ k z : Nat, k ≤ 32 - n ∧ i = .int .i64 (k : Int) ∧ x = .int .u32 (z : Int) ∧ z = y * 2 ^ k) (fun _ i => 32 - n - (intOf i).toNat)
      case atStart => exact ⟨0, y, Nat.zero_le _, rfl, rfl, by simp⟩
      case round =>
        obtain ⟨k, z, hk, rfl, rfl, hz⟩ := hrel
        have HZ := Lib.hid hz
        clear hz
        by_cases hlt : k < 32 - n
        · have h1 : (k : Int) < 32 - (n : Int) := by omega
          have h0 : (0 : Int) ≤ z := by omega
          have hb : z * 2 < 4294967296 := by
            have e : z * 2 = a / 2 ^ m * 2 ^ (k + 1) := by rw [HZ.out, HY.out, Nat.pow_succ, Nat.mul_assoc]
            have h2 : 2 ^ (k + 1) ≤ 2 ^ m := Nat.pow_le_pow_right (by decide) (by have := HM.out; omega)
            have h3 : a / 2 ^ m * 2 ^ (k + 1) ≤ a / 2 ^ m * 2 ^ m := Nat.mul_le_mul_left _ h2
            have h4 := Nat.div_mul_le_self a (2 ^ m)
            have := HA.out
            omega
          have hb2 : (z : Int) * 2 < 4294967296 := by omega
          go_wp2
          go_round
          case rel => exact ⟨k + 1, z * 2, by omega, by simp, by simp, by rw [HZ.out, Nat.pow_succ, Nat.mul_assoc]⟩
          case measure => simp [intOf]; omega
        · have h1 : ¬ ((k : Int) < 32 - (n : Int)) := by omega
          go_wp2
          go_ret
          refine ⟨?_, rfl⟩
          have hkm : k = m := by have := HM.out; omega
          rw [HZ.out, HY.out, hkm, HM.out]
          rfl
theorem firstB_self {a n : Nat} : firstB a n = a ↔ a % 2 ^ (32 - n) = 0 := by
  unfold firstB
  have := Nat.div_add_mod a (2 ^ (32 - n))
  rw [Nat.mul_comm] at this
  omega

/-- MayPrefix. -/
theorem mayp_any (x : Px) (w : World) (ha : x.a < 2 ^ 32) : Calls Tryz.prog 108 #[pxV x.a x.n] w fun e w' => e = .returned (.bool x.may) ∧ Below w.heap.size w w' := by
  obtain ⟨a, n⟩ := x
  simp only at ha ⊢
  by_cases h0 : 0 ≤ n
  case neg =>
    have hb : Px.may ⟨a, n⟩ = false := decide_eq_false fun h => h0 h.1
    rw [hb]
    have d0 : decide ((0 : Int) ≤ n) = false := decide_eq_false h0
    clear hb
    go_enter Tryz.func108, Tryz.ntmps108
    go_wp2
    go_quiet (fail)
    go_wp2
    go_ret
    exact ⟨rfl, below_box _ _ _⟩
  by_cases h1 : n ≤ 32
  case neg =>
    have hb : Px.may ⟨a, n⟩ = false := decide_eq_false fun h => h1 h.2.1
    rw [hb]
    have d1 : decide (n ≤ 32) = false := decide_eq_false h1
    clear hb
    go_enter Tryz.func108, Tryz.ntmps108
    go_wp2
    go_quiet (fail)
    go_wp2
    go_ret
    exact ⟨rfl, below_box _ _ _⟩
  obtain ⟨k, rfl⟩ : ∃ k : Nat, n = (k : Int) := ⟨n.toNat, by omega⟩
  have hk : k ≤ 32 := by omega
  have hm : Px.may ⟨a, (k : Int)⟩ = (((firstB a k : Nat) : Int) == (a : Int)) := by
    show mayB a k = _
    unfold mayB
    rw [Bool.eq_iff_iff, decide_eq_true_iff, beq_iff_eq, Int.toNat_natCast]
    have := firstB_self (a := a) (n := k)
    constructor
    · intro h; rw [this.2 h.2.2]
    · intro h; exact ⟨by omega, by omega, this.1 (by omega)⟩
  have HM := Lib.hid hm
  have HC := Lib.hid (fun (w : World) => first_any a k w ha hk)
  clear hm
  go_enter Tryz.func108, Tryz.ntmps108
  go_wp2
  go_quiet ((go_at_call 112; exact Calls.quiet_of_same ((HC.out _).mono fun _ _ ⟨h, hw⟩ => ⟨h, hw.symm⟩)))
  go_wp2
  go_ret
  exact ⟨ret_boolT HM.out.symm, below_box _ _ _⟩

/-- Does a prefix have an address? -/
def hasP (x : Px) (b : Nat) : Bool := x.may && decide (firstB b x.n.toNat = x.a)
theorem hasP_iff {x : Px} {b : Nat} (ha : x.a < 2 ^ 32) (hb : b < 2 ^ 32) (hm : x.may = true) : hasP x b = decide (pB x <+: bitsB b 32) := by
  obtain ⟨h1, h2, h3⟩ := pB_may ha hm
  unfold hasP
  rw [hm, Bool.true_and, decide_eq_decide, ← has_iff h1 hb, h2]
  have : x.n.toNat = (pB x).length := by omega
  rw [this]
theorem has_any (x : Px) (b : Nat) (w : World) (ha : x.a < 2 ^ 32) (hb : b < 2 ^ 32) : Calls Tryz.prog 56 #[pxV x.a x.n, .int .u32 (b : Int)] w fun e w' => e = .returned (.bool (hasP x b)) ∧ Below w.heap.size w w' := by
  obtain ⟨w1, hw1⟩ : ∃ w1, w1 = w.alloc (.cells #[.int .u32 (x.a : Int), .int .i64 x.n] 37) := ⟨_, rfl⟩
  have hk : Blk w1 w.heap.size 37 #[.int .u32 (x.a : Int), .int .i64 x.n] := by rw [hw1]; exact Blk.new _ _ _
  have hB : Below w.heap.size w w1 := by rw [hw1]; exact (Below.refl _ _).alloc (Nat.le_refl _) _
  have y0 : w1.cell? ⟨w.heap.size, 0, none⟩ = some (.int .u32 (x.a : Int)) := hk.cell 0
  have y1 : w1.cell? ⟨w.heap.size, 1, none⟩ = some (.int .i64 x.n) := hk.cell 1
  have HB := Lib.hid hB
  have HW := Lib.hid hw1
  have HM := Lib.hid (fun wx => mayp_any x wx ha)
  cases hmay : x.may with
  | false =>
    have hres : hasP x b = false := by unfold hasP; rw [hmay]; rfl
    rw [hres]
    rw [hmay] at HM
    clear hk hB hw1 hres hmay
    go_enter Tryz.func56, Tryz.ntmps56
    go_wp2_with fail
    rw [← HW.out]
    have k0 := cell_regrown y0
    have k1 := cell_regrown y1
    have hcm := fun (d : Nat) (os : Array Obj) => Calls.regrown_of (HM.out (grow (redrawn w1 d) os))
    refine wp_region_quiet_below (by kernel_rfl) (by kernel_rfl) ?_
    repeat (go_big_quiet_step (exact hcm _ _))
    refine wpQuiet_nil ?_
    intro _ hw'
    obtain ⟨⟨dq, osq⟩, hw''⟩ := hw'
    subst hw''
    have hbq := below_regrown w1 dq osq
    generalize grow (redrawn w1 dq) osq = wq at hbq
    clear k0 k1 hcm
    go_wp2_with fail
    go_ret
    exact ⟨rfl, HB.out.trans (hbq.mono HB.out.size)⟩
  | true =>
    obtain ⟨p1, p2, p3⟩ := pB_may ha hmay
    obtain ⟨n, hn⟩ : ∃ n : Nat, x.n = (n : Int) := ⟨(pB x).length, p3.symm⟩
    have hn32 : n ≤ 32 := by omega
    have hres : hasP x b = (((firstB b n : Nat) : Int) == (x.a : Int)) := by
      unfold hasP
      rw [hmay, Bool.true_and, hn, Int.toNat_natCast, Bool.eq_iff_iff, decide_eq_true_iff, beq_iff_eq]
      omega
    have HR := Lib.hid hres
    have HF := Lib.hid (fun wx => first_any b n wx hb hn32)
    rw [hmay] at HM
    rw [hn] at y1 HM HW ⊢
    clear hk hB hw1 hres hmay p1 p2 p3 hn
    go_enter Tryz.func56, Tryz.ntmps56
    go_wp2_with fail
    rw [← HW.out]
    have k0 := cell_regrown y0
    have k1 := cell_regrown y1
    have hcm := fun (d : Nat) (os : Array Obj) => Calls.regrown_of (HM.out (grow (redrawn w1 d) os))
    have hcf := fun (d : Nat) (os : Array Obj) => Calls.regrown_of ((HF.out (grow (redrawn w1 d) os)).mono fun r w' h => (⟨h.1, h.2 ▸ Below.refl _ _⟩ : r = .returned (.int .u32 (firstB b n : Int)) ∧ Below (grow (redrawn w1 d) os).heap.size (grow (redrawn w1 d) os) w'))
    refine wp_region_quiet_below (by kernel_rfl) (by kernel_rfl) ?_
    repeat (go_big_quiet_step (first | exact hcm _ _ | exact hcf _ _))
    refine wpQuiet_nil ?_
    intro _ hw'
    obtain ⟨⟨dq, osq⟩, hw''⟩ := hw'
    subst hw''
    have hbq := below_regrown w1 dq osq
    generalize grow (redrawn w1 dq) osq = wq at hbq
    clear k0 k1 hcm hcf
    go_wp2_with fail
    go_ret
    exact ⟨ret_boolT HR.out.symm, HB.out.trans (hbq.mono HB.out.size)⟩
set_option maxRecDepth 20000 in
set_option maxHeartbeats 4000000 in
theorem rmay_any (r : Rt) (w : World) (h : RtOk w (fun k => k < w.heap.size) r) : Calls Tryz.prog 51 #[rtV r] w fun e w' => e = .returned (.bool (mayR r)) ∧ Below w.heap.size w w' := by
  obtain ⟨a, m, own, tk, d, A, n, c, nx⟩ := r
  obtain ⟨ha, hl, hsm, hrd⟩ := h
  dsimp only at ha hl hsm hrd
  unfold rtV mayR
  dsimp only
  obtain ⟨W1, hW1⟩ : ∃ Z, Z = w.alloc (.cells #[.int .u32 (a : Int), .int .i64 m, .bool own, .bool tk, .int .i64 d, .slice A n c] 54) := ⟨_, rfl⟩
  have hk1 : Blk W1 w.heap.size 54 #[.int .u32 (a : Int), .int .i64 m, .bool own, .bool tk, .int .i64 d, .slice A n c] := by rw [hW1]; exact Blk.new _ _ _
  have hb1 : Below w.heap.size w W1 := by rw [hW1]; exact (Below.refl _ _).alloc (Nat.le_refl _) _
  have HMP := Lib.hid (mayp_any ⟨a, m⟩ W1 ha)
  have x0 : W1.cell? ⟨w.heap.size, 0, none⟩ = some (.int .u32 (a : Int)) := hk1.cell 0
  have x1 : W1.cell? ⟨w.heap.size, 1, none⟩ = some (.int .i64 m) := hk1.cell 1
  have HK1 := Lib.hid hk1
  have HB1 := Lib.hid hb1
  have HW1 := Lib.hid hW1
  have HRD := Lib.hid hrd
  have HL := Lib.hid hl
  have HSM := Lib.hid (fun (wx : World) (hs : Same (fun k => k < w.heap.size) w wx) => rmay13_any A n c nx (fun k => k < w.heap.size) wx (HRD.out.keep hs) HL.out hsm)
  clear hk1 hb1 hW1 hrd hl
  unfold Px.may at HMP
  dsimp only at HMP
  cases hm : mayB a m with
  | false =>
    rw [hm] at HMP
    go_enter Tryz.func51, Tryz.ntmps51
    go_upto_region 1 with (fail)
    rw [← HW1.out]
    go_wp2_with (go_at_call 108; refine HMP.out.mono ?_; rintro e w3 ⟨rfl, hb3⟩; have HB3 := Lib.hid (HB1.out.trans (hb3.mono HB1.out.size)); clear hb3)
    go_ret
    exact ⟨rfl, HB3.out⟩
  | true =>
    rw [hm] at HMP
    go_enter Tryz.func51, Tryz.ntmps51
    go_upto_region 1 with (fail)
    rw [← HW1.out]
    by_cases hn0 : n = 0
    · subst hn0
      go_wp2_with (go_at_call 108; refine HMP.out.mono ?_; rintro e w3 ⟨rfl, hb3⟩; have x5 : w3.cell? ⟨w.heap.size, 5, none⟩ = some (.slice A 0 c) := (HK1.out.below hb3 HK1.out.lt).cell 5; have HB3 := Lib.hid (HB1.out.trans (hb3.mono HB1.out.size)); clear hb3)
      go_ret
      exact ⟨rfl, HB3.out⟩
    · have hn1 : ((n : Int) == 0) = false := beq_eq_false_iff_ne.2 (by omega)
      have hn2 : decide (n = 0) = false := decide_eq_false hn0
      go_wp2_with (first
        | (go_at_call 108; refine HMP.out.mono ?_; rintro e w3 ⟨rfl, hb3⟩; have x5 : w3.cell? ⟨w.heap.size, 5, none⟩ = some (.slice A n c) := (HK1.out.below hb3 HK1.out.lt).cell 5; have HB3 := Lib.hid (HB1.out.trans (hb3.mono HB1.out.size)); clear hb3)
        | (go_at_call 109; refine (HSM.out w3 (Same.ofBelow HB3.out fun k hk => hk)).mono ?_; rintro e w4 ⟨rfl, hb4⟩; have HB4 := Lib.hid (HB3.out.trans (hb4.mono HB3.out.size)); clear hb4))
      go_ret
      exact ⟨by rw [hn2]; simp, HB4.out⟩
end Go.Proofs.YthlommalbkhcjaaGreat
namespace Go.Proofs.YthlommalbkhcjaaGreat
open Go.RowKit Go.Sort
theorem ten_any (b n a : Nat) (hb : b < 256) (ha : a = 167772160 + b * 65536) (w : World) : Calls Tryz.prog 46 #[.int .u32 (b : Int), .int .i64 (n : Int)] w fun e w' => e = .returned (pxV a n) ∧ Below w.heap.size w w' := by
  have h1 : (b : Int) < 256 := by omega
  have HA := Lib.hid ha
  clear ha
  go_enter Tryz.func46, Tryz.ntmps46
  go_wp2
  have e : (167772160 + (b : Int) * 65536) = (a : Int) := by rw [HA.out]; omega
  rw [e]
  exact bodyPost_ret (v := pxV a n) (by simp [results, Tryz.results46, go_sem]) rfl ⟨rfl, (Below.refl _ _).alloc (Nat.le_refl _) _⟩
/-- A row of routes, each with its ways. -/
structure RtsM (w : World) (I : Nat → Prop) (A : Option Addr) (n : Nat) (l : List Rt) : Prop where
  row : Reads w I 6 A n (l.flatMap rtC)
  len : l.length = n
  each : ∀ r ∈ l, RtOk w I r
theorem RtsM.keep {w w' : World} {I : Nat → Prop} {A : Option Addr} {n : Nat} {l : List Rt} (h : RtsM w I A n l) (hs : Same I w w') : RtsM w' I A n l := ⟨h.row.keep hs, h.len, fun r hr => (h.each r hr).keep hs⟩
theorem RtsM.mono {w : World} {I J : Nat → Prop} {A : Option Addr} {n : Nat} {l : List Rt} (h : RtsM w I A n l) (hs : ∀ k, I k → J k) : RtsM w J A n l := ⟨h.row.mono hs, h.len, fun r hr => (h.each r hr).mono hs⟩
theorem rtC_get : ∀ {l : List Rt} {k : Nat} {r : Rt}, l[k]? = some r → ∀ {j : Nat}, j < 6 → (l.flatMap rtC)[k * 6 + j]? = (rtC r)[j]?
  | [], k, r, h, _, _ => by simp at h
  | a :: l, 0, r, h, j, hj => by
    simp at h
    subst h
    rw [List.flatMap_cons, Nat.zero_mul, Nat.zero_add, List.getElem?_append_left (by show j < 6; exact hj)]
  | a :: l, k + 1, r, h, j, hj => by
    have := rtC_get (l := l) (k := k) (r := r) (by simpa using h) hj
    rw [List.flatMap_cons, List.getElem?_append_right (by show 6 ≤ _; omega), ← this]
    congr 1
    show (k + 1) * 6 + j - 6 = _
    omega
end Go.Proofs.YthlommalbkhcjaaGreat
