/- slices.Equal, ip.Same, the document's Same, May, Fits and the like. -/
import Derived.Test.YtfddkehnhkfjeaaIpF
namespace Go.Proofs.Ytfddkehnhkfjeaa
open Go.RowKit Go.Sort Go.BigFrame
theorem take_eq_succ {x y : By} {k : Nat} (hx : k < x.length) (hy : k < y.length) (h : x.take k = y.take k) (e : x[k] = y[k]) : x.take (k + 1) = y.take (k + 1) := by
  rw [List.take_succ_eq_append_getElem hx, List.take_succ_eq_append_getElem hy, h, e]
set_option maxHeartbeats 800000 in
theorem equal_any (A : Option Addr) (n c : Nat) (x : By) (A2 : Option Addr) (n2 c2 : Nat) (y : By) (I J : Nat → Prop) (w : World) (h : Reads w I 1 A n (bytesV x)) (h2 : Reads w J 1 A2 n2 (bytesV y)) (hn : x.length = n) (hn2 : y.length = n2) (hsm : n ≤ 1000000) :
    Calls Try.prog 71 #[.slice A n c, .slice A2 n2 c2] w fun e w' => e = .returned (.bool (x == y)) ∧ Below w.heap.size w w' := by
  have HR := Lib.hid h
  have HR2 := Lib.hid h2
  have HL := Lib.hid hn
  have HL2 := Lib.hid hn2
  by_cases hnn : n = n2
  · subst hnn
    clear h h2 hn hn2
    go_enter Try.func71, Try.ntmps71
    go_wp2_with fail
    go_loopw [13] (fun i wr => ∃ k : Nat, k ≤ n ∧ i = .int .i64 (k : Int) ∧ x.take k = y.take k ∧ Below w.heap.size w wr) (fun i _ => n - (intOf i).toNat)
    case atStart => exact ⟨0, Nat.zero_le _, rfl, rfl, Below.refl _ _⟩
    case round =>
      obtain ⟨k, hk, rfl, ht, hb⟩ := hrel
      have HT := Lib.hid ht
      have HB := Lib.hid hb
      have hrd := (HR.out.lt).keep (Same.ofBelow hb fun k hk => hk.2)
      have hrd2 := (HR2.out.lt).keep (Same.ofBelow hb fun k hk => hk.2)
      clear ht hb
      by_cases hlt : k < n
      · have hx : k < x.length := by rw [HL.out]; exact hlt
        have hy : k < y.length := by rw [HL2.out]; exact hlt
        obtain ⟨ad, rfl, _, hc0⟩ := byte_at hrd hx
        obtain ⟨ae, rfl, _, hc1⟩ := byte_at hrd2 hy
        obtain ⟨b0, hb0⟩ : ∃ b0, b0 = x[k].toNat := ⟨_, rfl⟩
        obtain ⟨b1, hb1⟩ : ∃ b1, b1 = y[k].toNat := ⟨_, rfl⟩
        rw [← hb0] at hc0
        rw [← hb1] at hc1
        have hi0 : (0 : Int) ≤ k := by omega
        have hi1 : (k : Int) < n := by omega
        have hd0 : decide ((k : Int) < (n : Int)) = true := decide_eq_true (by omega)
        have hd1 : decide (k < n) = true := decide_eq_true hlt
        by_cases he : b0 = b1
        · have hxy : x[k] = y[k] := UInt8.toNat_inj.1 (by rw [← hb0, ← hb1, he])
          have HT2 := Lib.hid (take_eq_succ hx hy HT.out hxy)
          have hne : ((b0 : Int) != (b1 : Int)) = false := by rw [bne_eq_false_iff_eq]; omega
          have hne2 : (b0 != b1) = false := by rw [bne_eq_false_iff_eq]; exact he
          clear hb0 hb1 hxy he hx hy hrd hrd2
          go_wp2_with fail
          go_quiet (fail)
          have HBW := Lib.hid (HB.out.trans ⟨rfl, rfl, rfl, Nat.le_refl _, fun _ _ => rfl⟩ : Below w.heap.size w (wr.drewN nq))
          go_wp2_with fail
          go_roundw
          case rel => exact ⟨k + 1, by omega, rfl, HT2.out, HBW.out⟩
          case measure => simp [intOf]; omega
        · have hres : (x == y) = false := by
            rw [beq_eq_false_iff_ne]
            rintro rfl
            exact he (by rw [hb0, hb1])
          have hne : ((b0 : Int) != (b1 : Int)) = true := by rw [bne_iff_ne]; omega
          have hne2 : (b0 != b1) = true := by rw [bne_iff_ne]; exact he
          have HRES := Lib.hid hres
          clear hb0 hb1 he hx hy hrd hrd2 hres
          go_wp2_with fail
          go_quiet (fail)
          have HBW := Lib.hid (HB.out.trans ⟨rfl, rfl, rfl, Nat.le_refl _, fun _ _ => rfl⟩ : Below w.heap.size w (wr.drewN nq))
          go_wp2_with fail
          go_ret
          exact ⟨by rw [HRES.out]; rfl, HBW.out⟩
      · obtain rfl : k = n := by omega
        have hd0 : decide ((k : Int) < (k : Int)) = false := decide_eq_false (by omega)
        have hd1 : decide (k < k) = false := decide_eq_false (by omega)
        have hres : (x == y) = true := by
          have := HT.out
          rw [List.take_of_length_le (by rw [HL.out]; exact Nat.le_refl _), List.take_of_length_le (by rw [HL2.out]; exact Nat.le_refl _)] at this
          rw [this]
          exact beq_self_eq_true _
        have HRES := Lib.hid hres
        clear hres hd0 hrd hrd2
        go_wp2_with fail
        go_ret
        exact ⟨by rw [HRES.out]; rfl, HB.out⟩
  · have hres : (x == y) = false := by
      rw [beq_eq_false_iff_ne]
      rintro rfl
      exact hnn (by rw [← hn, ← hn2])
    have hne : ((n : Int) != (n2 : Int)) = true := by rw [bne_iff_ne]; omega
    have hne2 : (n != n2) = true := by rw [bne_iff_ne]; exact hnn
    have HRES := Lib.hid hres
    clear h h2 hn hn2 hnn hres
    go_enter Try.func71, Try.ntmps71
    go_wp2_with fail
    go_ret
    exact ⟨by rw [HRES.out]; rfl, Below.refl _ _⟩

/-! ### Same -/
def sameH (a b : Hd) : Bool := a.tos == b.tos && a.id == b.id && a.evil == b.evil && a.df == b.df && a.mf == b.mf && a.off == b.off && a.ttl == b.ttl && a.proto == b.proto && a.src == b.src && a.dst == b.dst && a.opts == b.opts
theorem sameH_iff (a b : Hd) : sameH a b = true ↔ a = b := by
  unfold sameH
  simp only [Bool.and_eq_true, beq_iff_eq]
  constructor
  · rintro ⟨⟨⟨⟨⟨⟨⟨⟨⟨⟨h1, h2⟩, h3⟩, h4⟩, h5⟩, h6⟩, h7⟩, h8⟩, h9⟩, h10⟩, h11⟩
    cases a
    cases b
    simp only at h1 h2 h3 h4 h5 h6 h7 h8 h9 h10 h11
    subst h1 h2 h3 h4 h5 h6 h7 h8 h9 h10 h11
    rfl
  · rintro rfl
    exact ⟨⟨⟨⟨⟨⟨⟨⟨⟨⟨rfl, rfl⟩, rfl⟩, rfl⟩, rfl⟩, rfl⟩, rfl⟩, rfl⟩, rfl⟩, rfl⟩, rfl⟩
theorem cell_lt {w : World} {p : Addr} {u : Value} (h : w.cell? p = some u) : p.block < w.heap.size := World.block_lt_of_cell? w p h

theorem bytes_beq (x y : By) : ((⟨x.toArray⟩ : ByteArray) == ⟨y.toArray⟩) = (x == y) := by
  show (x.toArray == y.toArray) = (x == y)
  simp
set_option maxRecDepth 100000 in
set_option maxHeartbeats 8000000 in
theorem rsame_any (a b : Hd) (v v2 : Value) (I J : Nat → Prop) (w : World) (hv : Sl8 w I v a.opts) (hv2 : Sl8 w J v2 b.opts) :
    Calls Try.prog 18 #[hdV a v, hdV b v2] w fun e w' => e = .returned (.bool (sameH a b)) ∧ Below w.heap.size w w' := by
  obtain ⟨A, c, rfl, hc, hr⟩ := hv
  obtain ⟨A2, c2, rfl, hc2, hr2⟩ := hv2
  obtain ⟨W1, hW1⟩ : ∃ W1, W1 = ((w.alloc (.cells (hdC a (.slice A a.opts.length c)) 28)).alloc (.cells (hdC b (.slice A2 b.opts.length c2)) 28)) := ⟨_, rfl⟩
  have hb0 : Below w.heap.size w W1 := by rw [hW1]; exact ((Below.refl _ _).alloc (Nat.le_refl _) _).alloc (by simp) _
  have ka : Blk W1 w.heap.size 28 (hdC a (.slice A a.opts.length c)) := by rw [hW1]; exact (Blk.new _ _ _).alloc _
  have kb : Blk W1 (w.heap.size + 1) 28 (hdC b (.slice A2 b.opts.length c2)) := by
    rw [hW1]
    have := Blk.new (w.alloc (.cells (hdC a (.slice A a.opts.length c)) 28)) 28 (hdC b (.slice A2 b.opts.length c2))
    simpa using this
  have hr' := hr.lt.keep (Same.ofBelow hb0 fun k hk => hk.2)
  have hr2' := hr2.lt.keep (Same.ofBelow hb0 fun k hk => hk.2)
  have s1 := fun (d : Nat) (os : Array Obj) => run_str (grow (redrawn W1 d) os) _ A a.opts c (hr'.lt.keep (Same.ofBelow (below_regrown W1 d os) fun k hk => hk.2))
  have s2 := fun (d : Nat) (os : Array Obj) => run_str (grow (redrawn W1 d) os) _ A2 b.opts c2 (hr2'.lt.keep (Same.ofBelow (below_regrown W1 d os) fun k hk => hk.2))
  obtain ⟨x, hx⟩ : ∃ x, x = a.opts := ⟨_, rfl⟩
  obtain ⟨y, hy⟩ : ∃ y, y = b.opts := ⟨_, rfl⟩
  obtain ⟨B11, h11⟩ : ∃ B, B = (a.opts == b.opts) := ⟨_, rfl⟩
  have e11 := h11.symm
  rw [← hx] at s1
  rw [← hy] at s2
  rw [← hx] at ka
  rw [← hy] at kb
  have e12 : (x == y) = B11 := by rw [hx, hy]; exact e11
  clear e11
  rw [← hx, ← hy] at hW1 ⊢
  obtain ⟨n, hn⟩ : ∃ n, n = x.length := ⟨_, rfl⟩
  obtain ⟨n2, hn2⟩ : ∃ n2, n2 = y.length := ⟨_, rfl⟩
  rw [← hn] at s1
  rw [← hn2] at s2
  rw [← hn] at ka
  rw [← hn2] at kb
  rw [← hn, ← hn2] at hW1 ⊢
  obtain ⟨B1, h1⟩ : ∃ B, B = (a.tos == b.tos) := ⟨_, rfl⟩
  have e1 : ((a.tos : Int) == (b.tos : Int)) = B1 := by rw [h1, Bool.eq_iff_iff, beq_iff_eq, beq_iff_eq]; omega
  have g1 := h1.symm
  obtain ⟨B2, h2⟩ : ∃ B, B = (a.id == b.id) := ⟨_, rfl⟩
  have e2 : ((a.id : Int) == (b.id : Int)) = B2 := by rw [h2, Bool.eq_iff_iff, beq_iff_eq, beq_iff_eq]; omega
  have g2 := h2.symm
  obtain ⟨B3, h3⟩ : ∃ B, B = (a.evil == b.evil) := ⟨_, rfl⟩
  have e3 := h3.symm
  obtain ⟨B4, h4⟩ : ∃ B, B = (a.df == b.df) := ⟨_, rfl⟩
  have e4 := h4.symm
  obtain ⟨B5, h5⟩ : ∃ B, B = (a.mf == b.mf) := ⟨_, rfl⟩
  have e5 := h5.symm
  obtain ⟨B6, h6⟩ : ∃ B, B = (a.off == b.off) := ⟨_, rfl⟩
  have e6 := h6.symm
  obtain ⟨B7, h7⟩ : ∃ B, B = (a.ttl == b.ttl) := ⟨_, rfl⟩
  have e7 : ((a.ttl : Int) == (b.ttl : Int)) = B7 := by rw [h7, Bool.eq_iff_iff, beq_iff_eq, beq_iff_eq]; omega
  have g7 := h7.symm
  obtain ⟨B8, h8⟩ : ∃ B, B = (a.proto == b.proto) := ⟨_, rfl⟩
  have e8 : ((a.proto : Int) == (b.proto : Int)) = B8 := by rw [h8, Bool.eq_iff_iff, beq_iff_eq, beq_iff_eq]; omega
  have g8 := h8.symm
  obtain ⟨B9, h9⟩ : ∃ B, B = (a.src == b.src) := ⟨_, rfl⟩
  have e9 : ((a.src : Int) == (b.src : Int)) = B9 := by rw [h9, Bool.eq_iff_iff, beq_iff_eq, beq_iff_eq]; omega
  have g9 := h9.symm
  obtain ⟨B10, h10⟩ : ∃ B, B = (a.dst == b.dst) := ⟨_, rfl⟩
  have e10 : ((a.dst : Int) == (b.dst : Int)) = B10 := by rw [h10, Bool.eq_iff_iff, beq_iff_eq, beq_iff_eq]; omega
  have g10 := h10.symm
  have HS : Hid (sameH a b = (B1 && B2 && B3 && B4 && B5 && B6 && B7 && B8 && B9 && B10 && B11)) := Lib.hid (by unfold sameH; rw [← h1, ← h2, ← h3, ← h4, ← h5, ← h6, ← h7, ← h8, ← h9, ← h10, ← h11])
  have ca0 := cell_regrown (show W1.cell? ⟨w.heap.size, 0, none⟩ = some (.int .u8 (a.tos : Int)) from ka.cell 0)
  have cb0 := cell_regrown (show W1.cell? ⟨w.heap.size + 1, 0, none⟩ = some (.int .u8 (b.tos : Int)) from kb.cell 0)
  have ca1 := cell_regrown (show W1.cell? ⟨w.heap.size, 1, none⟩ = some (.int .u16 (a.id : Int)) from ka.cell 1)
  have cb1 := cell_regrown (show W1.cell? ⟨w.heap.size + 1, 1, none⟩ = some (.int .u16 (b.id : Int)) from kb.cell 1)
  have ca2 := cell_regrown (show W1.cell? ⟨w.heap.size, 2, none⟩ = some (.bool a.evil) from ka.cell 2)
  have cb2 := cell_regrown (show W1.cell? ⟨w.heap.size + 1, 2, none⟩ = some (.bool b.evil) from kb.cell 2)
  have ca3 := cell_regrown (show W1.cell? ⟨w.heap.size, 3, none⟩ = some (.bool a.df) from ka.cell 3)
  have cb3 := cell_regrown (show W1.cell? ⟨w.heap.size + 1, 3, none⟩ = some (.bool b.df) from kb.cell 3)
  have ca4 := cell_regrown (show W1.cell? ⟨w.heap.size, 4, none⟩ = some (.bool a.mf) from ka.cell 4)
  have cb4 := cell_regrown (show W1.cell? ⟨w.heap.size + 1, 4, none⟩ = some (.bool b.mf) from kb.cell 4)
  have ca5 := cell_regrown (show W1.cell? ⟨w.heap.size, 5, none⟩ = some (.int .i64 a.off) from ka.cell 5)
  have cb5 := cell_regrown (show W1.cell? ⟨w.heap.size + 1, 5, none⟩ = some (.int .i64 b.off) from kb.cell 5)
  have ca6 := cell_regrown (show W1.cell? ⟨w.heap.size, 6, none⟩ = some (.int .u8 (a.ttl : Int)) from ka.cell 6)
  have cb6 := cell_regrown (show W1.cell? ⟨w.heap.size + 1, 6, none⟩ = some (.int .u8 (b.ttl : Int)) from kb.cell 6)
  have ca7 := cell_regrown (show W1.cell? ⟨w.heap.size, 7, none⟩ = some (.int .u8 (a.proto : Int)) from ka.cell 7)
  have cb7 := cell_regrown (show W1.cell? ⟨w.heap.size + 1, 7, none⟩ = some (.int .u8 (b.proto : Int)) from kb.cell 7)
  have ca8 := cell_regrown (show W1.cell? ⟨w.heap.size, 8, none⟩ = some (.int .u32 (a.src : Int)) from ka.cell 8)
  have cb8 := cell_regrown (show W1.cell? ⟨w.heap.size + 1, 8, none⟩ = some (.int .u32 (b.src : Int)) from kb.cell 8)
  have ca9 := cell_regrown (show W1.cell? ⟨w.heap.size, 9, none⟩ = some (.int .u32 (a.dst : Int)) from ka.cell 9)
  have cb9 := cell_regrown (show W1.cell? ⟨w.heap.size + 1, 9, none⟩ = some (.int .u32 (b.dst : Int)) from kb.cell 9)
  have ca10 := cell_regrown (show W1.cell? ⟨w.heap.size, 10, none⟩ = some (.slice A n c) from ka.cell 10)
  have cb10 := cell_regrown (show W1.cell? ⟨w.heap.size + 1, 10, none⟩ = some (.slice A2 n2 c2) from kb.cell 10)
  unfold hdC at hW1
  unfold hdV
  have HB0 := Lib.hid hb0
  have HW1 := Lib.hid hW1
  clear hb0 hW1 hr hr2 hr' hr2' hc hc2 hx hy hn hn2 ka kb h11 h1 h2 h3 h4 h5 h6 h7 h8 h9 h10
  go_enter Try.func18, Try.ntmps18
  go_upto_region 1 with (fail)
  rw [← HW1.out]

  simp only [List.append_eq, List.cons_append, List.nil_append]
  refine wp_region_calm ?_
  repeat (go_big_quiet_step (fail))
  cases B1 with
  | false =>
    repeat (go_big_quiet_step (fail))
    refine wpQuiet_nil ?_
    intro w9 hw9
    have HB9 := Lib.hid (HB0.out.trans (hw9.mono HB0.out.size))
    clear hw9
    go_wp2_with fail
    go_ret
    exact ⟨by rw [HS.out]; rfl, HB9.out⟩
  | true =>
    repeat (go_big_quiet_step (fail))
    cases B2 with
    | false =>
      repeat (go_big_quiet_step (fail))
      refine wpQuiet_nil ?_
      intro w9 hw9
      have HB9 := Lib.hid (HB0.out.trans (hw9.mono HB0.out.size))
      clear hw9
      go_wp2_with fail
      go_ret
      exact ⟨by rw [HS.out]; rfl, HB9.out⟩
    | true =>
      repeat (go_big_quiet_step (fail))
      cases B3 with
      | false =>
        repeat (go_big_quiet_step (fail))
        refine wpQuiet_nil ?_
        intro w9 hw9
        have HB9 := Lib.hid (HB0.out.trans (hw9.mono HB0.out.size))
        clear hw9
        go_wp2_with fail
        go_ret
        exact ⟨by rw [HS.out]; rfl, HB9.out⟩
      | true =>
        repeat (go_big_quiet_step (fail))
        cases B4 with
        | false =>
          repeat (go_big_quiet_step (fail))
          refine wpQuiet_nil ?_
          intro w9 hw9
          have HB9 := Lib.hid (HB0.out.trans (hw9.mono HB0.out.size))
          clear hw9
          go_wp2_with fail
          go_ret
          exact ⟨by rw [HS.out]; rfl, HB9.out⟩
        | true =>
          repeat (go_big_quiet_step (fail))
          cases B5 with
          | false =>
            repeat (go_big_quiet_step (fail))
            refine wpQuiet_nil ?_
            intro w9 hw9
            have HB9 := Lib.hid (HB0.out.trans (hw9.mono HB0.out.size))
            clear hw9
            go_wp2_with fail
            go_ret
            exact ⟨by rw [HS.out]; rfl, HB9.out⟩
          | true =>
            repeat (go_big_quiet_step (fail))
            cases B6 with
            | false =>
              repeat (go_big_quiet_step (fail))
              refine wpQuiet_nil ?_
              intro w9 hw9
              have HB9 := Lib.hid (HB0.out.trans (hw9.mono HB0.out.size))
              clear hw9
              go_wp2_with fail
              go_ret
              exact ⟨by rw [HS.out]; rfl, HB9.out⟩
            | true =>
              repeat (go_big_quiet_step (fail))
              cases B7 with
              | false =>
                repeat (go_big_quiet_step (fail))
                refine wpQuiet_nil ?_
                intro w9 hw9
                have HB9 := Lib.hid (HB0.out.trans (hw9.mono HB0.out.size))
                clear hw9
                go_wp2_with fail
                go_ret
                exact ⟨by rw [HS.out]; rfl, HB9.out⟩
              | true =>
                repeat (go_big_quiet_step (fail))
                cases B8 with
                | false =>
                  repeat (go_big_quiet_step (fail))
                  refine wpQuiet_nil ?_
                  intro w9 hw9
                  have HB9 := Lib.hid (HB0.out.trans (hw9.mono HB0.out.size))
                  clear hw9
                  go_wp2_with fail
                  go_ret
                  exact ⟨by rw [HS.out]; rfl, HB9.out⟩
                | true =>
                  repeat (go_big_quiet_step (fail))
                  cases B9 with
                  | false =>
                    repeat (go_big_quiet_step (fail))
                    refine wpQuiet_nil ?_
                    intro w9 hw9
                    have HB9 := Lib.hid (HB0.out.trans (hw9.mono HB0.out.size))
                    clear hw9
                    go_wp2_with fail
                    go_ret
                    exact ⟨by rw [HS.out]; rfl, HB9.out⟩
                  | true =>
                    repeat (go_big_quiet_step (fail))
                    cases B10 with
                    | false =>
                      repeat (go_big_quiet_step (fail))
                      refine wpQuiet_nil ?_
                      intro w9 hw9
                      have HB9 := Lib.hid (HB0.out.trans (hw9.mono HB0.out.size))
                      clear hw9
                      go_wp2_with fail
                      go_ret
                      exact ⟨by rw [HS.out]; rfl, HB9.out⟩
                    | true =>
                      repeat (go_big_quiet_step (fail))
                      cases B11 with
                      | false =>
                        repeat (go_big_quiet_step (fail))
                        refine wpQuiet_nil ?_
                        intro w9 hw9
                        have HB9 := Lib.hid (HB0.out.trans (hw9.mono HB0.out.size))
                        clear hw9
                        go_wp2_with fail
                        go_ret
                        exact ⟨by rw [HS.out]; rfl, HB9.out⟩
                      | true =>
                        repeat (go_big_quiet_step (fail))
                        refine wpQuiet_nil ?_
                        intro w9 hw9
                        have HB9 := Lib.hid (HB0.out.trans (hw9.mono HB0.out.size))
                        clear hw9
                        go_wp2_with fail
                        go_ret
                        exact ⟨by rw [HS.out]; rfl, HB9.out⟩
set_option maxRecDepth 100000 in
set_option maxHeartbeats 8000000 in
theorem same_any (a b : Hd) (v v2 : Value) (I J : Nat → Prop) (w : World) (hv : Sl8 w I v a.opts) (hv2 : Sl8 w J v2 b.opts) (hsm : a.opts.length ≤ 1000000) :
    Calls Try.prog 38 #[hdV a v, hdV b v2] w fun e w' => e = .returned (.bool (sameH a b)) ∧ Below w.heap.size w w' := by
  obtain ⟨A, c, rfl, hc, hr⟩ := hv
  obtain ⟨A2, c2, rfl, hc2, hr2⟩ := hv2
  obtain ⟨W1, hW1⟩ : ∃ W1, W1 = ((w.alloc (.cells (hdC a (.slice A a.opts.length c)) 28)).alloc (.cells (hdC b (.slice A2 b.opts.length c2)) 28)) := ⟨_, rfl⟩
  have hb0 : Below w.heap.size w W1 := by rw [hW1]; exact ((Below.refl _ _).alloc (Nat.le_refl _) _).alloc (by simp) _
  have ka : Blk W1 w.heap.size 28 (hdC a (.slice A a.opts.length c)) := by rw [hW1]; exact (Blk.new _ _ _).alloc _
  have kb : Blk W1 (w.heap.size + 1) 28 (hdC b (.slice A2 b.opts.length c2)) := by
    rw [hW1]
    have := Blk.new (w.alloc (.cells (hdC a (.slice A a.opts.length c)) 28)) 28 (hdC b (.slice A2 b.opts.length c2))
    simpa using this
  have hr' := hr.lt.keep (Same.ofBelow hb0 fun k hk => hk.2)
  have hr2' := hr2.lt.keep (Same.ofBelow hb0 fun k hk => hk.2)
  have hE := equal_any A a.opts.length c a.opts A2 b.opts.length c2 b.opts _ _ W1 hr' hr2' rfl rfl (by omega)
  obtain ⟨x, hx⟩ : ∃ x, x = a.opts := ⟨_, rfl⟩
  obtain ⟨y, hy⟩ : ∃ y, y = b.opts := ⟨_, rfl⟩
  obtain ⟨B11, h11⟩ : ∃ B, B = (a.opts == b.opts) := ⟨_, rfl⟩
  have e11 := h11.symm
  rw [← hx, ← hy] at hE
  rw [← hx] at ka
  rw [← hy] at kb
  have e12 : (x == y) = B11 := by rw [hx, hy]; exact e11
  clear e11
  rw [← hx, ← hy] at hW1 ⊢
  obtain ⟨n, hn⟩ : ∃ n, n = x.length := ⟨_, rfl⟩
  obtain ⟨n2, hn2⟩ : ∃ n2, n2 = y.length := ⟨_, rfl⟩
  rw [← hn, ← hn2] at hE
  rw [e12] at hE
  rw [← hn] at ka
  rw [← hn2] at kb
  rw [← hn, ← hn2] at hW1 ⊢
  obtain ⟨B1, h1⟩ : ∃ B, B = (a.tos == b.tos) := ⟨_, rfl⟩
  have e1 : ((a.tos : Int) == (b.tos : Int)) = B1 := by rw [h1, Bool.eq_iff_iff, beq_iff_eq, beq_iff_eq]; omega
  have g1 := h1.symm
  obtain ⟨B2, h2⟩ : ∃ B, B = (a.id == b.id) := ⟨_, rfl⟩
  have e2 : ((a.id : Int) == (b.id : Int)) = B2 := by rw [h2, Bool.eq_iff_iff, beq_iff_eq, beq_iff_eq]; omega
  have g2 := h2.symm
  obtain ⟨B3, h3⟩ : ∃ B, B = (a.evil == b.evil) := ⟨_, rfl⟩
  have e3 := h3.symm
  obtain ⟨B4, h4⟩ : ∃ B, B = (a.df == b.df) := ⟨_, rfl⟩
  have e4 := h4.symm
  obtain ⟨B5, h5⟩ : ∃ B, B = (a.mf == b.mf) := ⟨_, rfl⟩
  have e5 := h5.symm
  obtain ⟨B6, h6⟩ : ∃ B, B = (a.off == b.off) := ⟨_, rfl⟩
  have e6 := h6.symm
  obtain ⟨B7, h7⟩ : ∃ B, B = (a.ttl == b.ttl) := ⟨_, rfl⟩
  have e7 : ((a.ttl : Int) == (b.ttl : Int)) = B7 := by rw [h7, Bool.eq_iff_iff, beq_iff_eq, beq_iff_eq]; omega
  have g7 := h7.symm
  obtain ⟨B8, h8⟩ : ∃ B, B = (a.proto == b.proto) := ⟨_, rfl⟩
  have e8 : ((a.proto : Int) == (b.proto : Int)) = B8 := by rw [h8, Bool.eq_iff_iff, beq_iff_eq, beq_iff_eq]; omega
  have g8 := h8.symm
  obtain ⟨B9, h9⟩ : ∃ B, B = (a.src == b.src) := ⟨_, rfl⟩
  have e9 : ((a.src : Int) == (b.src : Int)) = B9 := by rw [h9, Bool.eq_iff_iff, beq_iff_eq, beq_iff_eq]; omega
  have g9 := h9.symm
  obtain ⟨B10, h10⟩ : ∃ B, B = (a.dst == b.dst) := ⟨_, rfl⟩
  have e10 : ((a.dst : Int) == (b.dst : Int)) = B10 := by rw [h10, Bool.eq_iff_iff, beq_iff_eq, beq_iff_eq]; omega
  have g10 := h10.symm
  have HS : Hid (sameH a b = (B1 && B2 && B3 && B4 && B5 && B6 && B7 && B8 && B9 && B10 && B11)) := Lib.hid (by unfold sameH; rw [← h1, ← h2, ← h3, ← h4, ← h5, ← h6, ← h7, ← h8, ← h9, ← h10, ← h11])
  unfold hdC at hW1
  unfold hdV
  have HE := Lib.hid hE
  have HB0 := Lib.hid hb0
  have HW1 := Lib.hid hW1
  have HKA := Lib.hid ka
  have HKB := Lib.hid kb
  have ca10 : W1.cell? ⟨w.heap.size, 10, none⟩ = some (.slice A n c) := ka.cell 10
  have cb10 : W1.cell? ⟨w.heap.size + 1, 10, none⟩ = some (.slice A2 n2 c2) := kb.cell 10
  clear hb0 hW1 hr hr2 hr' hr2' hc hc2 hx hy hn hn2 ka kb h11 hE e12 hsm h1 h2 h3 h4 h5 h6 h7 h8 h9 h10
  go_enter Try.func38, Try.ntmps38
  go_upto_region 1 with (fail)
  rw [← HW1.out]
  go_wp2_with fail
  refine HE.out.mono ?_
  rintro e w2 ⟨rfl, hb2⟩
  have hka := HKA.out.below hb2 HKA.out.lt
  have hkb := HKB.out.below hb2 HKB.out.lt
  have HB2 := Lib.hid (HB0.out.trans (hb2.mono HB0.out.size))
  clear hb2 ca10 cb10
  have da0 : w2.cell? ⟨w.heap.size, 0, none⟩ = some (.int .u8 (a.tos : Int)) := hka.cell 0
  have ca0 := cell_regrown da0
  have db0 : w2.cell? ⟨w.heap.size + 1, 0, none⟩ = some (.int .u8 (b.tos : Int)) := hkb.cell 0
  have cb0 := cell_regrown db0
  have da1 : w2.cell? ⟨w.heap.size, 1, none⟩ = some (.int .u16 (a.id : Int)) := hka.cell 1
  have ca1 := cell_regrown da1
  have db1 : w2.cell? ⟨w.heap.size + 1, 1, none⟩ = some (.int .u16 (b.id : Int)) := hkb.cell 1
  have cb1 := cell_regrown db1
  have da2 : w2.cell? ⟨w.heap.size, 2, none⟩ = some (.bool a.evil) := hka.cell 2
  have ca2 := cell_regrown da2
  have db2 : w2.cell? ⟨w.heap.size + 1, 2, none⟩ = some (.bool b.evil) := hkb.cell 2
  have cb2 := cell_regrown db2
  have da3 : w2.cell? ⟨w.heap.size, 3, none⟩ = some (.bool a.df) := hka.cell 3
  have ca3 := cell_regrown da3
  have db3 : w2.cell? ⟨w.heap.size + 1, 3, none⟩ = some (.bool b.df) := hkb.cell 3
  have cb3 := cell_regrown db3
  have da4 : w2.cell? ⟨w.heap.size, 4, none⟩ = some (.bool a.mf) := hka.cell 4
  have ca4 := cell_regrown da4
  have db4 : w2.cell? ⟨w.heap.size + 1, 4, none⟩ = some (.bool b.mf) := hkb.cell 4
  have cb4 := cell_regrown db4
  have da5 : w2.cell? ⟨w.heap.size, 5, none⟩ = some (.int .i64 a.off) := hka.cell 5
  have ca5 := cell_regrown da5
  have db5 : w2.cell? ⟨w.heap.size + 1, 5, none⟩ = some (.int .i64 b.off) := hkb.cell 5
  have cb5 := cell_regrown db5
  have da6 : w2.cell? ⟨w.heap.size, 6, none⟩ = some (.int .u8 (a.ttl : Int)) := hka.cell 6
  have ca6 := cell_regrown da6
  have db6 : w2.cell? ⟨w.heap.size + 1, 6, none⟩ = some (.int .u8 (b.ttl : Int)) := hkb.cell 6
  have cb6 := cell_regrown db6
  have da7 : w2.cell? ⟨w.heap.size, 7, none⟩ = some (.int .u8 (a.proto : Int)) := hka.cell 7
  have ca7 := cell_regrown da7
  have db7 : w2.cell? ⟨w.heap.size + 1, 7, none⟩ = some (.int .u8 (b.proto : Int)) := hkb.cell 7
  have cb7 := cell_regrown db7
  have da8 : w2.cell? ⟨w.heap.size, 8, none⟩ = some (.int .u32 (a.src : Int)) := hka.cell 8
  have ca8 := cell_regrown da8
  have db8 : w2.cell? ⟨w.heap.size + 1, 8, none⟩ = some (.int .u32 (b.src : Int)) := hkb.cell 8
  have cb8 := cell_regrown db8
  have da9 : w2.cell? ⟨w.heap.size, 9, none⟩ = some (.int .u32 (a.dst : Int)) := hka.cell 9
  have ca9 := cell_regrown da9
  have db9 : w2.cell? ⟨w.heap.size + 1, 9, none⟩ = some (.int .u32 (b.dst : Int)) := hkb.cell 9
  have cb9 := cell_regrown db9
  clear hka hkb
  go_upto_region 2 with (fail)
  refine wp_region_calm ?_
  repeat (go_big_quiet_step (fail))
  cases B1 with
  | false =>
    repeat (go_big_quiet_step (fail))
    refine wpQuiet_nil ?_
    intro w3 hw3
    have HB3 := Lib.hid (HB2.out.trans (hw3.mono HB2.out.size))
    have fa6 := cell_regrown ((hw3.cell (cell_lt da6)).trans da6)
    have fb6 := cell_regrown ((hw3.cell (cell_lt db6)).trans db6)
    have fa7 := cell_regrown ((hw3.cell (cell_lt da7)).trans da7)
    have fb7 := cell_regrown ((hw3.cell (cell_lt db7)).trans db7)
    have fa8 := cell_regrown ((hw3.cell (cell_lt da8)).trans da8)
    have fb8 := cell_regrown ((hw3.cell (cell_lt db8)).trans db8)
    have fa9 := cell_regrown ((hw3.cell (cell_lt da9)).trans da9)
    have fb9 := cell_regrown ((hw3.cell (cell_lt db9)).trans db9)
    clear hw3 ca0 ca1 ca2 ca3 ca4 ca5 ca6 ca7 ca8 ca9 cb0 cb1 cb2 cb3 cb4 cb5 cb6 cb7 cb8 cb9
    go_upto_region 3 with (fail)
    refine wp_region_calm ?_
    cases B11 with
    | false =>
      repeat (go_big_quiet_step (fail))
      refine wpQuiet_nil ?_
      intro w9 hw9
      have HB9 := Lib.hid (HB3.out.trans (hw9.mono HB3.out.size))
      clear hw9
      go_wp2_with fail
      go_ret
      exact ⟨by rw [HS.out]; first | rfl | simp, HB9.out⟩
    | true =>
      repeat (go_big_quiet_step (fail))
      refine wpQuiet_nil ?_
      intro w9 hw9
      have HB9 := Lib.hid (HB3.out.trans (hw9.mono HB3.out.size))
      clear hw9
      go_wp2_with fail
      go_ret
      exact ⟨by rw [HS.out]; first | rfl | simp, HB9.out⟩
  | true =>
    repeat (go_big_quiet_step (fail))
    cases B2 with
    | false =>
      repeat (go_big_quiet_step (fail))
      refine wpQuiet_nil ?_
      intro w3 hw3
      have HB3 := Lib.hid (HB2.out.trans (hw3.mono HB2.out.size))
      have fa6 := cell_regrown ((hw3.cell (cell_lt da6)).trans da6)
      have fb6 := cell_regrown ((hw3.cell (cell_lt db6)).trans db6)
      have fa7 := cell_regrown ((hw3.cell (cell_lt da7)).trans da7)
      have fb7 := cell_regrown ((hw3.cell (cell_lt db7)).trans db7)
      have fa8 := cell_regrown ((hw3.cell (cell_lt da8)).trans da8)
      have fb8 := cell_regrown ((hw3.cell (cell_lt db8)).trans db8)
      have fa9 := cell_regrown ((hw3.cell (cell_lt da9)).trans da9)
      have fb9 := cell_regrown ((hw3.cell (cell_lt db9)).trans db9)
      clear hw3 ca0 ca1 ca2 ca3 ca4 ca5 ca6 ca7 ca8 ca9 cb0 cb1 cb2 cb3 cb4 cb5 cb6 cb7 cb8 cb9
      go_upto_region 3 with (fail)
      refine wp_region_calm ?_
      cases B11 with
      | false =>
        repeat (go_big_quiet_step (fail))
        refine wpQuiet_nil ?_
        intro w9 hw9
        have HB9 := Lib.hid (HB3.out.trans (hw9.mono HB3.out.size))
        clear hw9
        go_wp2_with fail
        go_ret
        exact ⟨by rw [HS.out]; first | rfl | simp, HB9.out⟩
      | true =>
        repeat (go_big_quiet_step (fail))
        refine wpQuiet_nil ?_
        intro w9 hw9
        have HB9 := Lib.hid (HB3.out.trans (hw9.mono HB3.out.size))
        clear hw9
        go_wp2_with fail
        go_ret
        exact ⟨by rw [HS.out]; first | rfl | simp, HB9.out⟩
    | true =>
      repeat (go_big_quiet_step (fail))
      cases B3 with
      | false =>
        repeat (go_big_quiet_step (fail))
        refine wpQuiet_nil ?_
        intro w3 hw3
        have HB3 := Lib.hid (HB2.out.trans (hw3.mono HB2.out.size))
        have fa6 := cell_regrown ((hw3.cell (cell_lt da6)).trans da6)
        have fb6 := cell_regrown ((hw3.cell (cell_lt db6)).trans db6)
        have fa7 := cell_regrown ((hw3.cell (cell_lt da7)).trans da7)
        have fb7 := cell_regrown ((hw3.cell (cell_lt db7)).trans db7)
        have fa8 := cell_regrown ((hw3.cell (cell_lt da8)).trans da8)
        have fb8 := cell_regrown ((hw3.cell (cell_lt db8)).trans db8)
        have fa9 := cell_regrown ((hw3.cell (cell_lt da9)).trans da9)
        have fb9 := cell_regrown ((hw3.cell (cell_lt db9)).trans db9)
        clear hw3 ca0 ca1 ca2 ca3 ca4 ca5 ca6 ca7 ca8 ca9 cb0 cb1 cb2 cb3 cb4 cb5 cb6 cb7 cb8 cb9
        go_upto_region 3 with (fail)
        refine wp_region_calm ?_
        cases B11 with
        | false =>
          repeat (go_big_quiet_step (fail))
          refine wpQuiet_nil ?_
          intro w9 hw9
          have HB9 := Lib.hid (HB3.out.trans (hw9.mono HB3.out.size))
          clear hw9
          go_wp2_with fail
          go_ret
          exact ⟨by rw [HS.out]; first | rfl | simp, HB9.out⟩
        | true =>
          repeat (go_big_quiet_step (fail))
          refine wpQuiet_nil ?_
          intro w9 hw9
          have HB9 := Lib.hid (HB3.out.trans (hw9.mono HB3.out.size))
          clear hw9
          go_wp2_with fail
          go_ret
          exact ⟨by rw [HS.out]; first | rfl | simp, HB9.out⟩
      | true =>
        repeat (go_big_quiet_step (fail))
        cases B4 with
        | false =>
          repeat (go_big_quiet_step (fail))
          refine wpQuiet_nil ?_
          intro w3 hw3
          have HB3 := Lib.hid (HB2.out.trans (hw3.mono HB2.out.size))
          have fa6 := cell_regrown ((hw3.cell (cell_lt da6)).trans da6)
          have fb6 := cell_regrown ((hw3.cell (cell_lt db6)).trans db6)
          have fa7 := cell_regrown ((hw3.cell (cell_lt da7)).trans da7)
          have fb7 := cell_regrown ((hw3.cell (cell_lt db7)).trans db7)
          have fa8 := cell_regrown ((hw3.cell (cell_lt da8)).trans da8)
          have fb8 := cell_regrown ((hw3.cell (cell_lt db8)).trans db8)
          have fa9 := cell_regrown ((hw3.cell (cell_lt da9)).trans da9)
          have fb9 := cell_regrown ((hw3.cell (cell_lt db9)).trans db9)
          clear hw3 ca0 ca1 ca2 ca3 ca4 ca5 ca6 ca7 ca8 ca9 cb0 cb1 cb2 cb3 cb4 cb5 cb6 cb7 cb8 cb9
          go_upto_region 3 with (fail)
          refine wp_region_calm ?_
          cases B11 with
          | false =>
            repeat (go_big_quiet_step (fail))
            refine wpQuiet_nil ?_
            intro w9 hw9
            have HB9 := Lib.hid (HB3.out.trans (hw9.mono HB3.out.size))
            clear hw9
            go_wp2_with fail
            go_ret
            exact ⟨by rw [HS.out]; first | rfl | simp, HB9.out⟩
          | true =>
            repeat (go_big_quiet_step (fail))
            refine wpQuiet_nil ?_
            intro w9 hw9
            have HB9 := Lib.hid (HB3.out.trans (hw9.mono HB3.out.size))
            clear hw9
            go_wp2_with fail
            go_ret
            exact ⟨by rw [HS.out]; first | rfl | simp, HB9.out⟩
        | true =>
          repeat (go_big_quiet_step (fail))
          cases B5 with
          | false =>
            repeat (go_big_quiet_step (fail))
            refine wpQuiet_nil ?_
            intro w3 hw3
            have HB3 := Lib.hid (HB2.out.trans (hw3.mono HB2.out.size))
            have fa6 := cell_regrown ((hw3.cell (cell_lt da6)).trans da6)
            have fb6 := cell_regrown ((hw3.cell (cell_lt db6)).trans db6)
            have fa7 := cell_regrown ((hw3.cell (cell_lt da7)).trans da7)
            have fb7 := cell_regrown ((hw3.cell (cell_lt db7)).trans db7)
            have fa8 := cell_regrown ((hw3.cell (cell_lt da8)).trans da8)
            have fb8 := cell_regrown ((hw3.cell (cell_lt db8)).trans db8)
            have fa9 := cell_regrown ((hw3.cell (cell_lt da9)).trans da9)
            have fb9 := cell_regrown ((hw3.cell (cell_lt db9)).trans db9)
            clear hw3 ca0 ca1 ca2 ca3 ca4 ca5 ca6 ca7 ca8 ca9 cb0 cb1 cb2 cb3 cb4 cb5 cb6 cb7 cb8 cb9
            go_upto_region 3 with (fail)
            refine wp_region_calm ?_
            cases B11 with
            | false =>
              repeat (go_big_quiet_step (fail))
              refine wpQuiet_nil ?_
              intro w9 hw9
              have HB9 := Lib.hid (HB3.out.trans (hw9.mono HB3.out.size))
              clear hw9
              go_wp2_with fail
              go_ret
              exact ⟨by rw [HS.out]; first | rfl | simp, HB9.out⟩
            | true =>
              repeat (go_big_quiet_step (fail))
              refine wpQuiet_nil ?_
              intro w9 hw9
              have HB9 := Lib.hid (HB3.out.trans (hw9.mono HB3.out.size))
              clear hw9
              go_wp2_with fail
              go_ret
              exact ⟨by rw [HS.out]; first | rfl | simp, HB9.out⟩
          | true =>
            repeat (go_big_quiet_step (fail))
            cases B6 with
            | false =>
              repeat (go_big_quiet_step (fail))
              refine wpQuiet_nil ?_
              intro w3 hw3
              have HB3 := Lib.hid (HB2.out.trans (hw3.mono HB2.out.size))
              have fa6 := cell_regrown ((hw3.cell (cell_lt da6)).trans da6)
              have fb6 := cell_regrown ((hw3.cell (cell_lt db6)).trans db6)
              have fa7 := cell_regrown ((hw3.cell (cell_lt da7)).trans da7)
              have fb7 := cell_regrown ((hw3.cell (cell_lt db7)).trans db7)
              have fa8 := cell_regrown ((hw3.cell (cell_lt da8)).trans da8)
              have fb8 := cell_regrown ((hw3.cell (cell_lt db8)).trans db8)
              have fa9 := cell_regrown ((hw3.cell (cell_lt da9)).trans da9)
              have fb9 := cell_regrown ((hw3.cell (cell_lt db9)).trans db9)
              clear hw3 ca0 ca1 ca2 ca3 ca4 ca5 ca6 ca7 ca8 ca9 cb0 cb1 cb2 cb3 cb4 cb5 cb6 cb7 cb8 cb9
              go_upto_region 3 with (fail)
              refine wp_region_calm ?_
              cases B11 with
              | false =>
                repeat (go_big_quiet_step (fail))
                refine wpQuiet_nil ?_
                intro w9 hw9
                have HB9 := Lib.hid (HB3.out.trans (hw9.mono HB3.out.size))
                clear hw9
                go_wp2_with fail
                go_ret
                exact ⟨by rw [HS.out]; first | rfl | simp, HB9.out⟩
              | true =>
                repeat (go_big_quiet_step (fail))
                refine wpQuiet_nil ?_
                intro w9 hw9
                have HB9 := Lib.hid (HB3.out.trans (hw9.mono HB3.out.size))
                clear hw9
                go_wp2_with fail
                go_ret
                exact ⟨by rw [HS.out]; first | rfl | simp, HB9.out⟩
            | true =>
              repeat (go_big_quiet_step (fail))
              refine wpQuiet_nil ?_
              intro w3 hw3
              have HB3 := Lib.hid (HB2.out.trans (hw3.mono HB2.out.size))
              have fa6 := cell_regrown ((hw3.cell (cell_lt da6)).trans da6)
              have fb6 := cell_regrown ((hw3.cell (cell_lt db6)).trans db6)
              have fa7 := cell_regrown ((hw3.cell (cell_lt da7)).trans da7)
              have fb7 := cell_regrown ((hw3.cell (cell_lt db7)).trans db7)
              have fa8 := cell_regrown ((hw3.cell (cell_lt da8)).trans da8)
              have fb8 := cell_regrown ((hw3.cell (cell_lt db8)).trans db8)
              have fa9 := cell_regrown ((hw3.cell (cell_lt da9)).trans da9)
              have fb9 := cell_regrown ((hw3.cell (cell_lt db9)).trans db9)
              clear hw3 ca0 ca1 ca2 ca3 ca4 ca5 ca6 ca7 ca8 ca9 cb0 cb1 cb2 cb3 cb4 cb5 cb6 cb7 cb8 cb9
              go_upto_region 3 with (fail)
              refine wp_region_calm ?_
              cases B11 with
              | false =>
                repeat (go_big_quiet_step (fail))
                refine wpQuiet_nil ?_
                intro w9 hw9
                have HB9 := Lib.hid (HB3.out.trans (hw9.mono HB3.out.size))
                clear hw9
                go_wp2_with fail
                go_ret
                exact ⟨by rw [HS.out]; first | rfl | simp, HB9.out⟩
              | true =>
                repeat (go_big_quiet_step (fail))
                cases B7 with
                | false =>
                  repeat (go_big_quiet_step (fail))
                  refine wpQuiet_nil ?_
                  intro w9 hw9
                  have HB9 := Lib.hid (HB3.out.trans (hw9.mono HB3.out.size))
                  clear hw9
                  go_wp2_with fail
                  go_ret
                  exact ⟨by rw [HS.out]; first | rfl | simp, HB9.out⟩
                | true =>
                  repeat (go_big_quiet_step (fail))
                  cases B8 with
                  | false =>
                    repeat (go_big_quiet_step (fail))
                    refine wpQuiet_nil ?_
                    intro w9 hw9
                    have HB9 := Lib.hid (HB3.out.trans (hw9.mono HB3.out.size))
                    clear hw9
                    go_wp2_with fail
                    go_ret
                    exact ⟨by rw [HS.out]; first | rfl | simp, HB9.out⟩
                  | true =>
                    repeat (go_big_quiet_step (fail))
                    cases B9 with
                    | false =>
                      repeat (go_big_quiet_step (fail))
                      refine wpQuiet_nil ?_
                      intro w9 hw9
                      have HB9 := Lib.hid (HB3.out.trans (hw9.mono HB3.out.size))
                      clear hw9
                      go_wp2_with fail
                      go_ret
                      exact ⟨by rw [HS.out]; first | rfl | simp, HB9.out⟩
                    | true =>
                      repeat (go_big_quiet_step (fail))
                      cases B10 with
                      | false =>
                        repeat (go_big_quiet_step (fail))
                        refine wpQuiet_nil ?_
                        intro w9 hw9
                        have HB9 := Lib.hid (HB3.out.trans (hw9.mono HB3.out.size))
                        clear hw9
                        go_wp2_with fail
                        go_ret
                        exact ⟨by rw [HS.out]; first | rfl | simp, HB9.out⟩
                      | true =>
                        repeat (go_big_quiet_step (fail))
                        refine wpQuiet_nil ?_
                        intro w9 hw9
                        have HB9 := Lib.hid (HB3.out.trans (hw9.mono HB3.out.size))
                        clear hw9
                        go_wp2_with fail
                        go_ret
                        exact ⟨by rw [HS.out]; first | rfl | simp, HB9.out⟩
end Go.Proofs.Ytfddkehnhkfjeaa
