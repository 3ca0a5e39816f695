/- SplitShares' walk. -/
import Derived.Test.YtnifhhaalmlmnaaSaU
import Derived.Test.YtnifhhaalmlmnaaSaA
namespace Go.Proofs.Ytnifhhaalmlmnaa
open Go.RowKit Go.Sort
theorem wanted_of {o : Oper} {val : Nat → Value} {g : Nat} {b : Bool} (hg : o.guard = some (g, b)) (hv : val g = .bool b) : wantedV o val = true := by
  unfold wantedV
  rw [hg]
  simp [hv]
def SaΦ (A A6 : Option Addr) (n c c6 gb h i : Nat) (z : Int) (T : Array Value) (l : List Nx) : Nat → Value → World → Prop
  | 0, u, _ => u = .slice A6 n c6
  | 1, u, _ => u = .slice A n c
  | 2, u, w => ∃ A7 c7, u = .slice A7 n c7 ∧ Reads w (fun k => k < w.heap.size) 1 A7 n (natsV (sharesF l))
  | 3, u, _ => u = .bool true
  | 4, u, _ => u = .bool true
  | 5, u, _ => u = .agg T
  | 6, u, _ => u = .slice A n c
  | 7, u, _ => u = .agg T
  | 8, u, _ => u = .bool true
  | 9, u, _ => u = .bool true
  | 10, u, _ => u = .bool true
  | 11, u, _ => u = .int .i64 0
  | 12, u, _ => u = .int .i64 0
  | 13, u, _ => u = .int .i64 0
  | 14, u, _ => u = .int .i64 0
  | 15, u, _ => u = .int .i64 0
  | 16, u, _ => u = .bool true
  | 17, u, _ => u = .bool true
  | 18, u, _ => u = .bool true
  | 19, u, _ => u = .agg T
  | 20, u, _ => u = .int .u32 (h : Int)
  | 21, u, _ => u = .int .i64 z
  | 22, u, _ => u = .int .u32 (h : Int)
  | 23, u, _ => u = .int .u32 (i : Int)
  | 24, u, _ => u = .int .i64 (i : Int)
  | 25, u, _ => u = .pointer (some ⟨gb, i, none⟩)
  | 26, u, _ => u = .int .i64 z
  | 27, u, _ => u = .bool true
  | 28, u, _ => u = .bool true
  | 29, u, _ => u = .bool true
  | 30, u, _ => u = .bool true
  | 31, u, _ => u = .bool true
  | 32, u, _ => u = .bool true
  | _, _, _ => True
theorem SaΦ.keep {A A6 : Option Addr} {n c c6 gb h i : Nat} {z : Int} {T : Array Value} {l : List Nx} {wx wy : World} (hb : Below wx.heap.size wx wy) : ∀ j u, SaΦ A A6 n c c6 gb h i z T l j u wx → SaΦ A A6 n c c6 gb h i z T l j u wy := by
  intro j u h
  unfold SaΦ at h ⊢
  split at h
  all_goals first
    | exact h
    | (obtain ⟨A7, c7, h1, h2⟩ := h; exact ⟨A7, c7, h1, (h2.keep (Same.ofBelow hb fun _ hk => hk)).mono fun _ hk => Nat.lt_of_lt_of_le hk hb.size⟩)

theorem nx_loadA {w : World} {a : Addr} {p d : Int} (h : w.cell? a = some (.int .i64 p) ∧ w.cell? ⟨a.block, a.off + 1, none⟩ = some (.int .i64 d)) : (Instr.loadAt 30 (.pointer (some a))).run Try.prog w = .ok (.agg #[.int .i64 p, .int .i64 d]) w := by
  obtain ⟨h1, h2⟩ := h
  simp [go_sem, h1, h2]
/-- An array's variable, new, with what stands there. -/
theorem arr_var {w w1 : World} {T Z : Array Value} (hb : Below w.heap.size w w1) (hz : Z.size = 256) (hs : T.size = 256) (ho : T.all (·.oneCell') = true) :
    ∃ w2, (Instr.storeAt 32 (.pointer (some ⟨w1.heap.size, 0, none⟩)) (.agg T)).run Try.prog (w1.alloc (.cells Z 32)) = .ok () w2 ∧ Below w.heap.size w w2 ∧ Blk w2 w1.heap.size 32 T :=
  ⟨_, arr_store (Blk.new w1 _ _) hz hs ho, below_setCellsZ (g := w1.heap.size) hb.size _ 0 _ (hb.alloc hb.size _), blk_setCellsZ (Blk.new w1 _ _) (by rw [hz, hs])⟩
theorem arr_i : ∃ i, Try.prog.info? 3 = some i := by
  have := info_i64
  cases h : Try.prog.info? 3 with
  | none => rw [h] at this; cases this
  | some i => exact ⟨i, rfl⟩
theorem int_cells : Try.prog.cellsOf 3 = 1 := by kernel_rfl
theorem arr_eqIn (zs : List Int) (hz : zs.length = 256) (w : World) : (Op.equalIn 10000 32 (.agg (arrV zs)) (.agg (arrV zs))).run Try.prog w = .ok true w := by
  obtain ⟨i, hi⟩ := arr_i
  rw [run_equalIn_array (P := Try.prog) w 9999 (arrV zs) (arrV zs) Try.underlying32 hi, int_cells]
  have key : ∀ is : List Nat, (∀ j ∈ is, j < 256) → (Op.eqItems 9999 3 1 (arrV zs) (arrV zs) is).run Try.prog w = .ok true w := fun is => by
    induction is with
    | nil => intro _; simp [Op.eqItems]
    | cons j is ih =>
      intro h
      have hj := h j (by simp)
      obtain ⟨z, hzz⟩ : ∃ z, zs[j]? = some z := ⟨zs[j]'(by omega), List.getElem?_eq_getElem _⟩
      have hp : (part 3 (arrV zs) (j * 1)).run Try.prog w = .ok (.int .i64 z) w := run_part_plain (P := Try.prog) (w := w) (by kernel_rfl) (by rw [Nat.mul_one]; exact arrV_get hzz)
      unfold Op.eqItems
      simp only [Sem.run_bind, hp, Result.andThen_ok]
      rw [run_equalIn_int (P := Try.prog) (w := w) 9998 3 .i64 .i64 z z Try.underlying3]
      simp only [Result.andThen_ok, beq_self_eq_true, Bool.not_true]
      exact ih fun j hj => h j (by simp [hj])
  rw [key _ fun j hj => List.mem_range.1 hj]
theorem arr_eq (zs : List Int) (hz : zs.length = 256) (w : World) : (binOp .eql 32 (.agg (arrV zs)) (.agg (arrV zs))).run Try.prog w = .ok (.bool true) w := by
  rw [run_eql_struct, arr_eqIn zs hz]
  rfl
theorem arr_build (w : World) : (Instr.build 32 #[]).run Try.prog w = .ok (.agg (arrV zs0)) w := by kernel_rfl
attribute [-go_sem] Instr.storeAt Instr.loadAt Instr.alloc Instr.build in
set_option maxRecDepth 100000 in
set_option maxHeartbeats 8000000 in
theorem sshares_any (A : Option Addr) (n c : Nat) (l : List Nx) (h : Nat) (hh : h < 4294967296) (w : World) (hr : Reads w (fun k => k < w.heap.size) 2 A n (l.flatMap nxC)) (hn : l.length = n) :
    Calls Try.prog 5 #[.slice A n c, .int .u32 (h : Int)] w fun e w' => e = .returned (.bool true) ∧ Below w.heap.size w w' := by
  have HKN := Lib.hid (fun wx => known13_any wx)
  have HNM := Lib.hid (fun z wx => num13_any z wx)
  have HR := Lib.hid (show ∀ wx, Below w.heap.size w wx → Reads wx (fun k => k < w.heap.size) 2 A n (l.flatMap nxC) from fun wx hb => hr.keep (Same.ofBelow hb fun _ hk => hk))
  have HN := Lib.hid hn
  have HH := Lib.hid hh
  clear hr hn hh
  go_enter Try.func5, Try.ntmps5
  by_cases hbig : 300 < n
  · have hg : decide ((300 : Int) < (n : Int)) = true := decide_eq_true (by omega)
    go_wp2_with fail
    refine (HKN.out _).mono ?_
    rintro e w1 ⟨rfl, hb⟩
    have HB := Lib.hid hb
    clear hb
    go_wp2_with fail
    go_ret
    exact ⟨rfl, HB.out⟩
  have hg : decide ((300 : Int) < (n : Int)) = false := decide_eq_false (by omega)
  have HS := Lib.hid (show n ≤ 300 by omega)
  clear hbig
  go_wp2_with fail
  clear hg
  go_loopw [5] (fun i wr => ∃ k : Nat, k ≤ n ∧ i = .int .i64 (k : Int) ∧ Below w.heap.size w wr) (fun i _ => n - (intOf i).toNat)
  case atStart => exact ⟨0, Nat.zero_le _, rfl, Below.refl _ _⟩
  case round =>
    obtain ⟨k, hk, rfl, hb⟩ := hrel
    have HB := Lib.hid hb
    clear hb
    by_cases hlt : k < n
    · have hd0 : decide ((k : Int) < (n : Int)) = true := decide_eq_true (by omega)
      have hd1 : decide (k < n) = true := decide_eq_true hlt
      obtain ⟨ad, rfl, hcs⟩ := nx_cells (HR.out w (Below.refl _ _)) HN.out (D := w.heap.size) (fun _ hj => hj) hlt
      obtain ⟨p, hp⟩ : ∃ p, p = (nxAt l k).1 := ⟨_, rfl⟩
      obtain ⟨d, hd⟩ : ∃ p, p = (nxAt l k).2 := ⟨_, rfl⟩
      rw [← hp, ← hd] at hcs
      have x1 := fun (dd : Nat) (os : Array Obj) => nx_loadA (hcs _ (HB.out.trans ((below_regrown wr dd os).mono HB.out.size)))
      have hw1 := fun wx => weight_any (p, d) wx
      have hw2 := fun wx => rweight_any (p, d) wx
      obtain ⟨x, hx⟩ : ∃ x, x = wtF (p, d) := ⟨_, rfl⟩
      rw [← hx] at hw1 hw2
      unfold nxV at hw1 hw2
      have cA := fun (dd : Nat) (os : Array Obj) => Calls.regrown_of (hw1 (grow (redrawn wr dd) os))
      have cB := fun (dd : Nat) (os : Array Obj) => Calls.regrown_of (hw2 (grow (redrawn wr dd) os))
      have e1 : ((x : Int) != (x : Int)) = false := bne_self_eq_false _
      have i0 : (0 : Int) ≤ k := by omega
      have i1 : (k : Int) < n := by omega
      have i2 : (k : Int) < 300 := by have := HS.out; omega
      clear hp hd hcs hw1 hw2 hx
      go_upto_region 6 with (fail)
      refine wp_region_quiet_below (by kernel_rfl) (by kernel_rfl) ?_
      repeat (go_big_quiet_step (first | with_reducible exact cA _ _ | with_reducible exact cB _ _))
      refine wpQuiet_nil ?_
      intro _ hw'
      obtain ⟨⟨dq, osq⟩, hw''⟩ := hw'
      subst hw''
      have HB2 := Lib.hid (HB.out.trans ((below_regrown wr dq osq).mono HB.out.size))
      clear x1 cA cB
      generalize grow (redrawn wr dq) osq = wq at HB2 ⊢
      go_wp2_with fail
      go_roundw
      case rel => exact ⟨k + 1, hlt, rfl, HB2.out⟩
      case measure => simp [intOf]; omega
    · obtain rfl : n = k := by omega
      have hd0 : decide ((n : Int) < (n : Int)) = false := decide_eq_false (by omega)
      have hd1 : decide (n < n) = false := decide_eq_false (by omega)
      have HMM := Lib.hid (fun (wx : World) (hb : Below w.heap.size w wx) => smay_any A n c l _ wx (HR.out wx hb) HN.out (by have := HS.out; omega))
      have HMR := Lib.hid (fun (wx : World) (hb : Below w.heap.size w wx) => rmay13_any A n c l _ wx (HR.out wx hb) HN.out (by have := HS.out; omega))
      clear hk hlt
      cases hm : mayF l with
      | false =>
        rw [hm] at HMM HMR
        have HSH := Lib.hid (shares_no A n c l _ wr (HR.out wr HB.out) HN.out (by have := HS.out; omega) hm)
        have HBK := Lib.hid (fun (wx : World) (hb : Below w.heap.size w wx) => buckets_no A n c l _ wx (HR.out wx hb) HN.out (by have := HS.out; omega) hm)
        have hbd := arr_build
        have hal := arr_alloc
        have heq := arr_eq zs0 (by simp [zs0])
        obtain ⟨Z, hZ⟩ : ∃ Z, Z = arrV zs0 := ⟨_, rfl⟩
        have HZS := Lib.hid (show Z.size = 256 by rw [hZ, arrV_size]; simp [zs0])
        have HZO := Lib.hid (show Z.all (·.oneCell') = true by rw [hZ]; exact arrV_one _)
        rw [← hZ] at hbd hal heq HBK
        have HAL := Lib.hid hal
        have HBD := Lib.hid hbd
        have HEQ := Lib.hid heq
        clear hm hZ hbd hal heq
        go_wp2_with fail
        refine HSH.out.mono ?_
        rintro e w1 ⟨rfl, hb1⟩
        have HB1 := Lib.hid (HB.out.trans (hb1.mono HB.out.size))
        clear hb1
        go_wp2_with fail
        refine (HBK.out _ HB1.out).mono ?_
        rintro e w2 ⟨rfl, hb2⟩
        have HB2 := Lib.hid (HB1.out.trans (hb2.mono HB1.out.size))
        obtain ⟨W3, hst3, HB3, HK3⟩ := arr_var (w := w) HB2.out HZS.out HZS.out HZO.out
        have hal := HAL.out
        clear hb2
        go_wp2_with fail
        refine (HMM.out _ HB3).mono ?_
        rintro e w4 ⟨rfl, hb4⟩
        have HB4 := Lib.hid (HB3.trans (hb4.mono HB3.size))
        have HK4 := Lib.hid (HK3.below hb4 HK3.lt)
        clear hb4 hst3 hal HB3 HK3
        go_wp2_with fail
        refine (HMR.out _ HB4.out).mono ?_
        rintro e w5 ⟨rfl, hb5⟩
        have HB5 := Lib.hid (HB4.out.trans (hb5.mono HB4.out.size))
        have HK5 := Lib.hid (HK4.out.below hb5 HK4.out.lt)
        clear hb5
        go_wp2_with fail
        refine (HMR.out _ HB5.out).mono ?_
        rintro e w6 ⟨rfl, hb6⟩
        have HB6 := Lib.hid (HB5.out.trans (hb6.mono HB5.out.size))
        have hl6 := arr_load (HK5.out.below hb6 HK5.out.lt) HZS.out
        have hbd := HBD.out
        have heq := HEQ.out
        clear hb6
        go_wp2_with fail
        refine (HNM.out _ _).mono ?_
        rintro e w7 ⟨rfl, rfl⟩
        clear hl6 hbd heq
        go_wp2_with fail
        refine (HNM.out _ _).mono ?_
        rintro e w8 ⟨rfl, rfl⟩
        go_wp2_with fail
        refine (HKN.out _).mono ?_
        rintro e w9 ⟨rfl, hb9⟩
        have HB9 := Lib.hid (HB6.out.trans (hb9.mono HB6.out.size))
        clear hb9
        go_wp2_with fail
        go_ret
        exact ⟨rfl, HB9.out⟩
      | true =>
        rw [hm] at HMM HMR
        have hsy := shares_yes A n c l _ wr (HR.out wr HB.out) HN.out hm
        unfold ShPost at hsy
        rw [HN.out] at hsy
        have HSH := Lib.hid hsy
        have HBK := Lib.hid (fun (wx : World) (hb : Below w.heap.size w wx) => buckets_yes A n c l _ wx (HR.out wx hb) HN.out hm)
        have HRS0 := Lib.hid (fun (wx : World) (hb : Below w.heap.size w wx) => rshares_any A n c l _ wx (HR.out wx hb) HN.out hm)
        have HTB0 := Lib.hid (fun (wx : World) (hb : Below w.heap.size w wx) => rtable_any A n c l _ wx (HR.out wx hb) HN.out hm)
        have htl := table_len hm
        have heq := arr_eqIn (tableF l) htl
        have hpk := fun wx => pick_any (tableF l) htl h wx
        obtain ⟨z, hzz⟩ : ∃ z, (tableF l)[h % 256]? = some z := ⟨(tableF l)[h % 256]'(by omega), List.getElem?_eq_getElem _⟩
        rw [List.getD_eq_getElem?_getD, hzz] at hpk
        have hal := arr_alloc
        obtain ⟨Z, hZ⟩ : ∃ Z, Z = arrV zs0 := ⟨_, rfl⟩
        have HZS := Lib.hid (show Z.size = 256 by rw [hZ, arrV_size]; simp [zs0])
        rw [← hZ] at hal
        obtain ⟨T, hT⟩ : ∃ T, T = arrV (tableF l) := ⟨_, rfl⟩
        have HTS := Lib.hid (show T.size = 256 by rw [hT, arrV_size, htl])
        have HTO := Lib.hid (show T.all (·.oneCell') = true by rw [hT]; exact arrV_one _)
        obtain ⟨i, hi⟩ : ∃ i, i = h % 256 := ⟨_, rfl⟩
        have HTZ := Lib.hid (show T[i]? = some (.int .i64 z) by rw [hT, hi]; exact arrV_get hzz)
        have HHI := Lib.hid (show (h : Int) % 256 = (i : Int) by omega)
        have HI := Lib.hid (show (i : Int) < 256 by omega)
        have HHT := Lib.hid (show (h : Int).tmod 256 = (i : Int) by rw [Int.tmod_eq_emod_of_nonneg (by omega)]; omega)
        have HWI := Lib.hid (show IntKind.i64.wrap (i : Int) = (i : Int) from IntWalk.i64_in _ (by omega))
        rw [← hT] at heq hpk HBK HTB0
        have HAL := Lib.hid hal
        have HEQ := Lib.hid heq
        have HPK := Lib.hid hpk
        have HNB := Lib.hid (fun (wx : World) => (num13_any 0 wx).mono fun e w' he => (⟨he.1, he.2 ▸ Below.refl _ _⟩ : e = .returned (.int .i64 0) ∧ Below wx.heap.size wx w'))
        clear hm hsy htl heq hpk hzz hal hZ hT hi
        go_wp2_with fail
        refine HSH.out.mono ?_
        rintro e w1 ⟨v6, rfl, h6, hb1⟩
        obtain ⟨A6, c6, rfl, _⟩ := own_form h6
        have HB1 := Lib.hid (HB.out.trans (hb1.mono HB.out.size))
        have HR6 := Lib.hid ((reads_own_nat h6).mono fun _ h => h.2)
        clear h6 hb1
        go_wp2_with fail
        refine (HBK.out _ HB1.out).mono ?_
        rintro e w2 ⟨rfl, hb2⟩
        have HB2 := Lib.hid (HB1.out.trans (hb2.mono HB1.out.size))
        have HR62 := Lib.hid ((HR6.out.keep (Same.ofBelow hb2 fun _ hk => hk)).mono fun _ hk => Nat.lt_of_lt_of_le hk hb2.size)
        obtain ⟨W3, hst3, HB3, HK3⟩ := arr_var (w := w) HB2.out HZS.out HTS.out HTO.out
        have hb23 : Below w2.heap.size w2 W3 := by
          obtain ⟨W3', hst3', h33, _⟩ := arr_var (w := w2) (Below.refl _ _) HZS.out HTS.out HTO.out
          rw [hst3] at hst3'
          injection hst3' with _ e
          rw [e]; exact h33
        have HR63 := Lib.hid ((HR62.out.keep (Same.ofBelow hb23 fun _ hk => hk)).mono fun _ hk => Nat.lt_of_lt_of_le hk hb23.size)
        have hal := HAL.out
        clear hb2 hb23
        go_wp2_with fail
        refine (HMM.out _ HB3).mono ?_
        rintro e w4 ⟨rfl, hb4⟩
        have HB4 := Lib.hid (HB3.trans (hb4.mono HB3.size))
        have HK4 := Lib.hid (HK3.below hb4 HK3.lt)
        have HR64 := Lib.hid ((HR63.out.keep (Same.ofBelow hb4 fun _ hk => hk)).mono fun _ hk => Nat.lt_of_lt_of_le hk hb4.size)
        clear hb4 hst3 hal HB3 HK3
        go_wp2_with fail
        refine (HMR.out _ HB4.out).mono ?_
        rintro e w5 ⟨rfl, hb5⟩
        have HB5 := Lib.hid (HB4.out.trans (hb5.mono HB4.out.size))
        have HK5 := Lib.hid (HK4.out.below hb5 HK4.out.lt)
        have HR65 := Lib.hid ((HR64.out.keep (Same.ofBelow hb5 fun _ hk => hk)).mono fun _ hk => Nat.lt_of_lt_of_le hk hb5.size)
        clear hb5
        go_wp2_with fail
        refine (HMR.out _ HB5.out).mono ?_
        rintro e W9 ⟨rfl, hb6⟩
        have HB9 := Lib.hid (HB5.out.trans (hb6.mono HB5.out.size))
        have HK9 := Lib.hid (HK5.out.below hb6 HK5.out.lt)
        have HR69 := Lib.hid ((HR65.out.keep (Same.ofBelow hb6 fun _ hk => hk)).mono fun _ hk => Nat.lt_of_lt_of_le hk hb6.size)
        obtain ⟨gb, hgb⟩ : ∃ g, g = w2.heap.size := ⟨_, rfl⟩
        rw [← hgb] at HK9 ⊢
        obtain ⟨B, hB⟩ : ∃ B, B = W9.heap.size := ⟨_, rfl⟩
        have HBQ := Lib.hid (show B ≤ ({ W9 with drawn := W9.drawn + 1 } : World).heap.size from Nat.le_of_eq hB)
        have HUP := Lib.hid (fun (wx : World) (hb : Below B W9 wx) => HB9.out.trans (hb.mono (by rw [hB]; exact HB9.out.size)))
        have HRS := Lib.hid (fun (wx : World) (hb : Below B W9 wx) => HRS0.out wx (HUP.out wx hb))
        have HTB := Lib.hid (fun (wx : World) (hb : Below B W9 wx) => HTB0.out wx (HUP.out wx hb))
        have HKB := Lib.hid (fun (wx : World) (hb : Below B W9 wx) => HK9.out.below hb (by rw [hB]; exact HK9.out.lt))
        have HSA := Lib.hid (fun (wx : World) (hb : Below B W9 wx) (A7 : Option Addr) (c7 : Nat) (h7 : Reads wx (fun k => k < wx.heap.size) 1 A7 n (natsV (sharesF l))) => by
          have := same_ints A6 n c6 (sharesF l) A7 n c7 (sharesF l) _ _ wx (HR69.out.keep (Same.ofBelow hb fun _ hk => by rw [hB]; exact hk)) h7 (by rw [shares_len]; exact HN.out) (by rw [shares_len]; exact HN.out) (by have := HS.out; omega)
          rwa [decide_eq_true rfl] at this)
        have HBE := Lib.hid hB
        clear hb6 hgb hB
        go_wp2_with fail
        refine wp_region_psi (by kernel_rfl) (fun p q => Below B p q) (SaΦ A A6 n c c6 gb h i z T l) 33 (fun _ _ => True) (fun _ _ => false) (fun _ _ => True) (by kernel_rfl) (fun p => Below.refl _ p) (fun h k => h.trans k) (fun j => trivial) (oblp_of ?_) (fun o h => by cases h) ?_
        · refine ⟨fun _ => ?_, fun _ => ?_, fun _ => ?_, fun _ => ?_, fun _ => ?_, fun _ => ?_, fun _ => ?_, fun _ => ?_, fun _ => ?_, fun _ => ?_, fun _ => ?_, fun _ => ?_, fun _ => ?_, fun _ => ?_, fun _ => ?_, fun _ => ?_, fun _ => ?_, fun _ => ?_, fun _ => ?_, fun _ => ?_, fun _ => ?_, fun _ => ?_, fun _ => ?_, fun _ => ?_, fun _ => ?_, fun _ => ?_, fun _ => ?_, fun _ => ?_, fun _ => ?_, fun _ => ?_, fun _ => ?_, fun _ => ?_, fun _ => ?_, trivial⟩
          · -- 0
            intro val wx hg hψ hd hb hs K hK
            generalize hρ : rhoV _ _ val = ρ
            have cc : ∀ u, ρ (.const u) = u := fun u => by rw [← hρ]; rfl
            have ff : ∀ u, ρ (.func u) = .func (.func u) #[] #[] := fun u => by rw [← hρ]; rfl
            have r6 : ρ (.tmp 6) = .slice A6 n c6 := by rw [← hρ]; rfl
            clear hρ hd hb hs hψ
            refine ifv rfl ?_
            go_simp
            exact hK _ _ (Below.refl _ _) rfl (fun _ _ _ _ h => h) fun _ _ _ _ => trivial
          · -- 1
            intro val wx hg hψ hd hb hs K hK
            generalize hρ : rhoV _ _ val = ρ
            have cc : ∀ u, ρ (.const u) = u := fun u => by rw [← hρ]; rfl
            have ff : ∀ u, ρ (.func u) = .func (.func u) #[] #[] := fun u => by rw [← hρ]; rfl
            have r0 : ρ (.tmp 0) = .slice A n c := by rw [← hρ]; rfl
            clear hρ hd hb hs hψ
            refine ifv rfl ?_
            go_simp
            exact hK _ _ (Below.refl _ _) rfl (fun _ _ _ _ h => h) fun _ _ _ _ => trivial
          · -- 2
            intro val wx hg hψ hd hb hs K hK
            generalize hρ : rhoV _ _ val = ρ
            have cc : ∀ u, ρ (.const u) = u := fun u => by rw [← hρ]; rfl
            have ff : ∀ u, ρ (.func u) = .func (.func u) #[] #[] := fun u => by rw [← hρ]; rfl
            have r71 : ρ (.tmp 71) = .slice A n c := by rw [← hρ]; exact hd 1 rfl rfl
            have hc := HRS.out wx (show Below B W9 wx from ⟨hg.os, hg.tape, hg.output, hg.size, hg.block⟩)
            have hwb : B ≤ wx.heap.size := Nat.le_trans HBQ.out hg.size
            clear hρ hd hb hs hψ
            refine ifv rfl ?_
            go_simp
            refine hc.mono ?_
            rintro e w2 ⟨v2, rfl, h2, hb2⟩
            rw [HN.out] at h2
            obtain ⟨A7, c7, rfl, _⟩ := own_form h2
            exact ⟨_, rfl, hK _ _ (hb2.mono hwb) ⟨A7, c7, rfl, (reads_own_nat h2).mono fun _ h => h.2⟩ (fun j _ _ _ h => SaΦ.keep hb2 j _ h) fun j _ _ h => trivial⟩
          · -- 3
            intro val wx hg hψ hd hb hs K hK
            generalize hρ : rhoV _ _ val = ρ
            have cc : ∀ u, ρ (.const u) = u := fun u => by rw [← hρ]; rfl
            have ff : ∀ u, ρ (.func u) = .func (.func u) #[] #[] := fun u => by rw [← hρ]; rfl
            have r70 : ρ (.tmp 70) = .slice A6 n c6 := by rw [← hρ]; exact hd 0 rfl rfl
            have r72 : ρ (.tmp 72) = val 2 := by rw [← hρ]; rfl
            have p2 := hd 2 rfl rfl
            obtain ⟨A7, c7, q72, q72b⟩ : ∃ A7 c7, val 2 = .slice A7 n c7 ∧ Reads wx (fun k => k < wx.heap.size) 1 A7 n (natsV (sharesF l)) := p2
            rw [q72] at r72
            have hc := HSA.out wx (show Below B W9 wx from ⟨hg.os, hg.tape, hg.output, hg.size, hg.block⟩) A7 c7 q72b
            have hwb : B ≤ wx.heap.size := Nat.le_trans HBQ.out hg.size
            clear hρ hd hb hs hψ
            refine ifv rfl ?_
            go_simp
            refine hc.mono ?_
            rintro e w2 ⟨rfl, hb2⟩
            exact ⟨_, rfl, hK _ _ (hb2.mono hwb) rfl (fun j _ _ _ h => SaΦ.keep hb2 j _ h) fun j _ _ h => trivial⟩
          · -- 4
            intro val wx hg hψ hd hb hs K hK
            generalize hρ : rhoV _ _ val = ρ
            have cc : ∀ u, ρ (.const u) = u := fun u => by rw [← hρ]; rfl
            have ff : ∀ u, ρ (.func u) = .func (.func u) #[] #[] := fun u => by rw [← hρ]; rfl
            have r73 : ρ (.tmp 73) = .bool true := by rw [← hρ]; exact hd 3 rfl rfl
            clear hρ hd hb hs hψ
            refine ifv rfl ?_
            go_simp
            exact hK _ _ (Below.refl _ _) rfl (fun _ _ _ _ h => h) fun _ _ _ _ => trivial
          · -- 5
            intro val wx hg hψ hd hb hs K hK
            generalize hρ : rhoV _ _ val = ρ
            have cc : ∀ u, ρ (.const u) = u := fun u => by rw [← hρ]; rfl
            have ff : ∀ u, ρ (.func u) = .func (.func u) #[] #[] := fun u => by rw [← hρ]; rfl
            have r8 : ρ (.tmp 8) = .pointer (some ⟨gb, 0, none⟩) := by rw [← hρ]; rfl
            have hgv : val 4 = .bool true := hd 4 rfl rfl
            have hk := HKB.out wx (show Below B W9 wx from ⟨hg.os, hg.tape, hg.output, hg.size, hg.block⟩)
            have hx := arr_load hk HTS.out
            clear hρ hd hb hs hψ
            refine ifv (wanted_of (g := 4) (b := true) rfl hgv) ?_
            go_simp
            exact hK _ _ (Below.refl _ _) rfl (fun _ _ _ _ h => h) fun _ _ _ _ => trivial
          · -- 6
            intro val wx hg hψ hd hb hs K hK
            generalize hρ : rhoV _ _ val = ρ
            have cc : ∀ u, ρ (.const u) = u := fun u => by rw [← hρ]; rfl
            have ff : ∀ u, ρ (.func u) = .func (.func u) #[] #[] := fun u => by rw [← hρ]; rfl
            have r0 : ρ (.tmp 0) = .slice A n c := by rw [← hρ]; rfl
            have hgv : val 4 = .bool true := hd 4 rfl rfl
            clear hρ hd hb hs hψ
            refine ifv (wanted_of (g := 4) (b := true) rfl hgv) ?_
            go_simp
            exact hK _ _ (Below.refl _ _) rfl (fun _ _ _ _ h => h) fun _ _ _ _ => trivial
          · -- 7
            intro val wx hg hψ hd hb hs K hK
            generalize hρ : rhoV _ _ val = ρ
            have cc : ∀ u, ρ (.const u) = u := fun u => by rw [← hρ]; rfl
            have ff : ∀ u, ρ (.func u) = .func (.func u) #[] #[] := fun u => by rw [← hρ]; rfl
            have r76 : ρ (.tmp 76) = .slice A n c := by rw [← hρ]; exact hd 6 rfl rfl
            have hgv : val 4 = .bool true := hd 4 rfl rfl
            have hc := HTB.out wx (show Below B W9 wx from ⟨hg.os, hg.tape, hg.output, hg.size, hg.block⟩)
            have hwb : B ≤ wx.heap.size := Nat.le_trans HBQ.out hg.size
            clear hρ hd hb hs hψ
            refine ifv (wanted_of (g := 4) (b := true) rfl hgv) ?_
            go_simp
            refine hc.mono ?_
            rintro e w2 ⟨rfl, hb2⟩
            exact ⟨_, rfl, hK _ _ (hb2.mono hwb) rfl (fun j _ _ _ h => SaΦ.keep hb2 j _ h) fun j _ _ h => trivial⟩
          · -- 8
            intro val wx hg hψ hd hb hs K hK
            generalize hρ : rhoV _ _ val = ρ
            have cc : ∀ u, ρ (.const u) = u := fun u => by rw [← hρ]; rfl
            have ff : ∀ u, ρ (.func u) = .func (.func u) #[] #[] := fun u => by rw [← hρ]; rfl
            have r75 : ρ (.tmp 75) = .agg T := by rw [← hρ]; exact hd 5 rfl rfl
            have r77 : ρ (.tmp 77) = .agg T := by rw [← hρ]; exact hd 7 rfl rfl
            have hgv : val 4 = .bool true := hd 4 rfl rfl
            have hx := HEQ.out wx
            clear hρ hd hb hs hψ
            refine ifv (wanted_of (g := 4) (b := true) rfl hgv) ?_
            go_simp
            exact hK _ _ (Below.refl _ _) rfl (fun _ _ _ _ h => h) fun _ _ _ _ => trivial
          · -- 9
            intro val wx hg hψ hd hb hs K hK
            generalize hρ : rhoV _ _ val = ρ
            have cc : ∀ u, ρ (.const u) = u := fun u => by rw [← hρ]; rfl
            have ff : ∀ u, ρ (.func u) = .func (.func u) #[] #[] := fun u => by rw [← hρ]; rfl
            have r74 : ρ (.tmp 74) = .bool true := by rw [← hρ]; exact hd 4 rfl rfl
            have r78 : ρ (.tmp 78) = .bool true := by rw [← hρ]; exact hd 8 rfl rfl
            clear hρ hd hb hs hψ
            refine ifv rfl ?_
            go_simp
            exact hK _ _ (Below.refl _ _) rfl (fun _ _ _ _ h => h) fun _ _ _ _ => trivial
          · -- 10
            intro val wx hg hψ hd hb hs K hK
            generalize hρ : rhoV _ _ val = ρ
            have cc : ∀ u, ρ (.const u) = u := fun u => by rw [← hρ]; rfl
            have ff : ∀ u, ρ (.func u) = .func (.func u) #[] #[] := fun u => by rw [← hρ]; rfl
            have r79 : ρ (.tmp 79) = .bool true := by rw [← hρ]; exact hd 9 rfl rfl
            clear hρ hd hb hs hψ
            refine ifv rfl ?_
            go_simp
            exact hK _ _ (Below.refl _ _) rfl (fun _ _ _ _ h => h) fun _ _ _ _ => trivial
          · -- 11
            intro val wx hg hψ hd hb hs K hK
            generalize hρ : rhoV _ _ val = ρ
            have cc : ∀ u, ρ (.const u) = u := fun u => by rw [← hρ]; rfl
            have ff : ∀ u, ρ (.func u) = .func (.func u) #[] #[] := fun u => by rw [← hρ]; rfl
            have r7 : ρ (.tmp 7) = .int .i64 0 := by rw [← hρ]; rfl
            have hgv : val 10 = .bool true := hd 10 rfl rfl
            clear hρ hd hb hs hψ
            refine ifv (wanted_of (g := 10) (b := true) rfl hgv) ?_
            go_simp
            exact hK _ _ (Below.refl _ _) rfl (fun _ _ _ _ h => h) fun _ _ _ _ => trivial
          · -- 12
            intro val wx hg hψ hd hb hs K hK
            generalize hρ : rhoV _ _ val = ρ
            have cc : ∀ u, ρ (.const u) = u := fun u => by rw [← hρ]; rfl
            have ff : ∀ u, ρ (.func u) = .func (.func u) #[] #[] := fun u => by rw [← hρ]; rfl
            have r81 : ρ (.tmp 81) = .int .i64 0 := by rw [← hρ]; exact hd 11 rfl rfl
            have hgv : val 10 = .bool true := hd 10 rfl rfl
            have hc := HNB.out wx
            have hwb : B ≤ wx.heap.size := Nat.le_trans HBQ.out hg.size
            clear hρ hd hb hs hψ
            refine ifv (wanted_of (g := 10) (b := true) rfl hgv) ?_
            go_simp
            refine hc.mono ?_
            rintro e w2 ⟨rfl, hb2⟩
            exact ⟨_, rfl, hK _ _ (hb2.mono hwb) rfl (fun j _ _ _ h => SaΦ.keep hb2 j _ h) fun j _ _ h => trivial⟩
          · -- 13
            intro val wx hg hψ hd hb hs K hK
            generalize hρ : rhoV _ _ val = ρ
            have cc : ∀ u, ρ (.const u) = u := fun u => by rw [← hρ]; rfl
            have ff : ∀ u, ρ (.func u) = .func (.func u) #[] #[] := fun u => by rw [← hρ]; rfl
            have r9 : ρ (.tmp 9) = .int .i64 0 := by rw [← hρ]; rfl
            have hgv : val 10 = .bool true := hd 10 rfl rfl
            clear hρ hd hb hs hψ
            refine ifv (wanted_of (g := 10) (b := true) rfl hgv) ?_
            go_simp
            exact hK _ _ (Below.refl _ _) rfl (fun _ _ _ _ h => h) fun _ _ _ _ => trivial
          · -- 14
            intro val wx hg hψ hd hb hs K hK
            generalize hρ : rhoV _ _ val = ρ
            have cc : ∀ u, ρ (.const u) = u := fun u => by rw [← hρ]; rfl
            have ff : ∀ u, ρ (.func u) = .func (.func u) #[] #[] := fun u => by rw [← hρ]; rfl
            have r83 : ρ (.tmp 83) = .int .i64 0 := by rw [← hρ]; exact hd 13 rfl rfl
            have hgv : val 10 = .bool true := hd 10 rfl rfl
            have hc := HNB.out wx
            have hwb : B ≤ wx.heap.size := Nat.le_trans HBQ.out hg.size
            clear hρ hd hb hs hψ
            refine ifv (wanted_of (g := 10) (b := true) rfl hgv) ?_
            go_simp
            refine hc.mono ?_
            rintro e w2 ⟨rfl, hb2⟩
            exact ⟨_, rfl, hK _ _ (hb2.mono hwb) rfl (fun j _ _ _ h => SaΦ.keep hb2 j _ h) fun j _ _ h => trivial⟩
          · -- 15
            intro val wx hg hψ hd hb hs K hK
            generalize hρ : rhoV _ _ val = ρ
            have cc : ∀ u, ρ (.const u) = u := fun u => by rw [← hρ]; rfl
            have ff : ∀ u, ρ (.func u) = .func (.func u) #[] #[] := fun u => by rw [← hρ]; rfl
            have r82 : ρ (.tmp 82) = .int .i64 0 := by rw [← hρ]; exact hd 12 rfl rfl
            have r84 : ρ (.tmp 84) = .int .i64 0 := by rw [← hρ]; exact hd 14 rfl rfl
            have hgv : val 10 = .bool true := hd 10 rfl rfl
            clear hρ hd hb hs hψ
            refine ifv (wanted_of (g := 10) (b := true) rfl hgv) ?_
            go_simp
            exact hK _ _ (Below.refl _ _) rfl (fun _ _ _ _ h => h) fun _ _ _ _ => trivial
          · -- 16
            intro val wx hg hψ hd hb hs K hK
            generalize hρ : rhoV _ _ val = ρ
            have cc : ∀ u, ρ (.const u) = u := fun u => by rw [← hρ]; rfl
            have ff : ∀ u, ρ (.func u) = .func (.func u) #[] #[] := fun u => by rw [← hρ]; rfl
            have r85 : ρ (.tmp 85) = .int .i64 0 := by rw [← hρ]; exact hd 15 rfl rfl
            have hgv : val 10 = .bool true := hd 10 rfl rfl
            clear hρ hd hb hs hψ
            refine ifv (wanted_of (g := 10) (b := true) rfl hgv) ?_
            go_simp
            exact hK _ _ (Below.refl _ _) rfl (fun _ _ _ _ h => h) fun _ _ _ _ => trivial
          · -- 17
            intro val wx hg hψ hd hb hs K hK
            generalize hρ : rhoV _ _ val = ρ
            have cc : ∀ u, ρ (.const u) = u := fun u => by rw [← hρ]; rfl
            have ff : ∀ u, ρ (.func u) = .func (.func u) #[] #[] := fun u => by rw [← hρ]; rfl
            have r80 : ρ (.tmp 80) = .bool true := by rw [← hρ]; exact hd 10 rfl rfl
            have r86 : ρ (.tmp 86) = .bool true := by rw [← hρ]; exact hd 16 rfl rfl
            clear hρ hd hb hs hψ
            refine ifv rfl ?_
            go_simp
            exact hK _ _ (Below.refl _ _) rfl (fun _ _ _ _ h => h) fun _ _ _ _ => trivial
          · -- 18
            intro val wx hg hψ hd hb hs K hK
            generalize hρ : rhoV _ _ val = ρ
            have cc : ∀ u, ρ (.const u) = u := fun u => by rw [← hρ]; rfl
            have ff : ∀ u, ρ (.func u) = .func (.func u) #[] #[] := fun u => by rw [← hρ]; rfl
            have r87 : ρ (.tmp 87) = .bool true := by rw [← hρ]; exact hd 17 rfl rfl
            clear hρ hd hb hs hψ
            refine ifv rfl ?_
            go_simp
            exact hK _ _ (Below.refl _ _) rfl (fun _ _ _ _ h => h) fun _ _ _ _ => trivial
          · -- 19
            intro val wx hg hψ hd hb hs K hK
            generalize hρ : rhoV _ _ val = ρ
            have cc : ∀ u, ρ (.const u) = u := fun u => by rw [← hρ]; rfl
            have ff : ∀ u, ρ (.func u) = .func (.func u) #[] #[] := fun u => by rw [← hρ]; rfl
            have r8 : ρ (.tmp 8) = .pointer (some ⟨gb, 0, none⟩) := by rw [← hρ]; rfl
            have hgv : val 18 = .bool true := hd 18 rfl rfl
            have hk := HKB.out wx (show Below B W9 wx from ⟨hg.os, hg.tape, hg.output, hg.size, hg.block⟩)
            have hx := arr_load hk HTS.out
            clear hρ hd hb hs hψ
            refine ifv (wanted_of (g := 18) (b := true) rfl hgv) ?_
            go_simp
            exact hK _ _ (Below.refl _ _) rfl (fun _ _ _ _ h => h) fun _ _ _ _ => trivial
          · -- 20
            intro val wx hg hψ hd hb hs K hK
            generalize hρ : rhoV _ _ val = ρ
            have cc : ∀ u, ρ (.const u) = u := fun u => by rw [← hρ]; rfl
            have ff : ∀ u, ρ (.func u) = .func (.func u) #[] #[] := fun u => by rw [← hρ]; rfl
            have r1 : ρ (.tmp 1) = .int .u32 (h : Int) := by rw [← hρ]; rfl
            have hgv : val 18 = .bool true := hd 18 rfl rfl
            clear hρ hd hb hs hψ
            refine ifv (wanted_of (g := 18) (b := true) rfl hgv) ?_
            go_simp
            exact hK _ _ (Below.refl _ _) rfl (fun _ _ _ _ h => h) fun _ _ _ _ => trivial
          · -- 21
            intro val wx hg hψ hd hb hs K hK
            generalize hρ : rhoV _ _ val = ρ
            have cc : ∀ u, ρ (.const u) = u := fun u => by rw [← hρ]; rfl
            have ff : ∀ u, ρ (.func u) = .func (.func u) #[] #[] := fun u => by rw [← hρ]; rfl
            have r89 : ρ (.tmp 89) = .agg T := by rw [← hρ]; exact hd 19 rfl rfl
            have r90 : ρ (.tmp 90) = .int .u32 (h : Int) := by rw [← hρ]; exact hd 20 rfl rfl
            have hgv : val 18 = .bool true := hd 18 rfl rfl
            have hc := HPK.out wx
            have hwb : B ≤ wx.heap.size := Nat.le_trans HBQ.out hg.size
            clear hρ hd hb hs hψ
            refine ifv (wanted_of (g := 18) (b := true) rfl hgv) ?_
            go_simp
            refine hc.mono ?_
            rintro e w2 ⟨rfl, hb2⟩
            exact ⟨_, rfl, hK _ _ (hb2.mono hwb) rfl (fun j _ _ _ h => SaΦ.keep hb2 j _ h) fun j _ _ h => trivial⟩
          · -- 22
            intro val wx hg hψ hd hb hs K hK
            generalize hρ : rhoV _ _ val = ρ
            have cc : ∀ u, ρ (.const u) = u := fun u => by rw [← hρ]; rfl
            have ff : ∀ u, ρ (.func u) = .func (.func u) #[] #[] := fun u => by rw [← hρ]; rfl
            have r1 : ρ (.tmp 1) = .int .u32 (h : Int) := by rw [← hρ]; rfl
            have hgv : val 18 = .bool true := hd 18 rfl rfl
            clear hρ hd hb hs hψ
            refine ifv (wanted_of (g := 18) (b := true) rfl hgv) ?_
            go_simp
            exact hK _ _ (Below.refl _ _) rfl (fun _ _ _ _ h => h) fun _ _ _ _ => trivial
          · -- 23
            intro val wx hg hψ hd hb hs K hK
            generalize hρ : rhoV _ _ val = ρ
            have cc : ∀ u, ρ (.const u) = u := fun u => by rw [← hρ]; rfl
            have ff : ∀ u, ρ (.func u) = .func (.func u) #[] #[] := fun u => by rw [← hρ]; rfl
            have r92 : ρ (.tmp 92) = .int .u32 (h : Int) := by rw [← hρ]; exact hd 22 rfl rfl
            have hgv : val 18 = .bool true := hd 18 rfl rfl
            have h0 : (0 : Int) ≤ h := by omega
            have hx := HHI.out
            have hx2 := HHT.out
            clear hρ hd hb hs hψ
            refine ifv (wanted_of (g := 18) (b := true) rfl hgv) ?_
            go_simp
            exact hK _ _ (Below.refl _ _) rfl (fun _ _ _ _ h => h) fun _ _ _ _ => trivial
          · -- 24
            intro val wx hg hψ hd hb hs K hK
            generalize hρ : rhoV _ _ val = ρ
            have cc : ∀ u, ρ (.const u) = u := fun u => by rw [← hρ]; rfl
            have ff : ∀ u, ρ (.func u) = .func (.func u) #[] #[] := fun u => by rw [← hρ]; rfl
            have r93 : ρ (.tmp 93) = .int .u32 (i : Int) := by rw [← hρ]; exact hd 23 rfl rfl
            have hgv : val 18 = .bool true := hd 18 rfl rfl
            have hx := HWI.out
            clear hρ hd hb hs hψ
            refine ifv (wanted_of (g := 18) (b := true) rfl hgv) ?_
            go_simp
            exact hK _ _ (Below.refl _ _) rfl (fun _ _ _ _ h => h) fun _ _ _ _ => trivial
          · -- 25
            intro val wx hg hψ hd hb hs K hK
            generalize hρ : rhoV _ _ val = ρ
            have cc : ∀ u, ρ (.const u) = u := fun u => by rw [← hρ]; rfl
            have ff : ∀ u, ρ (.func u) = .func (.func u) #[] #[] := fun u => by rw [← hρ]; rfl
            have r8 : ρ (.tmp 8) = .pointer (some ⟨gb, 0, none⟩) := by rw [← hρ]; rfl
            have r94 : ρ (.tmp 94) = .int .i64 (i : Int) := by rw [← hρ]; exact hd 24 rfl rfl
            have hgv : val 18 = .bool true := hd 18 rfl rfl
            have h0 : (0 : Int) ≤ i := by omega
            have h1 : (i : Int) < 256 := HI.out
            clear hρ hd hb hs hψ
            refine ifv (wanted_of (g := 18) (b := true) rfl hgv) ?_
            go_simp
            exact hK _ _ (Below.refl _ _) rfl (fun _ _ _ _ h => h) fun _ _ _ _ => trivial
          · -- 26
            intro val wx hg hψ hd hb hs K hK
            generalize hρ : rhoV _ _ val = ρ
            have cc : ∀ u, ρ (.const u) = u := fun u => by rw [← hρ]; rfl
            have ff : ∀ u, ρ (.func u) = .func (.func u) #[] #[] := fun u => by rw [← hρ]; rfl
            have r95 : ρ (.tmp 95) = .pointer (some ⟨gb, i, none⟩) := by rw [← hρ]; exact hd 25 rfl rfl
            have hgv : val 18 = .bool true := hd 18 rfl rfl
            have hk := HKB.out wx (show Below B W9 wx from ⟨hg.os, hg.tape, hg.output, hg.size, hg.block⟩)
            have hx := ld_int ((hk.cell i).trans HTZ.out)
            clear hρ hd hb hs hψ
            refine ifv (wanted_of (g := 18) (b := true) rfl hgv) ?_
            go_simp
            exact hK _ _ (Below.refl _ _) rfl (fun _ _ _ _ h => h) fun _ _ _ _ => trivial
          · -- 27
            intro val wx hg hψ hd hb hs K hK
            generalize hρ : rhoV _ _ val = ρ
            have cc : ∀ u, ρ (.const u) = u := fun u => by rw [← hρ]; rfl
            have ff : ∀ u, ρ (.func u) = .func (.func u) #[] #[] := fun u => by rw [← hρ]; rfl
            have r91 : ρ (.tmp 91) = .int .i64 z := by rw [← hρ]; exact hd 21 rfl rfl
            have r96 : ρ (.tmp 96) = .int .i64 z := by rw [← hρ]; exact hd 26 rfl rfl
            have hgv : val 18 = .bool true := hd 18 rfl rfl
            have hx : (z == z) = true := beq_self_eq_true z
            clear hρ hd hb hs hψ
            refine ifv (wanted_of (g := 18) (b := true) rfl hgv) ?_
            go_simp
            exact hK _ _ (Below.refl _ _) rfl (fun _ _ _ _ h => h) fun _ _ _ _ => trivial
          · -- 28
            intro val wx hg hψ hd hb hs K hK
            generalize hρ : rhoV _ _ val = ρ
            have cc : ∀ u, ρ (.const u) = u := fun u => by rw [← hρ]; rfl
            have ff : ∀ u, ρ (.func u) = .func (.func u) #[] #[] := fun u => by rw [← hρ]; rfl
            have r88 : ρ (.tmp 88) = .bool true := by rw [← hρ]; exact hd 18 rfl rfl
            have r97 : ρ (.tmp 97) = .bool true := by rw [← hρ]; exact hd 27 rfl rfl
            clear hρ hd hb hs hψ
            refine ifv rfl ?_
            go_simp
            exact hK _ _ (Below.refl _ _) rfl (fun _ _ _ _ h => h) fun _ _ _ _ => trivial
          · -- 29
            intro val wx hg hψ hd hb hs K hK
            generalize hρ : rhoV _ _ val = ρ
            have cc : ∀ u, ρ (.const u) = u := fun u => by rw [← hρ]; rfl
            have ff : ∀ u, ρ (.func u) = .func (.func u) #[] #[] := fun u => by rw [← hρ]; rfl
            have r98 : ρ (.tmp 98) = .bool true := by rw [← hρ]; exact hd 28 rfl rfl
            clear hρ hd hb hs hψ
            refine ifv rfl ?_
            go_simp
            exact hK _ _ (Below.refl _ _) rfl (fun _ _ _ _ h => h) fun _ _ _ _ => trivial
          · -- 30
            intro val wx hg hψ hd hb hs K hK
            generalize hρ : rhoV _ _ val = ρ
            have cc : ∀ u, ρ (.const u) = u := fun u => by rw [← hρ]; rfl
            have ff : ∀ u, ρ (.func u) = .func (.func u) #[] #[] := fun u => by rw [← hρ]; rfl
            have hgv : val 29 = .bool true := hd 29 rfl rfl
            have hc := HKN.out wx
            have hwb : B ≤ wx.heap.size := Nat.le_trans HBQ.out hg.size
            clear hρ hd hb hs hψ
            refine ifv (wanted_of (g := 29) (b := true) rfl hgv) ?_
            go_simp
            refine hc.mono ?_
            rintro e w2 ⟨rfl, hb2⟩
            exact ⟨_, rfl, hK _ _ (hb2.mono hwb) rfl (fun j _ _ _ h => SaΦ.keep hb2 j _ h) fun j _ _ h => trivial⟩
          · -- 31
            intro val wx hg hψ hd hb hs K hK
            generalize hρ : rhoV _ _ val = ρ
            have cc : ∀ u, ρ (.const u) = u := fun u => by rw [← hρ]; rfl
            have ff : ∀ u, ρ (.func u) = .func (.func u) #[] #[] := fun u => by rw [← hρ]; rfl
            have r99 : ρ (.tmp 99) = .bool true := by rw [← hρ]; exact hd 29 rfl rfl
            have r100 : ρ (.tmp 100) = .bool true := by rw [← hρ]; exact hd 30 rfl rfl
            clear hρ hd hb hs hψ
            refine ifv rfl ?_
            go_simp
            exact hK _ _ (Below.refl _ _) rfl (fun _ _ _ _ h => h) fun _ _ _ _ => trivial
          · -- 32
            intro val wx hg hψ hd hb hs K hK
            generalize hρ : rhoV _ _ val = ρ
            have cc : ∀ u, ρ (.const u) = u := fun u => by rw [← hρ]; rfl
            have ff : ∀ u, ρ (.func u) = .func (.func u) #[] #[] := fun u => by rw [← hρ]; rfl
            have r101 : ρ (.tmp 101) = .bool true := by rw [← hρ]; exact hd 31 rfl rfl
            clear hρ hd hb hs hψ
            refine ifv rfl ?_
            go_simp
            exact hK _ _ (Below.refl _ _) rfl (fun _ _ _ _ h => h) fun _ _ _ _ => trivial
        · intro val w9 h9
          rw [if_neg (by decide)] at h9
          obtain ⟨hb9, h9⟩ := h9
          have pl : val 32 = .bool true := h9 32 (by decide) fun _ _ => rfl
          have HBF := Lib.hid (HUP.out w9 ⟨hb9.os, hb9.tape, hb9.output, hb9.size, hb9.block⟩)
          simp only [putAll, pl]
          simp only [Act.put, List.setIfInBounds_toArray, List.set_cons_succ, List.set_cons_zero]
          clear hb9 h9 pl
          generalize val 0 = y0, val 1 = y1, val 2 = y2, val 3 = y3, val 4 = y4, val 5 = y5, val 6 = y6, val 7 = y7, val 8 = y8, val 9 = y9, val 10 = y10, val 11 = y11, val 12 = y12, val 13 = y13, val 14 = y14, val 15 = y15, val 16 = y16, val 17 = y17, val 18 = y18, val 19 = y19, val 20 = y20, val 21 = y21, val 22 = y22, val 23 = y23, val 24 = y24, val 25 = y25, val 26 = y26, val 27 = y27, val 28 = y28, val 29 = y29, val 30 = y30, val 31 = y31
          go_wp2_with fail
          go_ret
          exact ⟨rfl, HBF.out⟩
end Go.Proofs.Ytnifhhaalmlmnaa
