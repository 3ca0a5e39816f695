/- guidepostref13.Table. -/
import Derived.Test.YthlommalbkhcjaaGreatSaT
namespace Go.Proofs.YthlommalbkhcjaaGreat
open Go.RowKit Go.Sort
attribute [-go_sem] Instr.storeAt Instr.loadAt Instr.alloc in
set_option maxRecDepth 100000 in
set_option maxHeartbeats 8000000 in
theorem rtable_any (A : Option Addr) (n c : Nat) (l : List Nx) (I : Nat → Prop) (w : World) (h : Reads w I 2 A n (l.flatMap nxC)) (hn : l.length = n) (hm : mayF l = true) :
    Calls Tryz.prog 110 #[.slice A n c] w fun e w' => e = .returned (.agg (arrV (tableF l))) ∧ Below w.heap.size w w' := by
  have hal := arr_alloc
  obtain ⟨Z, hZ⟩ : ∃ Z, Z = arrV zs0 := ⟨_, rfl⟩
  have HZ := Lib.hid hZ
  rw [← hZ] at hal
  obtain ⟨W, hW⟩ : ∃ W, W = (w.alloc (.cells Z 39)).alloc (.cells Z 39) := ⟨_, rfl⟩
  have hz2 : (w.alloc (.cells Z 39)).heap.size = w.heap.size + 1 := by simp
  have hbA : Below w.heap.size w (w.alloc (.cells Z 39)) := (Below.refl _ _).alloc (Nat.le_refl _) _
  have hbW : Below w.heap.size w W := by rw [hW]; exact hbA.alloc hbA.size _
  have hkr : Blk W w.heap.size 39 Z := by rw [hW]; exact (Blk.new w _ _).alloc _
  have hkb : Blk W (w.heap.size + 1) 39 Z := by
    rw [hW]
    have := Blk.new (w.alloc (.cells Z 39)) 39 Z
    rwa [hz2] at this
  have hsh := rshares_any A n c l (fun k => k < w.heap.size) W ((h.lt.keep (Same.ofBelow hbW fun _ hk => hk.2)).mono fun _ h => h.2) hn hm
  rw [hn] at hsh
  have HRD := Lib.hid (h.lt.mono fun _ h => h.2)
  have HSH := Lib.hid hsh
  have HKR := Lib.hid hkr
  have HKB := Lib.hid hkb
  have HBW := Lib.hid hbW
  have HW := Lib.hid hW
  have HN := Lib.hid hn
  have HM := Lib.hid hm
  have HN8 := Lib.hid (show n ≤ 8 by have := may_len hm; omega)
  clear h hn hm hZ hz2 hbA hW hbW hkr hkb hsh
  go_enter Tryz.func110, Tryz.ntmps110
  go_wp2_with fail
  rw [← HW.out]
  refine HSH.out.mono ?_
  rintro e w2 ⟨v2, rfl, h2, hb2⟩
  obtain ⟨A5, c5, rfl, _⟩ := own_form h2
  obtain ⟨gb, hgb⟩ : ∃ g, g = w.heap.size + 1 := ⟨_, rfl⟩
  obtain ⟨gr, hgr⟩ : ∃ g, g = w.heap.size := ⟨_, rfl⟩
  have hkl := HKB.out.lt
  have HS0 := Lib.hid (show BkW w W.heap.size gr gb n A A5 c5 l 0 w2 from by
    refine ⟨?_, ?_, (reads_own_nat h2).mono fun _ h => h.1, HRD.out.keep (Same.ofBelow (HBW.out.trans (hb2.mono HBW.out.size)) fun _ hk => hk), HBW.out.trans (hb2.mono HBW.out.size), by omega, by omega, by omega, hb2.size⟩
    · rw [bk_zero, ← HZ.out, hgb]; exact HKB.out.below hb2 HKB.out.lt
    · rw [← HZ.out, hgr]; exact HKR.out.below hb2 HKR.out.lt)
  have HGB := Lib.hid hgb
  have HGR := Lib.hid hgr
  clear h2 hb2 hal hkl
  rw [← hgb, ← hgr]
  clear hgb hgr
  go_wp2_with fail
  go_loopw [5, 6] (fun av i wr => ∃ k : Nat, k ≤ n ∧ i = .int .i64 (k : Int) ∧ av = .int .i64 (sumTo (shF l) k : Int) ∧ BkW w W.heap.size gr gb n A A5 c5 l (sumTo (shF l) k) wr) (fun _ i _ => n - (intOf i).toNat)
  case atStart => exact ⟨0, Nat.zero_le _, rfl, rfl, HS0.out⟩
  case round =>
    obtain ⟨k, hk, rfl, rfl, hs⟩ := hrel
    have HS := Lib.hid hs
    clear hs HS0
    by_cases hlt : k < n
    · have hd0 : decide ((k : Int) < (n : Int)) = true := decide_eq_true (by omega)
      have hd1 : decide (k < n) = true := decide_eq_true hlt
      obtain ⟨ad5, s, rfl, hsk, hcell⟩ := HS.out.row.lt.nat (by rw [shares_len]; exact HN.out) (D := wr.heap.size) (fun _ hj => hj.2) hlt
      rw [shares_get (by rw [HN.out]; exact hlt)] at hsk
      injection hsk with hsk
      have c5c := hcell wr (Below.refl _ _)
      have hld5 := ld_intA c5c
      have HSK := Lib.hid hsk
      have HS256 := Lib.hid (show sumTo (shF l) k + s ≤ 256 by
        have h1 := sumTo_le (shF l) (m := k + 1) (n := l.length) (by rw [HN.out]; exact hlt)
        have h2 := shares_sum HM.out
        have h3 : sumTo (shF l) (k + 1) = sumTo (shF l) k + shF l k := rfl
        rw [← hsk]; omega)
      obtain ⟨a0, ha0⟩ : ∃ a, a = sumTo (shF l) k := ⟨_, rfl⟩
      have HA0 := Lib.hid ha0
      have HSS := Lib.hid (show sumTo (shF l) (k + 1) = a0 + s by rw [ha0, ← hsk]; rfl)
      rw [← ha0] at HS HS256 ⊢
      have i0 : (0 : Int) ≤ k := by omega
      have i1 : (k : Int) < n := by omega
      have i2 : (n : Int) ≤ 8 := by have := HN8.out; omega
      have HCL := Lib.hid hcell
      clear hcell hsk ha0
      go_wp2_with fail
      clear hld5 c5c
      go_loopw [5, 7] (fun av i wx => ∃ j : Nat, j ≤ s ∧ i = .int .i64 (j : Int) ∧ av = .int .i64 ((a0 + j : Nat) : Int) ∧ BkW w W.heap.size gr gb n A (some ad5) c5 l (a0 + j) wx) (fun _ i _ => s - (intOf i).toNat)
      case atStart => exact ⟨0, Nat.zero_le _, rfl, rfl, HS.out⟩
      case round =>
        obtain ⟨j, hj, rfl, rfl, hs⟩ := hrel
        have HSJ := Lib.hid hs
        have hldr : (Instr.loadAt 3 (.pointer (some (ad5.add k)))).run Tryz.prog wr = .ok (.int .i64 (s : Int)) wr := by
          obtain ⟨ad6, s6, e6, hs6, hc6⟩ := hs.row.lt.nat (by rw [shares_len]; exact HN.out) (D := wr.heap.size) (fun _ hj => hj.2) hlt
          injection e6 with e6
          subst e6
          rw [shares_get (by rw [HN.out]; exact hlt), HSK.out] at hs6
          injection hs6 with hs6
          subst hs6
          exact ld_intA (hc6 wr (Below.refl _ _))
        clear hs
        by_cases hjt : j < s
        · have kd0 : decide ((j : Int) < (s : Int)) = true := decide_eq_true (by omega)
          have kd1 : decide (j < s) = true := decide_eq_true hjt
          obtain ⟨ad, rfl, hcs⟩ := nx_cells HSJ.out.rd HN.out (D := w.heap.size) (fun _ hj => hj) hlt
          obtain ⟨p, hp⟩ : ∃ p, p = (nxAt l k).1 := ⟨_, rfl⟩
          have hta := table_at (l := l) (i := k) (k := j) (by rw [HN.out]; exact hlt) (by rw [HSK.out]; exact hjt)
          rw [← HA0.out, ← hp] at hta
          rw [← hp] at hcs
          have g0 := ld_intA (hcs wr (Below.refl _ _)).1
          have HSN := Lib.hid (HSJ.out.set HM.out hta)
          obtain ⟨at_, hat⟩ : ∃ a, a = a0 + j := ⟨_, rfl⟩
          rw [← hat] at HSN ⊢
          have HAT := Lib.hid hat
          have HSN2 := Lib.hid (show BkW w W.heap.size gr gb n (some ad) (some ad5) c5 l (a0 + (j + 1)) (wr.setCell ⟨gb, at_, none⟩ (.int .i64 p)) from by rw [show a0 + (j + 1) = at_ + 1 by omega]; exact HSN.out)
          have ha256 : at_ < 256 := by have := HS256.out; omega
          have hkb := HSJ.out.kb
          have hcb : wr.cell? ⟨gb, at_, none⟩ = some (.int .i64 ((bkF l (a0 + j)).getD at_ 0)) := by
            rw [hkb.cell]
            refine arrV_get ?_
            rw [List.getD_eq_getElem?_getD, List.getElem?_eq_getElem (by rw [bk_len HM.out (by omega)]; exact ha256)]
            rfl
          have g2 := st_intA hcb (hkb.frozen at_) p
          have j0 : (0 : Int) ≤ (at_ : Int) := by omega
          have j1 : (at_ : Int) < 256 := by omega
          have j2 : (j : Int) < 256 := by have := HS256.out; omega
          have kd2 : decide ((at_ : Int) < 256) = true := decide_eq_true (by omega)
          have kd3 : decide (at_ < 256) = true := decide_eq_true ha256
          clear hcs hp hta hat hkb hcb hj ha256
          go_wp2_with fail
          go_roundw
          case rel => exact ⟨j + 1, hjt, rfl, by congr 1; have := HAT.out; omega, HSN2.out⟩
          case measure => simp [intOf]; omega
        · obtain rfl : j = s := by omega
          have kd0 : decide ((j : Int) < (j : Int)) = false := decide_eq_false (by omega)
          have kd1 : decide (j < j) = false := decide_eq_false (by omega)
          clear hj hjt
          go_wp2_with fail
          go_roundw
          case rel => exact ⟨k + 1, hlt, rfl, by rw [HSS.out], by rw [HSS.out]; exact HSJ.out⟩
          case measure => simp [intOf]; omega
    · obtain rfl : k = n := by omega
      have hd0 : decide ((k : Int) < (k : Int)) = false := decide_eq_false (by omega)
      have hd1 : decide (k < k) = false := decide_eq_false (by omega)
      have h256 : sumTo (shF l) k = 256 := by rw [← HN.out]; exact shares_sum HM.out
      have hs := HS.out
      rw [h256, ] at hs ⊢
      have hkb := hs.kb
      rw [bk_all HM.out] at hkb
      obtain ⟨T, hT⟩ : ∃ T, T = arrV (tableF l) := ⟨_, rfl⟩
      rw [← hT] at hkb
      have hTS : T.size = 256 := by rw [hT, arrV_size, table_len HM.out]
      have hTO : T.all (·.oneCell') = true := by rw [hT]; exact arrV_one _
      have hl4 := arr_load hkb hTS
      have hkr := hs.kr
      have hst := arr_store hkr (by rw [arrV_size]; simp [zs0]) hTS hTO
      have HK9 := Lib.hid (blk_setCellsZ (vs := T) hkr (by rw [arrV_size, hTS]; simp [zs0]))
      have HB9 := Lib.hid (below_setCellsZ (g := gr) hs.h3 T.toList 0 wr hs.b)
      have HT := Lib.hid hT
      have HTS := Lib.hid hTS
      clear hk hlt h256 hs hkb hT hTS hTO hkr HS
      go_wp2_with fail
      refine bodyPost_ret_by (res_arr1 rfl _ rfl HK9.out HTS.out) rfl ?_
      exact ⟨by rw [← HT.out], HB9.out⟩
end Go.Proofs.YthlommalbkhcjaaGreat
