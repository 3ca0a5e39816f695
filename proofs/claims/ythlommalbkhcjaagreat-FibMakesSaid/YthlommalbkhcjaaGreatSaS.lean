/- guidepostref13.Shares. -/
import Derived.Test.YthlommalbkhcjaaGreatSaR
import Derived.Deep.OwnRows
import Derived.Laws.OwnMore
namespace Go.Proofs.YthlommalbkhcjaaGreat
open Go.RowKit Go.Sort
def intsV (xs : List Int) : List Value := xs.map fun (k : Int) => Value.int .i64 k
theorem intsV_get {xs : List Int} {i : Nat} {k : Int} (h : xs[i]? = some k) : (intsV xs)[i]? = some (.int .i64 k) := by simp [intsV, h]
theorem intsV_set (xs : List Int) (i : Nat) (k : Int) : intsV (xs.set i k) = (intsV xs).set i (.int .i64 k) := by simp [intsV, List.map_set]
theorem map_set {α : Type} (f : Nat → α) (n i : Nat) (v : α) : ((List.range n).map f).set i v = (List.range n).map fun j => if j = i then v else f j := by
  refine List.ext_getElem (by simp) fun j h1 h2 => ?_
  rw [List.getElem_set]
  simp only [List.getElem_map, List.getElem_range]
  by_cases h : i = j
  · rw [if_pos h, if_pos h.symm]
  · rw [if_neg h, if_neg fun e => h e.symm]
structure RsW (w : World) (go gr n : Nat) (A : Option Addr) (l : List Nx) (fo : Nat → Nat) (fr : Nat → Int) (wr : World) : Prop where
  rO : wr.ownsRow w.heap.size 3 1 (.slice (some ⟨go, 0, none⟩) n n) n (natsV ((List.range n).map fo))
  rR : wr.ownsRow w.heap.size 3 1 (.slice (some ⟨gr, 0, none⟩) n n) n (intsV ((List.range n).map fr))
  rd : Reads wr (fun k => k < w.heap.size) 2 A n (l.flatMap nxC)
  b : Below w.heap.size w wr
section
variable {w : World} {go gr n : Nat} {A : Option Addr} {l : List Nx} {fo : Nat → Nat} {fr : Nat → Int} {wr w2 : World}
theorem RsW.later (h : RsW w go gr n A l fo fr wr) (hb : Below wr.heap.size wr w2) : RsW w go gr n A l fo fr w2 :=
  ⟨own_below h.rO hb, own_below h.rR hb, h.rd.keep (Same.ofBelow hb fun _ hk => Nat.lt_of_lt_of_le hk h.b.size), h.b.trans (hb.mono h.b.size)⟩
theorem RsW.setO (h : RsW w go gr n A l fo fr wr) (hne : go ≠ gr) (i v : Nat) : RsW w go gr n A l (fun j => if j = i then v else fo j) fr (wr.setCell ⟨go, i, none⟩ (.int .i64 (v : Int))) := by
  have hg := own_lt h.rO (g := go) rfl
  refine ⟨?_, ownsRow_setCell_other (a := ⟨go, i, none⟩) h.rR (fun e => hne (by injection e with e; exact e.symm)) _, h.rd.keep (Same.ofBelow ((Below.refl _ _).setCell (p := ⟨go, i, none⟩) hg.1 _) fun _ hk => hk), h.b.setCell (p := ⟨go, i, none⟩) hg.1 _⟩
  have := (h.rO.stored i (.int .i64 (v : Int))).1
  rw [← natsV_set, map_set] at this
  exact this
theorem RsW.setR (h : RsW w go gr n A l fo fr wr) (hne : go ≠ gr) (i : Nat) (v : Int) : RsW w go gr n A l fo (fun j => if j = i then v else fr j) (wr.setCell ⟨gr, i, none⟩ (.int .i64 v)) := by
  have hg := own_lt h.rR (g := gr) rfl
  refine ⟨ownsRow_setCell_other (a := ⟨gr, i, none⟩) h.rO (fun e => hne (by injection e with e)) _, ?_, h.rd.keep (Same.ofBelow ((Below.refl _ _).setCell (p := ⟨gr, i, none⟩) hg.1 _) fun _ hk => hk), h.b.setCell (p := ⟨gr, i, none⟩) hg.1 _⟩
  have := (h.rR.stored i (.int .i64 v)).1
  rw [← intsV_set, map_set] at this
  exact this
theorem RsW.cO (h : RsW w go gr n A l fo fr wr) {i : Nat} (hi : i < n) : wr.cell? ⟨go, i, none⟩ = some (.int .i64 (fo i : Int)) := by
  rw [h.rO.cellAt i (by omega)]
  exact natsV_get (by rw [List.getElem?_map, List.getElem?_range hi]; rfl)
theorem RsW.cR (h : RsW w go gr n A l fo fr wr) {i : Nat} (hi : i < n) : wr.cell? ⟨gr, i, none⟩ = some (.int .i64 (fr i)) := by
  rw [h.rR.cellAt i (by omega)]
  exact intsV_get (by rw [List.getElem?_map, List.getElem?_range hi]; rfl)
theorem RsW.eq (h : RsW w go gr n A l fo fr wr) {fo' : Nat → Nat} {fr' : Nat → Int} (e : ∀ i, i < n → fo i = fo' i) (e2 : ∀ i, i < n → fr i = fr' i) : RsW w go gr n A l fo' fr' wr :=
  ⟨by rw [← List.map_congr_left fun i hi => e i (List.mem_range.1 hi)]; exact h.rO, by rw [← List.map_congr_left fun i hi => e2 i (List.mem_range.1 hi)]; exact h.rR, h.rd, h.b⟩
end
theorem made_list (n : Nat) : (madeCells #[Value.int .i64 0] n).toList = natsV ((List.range n).map fun _ => 0) ∧ (madeCells #[Value.int .i64 0] n).toList = intsV ((List.range n).map fun _ => 0) ∧ (madeCells #[Value.int .i64 0] n).size = n := by
  have e : ∀ {α : Type} (v : α) (k : Nat), (List.range k).map (fun _ => v) = List.replicate k v := fun v k => by simp [List.map_const']
  refine ⟨?_, ?_, size_madeCells _ _⟩
  · rw [toList_madeCells_one, e]; simp [natsV]
  · rw [toList_madeCells_one, e]; simp [intsV]
def foQ (l : List Nx) (k j : Nat) : Nat := if j < k then qtF l j else 0
def frQ (l : List Nx) (k j : Nat) : Int := if j < k then (rmF l j : Int) else 0
def frM (l : List Nx) (n m j : Nat) : Int := if rank (rmF l) n j < m then -1 else (rmF l j : Int)
/-- The best of the first i that are left. -/
def bestAt (l : List Nx) (n m i : Nat) (b : Int) : Prop := (b = -1 ∧ ∀ j, j < i → rank (rmF l) n j < m) ∨ ∃ c : Nat, b = (c : Int) ∧ c < i ∧ m ≤ rank (rmF l) n c ∧ ∀ j, j < i → m ≤ rank (rmF l) n j → j = c ∨ bef (rmF l) c j = true
theorem best_skip {l : List Nx} {n m k : Nat} {b : Int} (h : bestAt l n m k b) (hr : rank (rmF l) n k < m) : bestAt l n m (k + 1) b := by
  rcases h with ⟨h1, h2⟩ | ⟨c, h1, h2, h3, h4⟩
  · exact .inl ⟨h1, fun j hj => by
      by_cases e : j = k
      · subst e; exact hr
      · exact h2 j (by omega)⟩
  · exact .inr ⟨c, h1, by omega, h3, fun j hj hjm => by
      by_cases e : j = k
      · subst e; omega
      · exact h4 j (by omega) hjm⟩
theorem best_new {l : List Nx} {n m k : Nat} (h : bestAt l n m k (-1)) (hr : m ≤ rank (rmF l) n k) : bestAt l n m (k + 1) (k : Int) := by
  rcases h with ⟨_, h2⟩ | ⟨c, h1, _⟩
  · exact .inr ⟨k, rfl, by omega, hr, fun j hj hjm => by
      by_cases e : j = k
      · exact .inl e
      · have := h2 j (by omega); omega⟩
  · omega
theorem best_take {l : List Nx} {n m k c : Nat} (h : bestAt l n m k (c : Int)) (hr : m ≤ rank (rmF l) n k) (hlt : rmF l c < rmF l k) : bestAt l n m (k + 1) (k : Int) := by
  have hb : bef (rmF l) k c = true := by rw [bef_iff]; exact .inl hlt
  rcases h with ⟨h1, _⟩ | ⟨d, h1, h2, h3, h4⟩
  · omega
  · obtain rfl : c = d := by omega
    exact .inr ⟨k, rfl, by omega, hr, fun j hj hjm => by
      by_cases e : j = k
      · exact .inl e
      · right
        rcases h4 j (by omega) hjm with rfl | h5
        · exact hb
        · exact bef_trans hb h5⟩
theorem best_stay {l : List Nx} {n m k c : Nat} (h : bestAt l n m k (c : Int)) (hlt : ¬ rmF l c < rmF l k) : bestAt l n m (k + 1) (c : Int) := by
  rcases h with ⟨h1, _⟩ | ⟨d, h1, h2, h3, h4⟩
  · omega
  · obtain rfl : c = d := by omega
    exact .inr ⟨c, rfl, by omega, h3, fun j hj hjm => by
      by_cases e : j = k
      · right; rw [e, bef_iff]; omega
      · exact h4 j (by omega) hjm⟩
theorem best_some {l : List Nx} {n m k : Nat} {b : Int} (h : bestAt l n m k b) : b = -1 ∨ ∃ c : Nat, b = (c : Int) ∧ c < k ∧ m ≤ rank (rmF l) n c := by
  rcases h with ⟨h1, _⟩ | ⟨d, h1, h2, h3, _⟩
  · exact .inl h1
  · exact .inr ⟨d, h1, h2, h3⟩
theorem best_end {l : List Nx} {n m : Nat} {b : Int} (h : bestAt l n m n b) (hm : m < n) : ∃ c : Nat, b = (c : Int) ∧ c < n ∧ rank (rmF l) n c = m := by
  have hc := ranks_cnt (rmF l) n m (by omega)
  rcases h with ⟨_, h2⟩ | ⟨c, h1, h2, h3, h4⟩
  · obtain ⟨j, hj, hj2⟩ := some_left hc hm
    have := h2 j hj; omega
  · exact ⟨c, h1, h2, rank_best h2 hc h3 h4⟩
theorem frM_out {l : List Nx} {n m k : Nat} (h : rank (rmF l) n k < m) : frM l n m k = -1 := by unfold frM; rw [if_pos h]
theorem frM_in {l : List Nx} {n m k : Nat} (h : m ≤ rank (rmF l) n k) : frM l n m k = (rmF l k : Int) := by unfold frM; rw [if_neg (by omega)]
set_option maxRecDepth 100000 in
set_option maxHeartbeats 8000000 in
theorem rshares_any (A : Option Addr) (n c : Nat) (l : List Nx) (I : Nat → Prop) (w : World) (h : Reads w I 2 A n (l.flatMap nxC)) (hn : l.length = n) (hm : mayF l = true) :
    Calls Tryz.prog 155 #[.slice A n c] w fun e w' => ∃ v, e = .returned v ∧ w'.ownsRow w.heap.size 3 1 v l.length (natsV (sharesF l)) ∧ Below w.heap.size w w' := by
  have HR := Lib.hid (h.lt.mono fun _ h => h.2)
  have HN := Lib.hid hn
  have HM := Lib.hid hm
  have HN8 := Lib.hid (show n ≤ 8 by have := may_len hm; omega)
  have HA0 := Lib.hid (all_pos hm)
  have HA1 := Lib.hid (all_le hm)
  have hmk : ∀ wx : World, (Instr.makeSlice 49 (.int .i64 (n : Int)) (.int .i64 (n : Int))).run Tryz.prog wx = .ok (.slice (some ⟨wx.heap.size, 0, none⟩) n n) (wx.alloc (.cells (madeCells #[.int .i64 0] n) 3)) :=
    fun wx => run_make_row' 49 3 _ 8 Tryz.underlying49 info_i64 rfl .i64 .i64 n (by have := HN8.out; omega) (by have := HN8.out; omega) wx
  have HMK := Lib.hid hmk
  clear h hn hm hmk
  go_enter Tryz.func155, Tryz.ntmps155
  go_wp2_with fail
  go_loopw [3, 4] (fun s i wr => ∃ k : Nat, k ≤ n ∧ i = .int .i64 (k : Int) ∧ s = .int .i64 (sumTo (wAt l) k : Int) ∧ Below w.heap.size w wr) (fun _ i _ => n - (intOf i).toNat)
  case atStart => exact ⟨0, Nat.zero_le _, rfl, rfl, Below.refl _ _⟩
  case round =>
    obtain ⟨k, hk, rfl, rfl, hb⟩ := hrel
    have HB := Lib.hid hb
    clear hb
    by_cases hlt : k < n
    · have hd0 : decide ((k : Int) < (n : Int)) = true := decide_eq_true (by omega)
      have hd1 : decide (k < n) = true := decide_eq_true hlt
      obtain ⟨ad, rfl, hcs⟩ := nx_cells HR.out HN.out (D := w.heap.size) (fun _ hj => hj) hlt
      obtain ⟨p, hp⟩ : ∃ p, p = (nxAt l k).1 := ⟨_, rfl⟩
      obtain ⟨d, hd⟩ : ∃ p, p = (nxAt l k).2 := ⟨_, rfl⟩
      rw [← hp, ← hd] at hcs
      obtain ⟨g0, g1⟩ := hcs wr HB.out
      obtain ⟨x, hx⟩ : ∃ x, x = wAt l k := ⟨_, rfl⟩
      have hpd : (p, d) = nxAt l k := by rw [hp, hd]
      have hwt := rweight_any (p, d) wr
      rw [show wtF (p, d) = x by rw [hx, hpd]; rfl] at hwt
      unfold nxV at hwt
      have HWT := Lib.hid hwt
      have HX := Lib.hid (show x ≤ 65536 by rw [hx]; exact wAt_le l k)
      obtain ⟨s, hs⟩ : ∃ s, s = sumTo (wAt l) k := ⟨_, rfl⟩
      have HSS := Lib.hid (show sumTo (wAt l) (k + 1) = s + x by rw [hs, hx]; rfl)
      have HSB := Lib.hid (show s ≤ 524288 by
        have := sumTo_bound (f := wAt l) (c := 65536) k fun i _ => wAt_le l i
        have := HN8.out
        have : k * 65536 ≤ 8 * 65536 := Nat.mul_le_mul_right _ (by omega)
        omega)
      rw [← hs]
      have i0 : (0 : Int) ≤ k := by omega
      have i1 : (k : Int) < n := by omega
      have i2 : (k : Int) < 8 := by have := HN8.out; omega
      have s0 : (s : Int) ≤ 524288 := by have := HSB.out; omega
      have s1 : (x : Int) ≤ 65536 := by have := HX.out; omega
      clear hp hd hcs hx hpd hwt hs
      go_wp2_with fail
      refine HWT.out.mono ?_
      rintro e w2 ⟨rfl, hb2⟩
      have HB2 := Lib.hid (HB.out.trans (hb2.mono HB.out.size))
      clear hb2 g0 g1
      go_wp2_with fail
      go_roundw
      case rel => exact ⟨k + 1, hlt, rfl, by rw [HSS.out]; congr 1, HB2.out⟩
      case measure => simp [intOf]; omega
    · obtain rfl : n = k := by omega
      have hd0 : decide ((n : Int) < (n : Int)) = false := decide_eq_false (by omega)
      have hd1 : decide (n < n) = false := decide_eq_false (by omega)
      obtain ⟨al, hal⟩ : ∃ a, a = allF l := ⟨_, rfl⟩
      rw [← hal] at HA0 HA1
      have hse : sumTo (wAt l) n = al := by rw [hal, ← HN.out]; rfl
      rw [hse]
      have HAL := Lib.hid hal
      have hmk := HMK.out
      obtain ⟨W2, hW2⟩ : ∃ W, W = (wr.alloc (.cells (madeCells #[.int .i64 0] n) 3)).alloc (.cells (madeCells #[.int .i64 0] n) 3) := ⟨_, rfl⟩
      have hz2 : (wr.alloc (.cells (madeCells #[.int .i64 0] n) 3)).heap.size = wr.heap.size + 1 := by simp
      have hbA : Below wr.heap.size wr (wr.alloc (.cells (madeCells #[.int .i64 0] n) 3)) := (Below.refl _ _).alloc (Nat.le_refl _) _
      have hbB := (Below.refl _ (wr.alloc (.cells (madeCells #[.int .i64 0] n) 3))).alloc (Nat.le_refl _) (.cells (madeCells #[.int .i64 0] n) 3)
      obtain ⟨m1, m2, m3⟩ := made_list n
      have hO := own_alloc_lit (w := wr) w.heap.size 3 1 (madeCells #[.int .i64 0] n) n HB.out.size (by unfold maxLen; have := HN8.out; omega) (by rw [m3]; omega)
      have hR := own_alloc_lit (w := wr.alloc (.cells (madeCells #[.int .i64 0] n) 3)) w.heap.size 3 1 (madeCells #[.int .i64 0] n) n (by rw [hz2]; have := HB.out.size; omega) (by unfold maxLen; have := HN8.out; omega) (by rw [m3]; omega)
      rw [m1] at hO
      rw [m2, hz2] at hR
      have HS := Lib.hid (show RsW w wr.heap.size (wr.heap.size + 1) n A l (foQ l 0) (frQ l 0) W2 from by
        rw [hW2]
        exact ⟨own_below hO hbB, hR, HR.out.keep (Same.ofBelow ((HB.out.alloc HB.out.size _).alloc (HB.out.alloc HB.out.size _).size _) fun _ hk => hk), (HB.out.alloc HB.out.size _).alloc (HB.out.alloc HB.out.size _).size _⟩)
      have HW2 := Lib.hid hW2
      obtain ⟨go, hgo⟩ : ∃ g, g = wr.heap.size := ⟨_, rfl⟩
      have HNE := Lib.hid (show go ≠ go + 1 by omega)
      rw [← hgo] at HS
      have HGO := Lib.hid hgo
      obtain ⟨gr, hgr⟩ : ∃ g, g = go + 1 := ⟨_, rfl⟩
      rw [← hgr] at HS HNE
      have HGR := Lib.hid (show wr.heap.size + 1 = gr by rw [hgr, hgo])
      clear hk hlt hal hse hbA hbB m1 m2 m3 hO hR hW2 hz2 hgo hgr
      go_upto_region 8 with (fail)
      rw [← HW2.out, HGR.out, ← HGO.out]
      clear hmk
      go_wp2_with fail
      go_loopw [7, 8] (fun vl i wr => ∃ k : Nat, k ≤ n ∧ i = .int .i64 (k : Int) ∧ vl = .int .i64 (256 - (sumTo (qtF l) k : Int)) ∧ RsW w go gr n A l (foQ l k) (frQ l k) wr) (fun _ i _ => n - (intOf i).toNat)
      case atStart => exact ⟨0, Nat.zero_le _, rfl, rfl, HS.out⟩
      case round =>
        obtain ⟨k, hk, rfl, rfl, hs⟩ := hrel
        have HSK := Lib.hid hs
        clear hs HS
        by_cases hlt : k < n
        · have hd0 : decide ((k : Int) < (n : Int)) = true := decide_eq_true (by omega)
          have hd1 : decide (k < n) = true := decide_eq_true hlt
          obtain ⟨ad, rfl, _⟩ := nx_cells HR.out HN.out (D := w.heap.size) (fun _ hj => hj) hlt
          obtain ⟨p, hp⟩ : ∃ p, p = (nxAt l k).1 := ⟨_, rfl⟩
          obtain ⟨d, hd⟩ : ∃ p, p = (nxAt l k).2 := ⟨_, rfl⟩
          have HCS := Lib.hid (show ∀ wz, (Reads wz (fun k => k < w.heap.size) 2 (some ad) n (l.flatMap nxC) ∧ w.heap.size ≤ wz.heap.size) → wz.cell? (ad.add (k * 2)) = some (.int .i64 p) ∧ wz.cell? ⟨(ad.add (k * 2)).block, (ad.add (k * 2)).off + 1, none⟩ = some (.int .i64 d) from fun wz hz => by
            obtain ⟨ad', ea, hc⟩ := nx_cells hz.1 HN.out (D := w.heap.size) (fun _ hj => hj) hlt
            injection ea with ea
            subst ea
            rw [hp, hd]
            exact hc wz (Below.refl _ _))
          obtain ⟨x, hx⟩ : ∃ x, x = wAt l k := ⟨_, rfl⟩
          have hpd : (p, d) = nxAt l k := by rw [hp, hd]
          have hwt := fun wx => rweight_any (p, d) wx
          rw [show wtF (p, d) = x by rw [hx, hpd]; rfl] at hwt
          unfold nxV at hwt
          have HWT := Lib.hid hwt
          have HX := Lib.hid (show x ≤ 65536 by rw [hx]; exact wAt_le l k)
          obtain ⟨q, hq⟩ : ∃ q, q = qtF l k := ⟨_, rfl⟩
          obtain ⟨r, hr⟩ : ∃ q, q = rmF l k := ⟨_, rfl⟩
          have hqe : q = 256 * x / al := by rw [hq, hx, HAL.out]; rfl
          have hre : r = 256 * x % al := by rw [hr, hx, HAL.out]; rfl
          have HQ := Lib.hid hq
          have HRE := Lib.hid hr
          have HQS := Lib.hid (show sumTo (qtF l) (k + 1) = sumTo (qtF l) k + q by rw [hq]; rfl)
          have HQ256 := Lib.hid (show sumTo (qtF l) k + q ≤ 256 by
            have h1 := (left_of HM.out).1
            have h2 := sumTo_le (qtF l) (m := k + 1) (n := l.length) (by rw [HN.out]; exact hlt)
            have h3 : sumTo (qtF l) (k + 1) = sumTo (qtF l) k + qtF l k := rfl
            rw [hq]; omega)
          have HW1 := Lib.hid (show IntKind.i64.wrap (256 * (x : Int)) = 256 * (x : Int) from IntWalk.i64_in _ (by have := HX.out; omega))
          have HNZ := Lib.hid (show ¬ al = 0 by have := HA0.out; omega)
          have HQQ := Lib.hid (show (256 * (x : Int)).tdiv (al : Int) = (q : Int) by rw [Int.tdiv_eq_ediv_of_nonneg (by omega), div_eq, hqe])
          have HWQ := Lib.hid (show IntKind.i64.wrap (q : Int) = (q : Int) from IntWalk.i64_in _ (by have := HQ256.out; omega))
          have HRR := Lib.hid (show (256 * (x : Int)).tmod (al : Int) = (r : Int) by rw [rem_eq, hre])
          have HS1 := Lib.hid (fun (wx : World) (hb : Below wr.heap.size wr wx) => (HSK.out.later hb).setO HNE.out k q)
          have HS2 := Lib.hid (fun (wx : World) (h : RsW w go gr n (some ad) l (fun j => if j = k then q else foQ l k j) (frQ l k) wx) => ((h.setR HNE.out k (r : Int)).eq (fo' := foQ l (k + 1)) (fr' := frQ l (k + 1)) (fun i _ => by
            unfold foQ
            by_cases e : i = k
            · rw [if_pos e, if_pos (by omega), e, HQ.out]
            · rw [if_neg e]; by_cases e2 : i < k
              · rw [if_pos e2, if_pos (by omega)]
              · rw [if_neg e2, if_neg (by omega)]) (fun i _ => by
            unfold frQ
            by_cases e : i = k
            · rw [if_pos e, if_pos (by omega), e, HRE.out]
            · rw [if_neg e]; by_cases e2 : i < k
              · rw [if_pos e2, if_pos (by omega)]
              · rw [if_neg e2, if_neg (by omega)])))
          obtain ⟨sq, hsq⟩ : ∃ s, s = sumTo (qtF l) k := ⟨_, rfl⟩
          rw [← hsq] at HQS HQ256 ⊢
          have i0 : (0 : Int) ≤ k := by omega
          have i1 : (k : Int) < n := by omega
          have i2 : (k : Int) < 8 := by have := HN8.out; omega
          clear hp hd hx hpd hwt hq hr hqe hre hsq
          go_upto_region 12 with (fail)
          have HCC := Lib.hid (fun (a b : World) (ha : Reads a (fun k => k < w.heap.size) 2 (some ad) n (l.flatMap nxC) ∧ w.heap.size ≤ a.heap.size) (hb : Below a.heap.size a b) => (⟨ha.1.keep (Same.ofBelow hb fun _ hk => Nat.lt_of_lt_of_le hk ha.2), Nat.le_trans ha.2 hb.size⟩ : Reads b (fun k => k < w.heap.size) 2 (some ad) n (l.flatMap nxC) ∧ w.heap.size ≤ b.heap.size))
          have HC0 := Lib.hid (⟨HSK.out.rd, HSK.out.b.size⟩ : Reads wr (fun k => k < w.heap.size) 2 (some ad) n (l.flatMap nxC) ∧ w.heap.size ≤ wr.heap.size)
          refine wp_region_mix [(true, 20), (false, 4)] 2 (by kernel_rfl) (fun wx => Reads wx (fun k => k < w.heap.size) 2 (some ad) n (l.flatMap nxC) ∧ w.heap.size ≤ wx.heap.size) HCC.out (by kernel_rfl) HC0.out (a' := ?_) (fun wz hz => ?_) fun wz hz => ?_
          rotate_left
          · have x1 := fun (dd : Nat) (os : Array Obj) => (HCS.out _ (HCC.out _ _ hz (below_regrown wz dd os))).1
            have x2 := fun (dd : Nat) (os : Array Obj) => (HCS.out _ (HCC.out _ _ hz (below_regrown wz dd os))).2
            have cA := fun (dd : Nat) (os : Array Obj) => Calls.regrown_of (HWT.out (grow (redrawn wz dd) os))
            have e1 := HW1.out
            have e2 := HNZ.out
            have e3 := HQQ.out
            have e4 := HWQ.out
            have e5 := HRR.out
            clear hz
            simp only [pick_nil, pick_tt, pick_ft, List.take_succ_cons, List.take_zero, List.drop_succ_cons, List.drop_zero, List.append_nil]
            repeat (go_big_quiet_step (first | with_reducible exact cA _ _))
            refine wpQuiet_nil ?_
            rfl
          · simp only [pick_nil, pick_ff, pick_tf, List.take_succ_cons, List.take_zero, List.drop_succ_cons, List.drop_zero, List.append_nil]
            have S0 := Lib.hid (HCC.out _ _ HC0.out hz)
            have B0 := Lib.hid hz
            clear hz
            refine wpMix_step S0.out fun wa ha => ?_
            have S1 := Lib.hid (HCC.out _ _ S0.out ha)
            have B1 := Lib.hid (B0.out.trans (ha.mono B0.out.size))
            clear ha
            go_wp2_with fail
            refine wpMix_step S1.out fun wb hb => ?_
            have S2 := Lib.hid (HCC.out _ _ S1.out hb)
            have B2 := Lib.hid (B1.out.trans (hb.mono B1.out.size))
            have hq1 := HSK.out.later B2.out
            have c1 := hq1.cO hlt
            have f1 := hq1.rO.frozenAt k
            have T1 := Lib.hid (HS1.out wb B2.out)
            clear hb hq1
            go_wp2_with fail
            obtain ⟨wc, hwc⟩ : ∃ x, x = wb.setCell ⟨go, k, none⟩ (.int .i64 (q : Int)) := ⟨_, rfl⟩
            rw [← hwc] at T1 ⊢
            have S3 := Lib.hid (⟨T1.out.rd, T1.out.b.size⟩ : Reads wc (fun k => k < w.heap.size) 2 (some ad) n (l.flatMap nxC) ∧ w.heap.size ≤ wc.heap.size)
            clear c1 f1 hwc
            refine wpMix_step S3.out fun wd hd => ?_
            have T2 := Lib.hid (T1.out.later hd)
            have c2 := T2.out.cR hlt
            have f2 := T2.out.rR.frozenAt k
            have T3 := Lib.hid (HS2.out wd T2.out)
            clear hd
            go_wp2_with fail
            refine wpMix_plain ?_
            go_upto_region 13 with (fail)
            obtain ⟨we, hwe⟩ : ∃ x, x = wd.setCell ⟨gr, k, none⟩ (.int .i64 (r : Int)) := ⟨_, rfl⟩
            rw [← hwe] at T3 ⊢
            have c3 := T3.out.cO hlt
            rw [show foQ l (k + 1) k = q by unfold foQ; rw [if_pos (by omega), HQ.out]] at c3
            have q0 : (sq : Int) + q ≤ 256 := by have := HQ256.out; omega
            have q1 : (0 : Int) ≤ q := by omega
            have q2 : (0 : Int) ≤ sq := by omega
            clear c2 f2 hwe
            go_wp2_with fail
            go_roundw
            case rel => exact ⟨k + 1, hlt, rfl, by rw [HQS.out]; congr 1; omega, T3.out⟩
            case measure => simp [intOf]; omega
        · obtain rfl : n = k := by omega
          have hd0 : decide ((n : Int) < (n : Int)) = false := decide_eq_false (by omega)
          have hd1 : decide (n < n) = false := decide_eq_false (by omega)
          obtain ⟨h256, hlf, _⟩ := left_of HM.out
          rw [HN.out] at h256 hlf
          obtain ⟨lf, hlf0⟩ : ∃ x, x = leftF l := ⟨_, rfl⟩
          have hle : (256 : Int) - (sumTo (qtF l) n : Int) = (lf : Int) := by rw [hlf0]; unfold leftF; rw [HN.out]; omega
          rw [← hlf0] at hlf
          rw [hle]
          have HLF := Lib.hid hlf0
          have HLN := Lib.hid hlf
          have HSM := Lib.hid (HSK.out.eq (fo' := incF l n 0) (fr' := frM l n 0) (fun i hi => by unfold foQ incF; rw [if_pos hi, if_neg (by omega)]; omega) (fun i hi => by unfold frQ frM; rw [if_pos hi, if_neg (by omega)]))
          clear hk hlt h256 hlf hlf0 hle HSK
          go_wp2_with fail
          go_loopw [7] (fun vl wr => ∃ m : Nat, m ≤ lf ∧ vl = .int .i64 ((lf : Int) - (m : Int)) ∧ RsW w go gr n A l (incF l n m) (frM l n m) wr) (fun vl _ => (intOf vl).toNat)
          case atStart => exact ⟨0, Nat.zero_le _, by simp, HSM.out⟩
          case round =>
            obtain ⟨m, hm, rfl, hs⟩ := hrel
            have HSK := Lib.hid hs
            clear hs HSM
            by_cases hlt : m < lf
            · have hd0 : decide ((0 : Int) < (lf : Int) - (m : Int)) = true := decide_eq_true (by omega)
              have l0 : (0 : Int) ≤ (lf : Int) - (m : Int) := by omega
              have l1 : (lf : Int) - (m : Int) ≤ 8 := by have := HLN.out; have := HN8.out; omega
              have hmn : m < n := by have := HLN.out; omega
              have HLT := Lib.hid hlt
              have HMN := Lib.hid hmn
              obtain ⟨wo, rfl⟩ : ∃ wo : World, wo = wr := ⟨_, rfl⟩
              go_wp2_with fail
              go_loopw [9, 10] (fun bv i wx => ∃ (k : Nat) (b : Int), k ≤ n ∧ i = .int .i64 (k : Int) ∧ bv = .int .i64 b ∧ bestAt l n m k b ∧ Below wo.heap.size wo wx) (fun _ i _ => n - (intOf i).toNat)
              case atStart => exact ⟨0, -1, Nat.zero_le _, rfl, rfl, .inl ⟨rfl, fun j hj => absurd hj (by omega)⟩, Below.refl _ _⟩
              case round =>
                obtain ⟨k, b, hk, rfl, rfl, hbest, hb⟩ := hrel
                have HB := Lib.hid hb
                have HBE := Lib.hid hbest
                clear hb hbest
                by_cases hkt : k < n
                · have kd0 : decide ((k : Int) < (n : Int)) = true := decide_eq_true (by omega)
                  have kd1 : decide (k < n) = true := decide_eq_true hkt
                  have hlat := fun (dd : Nat) (os : Array Obj) => HSK.out.later (HB.out.trans ((below_regrown wr dd os).mono HB.out.size))
                  have x1 := fun (dd : Nat) (os : Array Obj) => (hlat dd os).cR hkt
                  have k0 : (0 : Int) ≤ k := by omega
                  have k1 : (k : Int) < n := by omega
                  have k2 : (n : Int) ≤ 8 := by have := HN8.out; omega
                  by_cases hrk : rank (rmF l) n k < m
                  · rw [frM_out hrk] at x1
                    have HN2 := Lib.hid (best_skip HBE.out hrk)
                    clear hlat hrk
                    go_upto_region 20 with (fail)
                    refine wp_region_quiet_below (by kernel_rfl) (by kernel_rfl) ?_
                    repeat (go_big_quiet_step (fail))
                    refine wpQuiet_nil ?_
                    intro _ hw'
                    obtain ⟨⟨dq, osq⟩, hw''⟩ := hw'
                    subst hw''
                    have HB2 := Lib.hid (HB.out.trans ((below_regrown wr dq osq).mono HB.out.size))
                    clear x1
                    generalize grow (redrawn wr dq) osq = wq at HB2 ⊢
                    go_wp2_with fail
                    go_roundw
                    case rel => exact ⟨k + 1, b, hkt, rfl, rfl, HN2.out, HB2.out⟩
                    case measure => simp [intOf]; omega
                  have hrk2 : m ≤ rank (rmF l) n k := by omega
                  rw [frM_in hrk2] at x1
                  obtain ⟨rk, hrke⟩ : ∃ r, r = rmF l k := ⟨_, rfl⟩
                  rw [← hrke] at x1
                  have g0 : decide ((0 : Int) ≤ (rk : Int)) = true := decide_eq_true (by omega)
                  rcases best_some HBE.out with hb1 | ⟨c1, hb1, hc1, hc2⟩
                  · subst hb1
                    have HN2 := Lib.hid (best_new HBE.out hrk2)
                    clear hlat hrk hrk2 hrke
                    go_upto_region 20 with (fail)
                    refine wp_region_quiet_below (by kernel_rfl) (by kernel_rfl) ?_
                    repeat (go_big_quiet_step (fail))
                    refine wpQuiet_nil ?_
                    intro _ hw'
                    obtain ⟨⟨dq, osq⟩, hw''⟩ := hw'
                    subst hw''
                    have HB2 := Lib.hid (HB.out.trans ((below_regrown wr dq osq).mono HB.out.size))
                    clear x1
                    generalize grow (redrawn wr dq) osq = wq at HB2 ⊢
                    go_wp2_with fail
                    go_roundw
                    case rel => exact ⟨k + 1, (k : Int), hkt, rfl, rfl, HN2.out, HB2.out⟩
                    case measure => simp [intOf]; omega
                  subst hb1
                  have hcn : c1 < n := by omega
                  have x2 := fun (dd : Nat) (os : Array Obj) => (hlat dd os).cR hcn
                  rw [frM_in hc2] at x2
                  obtain ⟨rc, hrce⟩ : ∃ r, r = rmF l c1 := ⟨_, rfl⟩
                  rw [← hrce] at x2
                  have g1 : decide ((c1 : Int) < 0) = false := decide_eq_false (by omega)
                  have j0 : (0 : Int) ≤ c1 := by omega
                  have j1 : (c1 : Int) < n := by omega
                  by_cases hgt : rc < rk
                  · have g2 : decide ((rc : Int) < (rk : Int)) = true := decide_eq_true (by omega)
                    have g2' : decide (rc < rk) = true := decide_eq_true hgt
                    have HN2 := Lib.hid (best_take HBE.out hrk2 (by rw [← hrke, ← hrce]; exact hgt))
                    clear hlat hrk hrk2 hrke hrce hgt hc1 hc2 hcn
                    go_upto_region 20 with (fail)
                    refine wp_region_quiet_below (by kernel_rfl) (by kernel_rfl) ?_
                    repeat (go_big_quiet_step (fail))
                    refine wpQuiet_nil ?_
                    intro _ hw'
                    obtain ⟨⟨dq, osq⟩, hw''⟩ := hw'
                    subst hw''
                    have HB2 := Lib.hid (HB.out.trans ((below_regrown wr dq osq).mono HB.out.size))
                    clear x1 x2
                    generalize grow (redrawn wr dq) osq = wq at HB2 ⊢
                    go_wp2_with fail
                    go_roundw
                    case rel => exact ⟨k + 1, (k : Int), hkt, rfl, rfl, HN2.out, HB2.out⟩
                    case measure => simp [intOf]; omega
                  · have g2 : decide ((rc : Int) < (rk : Int)) = false := decide_eq_false (by omega)
                    have g2' : decide (rc < rk) = false := decide_eq_false hgt
                    have HN2 := Lib.hid (best_stay HBE.out (by rw [← hrke, ← hrce]; exact hgt))
                    clear hlat hrk hrk2 hrke hrce hgt hc1 hc2 hcn
                    go_upto_region 20 with (fail)
                    refine wp_region_quiet_below (by kernel_rfl) (by kernel_rfl) ?_
                    repeat (go_big_quiet_step (fail))
                    refine wpQuiet_nil ?_
                    intro _ hw'
                    obtain ⟨⟨dq, osq⟩, hw''⟩ := hw'
                    subst hw''
                    have HB2 := Lib.hid (HB.out.trans ((below_regrown wr dq osq).mono HB.out.size))
                    clear x1 x2
                    generalize grow (redrawn wr dq) osq = wq at HB2 ⊢
                    go_wp2_with fail
                    go_roundw
                    case rel => exact ⟨k + 1, (c1 : Int), hkt, rfl, rfl, HN2.out, HB2.out⟩
                    case measure => simp [intOf]; omega
                · obtain rfl : n = k := by omega
                  have kd0 : decide ((n : Int) < (n : Int)) = false := decide_eq_false (by omega)
                  have kd1 : decide (n < n) = false := decide_eq_false (by omega)
                  obtain ⟨c1, rfl, hcn, hrc⟩ := best_end HBE.out HMN.out
                  have hsx := HSK.out.later HB.out
                  have c0 := hsx.cO hcn
                  have f0 := hsx.rO.frozenAt c1
                  have hq : incF l n m c1 < 1000 := by
                    have h1 := sumTo_le (qtF l) (m := c1 + 1) (n := l.length) (by rw [HN.out]; exact hcn)
                    have h2 := (left_of HM.out).1
                    have h3 : sumTo (qtF l) (c1 + 1) = sumTo (qtF l) c1 + qtF l c1 := rfl
                    unfold incF
                    split <;> omega
                  obtain ⟨y, hy⟩ : ∃ y, y = incF l n m c1 := ⟨_, rfl⟩
                  rw [← hy] at c0 hq
                  have hs1 := hsx.setO HNE.out c1 (y + 1)
                  have c1r := hs1.cR hcn
                  have f1r := hs1.rR.frozenAt c1
                  have hs2 := hs1.setR HNE.out c1 (-1)
                  have ey : ((y + 1 : Nat) : Int) = (y : Int) + 1 := by omega
                  rw [ey] at c1r f1r hs2
                  have HS3 := Lib.hid (hs2.eq (fo' := incF l n (m + 1)) (fr' := frM l n (m + 1)) (fun i hi => by
                    have hst := rank_step (r := rmF l) hcn hrc hi
                    by_cases e : i = c1
                    · rw [if_pos e, hy, e]; unfold incF; rw [if_neg (by omega), if_pos (by omega)]
                    · rw [if_neg e]; unfold incF
                      by_cases h4 : rank (rmF l) n i < m
                      · rw [if_pos h4, if_pos (by omega)]
                      · rw [if_neg h4, if_neg fun h5 => by rcases hst.1 h5 with h6 | h6; exact h4 h6; exact e h6]) (fun i hi => by
                    have hst := rank_step (r := rmF l) hcn hrc hi
                    by_cases e : i = c1
                    · rw [if_pos e]; unfold frM; rw [if_pos (by rw [e]; omega)]
                    · rw [if_neg e]; unfold frM
                      by_cases h4 : rank (rmF l) n i < m
                      · rw [if_pos h4, if_pos (by omega)]
                      · rw [if_neg h4, if_neg fun h5 => by rcases hst.1 h5 with h6 | h6; exact h4 h6; exact e h6]))
                  have g1 : decide ((c1 : Int) < 0) = false := decide_eq_false (by omega)
                  have j0 : (0 : Int) ≤ c1 := by omega
                  have j1 : (c1 : Int) < n := by omega
                  have j2 : (n : Int) ≤ 8 := by have := HN8.out; omega
                  have y0 : (0 : Int) ≤ y := by omega
                  have y1 : (y : Int) < 1000 := by omega
                  have l2 : (1 : Int) ≤ (lf : Int) - (m : Int) := by have := HLT.out; omega
                  clear hcn hrc hsx hy hs1 hs2 ey hk hkt hq
                  go_wp2_with fail
                  go_roundw
                  case rel => exact ⟨m + 1, HLT.out, by congr 1; omega, HS3.out⟩
                  case measure => have := HLT.out; simp [intOf]; omega
            · obtain rfl : m = lf := by omega
              have hd0 : decide ((0 : Int) < (m : Int) - (m : Int)) = false := decide_eq_false (by omega)
              have HR9 := Lib.hid (show wr.ownsRow w.heap.size 3 1 (.slice (some ⟨go, 0, none⟩) n n) l.length (natsV (sharesF l)) from by
                have := HSK.out.rO
                rw [HN.out]
                have e : sharesF l = (List.range n).map (incF l n m) := by
                  unfold sharesF
                  rw [HN.out]
                  exact List.map_congr_left fun i _ => by unfold shF incF; rw [HN.out, HLF.out]
                rw [e]
                exact this)
              have HB9 := Lib.hid HSK.out.b
              have e0 : (m : Int) - (m : Int) = 0 := by omega
              clear hm hlt HSK
              rw [e0]
              go_wp2_with fail
              go_ret
              exact ⟨_, rfl, HR9.out, HB9.out⟩
end Go.Proofs.YthlommalbkhcjaaGreat
