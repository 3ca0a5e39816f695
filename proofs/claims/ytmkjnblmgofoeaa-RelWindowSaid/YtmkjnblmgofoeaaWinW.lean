/- The walk of RelWindow. -/
import Derived.Test.YtmkjnblmgofoeaaWinL
import Derived.Test.YtmkjnblmgofoeaaRowA
import Derived.Deep.QuietTactic
import Derived.BigQuiet
namespace Go.Proofs.Ytmkjnblmgofoeaa
open Go.RowKit

theorem acCells_get : ∀ (l : List Ac) (k : Nat) (a : Ac), l[k]? = some a → (l.flatMap Ac.cells)[k * 5]? = some (.int .i64 a.kind) ∧ (l.flatMap Ac.cells)[k * 5 + 1]? = some a.u ∧ (l.flatMap Ac.cells)[k * 5 + 2]? = some (.int .u64 a.g.seq) ∧
    (l.flatMap Ac.cells)[k * 5 + 3]? = some (.int .u64 a.g.ack) ∧ (l.flatMap Ac.cells)[k * 5 + 4]? = some a.g.u
  | a :: r, 0, g, h => by
    obtain rfl : a = g := by simpa using h
    simp [Ac.cells, Sg.cells]
  | a :: r, k + 1, g, h => by
    have ih := acCells_get r k g (by simpa using h)
    have e : (a :: r).flatMap Ac.cells = .int .i64 a.kind :: a.u :: .int .u64 a.g.seq :: .int .u64 a.g.ack :: a.g.u :: r.flatMap Ac.cells := rfl
    rw [e, show (k + 1) * 5 = k * 5 + 1 + 1 + 1 + 1 + 1 from by omega]
    simpa using ih

/-- Up to which messages were sent, behind a row of segments. -/
def mostL (m : Nat) (l : List (Nat × Nat × List UInt8)) : Nat := l.foldl (fun m g => max m g.1) m
theorem mostL_snoc (m : Nat) (l : List (Nat × Nat × List UInt8)) (g : Nat × Nat × List UInt8) : mostL m (l ++ [g]) = max (mostL m l) g.1 := by simp [mostL]
/-- What the law asks of a row of segments. -/
def RowOk (s : SS) (m : Nat) (l : List (Nat × Nat × List UInt8)) : Prop := ∀ (j : Nat) (g : Nat × Nat × List UInt8), l[j]? = some g →
  (g.1 = 0 ∧ l.length = 1) ∨ (0 < g.1 ∧ s.acked < g.1 ∧ g.1 ≤ s.acked + 8 ∧ g.1 ≤ mostL m (l.take j) + 1 ∧ (∀ i, j = i + 1 → ∃ p, l[i]? = some p ∧ g.1 = p.1 + 1) ∧ g.2.1 = s.taken)
theorem mostL_out (s : SS) (frm : Nat) : ∀ (k m : Nat), mostL m (outSpec s frm k) = if 0 < k then max m (s.acked + frm + k) else m
  | 0, m => rfl
  | k + 1, m => by
    rw [outSpec_succ, mostL_snoc, mostL_out s frm k m]
    simp only
    split <;> simp <;> omega
theorem outSpec_take (s : SS) (frm k j : Nat) (h : j ≤ k) : (outSpec s frm k).take j = outSpec s frm j := by
  unfold outSpec
  rw [← List.map_take, List.take_range, Nat.min_eq_left h]
theorem outSpec_get (s : SS) (frm k j : Nat) (h : j < k) : (outSpec s frm k)[j]? = some (s.acked + (frm + j) + 1, s.taken, s.xs[frm + j]?.getD []) := by
  unfold outSpec
  rw [List.getElem?_map, List.getElem?_range h]
  rfl
theorem rowOk_out (s s2 : SS) (m frm k : Nat) (h1 : s2.acked = s.acked) (h2 : s2.taken = s.taken) (h3 : frm + k ≤ 8) (h4 : s.acked + frm ≤ m) : RowOk s2 m (outSpec s frm k) := by
  intro j g hj
  have hlt : j < k := by
    have := (List.getElem?_eq_some_iff.1 hj).1
    rwa [outSpec_len] at this
  rw [outSpec_get s frm k j hlt] at hj
  injection hj with hj
  subst hj
  refine .inr ⟨by show 0 < s.acked + (frm + j) + 1; omega, by show s2.acked < s.acked + (frm + j) + 1; omega, by show s.acked + (frm + j) + 1 ≤ s2.acked + 8; omega, ?_, ?_, h2.symm⟩
  · show s.acked + (frm + j) + 1 ≤ _
    rw [outSpec_take s frm k j (by omega), mostL_out]
    split <;> omega
  · rintro i rfl
    exact ⟨_, outSpec_get s frm k i (by omega), by show s.acked + (frm + (i + 1)) + 1 = s.acked + (frm + i) + 1 + 1; omega⟩
theorem rowOk_due {s : SS} {k : Nat} (h : WinOk s k) : RowOk (dueS s) (s.acked + s.sent) (dueL s) ∧ mostL (s.acked + s.sent) (dueL s) = (dueS s).acked + (dueS s).sent ∧ (dueL s).length ≤ 8 := by
  obtain ⟨_, e1, e2, e3⟩ := h.due
  have hd : dueTo s ≤ 8 := by unfold dueTo; omega
  rw [e1, e3]
  unfold dueL
  split
  · rename_i hlt
    refine ⟨rowOk_out s _ _ _ _ e1 e2 (by omega) (by omega), ?_, by rw [outSpec_len]; omega⟩
    rw [mostL_out]
    split <;> omega
  · split
    · refine ⟨fun j g hj => ?_, ?_, by simp⟩
      · rcases j with _ | j
        · obtain rfl : _ = g := by simpa using hj
          exact .inl ⟨rfl, rfl⟩
        · simp at hj
      · simp [mostL]
    · exact ⟨fun j g hj => by simp at hj, rfl, by simp⟩
theorem rowOk_tick {s : SS} {k : Nat} (h : WinOk s k) : RowOk (tickS s) (s.acked + s.sent) (tickL s) ∧ mostL (s.acked + s.sent) (tickL s) = (tickS s).acked + (tickS s).sent ∧ (tickL s).length ≤ 8 := by
  obtain ⟨_, e1, e2, e3⟩ := h.tick
  have := h.sent8
  rw [e1, e3]
  unfold tickL
  split
  · exact ⟨fun j g hj => by simp at hj, rfl, by simp⟩
  · split
    · exact ⟨fun j g hj => by simp at hj, rfl, by simp⟩
    · refine ⟨rowOk_out s _ _ _ _ e1 e2 (by omega) (by omega), ?_, by rw [outSpec_len]; omega⟩
      rw [mostL_out]
      split <;> omega

theorem below_drewN {B : Nat} {a w : World} (h : Below B a w) (n : Nat) : Below B a (w.drewN n) := ⟨h.os, h.tape, h.output, h.size, h.block⟩
theorem quiet_left {P : Program} {f : FuncId} {args : Array Value} {w : World} {n : Nat} {v : Value}
    (h : Calls P f args (w.drewN n) fun e w' => e = .returned v ∧ w.drewN n = w') : Calls P f args (w.drewN n) fun e w'' => e = .returned v ∧ ∃ m, w'' = w.drewN m :=
  h.mono fun _ _ ⟨he, hm⟩ => ⟨he, n, hm.symm⟩

set_option maxRecDepth 8000 in
set_option maxHeartbeats 8000000 in
theorem win_any (A : Option Addr) (n c : Nat) (l : List Ac) (w : World) (r : Reads w (fun k => k < w.heap.size) 5 A n (l.flatMap Ac.cells)) (hl : l.length = n) (hg : ∀ a ∈ l, AcRd w a) :
    Calls Try.prog 5 #[.slice A n c] w fun e w' => e = .returned (.bool true) ∧ Below w.heap.size w w' := by
  have R := Lib.hid r
  have HG := Lib.hid hg
  have HL := Lib.hid hl
  clear r hg hl
  by_cases hbig : 150 < n
  · go_enter Try.func5, Try.ntmps5
    go_wp2_with (go_at_call 8; refine (known_any _).mono ?_; rintro e w' ⟨rfl, hb⟩)
    go_ret
    exact ⟨rfl, hb⟩
  go_enter Try.func5, Try.ntmps5
  go_wp2_with fail
  refine (new_at 3 w.heap.size w w (Below.refl _ _) (Nat.le_refl _) (by omega) (by omega)).mono ?_
  rintro e w1 ⟨rfl, h1⟩
  have H1 := Lib.hid h1
  clear h1
  go_wp2_with fail
  go_loopw [5, 6] (fun mv i wr => ∃ (k m : Nat) (s : SS), i = .int .i64 (k : Int) ∧ mv = .int .u64 (m : Int) ∧ m = s.acked + s.sent ∧ k ≤ n ∧ WinOk s k ∧ At w.heap.size w wr w.heap.size s) (fun _ i _ => n - (intOf i).toNat)
  case atStart => exact ⟨0, 0, ssNew 3, rfl, rfl, rfl, by omega, ⟨rfl, Nat.le_refl _, (fun _ h => by cases h), Nat.le_refl _, by decide, Nat.le_refl _, Nat.le_refl _⟩, H1.out⟩
  case round =>
    obtain ⟨k, m, s, rfl, rfl, hm, hk, ok, st⟩ := hrel
    obtain ⟨wo, rfl⟩ : ∃ wo : World, wo = wr := ⟨_, rfl⟩
    have ST := Lib.hid st
    have OK := Lib.hid ok
    have HM := Lib.hid hm
    clear st ok hm
    by_cases hlt : k < n
    · obtain ⟨a, hak⟩ : ∃ a, l[k]? = some a := ⟨l[k]'(by rw [HL.out]; exact hlt), List.getElem?_eq_getElem _⟩
      obtain ⟨⟨Ab, cb, hu, hRb⟩, Ag, cg, hug, hRg⟩ := HG.out a (List.mem_of_getElem? hak)
      have RB := Lib.hid (hRb.keep (Same.ofBelow ST.out.below fun _ h => h))
      have RG := Lib.hid (hRg.keep (Same.ofBelow ST.out.below fun _ h => h))
      obtain ⟨ad, rfl, _, hadl, hc⟩ := R.out.2 (by omega)
      obtain ⟨kd, u, x, q, ga, gu, gx⟩ := a
      simp only at hu hug
      subst hu; subst hug
      obtain ⟨e0, e1, e2, e3, e4⟩ := acCells_get l k _ hak
      have hbl := ST.out.below
      have hcc0 : wo.cell? (ad.add (k * 5)) = some (.int .i64 kd) := (hbl.cell (by rw [block_of_add]; exact hadl)).trans (hc _ _ e0)
      have hcc1 : wo.cell? ⟨(ad.add (k * 5)).block, (ad.add (k * 5)).off + 1, none⟩ = some (.slice Ab x.length cb) := by
        rw [← add_after ad (k * 5) 1 (by omega)]
        exact (hbl.cell (by rw [block_of_add]; exact hadl)).trans (hc _ _ e1)
      have hcc2 : wo.cell? ⟨(ad.add (k * 5)).block, (ad.add (k * 5)).off + 2, none⟩ = some (.int .u64 q) := by
        rw [← add_after ad (k * 5) 2 (by omega)]
        exact (hbl.cell (by rw [block_of_add]; exact hadl)).trans (hc _ _ e2)
      have hcc3 : wo.cell? ⟨(ad.add (k * 5)).block, (ad.add (k * 5)).off + 2 + 1, none⟩ = some (.int .u64 ga) := by
        have := (hbl.cell (p := ad.add (k * 5 + 3)) (by rw [block_of_add]; exact hadl)).trans (hc _ _ e3)
        rw [add_after ad (k * 5) 3 (by omega)] at this
        exact this
      have hcc4 : wo.cell? ⟨(ad.add (k * 5)).block, (ad.add (k * 5)).off + 2 + 2, none⟩ = some (.slice Ag gx.length cg) := by
        have := (hbl.cell (p := ad.add (k * 5 + 4)) (by rw [block_of_add]; exact hadl)).trans (hc _ _ e4)
        rw [add_after ad (k * 5) 4 (by omega)] at this
        exact this
      clear hRb hRg hc e0 e1 e2 e3 e4 hbl hak hadl
      have hi0 : (0 : Int) ≤ k := by omega
      have hi1 : (k : Int) < n := by omega
      have hsok := OK.out.ok (k := k) (by omega)
      have HSOK := Lib.hid hsok
      clear hsok
      by_cases k1 : kd = 1
      · subst k1
        by_cases hx : 1024 < x.length
        · go_wp2_with fail
          refine (sendlong_at ST.out (by have := OK.out.again; omega) hx).mono ?_
          rintro e w2 ⟨rfl, rfl⟩
          go_wp2_with fail
          go_loopw [5, 8] (fun mv jv wr => mv = .int .u64 (m : Int) ∧ jv = .int .i64 0 ∧ wr = wo) (fun _ _ _ => 0)
          case atStart => exact ⟨rfl, rfl, rfl⟩
          case round =>
            obtain ⟨rfl, rfl, rfl⟩ := hrel
            go_wp2_with fail
            go_roundw
            case rel => exact ⟨k + 1, m, s, by simp, rfl, HM.out, by omega, OK.out.next, ST.out⟩
            case measure => simp [intOf]; omega
        · go_wp2_with fail
          refine (send_at ST.out HSOK.out RB.out (by omega)).mono ?_
          rintro e w2 ⟨rfl, h2⟩
          have H2 := Lib.hid h2
          clear h2 hcc0 hcc1 hcc2 hcc3 hcc4
          go_wp2_with fail
          go_loopw [5, 8] (fun mv jv wr => mv = .int .u64 (m : Int) ∧ jv = .int .i64 0 ∧ wr = w2) (fun _ _ _ => 0)
          case atStart => exact ⟨rfl, rfl, rfl⟩
          case round =>
            obtain ⟨rfl, rfl, rfl⟩ := hrel
            go_wp2_with fail
            go_roundw
            case rel => exact ⟨k + 1, m, { s with xs := s.xs ++ [x] }, by simp, rfl, HM.out, by omega, OK.out.send (by omega), H2.out⟩
            case measure => simp [intOf]; omega
      have b1 : (kd == 1) = false := beq_eq_false_iff_ne.2 k1
      by_cases k2 : kd = 2
      · subst k2
        by_cases hx : 1024 < gx.length
        · go_wp2_with fail
          refine (takelong_at ST.out (by have := OK.out.again; omega) hx).mono ?_
          rintro e w2 ⟨rfl, h2⟩
          have H2 := Lib.hid h2
          clear h2 hcc0 hcc1 hcc2 hcc3 hcc4
          go_wp2_with fail
          go_loopw [5, 8] (fun mv jv wr => mv = .int .u64 (m : Int) ∧ jv = .int .i64 0 ∧ wr = w2) (fun _ _ _ => 0)
          case atStart => exact ⟨rfl, rfl, rfl⟩
          case round =>
            obtain ⟨rfl, rfl, rfl⟩ := hrel
            go_wp2_with fail
            go_roundw
            case rel => exact ⟨k + 1, m, s, by simp, rfl, HM.out, by omega, OK.out.next, H2.out⟩
            case measure => simp [intOf]; omega
        · go_wp2_with fail
          refine (takeq_at ST.out HSOK.out (q := q) (a := ga) (c := cg) RG.out (Nat.lt_irrefl _) (by omega)).mono ?_
          rintro e w2 ⟨v2, rfl, _, h2⟩
          have H2 := Lib.hid h2
          clear h2 hcc0 hcc1 hcc2 hcc3 hcc4
          go_wp2_with fail
          go_loopw [5, 8] (fun mv jv wr => mv = .int .u64 (m : Int) ∧ jv = .int .i64 0 ∧ wr = w2) (fun _ _ _ => 0)
          case atStart => exact ⟨rfl, rfl, rfl⟩
          case round =>
            obtain ⟨rfl, rfl, rfl⟩ := hrel
            go_wp2_with fail
            go_roundw
            case rel => exact ⟨k + 1, m, seqS (ackS s ga) q, by simp, rfl, by obtain ⟨a1, a2⟩ := OK.out.ack ga; obtain ⟨b1, b2, b3⟩ := a1.seq q; rw [b2, b3, a2]; exact HM.out, by omega, ((OK.out.ack ga).1.seq q).1, H2.out⟩
            case measure => simp [intOf]; omega
      have b2 : (kd == 2) = false := beq_eq_false_iff_ne.2 k2
      by_cases k3 : kd = 3
      · subst k3
        have hrow := rowOk_tick OK.out
        have ok2 := (OK.out.tick).1
        have OK2 := Lib.hid ok2
        have ROW := Lib.hid hrow
        clear hrow ok2
        go_wp2_with fail
        refine (tick_at ST.out HSOK.out (by have := OK.out.silent; omega) OK.out.short).mono ?_
        rintro e w2 ⟨v, rfl, hv, h2⟩
        have H2 := Lib.hid h2
        obtain ⟨L, hL⟩ : ∃ L, L = tickL s := ⟨_, rfl⟩
        obtain ⟨s2, hs2⟩ : ∃ s2, s2 = tickS s := ⟨_, rfl⟩
        have H2' := H2.out
        have row := ROW.out
        have ok3 := OK2.out
        rw [← HM.out, ← hL, ← hs2] at row
        rw [← hs2] at H2' ok3
        rw [← hL] at hv
        obtain ⟨row1, row2, rowr⟩ := row
        have R1 := Lib.hid row1
        have R2 := Lib.hid row2
        have S2 := Lib.hid H2'
        have OK3 := Lib.hid ok3
        obtain ⟨Av, nv, cv, rfl⟩ : ∃ Av nv cv, v = .slice Av nv cv := by
          obtain ⟨gs, _, ho, _⟩ := hv.ex
          obtain ⟨A, c, e, _⟩ := own_form ho
          exact ⟨_, _, _, e⟩
        have hnv : nv = L.length := by
          obtain ⟨gs, hg, ho, _⟩ := hv.ex
          obtain ⟨A, c, e, _⟩ := own_form ho
          injection e with _ e
          rw [e, ← hg, List.length_map]
        subst hnv
        have HV := Lib.hid hv
        clear h2 hcc0 hcc1 hcc2 hcc3 hcc4 hv hL hs2 row1 row2 H2' ok3 H2 OK2 ROW
        go_wp2_with fail
        go_loopw [5, 8] (fun mv jv wr => ∃ j : Nat, jv = .int .i64 (j : Int) ∧ mv = .int .u64 ((mostL m (L.take j) : Nat) : Int) ∧ j ≤ L.length ∧ mostL m (L.take j) ≤ 1000 ∧ Below w2.heap.size w2 wr) (fun _ jv _ => L.length - (intOf jv).toNat)
        case atStart => exact ⟨0, rfl, rfl, Nat.zero_le _, (by show m ≤ 1000; have := HM.out; have := OK.out.sum; have := OK.out.sent8; omega), Below.refl _ _⟩
        case round =>
          obtain ⟨j, rfl, rfl, hj, hmx, hbr⟩ := hrel
          by_cases hjl : j < L.length
          · obtain ⟨t, ht⟩ : ∃ t, L[j]? = some t := ⟨L[j], List.getElem?_eq_getElem _⟩
            obtain ⟨g, cg2, hve, _, hgl, hgc⟩ := seg_at HV.out (by omega)
            injection hve with hve1 _ hve2
            subst hve1; subst hve2
            obtain ⟨c0, c1, A3, c3, c2⟩ := hgc j t ht
            have S3 := Lib.hid (S2.out.later hbr)
            have hd0 : wr.cell? ⟨g, j * 3, none⟩ = some (.int .u64 t.1) := (hbr.cell (p := ⟨g, j * 3, none⟩) hgl).trans c0
            have hd1 : wr.cell? ⟨g, j * 3 + 1, none⟩ = some (.int .u64 t.2.1) := (hbr.cell (p := ⟨g, j * 3 + 1, none⟩) hgl).trans c1
            have hd2 : wr.cell? ⟨g, j * 3 + 2, none⟩ = some (.slice A3 t.2.2.length c3) := (hbr.cell (p := ⟨g, j * 3 + 2, none⟩) hgl).trans c2
            have hmn : mostL m (L.take (j + 1)) = max (mostL m (L.take j)) t.1 := by
              rw [List.take_succ_eq_append_getElem hjl, mostL_snoc]
              rw [List.getElem?_eq_getElem hjl] at ht
              injection ht with ht
              rw [ht]
            have HMN := Lib.hid hmn
            have HB3 := Lib.hid hbr
            have rj := R1.out j t ht
            obtain ⟨q3, a3, x3⟩ := t
            simp only at hd0 hd1 hd2 rj
            have hj0 : (0 : Int) ≤ j := by omega
            have hj1 : (j : Int) < L.length := by omega
            rcases rj with ⟨z1, z2⟩ | ⟨z1, z2, z3, z4, z5, z6⟩
            · subst z1
              have zz : ((L.length : Int) != 1) = false := by simp [z2]
              clear z2 hmn hbr hgc ht c0 c1 c2
              go_wp2_with fail
              go_roundw
              case rel => exact ⟨j + 1, by simp, by rw [HMN.out]; simp, by omega, by rw [HMN.out]; simpa using hmx, HB3.out.alloc HB3.out.size _⟩
              case measure => simp [intOf]; omega
            · have zb : ((q3 : Int) == 0) = false := beq_eq_false_iff_ne.2 (by omega)
              have za : decide ((q3 : Int) ≤ (s2.acked : Int)) = false := decide_eq_false (by omega)
              have za' : decide (q3 ≤ s2.acked) = false := decide_eq_false (by omega)
              have zc : decide ((s2.acked : Int) + 8 < (q3 : Int)) = false := decide_eq_false (by omega)
              have zd : decide (((mostL m (L.take j) : Nat) : Int) + 1 < (q3 : Int)) = false := decide_eq_false (by omega)
              have ze : ((a3 : Int) != (s2.taken : Int)) = false := by simp; omega
              have ze' : (a3 != s2.taken) = false := by simp; omega
              have hqb : (q3 : Int) ≤ 1000 := by have := OK3.out.sum; omega
              have hsa : (s2.acked : Int) ≤ 1000 := by have := OK3.out.sum; omega
              have hqn : q3 ≤ 1000 := by omega
              have HQA := Lib.hid (fun (o : Obj) (nd : Nat) => quiet_left (acked_at ((S3.out.later ((Below.refl _ _).alloc (Nat.le_refl _) o)).ofHeap (w2 := (wr.alloc o).drewN nd) rfl ⟨rfl, rfl, rfl⟩) (by have := OK3.out.again; omega)))
              have HQT := Lib.hid (fun (o : Obj) (nd : Nat) => quiet_left (taken_at ((S3.out.later ((Below.refl _ _).alloc (Nat.le_refl _) o)).ofHeap (w2 := (wr.alloc o).drewN nd) rfl ⟨rfl, rfl, rfl⟩) (by have := OK3.out.again; omega)))
              obtain ⟨mj, hmj⟩ : ∃ mj, mj = mostL m (L.take j) := ⟨_, rfl⟩
              have HMJ := Lib.hid hmj
              have hmi : (mj : Int) ≤ 1000 := by omega
              rw [← hmj] at zd ⊢
              have z5' := z5
              clear hmj hmn hbr ht c0 c1 c2 hmx z2 z3 z4 z6 z5
              rcases j with _ | i
              · clear z5'
                have zk : decide ((0 : Int) < ((0 : Nat) : Int)) = false := by decide
                by_cases hgt : mj < q3
                · go_wp2_with fail
                  go_quiet (first | (go_at_call 15; exact HQA.out _ _) | (go_at_call 16; exact HQT.out _ _))
                  go_wp2_with fail
                  go_roundw
                  case rel => exact ⟨0 + 1, by simp, by rw [HMN.out, ← HMJ.out, Nat.max_eq_right (by omega)], by omega, by rw [HMN.out, ← HMJ.out]; omega, below_drewN (HB3.out.alloc HB3.out.size _) _⟩
                  case measure => simp [intOf]; omega
                · go_wp2_with fail
                  go_quiet (first | (go_at_call 15; exact HQA.out _ _) | (go_at_call 16; exact HQT.out _ _))
                  go_wp2_with fail
                  go_roundw
                  case rel => exact ⟨0 + 1, by simp, by rw [HMN.out, ← HMJ.out, Nat.max_eq_left (by omega)], by omega, by rw [HMN.out, ← HMJ.out]; omega, below_drewN (HB3.out.alloc HB3.out.size _) _⟩
                  case measure => simp [intOf]; omega
              · obtain ⟨⟨p1, p2, p3⟩, hp, hpe⟩ := z5' i rfl
                have hp0 : ∀ o, (wr.alloc o).cell? ⟨g, i * 3, none⟩ = some (.int .u64 p1) := fun o => (World.cell?_alloc_lt wr o ⟨g, i * 3, none⟩ (Nat.lt_of_lt_of_le hgl HB3.out.size)).trans ((HB3.out.cell (p := ⟨g, i * 3, none⟩) hgl).trans (hgc i _ hp).1)
                have zf : ((q3 : Int) != (p1 : Int) + 1) = false := by simp; simp only at hpe; omega
                have zk : decide ((0 : Int) < (i : Int) + 1) = true := decide_eq_true (by omega)
                have hp1 : (p1 : Int) ≤ 1000 := by simp only at hpe; omega
                have hi0' : (0 : Int) ≤ i := by omega
                have hi1' : (i : Int) < L.length := by omega
                clear z5' hp hpe hgc
                by_cases hgt : mj < q3
                · go_wp2_with fail
                  go_quiet (first | (go_at_call 15; exact HQA.out _ _) | (go_at_call 16; exact HQT.out _ _))
                  go_wp2_with fail
                  go_roundw
                  case rel => exact ⟨i + 1 + 1, by simp, by rw [HMN.out, ← HMJ.out, Nat.max_eq_right (by omega)], by omega, by rw [HMN.out, ← HMJ.out]; omega, below_drewN (HB3.out.alloc HB3.out.size _) _⟩
                  case measure => simp [intOf]; omega
                · go_wp2_with fail
                  go_quiet (first | (go_at_call 15; exact HQA.out _ _) | (go_at_call 16; exact HQT.out _ _))
                  go_wp2_with fail
                  go_roundw
                  case rel => exact ⟨i + 1 + 1, by simp, by rw [HMN.out, ← HMJ.out, Nat.max_eq_left (by omega)], by omega, by rw [HMN.out, ← HMJ.out]; omega, below_drewN (HB3.out.alloc HB3.out.size _) _⟩
                  case measure => simp [intOf]; omega
          · obtain rfl : j = L.length := by omega
            have R2' := R2.out
            rw [List.take_length] at hmx ⊢
            have HB3 := Lib.hid hbr
            have e5 : mostL m L = s2.acked + s2.sent := R2'
            rw [e5]
            have S3 := Lib.hid (S2.out.later hbr)
            clear hbr R2' hmx e5
            go_wp2_with fail
            go_roundw
            case rel => exact ⟨k + 1, s2.acked + s2.sent, s2, by simp, rfl, rfl, by omega, OK3.out, S3.out⟩
            case measure => simp [intOf]; omega
      have b3 : (kd == 3) = false := beq_eq_false_iff_ne.2 k3
      by_cases k4 : kd = 4
      · subst k4
        have hrow := rowOk_due OK.out
        have ok2 := (OK.out.due).1
        have OK2 := Lib.hid ok2
        have ROW := Lib.hid hrow
        clear hrow ok2
        go_wp2_with fail
        refine (due_at ST.out HSOK.out OK.out.short).mono ?_
        rintro e w2 ⟨v, rfl, hv, h2⟩
        have H2 := Lib.hid h2
        obtain ⟨L, hL⟩ : ∃ L, L = dueL s := ⟨_, rfl⟩
        obtain ⟨s2, hs2⟩ : ∃ s2, s2 = dueS s := ⟨_, rfl⟩
        have H2' := H2.out
        have row := ROW.out
        have ok3 := OK2.out
        rw [← HM.out, ← hL, ← hs2] at row
        rw [← hs2] at H2' ok3
        rw [← hL] at hv
        obtain ⟨row1, row2, rowr⟩ := row
        have R1 := Lib.hid row1
        have R2 := Lib.hid row2
        have S2 := Lib.hid H2'
        have OK3 := Lib.hid ok3
        obtain ⟨Av, nv, cv, rfl⟩ : ∃ Av nv cv, v = .slice Av nv cv := by
          obtain ⟨gs, _, ho, _⟩ := hv.ex
          obtain ⟨A, c, e, _⟩ := own_form ho
          exact ⟨_, _, _, e⟩
        have hnv : nv = L.length := by
          obtain ⟨gs, hg, ho, _⟩ := hv.ex
          obtain ⟨A, c, e, _⟩ := own_form ho
          injection e with _ e
          rw [e, ← hg, List.length_map]
        subst hnv
        have HV := Lib.hid hv
        clear h2 hcc0 hcc1 hcc2 hcc3 hcc4 hv hL hs2 row1 row2 H2' ok3 H2 OK2 ROW
        go_wp2_with fail
        go_loopw [5, 8] (fun mv jv wr => ∃ j : Nat, jv = .int .i64 (j : Int) ∧ mv = .int .u64 ((mostL m (L.take j) : Nat) : Int) ∧ j ≤ L.length ∧ mostL m (L.take j) ≤ 1000 ∧ Below w2.heap.size w2 wr) (fun _ jv _ => L.length - (intOf jv).toNat)
        case atStart => exact ⟨0, rfl, rfl, Nat.zero_le _, (by show m ≤ 1000; have := HM.out; have := OK.out.sum; have := OK.out.sent8; omega), Below.refl _ _⟩
        case round =>
          obtain ⟨j, rfl, rfl, hj, hmx, hbr⟩ := hrel
          by_cases hjl : j < L.length
          · obtain ⟨t, ht⟩ : ∃ t, L[j]? = some t := ⟨L[j], List.getElem?_eq_getElem _⟩
            obtain ⟨g, cg2, hve, _, hgl, hgc⟩ := seg_at HV.out (by omega)
            injection hve with hve1 _ hve2
            subst hve1; subst hve2
            obtain ⟨c0, c1, A3, c3, c2⟩ := hgc j t ht
            have S3 := Lib.hid (S2.out.later hbr)
            have hd0 : wr.cell? ⟨g, j * 3, none⟩ = some (.int .u64 t.1) := (hbr.cell (p := ⟨g, j * 3, none⟩) hgl).trans c0
            have hd1 : wr.cell? ⟨g, j * 3 + 1, none⟩ = some (.int .u64 t.2.1) := (hbr.cell (p := ⟨g, j * 3 + 1, none⟩) hgl).trans c1
            have hd2 : wr.cell? ⟨g, j * 3 + 2, none⟩ = some (.slice A3 t.2.2.length c3) := (hbr.cell (p := ⟨g, j * 3 + 2, none⟩) hgl).trans c2
            have hmn : mostL m (L.take (j + 1)) = max (mostL m (L.take j)) t.1 := by
              rw [List.take_succ_eq_append_getElem hjl, mostL_snoc]
              rw [List.getElem?_eq_getElem hjl] at ht
              injection ht with ht
              rw [ht]
            have HMN := Lib.hid hmn
            have HB3 := Lib.hid hbr
            have rj := R1.out j t ht
            obtain ⟨q3, a3, x3⟩ := t
            simp only at hd0 hd1 hd2 rj
            have hj0 : (0 : Int) ≤ j := by omega
            have hj1 : (j : Int) < L.length := by omega
            rcases rj with ⟨z1, z2⟩ | ⟨z1, z2, z3, z4, z5, z6⟩
            · subst z1
              have zz : ((L.length : Int) != 1) = false := by simp [z2]
              clear z2 hmn hbr hgc ht c0 c1 c2
              go_wp2_with fail
              go_roundw
              case rel => exact ⟨j + 1, by simp, by rw [HMN.out]; simp, by omega, by rw [HMN.out]; simpa using hmx, HB3.out.alloc HB3.out.size _⟩
              case measure => simp [intOf]; omega
            · have zb : ((q3 : Int) == 0) = false := beq_eq_false_iff_ne.2 (by omega)
              have za : decide ((q3 : Int) ≤ (s2.acked : Int)) = false := decide_eq_false (by omega)
              have za' : decide (q3 ≤ s2.acked) = false := decide_eq_false (by omega)
              have zc : decide ((s2.acked : Int) + 8 < (q3 : Int)) = false := decide_eq_false (by omega)
              have zd : decide (((mostL m (L.take j) : Nat) : Int) + 1 < (q3 : Int)) = false := decide_eq_false (by omega)
              have ze : ((a3 : Int) != (s2.taken : Int)) = false := by simp; omega
              have ze' : (a3 != s2.taken) = false := by simp; omega
              have hqb : (q3 : Int) ≤ 1000 := by have := OK3.out.sum; omega
              have hsa : (s2.acked : Int) ≤ 1000 := by have := OK3.out.sum; omega
              have hqn : q3 ≤ 1000 := by omega
              have HQA := Lib.hid (fun (o : Obj) (nd : Nat) => quiet_left (acked_at ((S3.out.later ((Below.refl _ _).alloc (Nat.le_refl _) o)).ofHeap (w2 := (wr.alloc o).drewN nd) rfl ⟨rfl, rfl, rfl⟩) (by have := OK3.out.again; omega)))
              have HQT := Lib.hid (fun (o : Obj) (nd : Nat) => quiet_left (taken_at ((S3.out.later ((Below.refl _ _).alloc (Nat.le_refl _) o)).ofHeap (w2 := (wr.alloc o).drewN nd) rfl ⟨rfl, rfl, rfl⟩) (by have := OK3.out.again; omega)))
              obtain ⟨mj, hmj⟩ : ∃ mj, mj = mostL m (L.take j) := ⟨_, rfl⟩
              have HMJ := Lib.hid hmj
              have hmi : (mj : Int) ≤ 1000 := by omega
              rw [← hmj] at zd ⊢
              have z5' := z5
              clear hmj hmn hbr ht c0 c1 c2 hmx z2 z3 z4 z6 z5
              rcases j with _ | i
              · clear z5'
                have zk : decide ((0 : Int) < ((0 : Nat) : Int)) = false := by decide
                by_cases hgt : mj < q3
                · go_wp2_with fail
                  go_quiet (first | (go_at_call 15; exact HQA.out _ _) | (go_at_call 16; exact HQT.out _ _))
                  go_wp2_with fail
                  go_roundw
                  case rel => exact ⟨0 + 1, by simp, by rw [HMN.out, ← HMJ.out, Nat.max_eq_right (by omega)], by omega, by rw [HMN.out, ← HMJ.out]; omega, below_drewN (HB3.out.alloc HB3.out.size _) _⟩
                  case measure => simp [intOf]; omega
                · go_wp2_with fail
                  go_quiet (first | (go_at_call 15; exact HQA.out _ _) | (go_at_call 16; exact HQT.out _ _))
                  go_wp2_with fail
                  go_roundw
                  case rel => exact ⟨0 + 1, by simp, by rw [HMN.out, ← HMJ.out, Nat.max_eq_left (by omega)], by omega, by rw [HMN.out, ← HMJ.out]; omega, below_drewN (HB3.out.alloc HB3.out.size _) _⟩
                  case measure => simp [intOf]; omega
              · obtain ⟨⟨p1, p2, p3⟩, hp, hpe⟩ := z5' i rfl
                have hp0 : ∀ o, (wr.alloc o).cell? ⟨g, i * 3, none⟩ = some (.int .u64 p1) := fun o => (World.cell?_alloc_lt wr o ⟨g, i * 3, none⟩ (Nat.lt_of_lt_of_le hgl HB3.out.size)).trans ((HB3.out.cell (p := ⟨g, i * 3, none⟩) hgl).trans (hgc i _ hp).1)
                have zf : ((q3 : Int) != (p1 : Int) + 1) = false := by simp; simp only at hpe; omega
                have zk : decide ((0 : Int) < (i : Int) + 1) = true := decide_eq_true (by omega)
                have hp1 : (p1 : Int) ≤ 1000 := by simp only at hpe; omega
                have hi0' : (0 : Int) ≤ i := by omega
                have hi1' : (i : Int) < L.length := by omega
                clear z5' hp hpe hgc
                by_cases hgt : mj < q3
                · go_wp2_with fail
                  go_quiet (first | (go_at_call 15; exact HQA.out _ _) | (go_at_call 16; exact HQT.out _ _))
                  go_wp2_with fail
                  go_roundw
                  case rel => exact ⟨i + 1 + 1, by simp, by rw [HMN.out, ← HMJ.out, Nat.max_eq_right (by omega)], by omega, by rw [HMN.out, ← HMJ.out]; omega, below_drewN (HB3.out.alloc HB3.out.size _) _⟩
                  case measure => simp [intOf]; omega
                · go_wp2_with fail
                  go_quiet (first | (go_at_call 15; exact HQA.out _ _) | (go_at_call 16; exact HQT.out _ _))
                  go_wp2_with fail
                  go_roundw
                  case rel => exact ⟨i + 1 + 1, by simp, by rw [HMN.out, ← HMJ.out, Nat.max_eq_left (by omega)], by omega, by rw [HMN.out, ← HMJ.out]; omega, below_drewN (HB3.out.alloc HB3.out.size _) _⟩
                  case measure => simp [intOf]; omega
          · obtain rfl : j = L.length := by omega
            have R2' := R2.out
            rw [List.take_length] at hmx ⊢
            have HB3 := Lib.hid hbr
            have e5 : mostL m L = s2.acked + s2.sent := R2'
            rw [e5]
            have S3 := Lib.hid (S2.out.later hbr)
            clear hbr R2' hmx e5
            go_wp2_with fail
            go_roundw
            case rel => exact ⟨k + 1, s2.acked + s2.sent, s2, by simp, rfl, rfl, by omega, OK3.out, S3.out⟩
            case measure => simp [intOf]; omega
      have b4 : (kd == 4) = false := beq_eq_false_iff_ne.2 k4
      go_wp2_with fail
      go_loopw [5, 8] (fun mv jv wr => mv = .int .u64 (m : Int) ∧ jv = .int .i64 0 ∧ wr = wo) (fun _ _ _ => 0)
      case atStart => exact ⟨rfl, rfl, rfl⟩
      case round =>
        obtain ⟨rfl, rfl, rfl⟩ := hrel
        go_wp2_with fail
        go_roundw
        case rel => exact ⟨k + 1, m, s, by simp, rfl, HM.out, by omega, OK.out.next, ST.out⟩
        case measure => simp [intOf]; omega
    · go_wp2_with (go_at_call 8; refine (known_any _).mono ?_; rintro e w' ⟨rfl, hb⟩)
      go_ret
      exact ⟨rfl, ST.out.below.trans (hb.mono ST.out.size)⟩
end Go.Proofs.Ytmkjnblmgofoeaa
