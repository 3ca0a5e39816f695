/- Layer 12: the document's Do: a port that is not up, goes down, comes up; a cost. -/
import Derived.Test.YtahdjfegihnolaaRcK
namespace Go.Proofs.Ytahdjfegihnolaa
open Go.RowKit Go.Sort
set_option maxRecDepth 100000 in
set_option maxHeartbeats 8000000 in
attribute [-go_sem] Instr.storeAt Instr.loadAt in
theorem do12_7_2 {w : World} {D rb : Nat} {av ov : Value} {room : Int} {c : Pc} {L : List Le} (h : RcM w D rb av ov room c L) (hok : LcOk ⟨room, c, L⟩) (hD : D ≤ w.heap.size) {q : Nat} (hq : q < 8)  (hup : c.up q = false) :
    Calls Try.prog 19 #[.pointer (some ⟨rb, 0, none⟩), .agg #[.int .i64 2, .int .i64 (q : Int), .int .i64 0, .int .u32 0, .int .i64 0, .int .i64 0]] w (Done12 w D rb av room c L ⟨2, (q : Int), 0, (0, 0), 0⟩) := by
  obtain ⟨W1, W2, hW1, hW2, s0, h2, hk2, hu2⟩ := do12_front h 2 (q : Int) 0 0 0 0
  have lk := ev_k hk2
  have lp := ld_iC (w := W2) (b := w.heap.size) (o := 1) (z := (q : Int)) (hk2.cell 1)
  have lc := ld_iC (w := W2) (b := w.heap.size) (o := 2) (z := 0) (hk2.cell 2)
  have ld := ld_iC (w := W2) (b := w.heap.size) (o := 5) (z := 0) (hk2.cell 5)
  have lf := rev_pf hk2
  have lu := ld_bC (rcell_up h2.blk hq)
  rw [show ((0 : Nat) : Int) = 0 from rfl] at hW1 lf
  have hp1 : ¬ (q : Int) < 0 := by omega
  have hp2 : ¬ 7 < (q : Int) := by omega
  have hp3 : (0 : Int) ≤ q := by omega
  have hp4 : (q : Int) < 8 := by omega
  have HU := Lib.hid hu2
  have H2 := Lib.hid h2
  have HK2 := Lib.hid hk2
  have HW1 := Lib.hid hW1.symm
  have HQ := Lib.hid hq
  have HOK := Lib.hid hok
  have HD := Lib.hid hD
  rw [hup] at lu
  have HDO := Lib.hid (show doF ⟨room, c, L⟩ (⟨2, (q : Int), 0, (0, 0), 0⟩ : Ev) = (⟨room, c, L⟩, [], 7) by
    have hw : wrongF c (⟨2, (q : Int), 0, (0, 0), 0⟩ : Ev) = 7 := by unfold wrongF okE; simp [ hup]; omega
    unfold doF
    rw [if_pos (by rw [hw]; simp), hw])
  clear hup
  clear hW1 hW2 hu2 h2 hk2 h hok hD hq
  go_enter Try.func19, Try.ntmps19
  go_upto_region 1 with (fail)
  rw [← HW1.out]
  go_wp2_with fail
  go_ret2
  exact Ref12.done ⟨rfl, H2.out, HU.out⟩ HDO.out rfl
set_option maxRecDepth 100000 in
set_option maxHeartbeats 8000000 in
attribute [-go_sem] Instr.storeAt Instr.loadAt in
theorem do12_7_3 {w : World} {D rb : Nat} {av ov : Value} {room : Int} {c : Pc} {L : List Le} (h : RcM w D rb av ov room c L) (hok : LcOk ⟨room, c, L⟩) (hD : D ≤ w.heap.size) {q : Nat} (hq : q < 8) (v : Int) (hc1 : 1 ≤ v) (hc2 : v ≤ 50) (hup : c.up q = false) :
    Calls Try.prog 19 #[.pointer (some ⟨rb, 0, none⟩), .agg #[.int .i64 3, .int .i64 (q : Int), .int .i64 v, .int .u32 0, .int .i64 0, .int .i64 0]] w (Done12 w D rb av room c L ⟨3, (q : Int), v, (0, 0), 0⟩) := by
  obtain ⟨W1, W2, hW1, hW2, s0, h2, hk2, hu2⟩ := do12_front h 3 (q : Int) v 0 0 0
  have lk := ev_k hk2
  have lp := ld_iC (w := W2) (b := w.heap.size) (o := 1) (z := (q : Int)) (hk2.cell 1)
  have lc := ld_iC (w := W2) (b := w.heap.size) (o := 2) (z := v) (hk2.cell 2)
  have ld := ld_iC (w := W2) (b := w.heap.size) (o := 5) (z := 0) (hk2.cell 5)
  have lf := rev_pf hk2
  have lu := ld_bC (rcell_up h2.blk hq)
  rw [show ((0 : Nat) : Int) = 0 from rfl] at hW1 lf
  have hp1 : ¬ (q : Int) < 0 := by omega
  have hp2 : ¬ 7 < (q : Int) := by omega
  have hp3 : (0 : Int) ≤ q := by omega
  have hp4 : (q : Int) < 8 := by omega
  have HU := Lib.hid hu2
  have H2 := Lib.hid h2
  have HK2 := Lib.hid hk2
  have HW1 := Lib.hid hW1.symm
  have HQ := Lib.hid hq
  have HOK := Lib.hid hok
  have HD := Lib.hid hD
  rw [hup] at lu
  have hc3 : ¬ v < 1 := by omega
  have hc4 : ¬ 50 < v := by omega
  have HDO := Lib.hid (show doF ⟨room, c, L⟩ (⟨3, (q : Int), v, (0, 0), 0⟩ : Ev) = (⟨room, c, L⟩, [], 7) by
    have hw : wrongF c (⟨3, (q : Int), v, (0, 0), 0⟩ : Ev) = 7 := by unfold wrongF okE; simp [ hup]; omega
    unfold doF
    rw [if_pos (by rw [hw]; simp), hw])
  clear hup
  clear hW1 hW2 hu2 h2 hk2 h hok hD hq
  go_enter Try.func19, Try.ntmps19
  go_upto_region 1 with (fail)
  rw [← HW1.out]
  go_wp2_with fail
  go_ret2
  exact Ref12.done ⟨rfl, H2.out, HU.out⟩ HDO.out rfl
set_option maxRecDepth 100000 in
set_option maxHeartbeats 8000000 in
attribute [-go_sem] Instr.storeAt Instr.loadAt in
theorem do12_7_4 {w : World} {D rb : Nat} {av ov : Value} {room : Int} {c : Pc} {L : List Le} (h : RcM w D rb av ov room c L) (hok : LcOk ⟨room, c, L⟩) (hD : D ≤ w.heap.size) {q : Nat} (hq : q < 8) (a : Nat) (n d : Int) (ha : a < 2 ^ 32) (hm : mayP (a, n) = true) (hd0 : 0 ≤ d) (hd1 : d ≤ 255) (hup : c.up q = false) :
    Calls Try.prog 19 #[.pointer (some ⟨rb, 0, none⟩), .agg #[.int .i64 4, .int .i64 (q : Int), .int .i64 0, .int .u32 (a : Int), .int .i64 n, .int .i64 d]] w (Done12 w D rb av room c L ⟨4, (q : Int), 0, (a, n), d⟩) := by
  obtain ⟨W1, W2, hW1, hW2, s0, h2, hk2, hu2⟩ := do12_front h 4 (q : Int) 0 a n d
  have lk := ev_k hk2
  have lp := ld_iC (w := W2) (b := w.heap.size) (o := 1) (z := (q : Int)) (hk2.cell 1)
  have lc := ld_iC (w := W2) (b := w.heap.size) (o := 2) (z := 0) (hk2.cell 2)
  have ld := ld_iC (w := W2) (b := w.heap.size) (o := 5) (z := d) (hk2.cell 5)
  have lf := rev_pf hk2
  have lu := ld_bC (rcell_up h2.blk hq)
  have hp1 : ¬ (q : Int) < 0 := by omega
  have hp2 : ¬ 7 < (q : Int) := by omega
  have hp3 : (0 : Int) ≤ q := by omega
  have hp4 : (q : Int) < 8 := by omega
  have HU := Lib.hid hu2
  have H2 := Lib.hid h2
  have HK2 := Lib.hid hk2
  have HW1 := Lib.hid hW1.symm
  have HQ := Lib.hid hq
  have HOK := Lib.hid hok
  have HD := Lib.hid hD
  rw [hup] at lu
  have HMAY := Lib.hid (may12_any (a, n) ha W2)
  rw [hm] at HMAY
  have hd2 : ¬ d < 0 := by omega
  have hd3 : ¬ 255 < d := by omega
  have HDO := Lib.hid (show doF ⟨room, c, L⟩ (⟨4, (q : Int), 0, (a, n), d⟩ : Ev) = (⟨room, c, L⟩, [], 7) by
    have hw : wrongF c (⟨4, (q : Int), 0, (a, n), d⟩ : Ev) = 7 := by unfold wrongF okE; simp [hm, hup]; omega
    unfold doF
    rw [if_pos (by rw [hw]; simp), hw])
  clear hm
  clear hW1 hW2 hu2 h2 hk2 h hok hD hq
  go_enter Try.func19, Try.ntmps19
  go_upto_region 1 with (fail)
  rw [← HW1.out]
  go_wp2_with (go_at_call 35; refine HMAY.out.mono ?_; rintro e w3 ⟨rfl, hb3⟩; have HB3 := Lib.hid hb3; have lk3 := ev_k (HK2.out.below hb3 HK2.out.lt); have lp3 := ld_iC (w := w3) (b := w.heap.size) (o := 1) (z := (q : Int)) ((HK2.out.below hb3 HK2.out.lt).cell 1); have ld3 := ld_iC (w := w3) (b := w.heap.size) (o := 5) (z := d) ((HK2.out.below hb3 HK2.out.lt).cell 5); have lf3 := rev_pf (HK2.out.below hb3 HK2.out.lt); have lu3 := ld_bC (rcell_up (H2.out.below hb3).blk HQ.out); rw [hup] at lu3; clear hb3)
  go_ret2
  exact Ref12.done ⟨rfl, H2.out.below HB3.out, HU.out.trans_ (Upd.ofBelow HB3.out _)⟩ HDO.out rfl
set_option maxRecDepth 100000 in
set_option maxHeartbeats 8000000 in
attribute [-go_sem] Instr.storeAt Instr.loadAt in
theorem do12_7_5 {w : World} {D rb : Nat} {av ov : Value} {room : Int} {c : Pc} {L : List Le} (h : RcM w D rb av ov room c L) (hok : LcOk ⟨room, c, L⟩) (hD : D ≤ w.heap.size) {q : Nat} (hq : q < 8) (a : Nat) (n _d : Int) (ha : a < 2 ^ 32) (hm : mayP (a, n) = true) (hup : c.up q = false) :
    Calls Try.prog 19 #[.pointer (some ⟨rb, 0, none⟩), .agg #[.int .i64 5, .int .i64 (q : Int), .int .i64 0, .int .u32 (a : Int), .int .i64 n, .int .i64 0]] w (Done12 w D rb av room c L ⟨5, (q : Int), 0, (a, n), 0⟩) := by
  obtain ⟨W1, W2, hW1, hW2, s0, h2, hk2, hu2⟩ := do12_front h 5 (q : Int) 0 a n 0
  have lk := ev_k hk2
  have lp := ld_iC (w := W2) (b := w.heap.size) (o := 1) (z := (q : Int)) (hk2.cell 1)
  have lc := ld_iC (w := W2) (b := w.heap.size) (o := 2) (z := 0) (hk2.cell 2)
  have ld := ld_iC (w := W2) (b := w.heap.size) (o := 5) (z := 0) (hk2.cell 5)
  have lf := rev_pf hk2
  have lu := ld_bC (rcell_up h2.blk hq)
  have hp1 : ¬ (q : Int) < 0 := by omega
  have hp2 : ¬ 7 < (q : Int) := by omega
  have hp3 : (0 : Int) ≤ q := by omega
  have hp4 : (q : Int) < 8 := by omega
  have HU := Lib.hid hu2
  have H2 := Lib.hid h2
  have HK2 := Lib.hid hk2
  have HW1 := Lib.hid hW1.symm
  have HQ := Lib.hid hq
  have HOK := Lib.hid hok
  have HD := Lib.hid hD
  rw [hup] at lu
  have HMAY := Lib.hid (may12_any (a, n) ha W2)
  rw [hm] at HMAY
  have HDO := Lib.hid (show doF ⟨room, c, L⟩ (⟨5, (q : Int), 0, (a, n), 0⟩ : Ev) = (⟨room, c, L⟩, [], 7) by
    have hw : wrongF c (⟨5, (q : Int), 0, (a, n), 0⟩ : Ev) = 7 := by unfold wrongF okE; simp [hm, hup]; omega
    unfold doF
    rw [if_pos (by rw [hw]; simp), hw])
  clear hm
  clear hW1 hW2 hu2 h2 hk2 h hok hD hq
  go_enter Try.func19, Try.ntmps19
  go_upto_region 1 with (fail)
  rw [← HW1.out]
  go_wp2_with (go_at_call 35; refine HMAY.out.mono ?_; rintro e w3 ⟨rfl, hb3⟩; have HB3 := Lib.hid hb3; have lk3 := ev_k (HK2.out.below hb3 HK2.out.lt); have lp3 := ld_iC (w := w3) (b := w.heap.size) (o := 1) (z := (q : Int)) ((HK2.out.below hb3 HK2.out.lt).cell 1); have ld3 := ld_iC (w := w3) (b := w.heap.size) (o := 5) (z := 0) ((HK2.out.below hb3 HK2.out.lt).cell 5); have lf3 := rev_pf (HK2.out.below hb3 HK2.out.lt); have lu3 := ld_bC (rcell_up (H2.out.below hb3).blk HQ.out); rw [hup] at lu3; clear hb3)
  go_ret2
  exact Ref12.done ⟨rfl, H2.out.below HB3.out, HU.out.trans_ (Upd.ofBelow HB3.out _)⟩ HDO.out rfl
set_option maxRecDepth 100000 in
set_option maxHeartbeats 8000000 in
attribute [-go_sem] Instr.storeAt Instr.loadAt in
theorem do12_2 {w : World} {D rb : Nat} {av ov : Value} {room : Int} {c : Pc} {L : List Le} (h : RcM w D rb av ov room c L) (hok : LcOk ⟨room, c, L⟩) (hD : D ≤ w.heap.size) {q : Nat} (hq : q < 8) (hup : c.up q = true) :
    Calls Try.prog 19 #[.pointer (some ⟨rb, 0, none⟩), .agg #[.int .i64 2, .int .i64 (q : Int), .int .i64 0, .int .u32 0, .int .i64 0, .int .i64 0]] w (Done12 w D rb av room c L ⟨2, (q : Int), 0, (0, 0), 0⟩) := by
  obtain ⟨W1, W2, hW1, hW2, s0, h2, hk2, hu2⟩ := do12_front h 2 (q : Int) 0 0 0 0
  have lk := ev_k hk2
  have lp := ld_iC (w := W2) (b := w.heap.size) (o := 1) (z := (q : Int)) (hk2.cell 1)
  have lc := ld_iC (w := W2) (b := w.heap.size) (o := 2) (z := 0) (hk2.cell 2)
  have ld := ld_iC (w := W2) (b := w.heap.size) (o := 5) (z := 0) (hk2.cell 5)
  have lf := rev_pf hk2
  have lu := ld_bC (rcell_up h2.blk hq)
  rw [show ((0 : Nat) : Int) = 0 from rfl] at hW1 lf
  have hp1 : ¬ (q : Int) < 0 := by omega
  have hp2 : ¬ 7 < (q : Int) := by omega
  have hp3 : (0 : Int) ≤ q := by omega
  have hp4 : (q : Int) < 8 := by omega
  have HU := Lib.hid hu2
  have H2 := Lib.hid h2
  have HK2 := Lib.hid hk2
  have HW1 := Lib.hid hW1.symm
  have HQ := Lib.hid hq
  have HOK := Lib.hid hok
  have HD := Lib.hid hD
  rw [hup] at lu
  have HAT := Lib.hid (show Calls Try.prog 36 #[.pointer (some ⟨rb, 0, none⟩), .agg #[.int .u32 0, .int .i64 0]] W2 fun e w' => e = .returned (.int .i64 (atF L (0, 0))) ∧ Below W2.heap.size W2 w' from at12_any h2 hok.len (0, 0))
  have HWR := Lib.hid (show wrongF c (⟨2, (q : Int), 0, (0, 0), 0⟩ : Ev) = 0 by unfold wrongF okE; simp [hup]; omega)
  have HST := Lib.hid (show stepE ⟨room, c, L⟩ (⟨2, (q : Int), 0, (0, 0), 0⟩ : Ev) = .inl (downF c q, (portDownF c L q).1, (portDownF c L q).2) from rfl)
  clear hup
  clear hW1 hW2 hu2 h2 hk2 h hok hD hq
  go_enter Try.func19, Try.ntmps19
  go_upto_region 1 with (fail)
  rw [← HW1.out]
  go_upto_region 16 with (go_at_call 36; refine HAT.out.mono ?_; rintro e w4 ⟨rfl, hb4⟩; have HB4 := Lib.hid hb4; clear hb4)
  have h4 := H2.out.below HB4.out
  have hk4 := HK2.out.below HB4.out HK2.out.lt
  have HU4 := Lib.hid (HU.out.trans_ (Upd.ofBelow HB4.out _))
  have lk4 := ev_k hk4
  have H4 := Lib.hid h4
  have HK4 := Lib.hid hk4
  clear lk lp lc ld lf lu s0 h4 hk4
  have HDN := Lib.hid (down12_any H4.out HOK.out.len HOK.out.pc (fun x hx => (HOK.out.e x hx).toEW) HQ.out (B := w.heap.size) (o := []) (World.ownsRow_nil _ _ _ _) HU4.out.size (by simp))
  go_wp2_with (first
    | (go_at_call 39; refine HDN.out.mono ?_; rintro e w5 ⟨rfl, ov1, m1⟩; rw [List.nil_append] at m1; have HM5 := Lib.hid m1; clear m1)
    | (go_at_call 43; refine (tidy12_step HOK.out HWR.out HST.out HU4.out HD.out HM5.out).mono ?_; rintro e w6 ⟨rfl, av2, ov2, m2, hown⟩; obtain ⟨A2, n2, c2, rfl⟩ : ∃ A n c, ov2 = Value.slice A n c := (by obtain ⟨A, c, h, _⟩ := own_form m2.out; exact ⟨A, _, c, h⟩); have l18 := ld_tlC (m2.com.blk.cell 18); have HM6 := Lib.hid m2; have HOWN := Lib.hid hown; clear m2 hown))
  go_ret2
  exact done12_of HWR.out HST.out HU4.out HM5.out HM6.out HOWN.out
set_option maxRecDepth 100000 in
set_option maxHeartbeats 8000000 in
attribute [-go_sem] Instr.storeAt Instr.loadAt in
theorem do12_3 {w : World} {D rb : Nat} {av ov : Value} {room : Int} {c : Pc} {L : List Le} (h : RcM w D rb av ov room c L) (hok : LcOk ⟨room, c, L⟩) (hD : D ≤ w.heap.size) {q : Nat} (hq : q < 8) (v : Int) (hc1 : 1 ≤ v) (hc2 : v ≤ 50) (hup : c.up q = true) :
    Calls Try.prog 19 #[.pointer (some ⟨rb, 0, none⟩), .agg #[.int .i64 3, .int .i64 (q : Int), .int .i64 v, .int .u32 0, .int .i64 0, .int .i64 0]] w (Done12 w D rb av room c L ⟨3, (q : Int), v, (0, 0), 0⟩) := by
  obtain ⟨W1, W2, hW1, hW2, s0, h2, hk2, hu2⟩ := do12_front h 3 (q : Int) v 0 0 0
  have lk := ev_k hk2
  have lp := ld_iC (w := W2) (b := w.heap.size) (o := 1) (z := (q : Int)) (hk2.cell 1)
  have lc := ld_iC (w := W2) (b := w.heap.size) (o := 2) (z := v) (hk2.cell 2)
  have ld := ld_iC (w := W2) (b := w.heap.size) (o := 5) (z := 0) (hk2.cell 5)
  have lf := rev_pf hk2
  have lu := ld_bC (rcell_up h2.blk hq)
  rw [show ((0 : Nat) : Int) = 0 from rfl] at hW1 lf
  have hp1 : ¬ (q : Int) < 0 := by omega
  have hp2 : ¬ 7 < (q : Int) := by omega
  have hp3 : (0 : Int) ≤ q := by omega
  have hp4 : (q : Int) < 8 := by omega
  have HU := Lib.hid hu2
  have H2 := Lib.hid h2
  have HK2 := Lib.hid hk2
  have HW1 := Lib.hid hW1.symm
  have HQ := Lib.hid hq
  have HOK := Lib.hid hok
  have HD := Lib.hid hD
  have hc3 : ¬ v < 1 := by omega
  have hc4 : ¬ 50 < v := by omega
  rw [hup] at lu
  have HAT := Lib.hid (show Calls Try.prog 36 #[.pointer (some ⟨rb, 0, none⟩), .agg #[.int .u32 0, .int .i64 0]] W2 fun e w' => e = .returned (.int .i64 (atF L (0, 0))) ∧ Below W2.heap.size W2 w' from at12_any h2 hok.len (0, 0))
  have hwr : wrongF c (⟨3, (q : Int), v, (0, 0), 0⟩ : Ev) = 0 := by unfold wrongF okE; simp [hup]; omega
  have hst : stepE ⟨room, c, L⟩ (⟨3, (q : Int), v, (0, 0), 0⟩ : Ev) = .inl (⟨c.up, setAt c.cost q v⟩, (lookAllF ⟨c.up, setAt c.cost q v⟩ L).1, (lookAllF ⟨c.up, setAt c.cost q v⟩ L).2) := rfl
  have HPC := Lib.hid (step_ok hok hwr hst).1
  have HWR := Lib.hid hwr
  have HST := Lib.hid hst
  clear hup hwr hst
  clear hW1 hW2 hu2 h2 hk2 h hok hD hq
  go_enter Try.func19, Try.ntmps19
  go_upto_region 1 with (fail)
  rw [← HW1.out]
  go_upto_region 16 with (go_at_call 36; refine HAT.out.mono ?_; rintro e w4 ⟨rfl, hb4⟩; have HB4 := Lib.hid hb4; clear hb4)
  have h4 := H2.out.below HB4.out
  have hk4 := HK2.out.below HB4.out HK2.out.lt
  have HU4 := Lib.hid (HU.out.trans_ (Upd.ofBelow HB4.out _))
  have lk4 := ev_k hk4
  have H4 := Lib.hid h4
  have HK4 := Lib.hid hk4
  clear lk lp lc ld lf lu s0 h4 hk4
  have m0 := H4.out.toRl (B := w.heap.size) (o := []) (U := RcU rb av (.slice none 0 0)) (World.ownsRow_nil _ _ _ _) fun j hj => .inr (.inr hj)
  have s4 := st_iC (w := w4.drew) (rcell_cost H4.out.blk.drew HQ.out) (H4.out.blk.drew.frozen _) v
  have l4 := ld_iC (w := w4.drew) (b := w.heap.size) (o := 2) (z := v) (HK4.out.drew.cell 2)
  have m1 := (m0.core (rcC_set_cost room c av (.slice none 0 0) HQ.out v) (.inl rfl)).below (W' := (w4.setCell ⟨rb, 9 + q, none⟩ (.int .i64 v)).drew) ⟨rfl, rfl, rfl, Nat.le_refl _, fun _ _ => rfl⟩
  obtain ⟨W5, hW5⟩ : ∃ Z, Z = (w4.setCell ⟨rb, 9 + q, none⟩ (.int .i64 v)).drew := ⟨_, rfl⟩
  rw [← hW5] at m1
  have HW5 := Lib.hid hW5
  have HM1 := Lib.hid m1
  obtain ⟨U, hU⟩ : ∃ U, U = RcU rb av (.slice none 0 0) := ⟨_, rfl⟩
  rw [← hU] at HM1
  have HU1 := Lib.hid (show U rb by rw [hU]; exact .inl rfl)
  have HU2 := Lib.hid (show ∀ j, av.ownBlock = some j → U j from fun j hj => by rw [hU]; exact .inr (.inl hj))
  have HUU := Lib.hid hU
  obtain ⟨A, cap, hav, _⟩ := H4.out.len_le
  obtain ⟨n, hn⟩ : ∃ n, n = L.length := ⟨_, rfl⟩
  have hn9 : n ≤ 1024 := by rw [hn]; exact HOK.out.len
  have HN := Lib.hid hn
  have HAV := Lib.hid hav
  obtain ⟨pc, hpc⟩ : ∃ pc : Pc, pc = ⟨c.up, setAt c.cost q v⟩ := ⟨_, rfl⟩
  rw [← hpc] at HM1 HST HPC
  have HPE := Lib.hid (show ∀ x ∈ L, EW pc x from fun x hx => (HOK.out.e x hx).toEW.pc (by rw [hpc]))
  clear m0 m1 hW5 hU hn hav hpc
  go_upto_region 30 with (fail)
  go_still_tail 7, (by kernel_rfl)
  go_wp2_with fail
  rw [← HW5.out]
  clear s4 l4
  go_loopw [11] (fun s11 wr => ∃ j : Nat, j ≤ n ∧ s11 = .int .i64 (j : Int) ∧ LkAll w4 rb w.heap.size D av room pc L [] U j wr) (fun s11 _ => n - (intOf s11).toNat)
  case atStart => exact ⟨0, Nat.zero_le _, rfl, _, by rw [mtL_zero, List.take_zero, List.flatMap_nil, List.append_nil]; exact HM1.out⟩
  case round =>
    obtain ⟨j, hj, rfl, ov2, hM2⟩ := hrel
    have l0 := ld_all (w := wr) (b := rb) (A := A) (n := n) (c := cap) (by rw [HN.out, ← HAV.out]; exact hM2.com.blk.cell 17)
    have HM2 := Lib.hid hM2
    have hj0 : (0 : Int) ≤ j := by omega
    by_cases hjk : j < n
    · obtain ⟨x, hx⟩ : ∃ x, L[j]? = some x := ⟨_, List.getElem?_eq_getElem (by rw [← HN.out]; exact hjk)⟩
      have hxm := mtL_get (f := fun x => (lookF pc x).1) hx
      obtain ⟨g, cap2, hg⟩ := hM2.atg (by rw [mtL_len, ← HN.out]; omega)
      have hwx : EW pc x := HPE.out x (mtL_mem hx)
      rw [hg] at hM2
      have hlk := look12_any hM2.com HPC.out hxm hwx hM2.out (by have := hM2.upd.size; have := HU4.out.size; omega) (by have := outs_len pc L j; rw [← HN.out] at this; rw [List.nil_append]; omega)
      have HLK := Lib.hid hlk
      have HX := Lib.hid hx
      have HG := Lib.hid hg
      clear hM2 hx hxm hwx hlk hg
      go_wp2_with (go_at_call 41; refine HLK.out.mono ?_; rintro e w5 ⟨rfl, hm⟩; have HM5 := Lib.hid hm; clear hm)
      go_roundw
      case rel =>
        refine ⟨j + 1, by omega, by go_num, ?_⟩
        have m6 := HM2.out
        have hlm : (mtL (fun x => (lookF pc x).1) j L).length = L.length := mtL_len
        rw [HG.out, hlm] at m6 ⊢
        have m7 := HM5.out
        rw [hlm] at m7
        exact LkAll.step HX.out m6 m7 HU1.out (HU2.out g (by rw [HG.out]; rfl))
      case measure => simp [intOf]; omega
    · obtain rfl : j = n := by omega
      have m6 := HM2.out
      rw [show j = L.length from HN.out, mtL_all, List.take_of_length_le (Nat.le_refl _), List.nil_append, HUU.out] at m6
      have HM5 := Lib.hid (show RlM w4 rb w.heap.size D av room pc (lookAllF pc L).1 (lookAllF pc L).2 wr ov2 (RcU rb av (.slice none 0 0)) from m6)
      clear hM2 m6
      go_wp2_with (go_at_call 43; refine (tidy12_step HOK.out HWR.out HST.out HU4.out HD.out HM5.out).mono ?_; rintro e w6 ⟨rfl, av2, ov2, m2, hown⟩; obtain ⟨A2, n2, c2, rfl⟩ : ∃ A n c, ov2 = Value.slice A n c := (by obtain ⟨A, c, h, _⟩ := own_form m2.out; exact ⟨A, _, c, h⟩); have l18 := ld_tlC (m2.com.blk.cell 18); have HM6 := Lib.hid m2; have HOWN := Lib.hid hown; clear m2 hown)
      go_ret2
      exact done12_of HWR.out HST.out HU4.out HM5.out HM6.out HOWN.out
end Go.Proofs.Ytahdjfegihnolaa
namespace Go.Proofs.Ytahdjfegihnolaa
open Go.RowKit Go.Sort
def tuF (q : Nat) (x : Le) : Le := if x.told ≠ 255 then { x with aw := setN x.aw q (x.aw q + 1) } else x
def tuX (q : Nat) (l : List Le) : List Tl := (l.filter fun x => decide (x.told ≠ 255)).map fun x => (q, x.p, x.told)
theorem tellUp_eq (q : Nat) (l : List Le) : tellUp q l = (l.map (tuF q), tuX q l) := rfl
theorem tuX_yes {q : Nat} {l : List Le} {k : Nat} {x : Le} (h : l[k]? = some x) (ht : x.told ≠ 255) : tuX q (l.take (k + 1)) = tuX q (l.take k) ++ [(q, x.p, x.told)] := by
  unfold tuX
  rw [filt_yes h (by simpa using ht), List.map_append]; rfl
theorem tuX_no {q : Nat} {l : List Le} {k : Nat} {x : Le} (h : l[k]? = some x) (ht : ¬ x.told ≠ 255) : tuX q (l.take (k + 1)) = tuX q (l.take k) := by
  unfold tuX
  rw [filt_no h (by simpa using ht)]
theorem tuX_len (q : Nat) (l : List Le) (k : Nat) : (tuX q (l.take k)).length ≤ l.length := by
  unfold tuX
  rw [List.length_map]
  have := List.length_filter_le (fun x : Le => decide (x.told ≠ 255)) (l.take k)
  rw [List.length_take] at this
  omega
theorem tu_no {q k : Nat} {l : List Le} {x : Le} (h : l[k]? = some x) (ht : ¬ x.told ≠ 255) : mtL (tuF q) (k + 1) l = mtL (tuF q) k l := by
  rw [← mtL_set h]
  have : tuF q x = x := by unfold tuF; rw [if_neg ht]
  rw [this]
  exact set_self (mtL_get h)
set_option maxRecDepth 100000 in
set_option maxHeartbeats 8000000 in
attribute [-go_sem] Instr.storeAt Instr.loadAt in
theorem do12_1u {w : World} {D rb : Nat} {av ov : Value} {room : Int} {c : Pc} {L : List Le} (h : RcM w D rb av ov room c L) (hok : LcOk ⟨room, c, L⟩) (hD : D ≤ w.heap.size) {q : Nat} (hq : q < 8) (v : Int) (hc1 : 1 ≤ v) (hc2 : v ≤ 50) (hup : c.up q = true) :
    Calls Try.prog 19 #[.pointer (some ⟨rb, 0, none⟩), .agg #[.int .i64 1, .int .i64 (q : Int), .int .i64 v, .int .u32 0, .int .i64 0, .int .i64 0]] w (Done12 w D rb av room c L ⟨1, (q : Int), v, (0, 0), 0⟩) := by
  obtain ⟨W1, W2, hW1, hW2, s0, h2, hk2, hu2⟩ := do12_front h 1 (q : Int) v 0 0 0
  have lk := ev_k hk2
  have lp := ld_iC (w := W2) (b := w.heap.size) (o := 1) (z := (q : Int)) (hk2.cell 1)
  have lc := ld_iC (w := W2) (b := w.heap.size) (o := 2) (z := v) (hk2.cell 2)
  have ld := ld_iC (w := W2) (b := w.heap.size) (o := 5) (z := 0) (hk2.cell 5)
  have lf := rev_pf hk2
  have lu := ld_bC (rcell_up h2.blk hq)
  rw [show ((0 : Nat) : Int) = 0 from rfl] at hW1 lf
  have hp1 : ¬ (q : Int) < 0 := by omega
  have hp2 : ¬ 7 < (q : Int) := by omega
  have hp3 : (0 : Int) ≤ q := by omega
  have hp4 : (q : Int) < 8 := by omega
  have HU := Lib.hid hu2
  have H2 := Lib.hid h2
  have HK2 := Lib.hid hk2
  have HW1 := Lib.hid hW1.symm
  have HQ := Lib.hid hq
  have HOK := Lib.hid hok
  have HD := Lib.hid hD
  have hc3 : ¬ v < 1 := by omega
  have hc4 : ¬ 50 < v := by omega
  have HAT := Lib.hid (show Calls Try.prog 36 #[.pointer (some ⟨rb, 0, none⟩), .agg #[.int .u32 0, .int .i64 0]] W2 fun e w' => e = .returned (.int .i64 (atF L (0, 0))) ∧ Below W2.heap.size W2 w' from at12_any h2 hok.len (0, 0))
  have HWR := Lib.hid (show wrongF c (⟨1, (q : Int), v, (0, 0), 0⟩ : Ev) = 0 by unfold wrongF okE; simp; omega)
  have HST := Lib.hid (show stepE ⟨room, c, L⟩ (⟨1, (q : Int), v, (0, 0), 0⟩ : Ev) = .inl (upF (downF c q) q v, (portDownF c L q).1.map (tuF q), (portDownF c L q).2 ++ tuX q (portDownF c L q).1) by unfold stepE; dsimp only; rw [if_pos rfl]; rw [show ((q : Int).toNat) = q from rfl, hup]; rfl)
  have HUP := Lib.hid hup
  clear hup
  clear hW1 hW2 hu2 h2 hk2 h hok hD hq
  go_enter Try.func19, Try.ntmps19
  go_upto_region 1 with (fail)
  rw [← HW1.out]
  go_upto_region 16 with (go_at_call 36; refine HAT.out.mono ?_; rintro e w4 ⟨rfl, hb4⟩; have HB4 := Lib.hid hb4; clear hb4)
  have h4 := H2.out.below HB4.out
  have hk4 := HK2.out.below HB4.out HK2.out.lt
  have HU4 := Lib.hid (HU.out.trans_ (Upd.ofBelow HB4.out _))
  have lk4 := ev_k hk4
  have H4 := Lib.hid h4
  have HK4 := Lib.hid hk4
  clear lk lp lc ld lf lu s0 h4 hk4
  obtain ⟨U, hU⟩ : ∃ U, U = RcU rb av (.slice none 0 0) := ⟨_, rfl⟩
  have HU1 := Lib.hid (show U rb by rw [hU]; exact .inl rfl)
  have HU2 := Lib.hid (show ∀ j, av.ownBlock = some j → U j from fun j hj => by rw [hU]; exact .inr (.inl hj))
  have HUU := Lib.hid hU
  obtain ⟨A, cap, hav, _⟩ := H4.out.len_le
  have HAV := Lib.hid hav
  have lu4 := ld_bC (rcell_up H4.out.blk HQ.out)
  rw [HUP.out] at lu4
  have HDN := Lib.hid (down12_any H4.out HOK.out.len HOK.out.pc (fun x hx => (HOK.out.e x hx).toEW) HQ.out (B := w.heap.size) (o := []) (World.ownsRow_nil _ _ _ _) HU4.out.size (by simp))
  rw [← hU] at HDN
  clear hU hav
  go_upto_region 20 with (go_at_call 39; refine HDN.out.mono ?_; rintro e w5 ⟨rfl, ov1, m1⟩; rw [List.nil_append] at m1; have HM1 := Lib.hid m1; clear m1)
  have HK5 := Lib.hid (HK4.out.upd HM1.out.upd fun hk => by
    rw [HUU.out] at hk
    rcases hk with hk | hk | hk
    · exact HK4.out.ne_ H4.out.blk (by decide) hk
    · exact own_blk_ne H4.out.row HK4.out (by decide) hk
    · cases hk)
  have HEL := Lib.hid (show ∀ x ∈ (portDownF c L q).1, x.aw q = 0 from fun x hx => by
    unfold portDownF lookAllF at hx
    obtain ⟨y, hy, rfl⟩ := List.mem_map.1 hx
    obtain ⟨z, hz, rfl⟩ := List.mem_map.1 hy
    exact ((look_ok (cut_ew (HOK.out.e z hz).toEW q) (pc_down HOK.out.pc q)).toEW.sd q (by unfold downF setB; simp)).2)
  have HLL := Lib.hid (show (portDownF c L q).1.length = L.length ∧ (portDownF c L q).2.length ≤ 8 * 1024 from ⟨by unfold portDownF lookAllF; simp, by
    unfold portDownF
    have := lookAllF_len (downF c q) (L.map (cutE q))
    rw [List.length_map] at this
    have := HOK.out.len
    dsimp only at this
    omega⟩)
  have s5 := st_bC (rcell_up HM1.out.com.blk HQ.out) (HM1.out.com.blk.frozen _) true
  have m6 := HM1.out.core (rcC_set_up room (downF c q) av ov1 HQ.out true) HU1.out
  obtain ⟨W6, hW6⟩ : ∃ Z, Z = w5.setCell ⟨rb, 1 + q, none⟩ (.bool true) := ⟨_, rfl⟩
  rw [← hW6] at m6
  have hk6 : Blk W6 w.heap.size 38 (evI 1 (q : Int) v 0 0 0) := by rw [hW6]; exact HK5.out.far (p := ⟨rb, 1 + q, none⟩) (HK5.out.ne_ HM1.out.com.blk (by decide)) _
  have s6 := st_iC (w := W6.drew) (rcell_cost m6.com.blk.drew HQ.out) (m6.com.blk.drew.frozen _) v
  have l6 := ld_iC (w := W6.drew) (b := w.heap.size) (o := 2) (z := v) (hk6.drew.cell 2)
  have m7 := (m6.core (rcC_set_cost room _ av ov1 HQ.out v) HU1.out).below (W' := (W6.setCell ⟨rb, 9 + q, none⟩ (.int .i64 v)).drew) ⟨rfl, rfl, rfl, Nat.le_refl _, fun _ _ => rfl⟩
  obtain ⟨W7, hW7⟩ : ∃ Z, Z = (W6.setCell ⟨rb, 9 + q, none⟩ (.int .i64 v)).drew := ⟨_, rfl⟩
  rw [← hW7] at m7
  have HM7 := Lib.hid (show RlM w4 rb w.heap.size D av room (upF (downF c q) q v) (portDownF c L q).1 (portDownF c L q).2 W7 ov1 U from m7)
  have HW7 := Lib.hid hW7
  have hW6' := hW6.symm
  clear m6 m7 hk6 hW6 hW7
  obtain ⟨pc, hpc⟩ : ∃ pc : Pc, pc = upF (downF c q) q v := ⟨_, rfl⟩
  obtain ⟨l, hl⟩ : ∃ l : List Le, l = (portDownF c L q).1 := ⟨_, rfl⟩
  obtain ⟨o, ho⟩ : ∃ o : List Tl, o = (portDownF c L q).2 := ⟨_, rfl⟩
  have HM7 := Lib.hid (show RlM w4 rb w.heap.size D av room pc l o W7 ov1 U by rw [hpc, hl, ho]; exact HM7.out)
  have HST := Lib.hid (show stepE ⟨room, c, L⟩ (⟨1, (q : Int), v, (0, 0), 0⟩ : Ev) = .inl (pc, l.map (tuF q), o ++ tuX q l) by rw [hpc, hl, ho]; exact HST.out)
  have HEL := Lib.hid (show ∀ x ∈ l, x.aw q = 0 by rw [hl]; exact HEL.out)
  have HLO := Lib.hid (show o.length ≤ 8 * 1024 by rw [ho]; exact HLL.out.2)
  obtain ⟨n, hn⟩ : ∃ n, n = l.length := ⟨_, rfl⟩
  have hn9 : n ≤ 1024 := by rw [hn, hl, HLL.out.1]; exact HOK.out.len
  have HN := Lib.hid hn
  have HNL := Lib.hid (show n = L.length from hn.trans ((congrArg List.length hl).trans HLL.out.1))
  clear HM1 hpc hl ho hn
  go_wp2_with fail
  go_still_tail 7, (by kernel_rfl)
  go_wp2_with fail
  rw [← HW7.out]
  clear s5 s6 l6 hW6' lu4
  go_loopw [10] (fun s10 wr => ∃ (j : Nat) (ov2 : Value), j ≤ n ∧ s10 = .int .i64 (j : Int) ∧ RlM w4 rb w.heap.size D av room pc (mtL (tuF q) j l) (o ++ tuX q (l.take j)) wr ov2 U) (fun s10 _ => n - (intOf s10).toNat)
  case atStart => exact ⟨0, ov1, Nat.zero_le _, rfl, by rw [mtL_zero, List.take_zero, show tuX q [] = [] from rfl, List.append_nil]; exact HM7.out⟩
  case round =>
    obtain ⟨j, ov2, hj, rfl, hM2⟩ := hrel
    have l0 := ld_all (w := wr) (b := rb) (A := A) (n := n) (c := cap) (by rw [HNL.out, ← HAV.out]; exact hM2.com.blk.cell 17)
    have HM2 := Lib.hid hM2
    have hj0 : (0 : Int) ≤ j := by omega
    by_cases hjk : j < n
    · obtain ⟨x, hx⟩ : ∃ x, l[j]? = some x := ⟨_, List.getElem?_eq_getElem (by rw [← HN.out]; exact hjk)⟩
      have hxm := mtL_get (f := tuF q) hx
      obtain ⟨g, cap2, hg⟩ := hM2.atg (by rw [mtL_len, ← HN.out]; omega)
      have hA : A = some ⟨g, 0, none⟩ ∧ cap = cap2 := by
        have e := HAV.out.symm.trans hg
        unfold avL at e
        injection e with e1 _ e2
        exact ⟨e1, e2⟩
      obtain ⟨rfl, rfl⟩ := hA
      rw [hg] at hM2
      have lt := ld_iC (b := g) (o := j * 22 + 12) (z := x.told) (hM2.com.cell hxm (j := 12) rfl)
      have hi1 : (j : Int) < n := by omega
      have haw := HEL.out x (mtL_mem hx)
      have HX := Lib.hid hx
      have HG := Lib.hid hg
      obtain ⟨t, ht⟩ : ∃ t, t = x.told := ⟨_, rfl⟩
      rw [← ht] at lt
      have HT := Lib.hid ht
      by_cases ht5 : t = 255
      · have d0 : (t != 255) = false := by rw [ht5]; rfl
        have HE1 := Lib.hid (tu_no (q := q) hx (by rw [← ht, ht5]; simp))
        have HE2 := Lib.hid (tuX_no (q := q) hx (by rw [← ht, ht5]; simp))
        clear hM2 hx hxm hg ht ht5 haw
        go_wp2_with fail
        go_roundw
        case rel => exact ⟨j + 1, ov2, by omega, by go_num, by rw [HE1.out, HE2.out]; exact HM2.out⟩
        case measure => simp [intOf]; omega
      · have d0 : (t != 255) = true := by rw [bne_iff_ne]; exact ht5
        have HE2 := Lib.hid (tuX_yes (q := q) hx (by rw [← ht]; exact ht5))
        have HE1 := Lib.hid (mtL_set (f := tuF q) hx)
        have HTF := Lib.hid (show tuF q x = { x with aw := setN x.aw q (x.aw q + 1) } by unfold tuF; rw [if_pos (by rw [← ht]; exact ht5)])
        have htl := tell12_any (B := w.heap.size) hM2.com hxm HQ.out hM2.out (by have := hM2.upd.size; have := HU4.out.size; omega) (by have := tuX_len q l j; rw [← HN.out] at this; have := HLO.out; rw [List.length_append]; omega) (by rw [haw]; omega)
        have HTL := Lib.hid htl
        clear hM2 hx hxm hg ht ht5 haw htl
        go_wp2_with (go_at_call 40; refine HTL.out.mono ?_; rintro e w8 ⟨rfl, ov3, hm⟩; have HM8 := Lib.hid hm; clear hm)
        go_roundw
        case rel =>
          refine ⟨j + 1, ov3, by omega, by go_num, ?_⟩
          have m8 := HM8.out
          rw [← HTF.out, HE1.out, List.append_assoc, ← HE2.out] at m8
          rw [HG.out]
          refine (HG.out ▸ HM2.out).trans m8 fun i hi => ?_
          rcases hi with hi | hi | hi
          · exact .inl (hi ▸ HU1.out)
          · exact .inl (HU2.out i (by rw [HG.out, hi]; rfl))
          · exact HM2.out.own i hi
        case measure => simp [intOf]; omega
    · obtain rfl : j = n := by omega
      have m6 := HM2.out
      rw [show j = l.length from HN.out, mtL_all, List.take_of_length_le (Nat.le_refl _), HUU.out] at m6
      have HM5 := Lib.hid m6
      clear hM2 m6
      go_wp2_with (go_at_call 43; refine (tidy12_step HOK.out HWR.out HST.out HU4.out HD.out HM5.out).mono ?_; rintro e w6 ⟨rfl, av2, ov2, m2, hown⟩; obtain ⟨A2, n2, c2, rfl⟩ : ∃ A n c, ov2 = Value.slice A n c := (by obtain ⟨A, c, h, _⟩ := own_form m2.out; exact ⟨A, _, c, h⟩); have l18 := ld_tlC (m2.com.blk.cell 18); have HM6 := Lib.hid m2; have HOWN := Lib.hid hown; clear m2 hown)
      go_ret2
      exact done12_of HWR.out HST.out HU4.out HM5.out HM6.out HOWN.out
set_option maxRecDepth 100000 in
set_option maxHeartbeats 8000000 in
attribute [-go_sem] Instr.storeAt Instr.loadAt in
theorem do12_1d {w : World} {D rb : Nat} {av ov : Value} {room : Int} {c : Pc} {L : List Le} (h : RcM w D rb av ov room c L) (hok : LcOk ⟨room, c, L⟩) (hD : D ≤ w.heap.size) {q : Nat} (hq : q < 8) (v : Int) (hc1 : 1 ≤ v) (hc2 : v ≤ 50) (hup : c.up q = false) :
    Calls Try.prog 19 #[.pointer (some ⟨rb, 0, none⟩), .agg #[.int .i64 1, .int .i64 (q : Int), .int .i64 v, .int .u32 0, .int .i64 0, .int .i64 0]] w (Done12 w D rb av room c L ⟨1, (q : Int), v, (0, 0), 0⟩) := by
  obtain ⟨W1, W2, hW1, hW2, s0, h2, hk2, hu2⟩ := do12_front h 1 (q : Int) v 0 0 0
  have lk := ev_k hk2
  have lp := ld_iC (w := W2) (b := w.heap.size) (o := 1) (z := (q : Int)) (hk2.cell 1)
  have lc := ld_iC (w := W2) (b := w.heap.size) (o := 2) (z := v) (hk2.cell 2)
  have ld := ld_iC (w := W2) (b := w.heap.size) (o := 5) (z := 0) (hk2.cell 5)
  have lf := rev_pf hk2
  have lu := ld_bC (rcell_up h2.blk hq)
  rw [show ((0 : Nat) : Int) = 0 from rfl] at hW1 lf
  have hp1 : ¬ (q : Int) < 0 := by omega
  have hp2 : ¬ 7 < (q : Int) := by omega
  have hp3 : (0 : Int) ≤ q := by omega
  have hp4 : (q : Int) < 8 := by omega
  have HU := Lib.hid hu2
  have H2 := Lib.hid h2
  have HK2 := Lib.hid hk2
  have HW1 := Lib.hid hW1.symm
  have HQ := Lib.hid hq
  have HOK := Lib.hid hok
  have HD := Lib.hid hD
  have hc3 : ¬ v < 1 := by omega
  have hc4 : ¬ 50 < v := by omega
  have HAT := Lib.hid (show Calls Try.prog 36 #[.pointer (some ⟨rb, 0, none⟩), .agg #[.int .u32 0, .int .i64 0]] W2 fun e w' => e = .returned (.int .i64 (atF L (0, 0))) ∧ Below W2.heap.size W2 w' from at12_any h2 hok.len (0, 0))
  have HWR := Lib.hid (show wrongF c (⟨1, (q : Int), v, (0, 0), 0⟩ : Ev) = 0 by unfold wrongF okE; simp; omega)
  have HST := Lib.hid (show stepE ⟨room, c, L⟩ (⟨1, (q : Int), v, (0, 0), 0⟩ : Ev) = .inl (upF c q v, L.map (tuF q), [] ++ tuX q L) by unfold stepE; dsimp only; rw [if_pos rfl]; rw [show ((q : Int).toNat) = q from rfl, hup]; rfl)
  have HUP := Lib.hid hup
  clear hup
  clear hW1 hW2 hu2 h2 hk2 h hok hD hq
  go_enter Try.func19, Try.ntmps19
  go_upto_region 1 with (fail)
  rw [← HW1.out]
  go_upto_region 16 with (go_at_call 36; refine HAT.out.mono ?_; rintro e w4 ⟨rfl, hb4⟩; have HB4 := Lib.hid hb4; clear hb4)
  have h4 := H2.out.below HB4.out
  have hk4 := HK2.out.below HB4.out HK2.out.lt
  have HU4 := Lib.hid (HU.out.trans_ (Upd.ofBelow HB4.out _))
  have lk4 := ev_k hk4
  have H4 := Lib.hid h4
  have HK4 := Lib.hid hk4
  clear lk lp lc ld lf lu s0 h4 hk4
  obtain ⟨U, hU⟩ : ∃ U, U = RcU rb av (.slice none 0 0) := ⟨_, rfl⟩
  have HU1 := Lib.hid (show U rb by rw [hU]; exact .inl rfl)
  have HU2 := Lib.hid (show ∀ j, av.ownBlock = some j → U j from fun j hj => by rw [hU]; exact .inr (.inl hj))
  have HUU := Lib.hid hU
  obtain ⟨A, cap, hav, _⟩ := H4.out.len_le
  have HAV := Lib.hid hav
  have lu4 := ld_bC (rcell_up H4.out.blk HQ.out)
  rw [HUP.out] at lu4
  have HM1 := Lib.hid (show RlM w4 rb w.heap.size D av room c L [] w4 (.slice none 0 0) U from H4.out.toRl (o := []) (World.ownsRow_nil _ _ _ _) fun j hj => by rw [hU]; exact .inr (.inr hj))
  clear hU hav
  go_upto_region 20 with (fail)
  obtain ⟨w5, hw5⟩ : ∃ Z, Z = w4 := ⟨_, rfl⟩
  rw [← hw5]
  obtain ⟨ov1, hov1⟩ : ∃ Z, Z = Value.slice none 0 0 := ⟨_, rfl⟩
  have HM1 := Lib.hid (show RlM w4 rb w.heap.size D av room c L [] w5 ov1 U by rw [hw5, hov1]; exact HM1.out)
  have HK5 := Lib.hid (show Blk w5 w.heap.size 38 (evI 1 (q : Int) v 0 0 0) by rw [hw5]; exact HK4.out)
  clear hw5 hov1
  have HEL := Lib.hid (show ∀ x ∈ L, x.aw q = 0 from fun x hx => ((HOK.out.e x hx).toEW.sd q HUP.out).2)
  have HLL := Lib.hid (show L.length = L.length ∧ ([] : List Tl).length ≤ 8 * 1024 from ⟨rfl, by simp⟩)
  have s5 := st_bC (rcell_up HM1.out.com.blk HQ.out) (HM1.out.com.blk.frozen _) true
  have m6 := HM1.out.core (rcC_set_up room c av ov1 HQ.out true) HU1.out
  obtain ⟨W6, hW6⟩ : ∃ Z, Z = w5.setCell ⟨rb, 1 + q, none⟩ (.bool true) := ⟨_, rfl⟩
  rw [← hW6] at m6
  have hk6 : Blk W6 w.heap.size 38 (evI 1 (q : Int) v 0 0 0) := by rw [hW6]; exact HK5.out.far (p := ⟨rb, 1 + q, none⟩) (HK5.out.ne_ HM1.out.com.blk (by decide)) _
  have s6 := st_iC (w := W6.drew) (rcell_cost m6.com.blk.drew HQ.out) (m6.com.blk.drew.frozen _) v
  have l6 := ld_iC (w := W6.drew) (b := w.heap.size) (o := 2) (z := v) (hk6.drew.cell 2)
  have m7 := (m6.core (rcC_set_cost room _ av ov1 HQ.out v) HU1.out).below (W' := (W6.setCell ⟨rb, 9 + q, none⟩ (.int .i64 v)).drew) ⟨rfl, rfl, rfl, Nat.le_refl _, fun _ _ => rfl⟩
  obtain ⟨W7, hW7⟩ : ∃ Z, Z = (W6.setCell ⟨rb, 9 + q, none⟩ (.int .i64 v)).drew := ⟨_, rfl⟩
  rw [← hW7] at m7
  have HM7 := Lib.hid (show RlM w4 rb w.heap.size D av room (upF c q v) L [] W7 ov1 U from m7)
  have HW7 := Lib.hid hW7
  have hW6' := hW6.symm
  clear m6 m7 hk6 hW6 hW7
  obtain ⟨pc, hpc⟩ : ∃ pc : Pc, pc = upF c q v := ⟨_, rfl⟩
  obtain ⟨l, hl⟩ : ∃ l : List Le, l = L := ⟨_, rfl⟩
  obtain ⟨o, ho⟩ : ∃ o : List Tl, o = [] := ⟨_, rfl⟩
  have HM7 := Lib.hid (show RlM w4 rb w.heap.size D av room pc l o W7 ov1 U by rw [hpc, hl, ho]; exact HM7.out)
  have HST := Lib.hid (show stepE ⟨room, c, L⟩ (⟨1, (q : Int), v, (0, 0), 0⟩ : Ev) = .inl (pc, l.map (tuF q), o ++ tuX q l) by rw [hpc, hl, ho]; exact HST.out)
  have HEL := Lib.hid (show ∀ x ∈ l, x.aw q = 0 by rw [hl]; exact HEL.out)
  have HLO := Lib.hid (show o.length ≤ 8 * 1024 by rw [ho]; exact HLL.out.2)
  obtain ⟨n, hn⟩ : ∃ n, n = l.length := ⟨_, rfl⟩
  have hn9 : n ≤ 1024 := by rw [hn, hl, HLL.out.1]; exact HOK.out.len
  have HN := Lib.hid hn
  have HNL := Lib.hid (show n = L.length from hn.trans ((congrArg List.length hl).trans HLL.out.1))
  clear HM1 hpc hl ho hn
  go_wp2_with fail
  go_still_tail 7, (by kernel_rfl)
  go_wp2_with fail
  rw [← HW7.out]
  clear s5 s6 l6 hW6' lu4
  go_loopw [10] (fun s10 wr => ∃ (j : Nat) (ov2 : Value), j ≤ n ∧ s10 = .int .i64 (j : Int) ∧ RlM w4 rb w.heap.size D av room pc (mtL (tuF q) j l) (o ++ tuX q (l.take j)) wr ov2 U) (fun s10 _ => n - (intOf s10).toNat)
  case atStart => exact ⟨0, ov1, Nat.zero_le _, rfl, by rw [mtL_zero, List.take_zero, show tuX q [] = [] from rfl, List.append_nil]; exact HM7.out⟩
  case round =>
    obtain ⟨j, ov2, hj, rfl, hM2⟩ := hrel
    have l0 := ld_all (w := wr) (b := rb) (A := A) (n := n) (c := cap) (by rw [HNL.out, ← HAV.out]; exact hM2.com.blk.cell 17)
    have HM2 := Lib.hid hM2
    have hj0 : (0 : Int) ≤ j := by omega
    by_cases hjk : j < n
    · obtain ⟨x, hx⟩ : ∃ x, l[j]? = some x := ⟨_, List.getElem?_eq_getElem (by rw [← HN.out]; exact hjk)⟩
      have hxm := mtL_get (f := tuF q) hx
      obtain ⟨g, cap2, hg⟩ := hM2.atg (by rw [mtL_len, ← HN.out]; omega)
      have hA : A = some ⟨g, 0, none⟩ ∧ cap = cap2 := by
        have e := HAV.out.symm.trans hg
        unfold avL at e
        injection e with e1 _ e2
        exact ⟨e1, e2⟩
      obtain ⟨rfl, rfl⟩ := hA
      rw [hg] at hM2
      have lt := ld_iC (b := g) (o := j * 22 + 12) (z := x.told) (hM2.com.cell hxm (j := 12) rfl)
      have hi1 : (j : Int) < n := by omega
      have haw := HEL.out x (mtL_mem hx)
      have HX := Lib.hid hx
      have HG := Lib.hid hg
      obtain ⟨t, ht⟩ : ∃ t, t = x.told := ⟨_, rfl⟩
      rw [← ht] at lt
      have HT := Lib.hid ht
      by_cases ht5 : t = 255
      · have d0 : (t != 255) = false := by rw [ht5]; rfl
        have HE1 := Lib.hid (tu_no (q := q) hx (by rw [← ht, ht5]; simp))
        have HE2 := Lib.hid (tuX_no (q := q) hx (by rw [← ht, ht5]; simp))
        clear hM2 hx hxm hg ht ht5 haw
        go_wp2_with fail
        go_roundw
        case rel => exact ⟨j + 1, ov2, by omega, by go_num, by rw [HE1.out, HE2.out]; exact HM2.out⟩
        case measure => simp [intOf]; omega
      · have d0 : (t != 255) = true := by rw [bne_iff_ne]; exact ht5
        have HE2 := Lib.hid (tuX_yes (q := q) hx (by rw [← ht]; exact ht5))
        have HE1 := Lib.hid (mtL_set (f := tuF q) hx)
        have HTF := Lib.hid (show tuF q x = { x with aw := setN x.aw q (x.aw q + 1) } by unfold tuF; rw [if_pos (by rw [← ht]; exact ht5)])
        have htl := tell12_any (B := w.heap.size) hM2.com hxm HQ.out hM2.out (by have := hM2.upd.size; have := HU4.out.size; omega) (by have := tuX_len q l j; rw [← HN.out] at this; have := HLO.out; rw [List.length_append]; omega) (by rw [haw]; omega)
        have HTL := Lib.hid htl
        clear hM2 hx hxm hg ht ht5 haw htl
        go_wp2_with (go_at_call 40; refine HTL.out.mono ?_; rintro e w8 ⟨rfl, ov3, hm⟩; have HM8 := Lib.hid hm; clear hm)
        go_roundw
        case rel =>
          refine ⟨j + 1, ov3, by omega, by go_num, ?_⟩
          have m8 := HM8.out
          rw [← HTF.out, HE1.out, List.append_assoc, ← HE2.out] at m8
          rw [HG.out]
          refine (HG.out ▸ HM2.out).trans m8 fun i hi => ?_
          rcases hi with hi | hi | hi
          · exact .inl (hi ▸ HU1.out)
          · exact .inl (HU2.out i (by rw [HG.out, hi]; rfl))
          · exact HM2.out.own i hi
        case measure => simp [intOf]; omega
    · obtain rfl : j = n := by omega
      have m6 := HM2.out
      rw [show j = l.length from HN.out, mtL_all, List.take_of_length_le (Nat.le_refl _), HUU.out] at m6
      have HM5 := Lib.hid m6
      clear hM2 m6
      go_wp2_with (go_at_call 43; refine (tidy12_step HOK.out HWR.out HST.out HU4.out HD.out HM5.out).mono ?_; rintro e w6 ⟨rfl, av2, ov2, m2, hown⟩; obtain ⟨A2, n2, c2, rfl⟩ : ∃ A n c, ov2 = Value.slice A n c := (by obtain ⟨A, c, h, _⟩ := own_form m2.out; exact ⟨A, _, c, h⟩); have l18 := ld_tlC (m2.com.blk.cell 18); have HM6 := Lib.hid m2; have HOWN := Lib.hid hown; clear m2 hown)
      go_ret2
      exact done12_of HWR.out HST.out HU4.out HM5.out HM6.out HOWN.out
end Go.Proofs.Ytahdjfegihnolaa
