/- Layer 12: the document's Do: heard, acknowledged. -/
import Derived.Test.YtahdjfegihnolaaRcN
namespace Go.Proofs.Ytahdjfegihnolaa
open Go.RowKit Go.Sort
theorem Done12.fresh {w w' : World} {D rb : Nat} {av av3 : Value} {room : Int} {c : Pc} {L : List Le} {ev : Ev} {e : Ending} (h : Done12 w D rb av3 room c L ev e w') (hf : ∀ j, av3.ownBlock = some j → w.heap.size ≤ j) : Done12 w D rb av room c L ev e w' := by
  obtain ⟨v, av', ov', h1, h2, h3, h4, h5⟩ := h
  refine ⟨v, av', ov', h1, h2, h3, h4.mono fun k hk => ?_, fun j hj => ?_⟩
  · rcases hk with hk | hk
    · exact .inl (.inl hk)
    · exact .inr (hf k hk)
  · rcases h5 j hj with h | h
    · exact .inr (hf j h)
    · exact .inr h
theorem bd_re (a : Nat) (n : Int) (b : Bool) (wx : World) : (Instr.build 98 #[(0, .agg #[.int .u32 (a : Int), .int .i64 n]), (3, .agg #[.int .i64 255, .int .i64 255, .int .i64 255, .int .i64 255, .int .i64 255, .int .i64 255, .int .i64 255, .int .i64 255]), (4, .int .i64 255), (5, .int .i64 255), (2, .bool b)]).run Try.prog wx = .ok (.agg (reA (newE (a, n) b))) wx := by kernel_rfl
theorem nothing_lit (w : World) : Calls Try.prog 38 #[] w fun e w' => e = .returned (.agg #[.int .i64 255, .int .i64 255, .int .i64 255, .int .i64 255, .int .i64 255, .int .i64 255, .int .i64 255, .int .i64 255]) ∧ Below w.heap.size w w' := nothing_any w
theorem ins_at (e : Le) (L : List Le) : ∃ i : Nat, (insE e L)[i]? = some e := by
  have : e ∈ insE e L := mem_insE.2 (.inl rfl)
  obtain ⟨i, hi, h⟩ := List.getElem_of_mem this
  exact ⟨i, by rw [List.getElem?_eq_getElem hi, h]⟩
theorem at_of {L : List Le} (hs : sortedL L) {i : Nat} {x : Le} (hx : L[i]? = some x) : atF L x.p = (i : Int) := atF_found hx rfl fun j y hj hy e => by
  have := at_uniq hs hx hy e
  omega
set_option maxRecDepth 100000 in
set_option maxHeartbeats 8000000 in
attribute [-go_sem] Instr.storeAt Instr.loadAt in
theorem do12_5n {w : World} {D rb : Nat} {av ov : Value} {room : Int} {c : Pc} {L : List Le} (h : RcM w D rb av ov room c L) (hok : LcOk ⟨room, c, L⟩) (hD : D ≤ w.heap.size) {q : Nat} (hq : q < 8) (a : Nat) (n : Int) (ha : a < 2 ^ 32) (hm : mayP (a, n) = true) (hup : c.up q = true) (hat : atF L (a, n) = -1) (hf : findE L (a, n) = none) :
    Calls Try.prog 19 #[.pointer (some ⟨rb, 0, none⟩), .agg #[.int .i64 5, .int .i64 (q : Int), .int .i64 0, .int .u32 (a : Int), .int .i64 n, .int .i64 0]] w (Done12 w D rb av room c L ⟨5, (q : Int), 0, (a, n), 0⟩) := by
  obtain ⟨W1, W2, hW1, hW2, s0, h2, hk2, hu2⟩ := do12_front h 5 (q : Int) 0 a n 0
  have lk := ev_k hk2
  have lp := ld_iC (w := W2) (b := w.heap.size) (o := 1) (z := (q : Int)) (hk2.cell 1)
  have lc := ld_iC (w := W2) (b := w.heap.size) (o := 2) (z := 0) (hk2.cell 2)
  have ld := ld_iC (w := W2) (b := w.heap.size) (o := 5) (z := 0) (hk2.cell 5)
  have lf := rev_pf hk2
  have lu := ld_bC (rcell_up h2.blk hq)
  have hp1 : ¬ (q : Int) < 0 := by omega
  have hp2 : ¬ 7 < (q : Int) := by omega
  have hp3 : (0 : Int) ≤ q := by omega
  have hp4 : (q : Int) < 8 := by omega
  have HU := Lib.hid hu2
  have H2 := Lib.hid h2
  have HK2 := Lib.hid hk2
  have HW1 := Lib.hid hW1.symm
  have HQ := Lib.hid hq
  have HOK := Lib.hid hok
  have HD := Lib.hid hD
  rw [hup] at lu
  have HMAY := Lib.hid (may12_any (a, n) ha W2)
  rw [hm] at HMAY
  have HAT := Lib.hid (fun w3 (hb : Below W2.heap.size W2 w3) => (show Calls Try.prog 36 #[.pointer (some ⟨rb, 0, none⟩), .agg #[.int .u32 (a : Int), .int .i64 n]] w3 fun e w' => e = .returned (.int .i64 (-1)) ∧ Below w3.heap.size w3 w' by rw [← hat]; exact at12_any (h2.below hb) hok.len (a, n)))
  have HUP := Lib.hid hup
  have hwr : wrongF c (⟨5, (q : Int), 0, (a, n), 0⟩ : Ev) = 0 := by unfold wrongF okE; simp [hm, hup]; omega
  have HWR := Lib.hid hwr
  have HDO := Lib.hid (do12_no (c := ⟨room, c, L⟩) (e := ⟨5, (q : Int), 0, (a, n), 0⟩) hwr (show stepE ⟨room, c, L⟩ (⟨5, (q : Int), 0, (a, n), 0⟩ : Ev) = .inr 7 by unfold stepE; simp [hf]))
  clear hm hup hat hwr
  clear hW1 hW2 hu2 h2 hk2 h hok hD hq
  go_enter Try.func19, Try.ntmps19
  go_upto_region 1 with (fail)
  rw [← HW1.out]
  go_upto_region 16 with (first
    | (go_at_call 35; refine HMAY.out.mono ?_; rintro e w3 ⟨rfl, hb3⟩; have HB3 := Lib.hid hb3; have lk3 := ev_k (HK2.out.below hb3 HK2.out.lt); have lp3 := ld_iC (w := w3) (b := w.heap.size) (o := 1) (z := (q : Int)) ((HK2.out.below hb3 HK2.out.lt).cell 1); have ld3 := ld_iC (w := w3) (b := w.heap.size) (o := 5) (z := 0) ((HK2.out.below hb3 HK2.out.lt).cell 5); have lf3 := rev_pf (HK2.out.below hb3 HK2.out.lt); have lu3 := ld_bC (rcell_up (H2.out.below hb3).blk HQ.out); rw [HUP.out] at lu3; have HAT3 := Lib.hid (HAT.out w3 hb3); clear hb3)
    | (go_at_call 36; refine HAT3.out.mono ?_; rintro e w4 ⟨rfl, hb4⟩; have HB4 := Lib.hid hb4; clear hb4))
  have hb24 : Below W2.heap.size W2 w4 := HB3.out.trans (HB4.out.mono HB3.out.size)
  have h4 := H2.out.below hb24
  have hk4 := HK2.out.below hb24 HK2.out.lt
  have HU4 := Lib.hid (HU.out.trans_ (Upd.ofBelow hb24 _))
  have lk4 := ev_k hk4
  have H4 := Lib.hid h4
  have HK4 := Lib.hid hk4
  clear lk lp lc ld lf lu s0 h4 hk4 lk3 lp3 ld3 lf3 lu3 hb24
  go_wp2_with fail
  go_ret2
  exact Ref12.done ⟨rfl, H4.out, HU4.out⟩ HDO.out rfl
set_option maxRecDepth 100000 in
set_option maxHeartbeats 8000000 in
attribute [-go_sem] Instr.storeAt Instr.loadAt in
theorem do12_5z {w : World} {D rb : Nat} {av ov : Value} {room : Int} {c : Pc} {L : List Le} (h : RcM w D rb av ov room c L) (hok : LcOk ⟨room, c, L⟩) (hD : D ≤ w.heap.size) {q : Nat} (hq : q < 8) (a : Nat) (n : Int) (ha : a < 2 ^ 32) (hm : mayP (a, n) = true) (hup : c.up q = true) {i : Nat} {x : Le} (hx : L[i]? = some x) (hat : atF L (a, n) = (i : Int)) (hf : findE L (a, n) = some x) (haw : x.aw q = 0) :
    Calls Try.prog 19 #[.pointer (some ⟨rb, 0, none⟩), .agg #[.int .i64 5, .int .i64 (q : Int), .int .i64 0, .int .u32 (a : Int), .int .i64 n, .int .i64 0]] w (Done12 w D rb av room c L ⟨5, (q : Int), 0, (a, n), 0⟩) := by
  obtain ⟨W1, W2, hW1, hW2, s0, h2, hk2, hu2⟩ := do12_front h 5 (q : Int) 0 a n 0
  have lk := ev_k hk2
  have lp := ld_iC (w := W2) (b := w.heap.size) (o := 1) (z := (q : Int)) (hk2.cell 1)
  have lc := ld_iC (w := W2) (b := w.heap.size) (o := 2) (z := 0) (hk2.cell 2)
  have ld := ld_iC (w := W2) (b := w.heap.size) (o := 5) (z := 0) (hk2.cell 5)
  have lf := rev_pf hk2
  have lu := ld_bC (rcell_up h2.blk hq)
  have hp1 : ¬ (q : Int) < 0 := by omega
  have hp2 : ¬ 7 < (q : Int) := by omega
  have hp3 : (0 : Int) ≤ q := by omega
  have hp4 : (q : Int) < 8 := by omega
  have HU := Lib.hid hu2
  have H2 := Lib.hid h2
  have HK2 := Lib.hid hk2
  have HW1 := Lib.hid hW1.symm
  have HQ := Lib.hid hq
  have HOK := Lib.hid hok
  have HD := Lib.hid hD
  rw [hup] at lu
  have HMAY := Lib.hid (may12_any (a, n) ha W2)
  rw [hm] at HMAY
  have HAT := Lib.hid (fun w3 (hb : Below W2.heap.size W2 w3) => (show Calls Try.prog 36 #[.pointer (some ⟨rb, 0, none⟩), .agg #[.int .u32 (a : Int), .int .i64 n]] w3 fun e w' => e = .returned (.int .i64 ((i : Int))) ∧ Below w3.heap.size w3 w' by rw [← hat]; exact at12_any (h2.below hb) hok.len (a, n)))
  have HUP := Lib.hid hup
  have hwr : wrongF c (⟨5, (q : Int), 0, (a, n), 0⟩ : Ev) = 0 := by unfold wrongF okE; simp [hm, hup]; omega
  have HWR := Lib.hid hwr
  have HDO := Lib.hid (do12_no (c := ⟨room, c, L⟩) (e := ⟨5, (q : Int), 0, (a, n), 0⟩) hwr (show stepE ⟨room, c, L⟩ (⟨5, (q : Int), 0, (a, n), 0⟩ : Ev) = .inr 7 by unfold stepE; simp [hf, haw]))
  clear hm hup hat hwr
  have HX := Lib.hid hx
  have HAW := Lib.hid haw
  clear hx haw
  clear hW1 hW2 hu2 h2 hk2 h hok hD hq
  go_enter Try.func19, Try.ntmps19
  go_upto_region 1 with (fail)
  rw [← HW1.out]
  go_upto_region 16 with (first
    | (go_at_call 35; refine HMAY.out.mono ?_; rintro e w3 ⟨rfl, hb3⟩; have HB3 := Lib.hid hb3; have lk3 := ev_k (HK2.out.below hb3 HK2.out.lt); have lp3 := ld_iC (w := w3) (b := w.heap.size) (o := 1) (z := (q : Int)) ((HK2.out.below hb3 HK2.out.lt).cell 1); have ld3 := ld_iC (w := w3) (b := w.heap.size) (o := 5) (z := 0) ((HK2.out.below hb3 HK2.out.lt).cell 5); have lf3 := rev_pf (HK2.out.below hb3 HK2.out.lt); have lu3 := ld_bC (rcell_up (H2.out.below hb3).blk HQ.out); rw [HUP.out] at lu3; have HAT3 := Lib.hid (HAT.out w3 hb3); clear hb3)
    | (go_at_call 36; refine HAT3.out.mono ?_; rintro e w4 ⟨rfl, hb4⟩; have HB4 := Lib.hid hb4; clear hb4))
  have hb24 : Below W2.heap.size W2 w4 := HB3.out.trans (HB4.out.mono HB3.out.size)
  have h4 := H2.out.below hb24
  have hk4 := HK2.out.below hb24 HK2.out.lt
  have HU4 := Lib.hid (HU.out.trans_ (Upd.ofBelow hb24 _))
  have lk4 := ev_k hk4
  have H4 := Lib.hid h4
  have HK4 := Lib.hid hk4
  clear lk lp lc ld lf lu s0 h4 hk4 lk3 lp3 ld3 lf3 lu3 hb24
  obtain ⟨A, cap, hav, _⟩ := H4.out.len_le
  obtain ⟨g, cap2, hg, _⟩ := H4.out.at_ (by have := (List.getElem?_eq_some_iff.1 HX.out).1; omega)
  subst hg
  clear hav
  have l4 := ld_all (H4.out.blk.cell 17)
  obtain ⟨m, hmm⟩ : ∃ m, m = L.length := ⟨_, rfl⟩
  rw [← hmm] at l4
  have hi1 : (i : Int) < m := by have := (List.getElem?_eq_some_iff.1 HX.out).1; omega
  have hi0 : (0 : Int) ≤ i := by omega
  have HMM := Lib.hid hmm
  clear hmm
  have lw := ld_iC (b := g) (o := i * 22 + 14 + q) (z := 0) (by rw [Nat.add_assoc]; have := H4.out.cell HX.out (reC_aw x HQ.out); rw [HAW.out] at this; exact this)
  go_wp2_with fail
  go_ret2
  exact Ref12.done ⟨rfl, H4.out, HU4.out⟩ HDO.out rfl
set_option maxRecDepth 100000 in
set_option maxHeartbeats 8000000 in
attribute [-go_sem] Instr.storeAt Instr.loadAt in
theorem do12_5 {w : World} {D rb : Nat} {av ov : Value} {room : Int} {c : Pc} {L : List Le} (h : RcM w D rb av ov room c L) (hok : LcOk ⟨room, c, L⟩) (hD : D ≤ w.heap.size) {q : Nat} (hq : q < 8) (a : Nat) (n : Int) (ha : a < 2 ^ 32) (hm : mayP (a, n) = true) (hup : c.up q = true) {i : Nat} {x : Le} (hx : L[i]? = some x) (hxp : x.p = (a, n)) (hat : atF L (a, n) = (i : Int)) (hf : findE L (a, n) = some x) (haw : 0 < x.aw q) :
    Calls Try.prog 19 #[.pointer (some ⟨rb, 0, none⟩), .agg #[.int .i64 5, .int .i64 (q : Int), .int .i64 0, .int .u32 (a : Int), .int .i64 n, .int .i64 0]] w (Done12 w D rb av room c L ⟨5, (q : Int), 0, (a, n), 0⟩) := by
  obtain ⟨W1, W2, hW1, hW2, s0, h2, hk2, hu2⟩ := do12_front h 5 (q : Int) 0 a n 0
  have lk := ev_k hk2
  have lp := ld_iC (w := W2) (b := w.heap.size) (o := 1) (z := (q : Int)) (hk2.cell 1)
  have lc := ld_iC (w := W2) (b := w.heap.size) (o := 2) (z := 0) (hk2.cell 2)
  have ld := ld_iC (w := W2) (b := w.heap.size) (o := 5) (z := 0) (hk2.cell 5)
  have lf := rev_pf hk2
  have lu := ld_bC (rcell_up h2.blk hq)
  have hp1 : ¬ (q : Int) < 0 := by omega
  have hp2 : ¬ 7 < (q : Int) := by omega
  have hp3 : (0 : Int) ≤ q := by omega
  have hp4 : (q : Int) < 8 := by omega
  have HU := Lib.hid hu2
  have H2 := Lib.hid h2
  have HK2 := Lib.hid hk2
  have HW1 := Lib.hid hW1.symm
  have HQ := Lib.hid hq
  have HOK := Lib.hid hok
  have HD := Lib.hid hD
  rw [hup] at lu
  have HMAY := Lib.hid (may12_any (a, n) ha W2)
  rw [hm] at HMAY
  have HAT := Lib.hid (fun w3 (hb : Below W2.heap.size W2 w3) => (show Calls Try.prog 36 #[.pointer (some ⟨rb, 0, none⟩), .agg #[.int .u32 (a : Int), .int .i64 n]] w3 fun e w' => e = .returned (.int .i64 ((i : Int))) ∧ Below w3.heap.size w3 w' by rw [← hat]; exact at12_any (h2.below hb) hok.len (a, n)))
  have HUP := Lib.hid hup
  have hwr : wrongF c (⟨5, (q : Int), 0, (a, n), 0⟩ : Ev) = 0 := by unfold wrongF okE; simp [hm, hup]; omega
  have HWR := Lib.hid hwr
  have hst : stepE ⟨room, c, L⟩ (⟨5, (q : Int), 0, (a, n), 0⟩ : Ev) = .inl (c, L.set i (lookF c (ackF q x)).1, (lookF c (ackF q x)).2) := by
    have t1 := turn_set hok.srt hx fun x => (lookF c (ackF q x)).1
    have t2 := out_set hok.srt hx fun x => (lookF c (ackF q x)).2
    rw [hxp] at t1 t2
    unfold stepE
    dsimp only
    rw [if_neg (by decide), if_neg (by decide), if_neg (by decide), if_neg (by decide), hf]
    dsimp only
    rw [show ((q : Int).toNat) = q from rfl, if_neg (by omega), t1, t2]
  have HST := Lib.hid hst
  have HX := Lib.hid hx
  have HAW := Lib.hid haw
  clear hx haw hxp hf hm hup hat hwr hst
  clear hW1 hW2 hu2 h2 hk2 h hok hD hq
  go_enter Try.func19, Try.ntmps19
  go_upto_region 1 with (fail)
  rw [← HW1.out]
  go_upto_region 16 with (first
    | (go_at_call 35; refine HMAY.out.mono ?_; rintro e w3 ⟨rfl, hb3⟩; have HB3 := Lib.hid hb3; have lk3 := ev_k (HK2.out.below hb3 HK2.out.lt); have lp3 := ld_iC (w := w3) (b := w.heap.size) (o := 1) (z := (q : Int)) ((HK2.out.below hb3 HK2.out.lt).cell 1); have ld3 := ld_iC (w := w3) (b := w.heap.size) (o := 5) (z := 0) ((HK2.out.below hb3 HK2.out.lt).cell 5); have lf3 := rev_pf (HK2.out.below hb3 HK2.out.lt); have lu3 := ld_bC (rcell_up (H2.out.below hb3).blk HQ.out); rw [HUP.out] at lu3; have HAT3 := Lib.hid (HAT.out w3 hb3); clear hb3)
    | (go_at_call 36; refine HAT3.out.mono ?_; rintro e w4 ⟨rfl, hb4⟩; have HB4 := Lib.hid hb4; clear hb4))
  have hb24 : Below W2.heap.size W2 w4 := HB3.out.trans (HB4.out.mono HB3.out.size)
  have h4 := H2.out.below hb24
  have hk4 := HK2.out.below hb24 HK2.out.lt
  have HU4 := Lib.hid (HU.out.trans_ (Upd.ofBelow hb24 _))
  have lk4 := ev_k hk4
  have H4 := Lib.hid h4
  have HK4 := Lib.hid hk4
  clear lk lp lc ld lf lu s0 h4 hk4 lk3 lp3 ld3 lf3 lu3 hb24
  obtain ⟨A, cap, hav, _⟩ := H4.out.len_le
  obtain ⟨g, cap2, hg, _⟩ := H4.out.at_ (by have := (List.getElem?_eq_some_iff.1 HX.out).1; omega)
  subst hg
  clear hav
  have l4 := ld_all (H4.out.blk.cell 17)
  obtain ⟨m, hmm⟩ : ∃ m, m = L.length := ⟨_, rfl⟩
  rw [← hmm] at l4
  have hi1 : (i : Int) < m := by have := (List.getElem?_eq_some_iff.1 HX.out).1; omega
  have hi0 : (0 : Int) ≤ i := by omega
  have HMM := Lib.hid hmm
  clear hmm
  have hc4 : RcM w4 D rb (avL g L.length cap2) (.slice none 0 0) room c L := H4.out
  have m0 := hc4.toRl (B := w.heap.size) (o := []) (U := RcU rb (avL g L.length cap2) (.slice none 0 0)) (World.ownsRow_nil _ _ _ _) fun j hj => .inr (.inr hj)
  have hcell := hc4.cell HX.out (reC_aw x HQ.out)
  rw [← Nat.add_assoc] at hcell
  obtain ⟨t, ht⟩ : ∃ t, t = x.aw q := ⟨_, rfl⟩
  rw [← ht] at hcell
  have ht0 : 0 < t := by rw [ht]; exact HAW.out
  have ht1 : t ≤ 1 := by rw [ht]; exact (HOK.out.e x (List.mem_of_getElem? HX.out)).toEW.aw q
  have lw := ld_iC (w := w4) hcell
  have lw2 := ld_iC (w := w4.drew) hcell
  have lA2 := ld_all (w := w4.drew) (b := rb) (A := some ⟨g, 0, none⟩) (n := m) (c := cap2) (by rw [HMM.out]; exact H4.out.blk.cell 17)
  have sw := st_iC (w := w4.drew) hcell (hc4.frozen _) ((t : Int) - 1)
  have hwp : IntKind.i64.wrap ((t : Int) - 1) = (t : Int) - 1 := IntWalk.i64_in _ ⟨by omega, by omega⟩
  have d0 : ((t : Int) == 0) = false := by rw [beq_eq_false_iff_ne]; omega
  have d1 : (t == 0) = false := by rw [beq_eq_false_iff_ne]; omega
  have m1 := (m0.set1 (.inr (.inl rfl)) HX.out (by have := HQ.out; omega) (reC_set_aw x HQ.out (x.aw q - 1))).below (W' := (w4.setCell ⟨g, i * 22 + (14 + q), none⟩ (.int .i64 ((x.aw q - 1 : Nat) : Int))).drew) ⟨rfl, rfl, rfl, Nat.le_refl _, fun _ _ => rfl⟩
  have hcast : ((x.aw q - 1 : Nat) : Int) = (t : Int) - 1 := by rw [← ht]; omega
  rw [hcast, ← Nat.add_assoc] at m1
  obtain ⟨W5, hW5⟩ : ∃ Z, Z = (w4.setCell ⟨g, i * 22 + 14 + q, none⟩ (.int .i64 ((t : Int) - 1))).drew := ⟨_, rfl⟩
  rw [← hW5] at m1
  have hll : (L.set i (ackF q x)).length = L.length := List.length_set
  have m1' : RlM w4 rb w.heap.size D (avL g (L.set i (ackF q x)).length cap2) room c (L.set i (ackF q x)) [] W5 (.slice none 0 0) (RcU rb (avL g L.length cap2) (.slice none 0 0)) := by rw [hll]; exact m1
  have hlk := look12_any m1'.com HOK.out.pc (get_set HX.out) (ack_ew (HOK.out.e x (List.mem_of_getElem? HX.out)).toEW q) m1'.out (Nat.le_trans HU4.out.size m1'.upd.size) (by simp)
  rw [List.set_set, hll] at hlk
  have HLK := Lib.hid hlk
  have HM0 := Lib.hid m1
  have HW5 := Lib.hid hW5
  clear hc4 m0 hcell ht m1 m1' hcast hW5 hll hlk
  go_upto_region 46 with (fail)
  go_still_tail 14, (by kernel_rfl)
  go_wp2_with fail
  rw [← HW5.out]
  clear lw lw2 lA2 sw hwp
  go_wp2_with (first
    | (go_at_call 41; refine HLK.out.mono ?_; rintro e w6 ⟨rfl, ov2, mk⟩; have HM5 := Lib.hid (show RlM w4 rb w.heap.size D (avL g L.length cap2) room c (L.set i (lookF c (ackF q x)).1) (lookF c (ackF q x)).2 w6 ov2 (RcU rb (avL g L.length cap2) (.slice none 0 0)) from by
          have mk2 := HM0.out.trans mk fun j hj => (by
            rcases hj with hj | hj | hj
            · exact .inl (.inl hj)
            · exact .inl (.inr (.inl (avL_own.2 hj.symm)))
            · exact HM0.out.own j hj)
          rw [List.nil_append] at mk2
          exact mk2); clear mk)
    | (go_at_call 43; refine (tidy12_step HOK.out HWR.out HST.out HU4.out HD.out HM5.out).mono ?_; rintro e w7 ⟨rfl, av2, ov2, m2, hown⟩; obtain ⟨A2, n2, c2, rfl⟩ : ∃ A n c, ov2 = Value.slice A n c := (by obtain ⟨A, c, h, _⟩ := own_form m2.out; exact ⟨A, _, c, h⟩); have l18 := ld_tlC (m2.com.blk.cell 18); have HM7 := Lib.hid m2; have HOWN := Lib.hid hown; clear m2 hown))
  go_ret2
  exact done12_of HWR.out HST.out HU4.out HM5.out HM7.out HOWN.out
set_option maxRecDepth 100000 in
set_option maxHeartbeats 8000000 in
attribute [-go_sem] Instr.storeAt Instr.loadAt in
theorem do12_4f {w : World} {D rb : Nat} {av ov : Value} {room : Int} {c : Pc} {L : List Le} (h : RcM w D rb av ov room c L) (hok : LcOk ⟨room, c, L⟩) (hD : D ≤ w.heap.size) {q : Nat} (hq : q < 8) (a : Nat) (n d : Int) (ha : a < 2 ^ 32) (hm : mayP (a, n) = true) (hd0 : 0 ≤ d) (hd1 : d ≤ 255) (hup : c.up q = true) (hat : atF L (a, n) = -1) (hf : findE L (a, n) = none) (hfull : 1024 ≤ L.length) :
    Calls Try.prog 19 #[.pointer (some ⟨rb, 0, none⟩), .agg #[.int .i64 4, .int .i64 (q : Int), .int .i64 0, .int .u32 (a : Int), .int .i64 n, .int .i64 d]] w (Done12 w D rb av room c L ⟨4, (q : Int), 0, (a, n), d⟩) := by
  obtain ⟨W1, W2, hW1, hW2, s0, h2, hk2, hu2⟩ := do12_front h 4 (q : Int) 0 a n d
  have lk := ev_k hk2
  have lp := ld_iC (w := W2) (b := w.heap.size) (o := 1) (z := (q : Int)) (hk2.cell 1)
  have lc := ld_iC (w := W2) (b := w.heap.size) (o := 2) (z := 0) (hk2.cell 2)
  have ld := ld_iC (w := W2) (b := w.heap.size) (o := 5) (z := d) (hk2.cell 5)
  have lf := rev_pf hk2
  have lu := ld_bC (rcell_up h2.blk hq)
  have hp1 : ¬ (q : Int) < 0 := by omega
  have hp2 : ¬ 7 < (q : Int) := by omega
  have hp3 : (0 : Int) ≤ q := by omega
  have hp4 : (q : Int) < 8 := by omega
  have HU := Lib.hid hu2
  have H2 := Lib.hid h2
  have HK2 := Lib.hid hk2
  have HW1 := Lib.hid hW1.symm
  have HQ := Lib.hid hq
  have HOK := Lib.hid hok
  have HD := Lib.hid hD
  have hd2 : ¬ d < 0 := by omega
  have hd3 : ¬ 255 < d := by omega
  rw [hup] at lu
  have HMAY := Lib.hid (may12_any (a, n) ha W2)
  rw [hm] at HMAY
  have HAT := Lib.hid (fun w3 (hb : Below W2.heap.size W2 w3) => (show Calls Try.prog 36 #[.pointer (some ⟨rb, 0, none⟩), .agg #[.int .u32 (a : Int), .int .i64 n]] w3 fun e w' => e = .returned (.int .i64 (-1)) ∧ Below w3.heap.size w3 w' by rw [← hat]; exact at12_any (h2.below hb) hok.len (a, n)))
  have HUP := Lib.hid hup
  have hwr : wrongF c (⟨4, (q : Int), 0, (a, n), d⟩ : Ev) = 0 := by unfold wrongF okE; simp [hm, hup]; omega
  have HWR := Lib.hid hwr
  have HDO := Lib.hid (do12_no (c := ⟨room, c, L⟩) (e := ⟨4, (q : Int), 0, (a, n), d⟩) hwr (show stepE ⟨room, c, L⟩ (⟨4, (q : Int), 0, (a, n), d⟩ : Ev) = .inr 5 by unfold stepE; simp [hf, hfull]))
  clear hm hup hat hwr
  clear hW1 hW2 hu2 h2 hk2 h hok hD hq
  go_enter Try.func19, Try.ntmps19
  go_upto_region 1 with (fail)
  rw [← HW1.out]
  go_upto_region 16 with (first
    | (go_at_call 35; refine HMAY.out.mono ?_; rintro e w3 ⟨rfl, hb3⟩; have HB3 := Lib.hid hb3; have lk3 := ev_k (HK2.out.below hb3 HK2.out.lt); have lp3 := ld_iC (w := w3) (b := w.heap.size) (o := 1) (z := (q : Int)) ((HK2.out.below hb3 HK2.out.lt).cell 1); have ld3 := ld_iC (w := w3) (b := w.heap.size) (o := 5) (z := d) ((HK2.out.below hb3 HK2.out.lt).cell 5); have lf3 := rev_pf (HK2.out.below hb3 HK2.out.lt); have lu3 := ld_bC (rcell_up (H2.out.below hb3).blk HQ.out); rw [HUP.out] at lu3; have HAT3 := Lib.hid (HAT.out w3 hb3); clear hb3)
    | (go_at_call 36; refine HAT3.out.mono ?_; rintro e w4 ⟨rfl, hb4⟩; have HB4 := Lib.hid hb4; clear hb4))
  have hb24 : Below W2.heap.size W2 w4 := HB3.out.trans (HB4.out.mono HB3.out.size)
  have h4 := H2.out.below hb24
  have hk4 := HK2.out.below hb24 HK2.out.lt
  have HU4 := Lib.hid (HU.out.trans_ (Upd.ofBelow hb24 _))
  have lk4 := ev_k hk4
  have H4 := Lib.hid h4
  have HK4 := Lib.hid hk4
  clear lk lp lc ld lf lu s0 h4 hk4 lk3 lp3 ld3 lf3 lu3 hb24
  obtain ⟨A, cap, hav, _⟩ := H4.out.len_le
  subst hav
  have l4 := ld_all (H4.out.blk.cell 17)
  have hl9 : L.length = 1024 := Nat.le_antisymm HOK.out.len hfull
  rw [hl9] at l4
  clear hfull hl9
  go_wp2_with fail
  go_ret2
  exact Ref12.done ⟨rfl, H4.out, HU4.out⟩ HDO.out rfl
set_option maxRecDepth 100000 in
set_option maxHeartbeats 8000000 in
attribute [-go_sem] Instr.storeAt Instr.loadAt in
theorem do12_4 {w : World} {D rb : Nat} {av ov : Value} {room : Int} {c : Pc} {L : List Le} (h : RcM w D rb av ov room c L) (hok : LcOk ⟨room, c, L⟩) (hD : D ≤ w.heap.size) {q : Nat} (hq : q < 8) (a : Nat) (n d : Int) (ha : a < 2 ^ 32) (hm : mayP (a, n) = true) (hd0 : 0 ≤ d) (hd1 : d ≤ 255) (hup : c.up q = true) {i : Nat} {x : Le} (hx : L[i]? = some x) (hxp : x.p = (a, n)) (hat : atF L (a, n) = (i : Int)) (hf : findE L (a, n) = some x) :
    Calls Try.prog 19 #[.pointer (some ⟨rb, 0, none⟩), .agg #[.int .i64 4, .int .i64 (q : Int), .int .i64 0, .int .u32 (a : Int), .int .i64 n, .int .i64 d]] w (Done12 w D rb av room c L ⟨4, (q : Int), 0, (a, n), d⟩) := by
  obtain ⟨W1, W2, hW1, hW2, s0, h2, hk2, hu2⟩ := do12_front h 4 (q : Int) 0 a n d
  have lk := ev_k hk2
  have lp := ld_iC (w := W2) (b := w.heap.size) (o := 1) (z := (q : Int)) (hk2.cell 1)
  have lc := ld_iC (w := W2) (b := w.heap.size) (o := 2) (z := 0) (hk2.cell 2)
  have ld := ld_iC (w := W2) (b := w.heap.size) (o := 5) (z := d) (hk2.cell 5)
  have lf := rev_pf hk2
  have lu := ld_bC (rcell_up h2.blk hq)
  have hp1 : ¬ (q : Int) < 0 := by omega
  have hp2 : ¬ 7 < (q : Int) := by omega
  have hp3 : (0 : Int) ≤ q := by omega
  have hp4 : (q : Int) < 8 := by omega
  have HU := Lib.hid hu2
  have H2 := Lib.hid h2
  have HK2 := Lib.hid hk2
  have HW1 := Lib.hid hW1.symm
  have HQ := Lib.hid hq
  have HOK := Lib.hid hok
  have HD := Lib.hid hD
  have hd2 : ¬ d < 0 := by omega
  have hd3 : ¬ 255 < d := by omega
  rw [hup] at lu
  have HMAY := Lib.hid (may12_any (a, n) ha W2)
  rw [hm] at HMAY
  have HAT := Lib.hid (fun w3 (hb : Below W2.heap.size W2 w3) => (show Calls Try.prog 36 #[.pointer (some ⟨rb, 0, none⟩), .agg #[.int .u32 (a : Int), .int .i64 n]] w3 fun e w' => e = .returned (.int .i64 ((i : Int))) ∧ Below w3.heap.size w3 w' by rw [← hat]; exact at12_any (h2.below hb) hok.len (a, n)))
  have HUP := Lib.hid hup
  have hwr : wrongF c (⟨4, (q : Int), 0, (a, n), d⟩ : Ev) = 0 := by unfold wrongF okE; simp [hm, hup]; omega
  have HWR := Lib.hid hwr
  have hst : stepE ⟨room, c, L⟩ (⟨4, (q : Int), 0, (a, n), d⟩ : Ev) = .inl (c, L.set i (lookF c (hearF q d x)).1, (lookF c (hearF q d x)).2) := by
    have t1 := turn_set hok.srt hx fun x => (lookF c (hearF q d x)).1
    have t2 := out_set hok.srt hx fun x => (lookF c (hearF q d x)).2
    rw [hxp] at t1 t2
    unfold stepE
    dsimp only
    rw [if_neg (by decide), if_neg (by decide), if_neg (by decide), if_pos rfl, if_neg (by rw [hf]; simp), hf]
    rw [if_neg (by simp)]
    rw [show ((q : Int).toNat) = q from rfl, t1, t2]
  have HST := Lib.hid hst
  have HEWX := Lib.hid (hear_ew (hok.e x (List.mem_of_getElem? hx)).toEW hup hd0 hd1)
  have HX := Lib.hid hx
  clear hx hxp hf hm hup hat hwr hst
  clear hW1 hW2 hu2 h2 hk2 h hok hD hq
  go_enter Try.func19, Try.ntmps19
  go_upto_region 1 with (fail)
  rw [← HW1.out]
  go_upto_region 16 with (first
    | (go_at_call 35; refine HMAY.out.mono ?_; rintro e w3 ⟨rfl, hb3⟩; have HB3 := Lib.hid hb3; have lk3 := ev_k (HK2.out.below hb3 HK2.out.lt); have lp3 := ld_iC (w := w3) (b := w.heap.size) (o := 1) (z := (q : Int)) ((HK2.out.below hb3 HK2.out.lt).cell 1); have ld3 := ld_iC (w := w3) (b := w.heap.size) (o := 5) (z := d) ((HK2.out.below hb3 HK2.out.lt).cell 5); have lf3 := rev_pf (HK2.out.below hb3 HK2.out.lt); have lu3 := ld_bC (rcell_up (H2.out.below hb3).blk HQ.out); rw [HUP.out] at lu3; have HAT3 := Lib.hid (HAT.out w3 hb3); clear hb3)
    | (go_at_call 36; refine HAT3.out.mono ?_; rintro e w4 ⟨rfl, hb4⟩; have HB4 := Lib.hid hb4; clear hb4))
  have hb24 : Below W2.heap.size W2 w4 := HB3.out.trans (HB4.out.mono HB3.out.size)
  have h4 := H2.out.below hb24
  have hk4 := HK2.out.below hb24 HK2.out.lt
  have HU4 := Lib.hid (HU.out.trans_ (Upd.ofBelow hb24 _))
  have lk4 := ev_k hk4
  have H4 := Lib.hid h4
  have HK4 := Lib.hid hk4
  clear lk lp lc ld lf lu s0 h4 hk4 lk3 lp3 ld3 lf3 lu3 hb24
  obtain ⟨A, cap, hav, _⟩ := H4.out.len_le
  obtain ⟨g, cap2, hg, _⟩ := H4.out.at_ (by have := (List.getElem?_eq_some_iff.1 HX.out).1; omega)
  subst hg
  clear hav
  have l4 := ld_all (H4.out.blk.cell 17)
  obtain ⟨m, hmm⟩ : ∃ m, m = L.length := ⟨_, rfl⟩
  rw [← hmm] at l4
  have hi1 : (i : Int) < m := by have := (List.getElem?_eq_some_iff.1 HX.out).1; omega
  have hi0 : (0 : Int) ≤ i := by omega
  have HMM := Lib.hid hmm
  clear hmm
  have hc4 : RcM w4 D rb (avL g L.length cap2) (.slice none 0 0) room c L := H4.out
  have HUS := Lib.hid HU4.out
  have m0 := hc4.toRl (B := w.heap.size) (o := []) (U := RcU rb (avL g L.length cap2) (.slice none 0 0)) (World.ownsRow_nil _ _ _ _) fun j hj => .inr (.inr hj)
  have hcell := hc4.cell HX.out (reC_said x HQ.out)
  rw [← Nat.add_assoc] at hcell
  have lA2 := ld_all (w := w4.drew) (b := rb) (A := some ⟨g, 0, none⟩) (n := m) (c := cap2) (by rw [HMM.out]; exact hc4.blk.cell 17)
  have ld5 := ld_iC (w := w4.drew) (b := w.heap.size) (o := 5) (z := d) (HK4.out.drew.cell 5)
  have sw := st_iC (w := w4.drew) hcell (hc4.frozen _) d
  have m1 := (m0.set1 (.inr (.inl rfl)) HX.out (by have := HQ.out; omega) (reC_set_said x HQ.out d)).below (W' := (w4.setCell ⟨g, i * 22 + (4 + q), none⟩ (.int .i64 d)).drew) ⟨rfl, rfl, rfl, Nat.le_refl _, fun _ _ => rfl⟩
  rw [← Nat.add_assoc] at m1
  obtain ⟨W5, hW5⟩ : ∃ Z, Z = (w4.setCell ⟨g, i * 22 + 4 + q, none⟩ (.int .i64 d)).drew := ⟨_, rfl⟩
  rw [← hW5] at m1
  have hll : (L.set i (hearF q d x)).length = L.length := List.length_set
  have m1' : RlM w4 rb w.heap.size D (avL g (L.set i (hearF q d x)).length cap2) room c (L.set i (hearF q d x)) [] W5 (.slice none 0 0) (RcU rb (avL g L.length cap2) (.slice none 0 0)) := by rw [hll]; exact m1
  have hlk := look12_any m1'.com HOK.out.pc (get_set HX.out) HEWX.out m1'.out (Nat.le_trans HUS.out.size m1'.upd.size) (by simp)
  rw [List.set_set, hll] at hlk
  have HLK := Lib.hid hlk
  have HM0 := Lib.hid m1
  have HW5 := Lib.hid hW5
  clear m0 hcell m1 m1' hW5 hll hlk
  clear hc4
  go_upto_region 41 with (fail)
  go_still_tail 11, (by kernel_rfl)
  go_wp2_with fail
  rw [← HW5.out]
  clear lA2 ld5 sw
  go_wp2_with (first
    | (go_at_call 41; refine HLK.out.mono ?_; rintro e w6 ⟨rfl, ov2, mk⟩; have HM5 := Lib.hid (show RlM w4 rb w.heap.size D (avL g L.length cap2) room c (L.set i (lookF c (hearF q d x)).1) (lookF c (hearF q d x)).2 w6 ov2 (RcU rb (avL g L.length cap2) (.slice none 0 0)) from by
          have mk2 := HM0.out.trans mk fun j hj => (by
            rcases hj with hj | hj | hj
            · exact .inl (.inl hj)
            · exact .inl (.inr (.inl (avL_own.2 hj.symm)))
            · exact HM0.out.own j hj)
          rw [List.nil_append] at mk2
          exact mk2); clear mk)
    | (go_at_call 43; refine (tidy12_step HOK.out HWR.out HST.out HU4.out HD.out HM5.out).mono ?_; rintro e w7 ⟨rfl, av2, ov2, m2, hown⟩; obtain ⟨A2, n2, c2, rfl⟩ : ∃ A n c, ov2 = Value.slice A n c := (by obtain ⟨A, c, h, _⟩ := own_form m2.out; exact ⟨A, _, c, h⟩); have l18 := ld_tlC (m2.com.blk.cell 18); have HM7 := Lib.hid m2; have HOWN := Lib.hid hown; clear m2 hown))
  go_ret2
  exact done12_of HWR.out HST.out HU4.out HM5.out HM7.out HOWN.out
set_option maxRecDepth 100000 in
set_option maxHeartbeats 8000000 in
attribute [-go_sem] Instr.storeAt Instr.loadAt in
theorem do12_4a {w : World} {D rb : Nat} {av ov : Value} {room : Int} {c : Pc} {L : List Le} (h : RcM w D rb av ov room c L) (hok : LcOk ⟨room, c, L⟩) (hD : D ≤ w.heap.size) {q : Nat} (hq : q < 8) (a : Nat) (n d : Int) (ha : a < 2 ^ 32) (hm : mayP (a, n) = true) (hd0 : 0 ≤ d) (hd1 : d ≤ 255) (hup : c.up q = true) (hat : atF L (a, n) = -1) (hf : findE L (a, n) = none) (hlt : L.length < 1024) :
    Calls Try.prog 19 #[.pointer (some ⟨rb, 0, none⟩), .agg #[.int .i64 4, .int .i64 (q : Int), .int .i64 0, .int .u32 (a : Int), .int .i64 n, .int .i64 d]] w (Done12 w D rb av room c L ⟨4, (q : Int), 0, (a, n), d⟩) := by
  obtain ⟨W1, W2, hW1, hW2, s0, h2, hk2, hu2⟩ := do12_front h 4 (q : Int) 0 a n d
  have lk := ev_k hk2
  have lp := ld_iC (w := W2) (b := w.heap.size) (o := 1) (z := (q : Int)) (hk2.cell 1)
  have lc := ld_iC (w := W2) (b := w.heap.size) (o := 2) (z := 0) (hk2.cell 2)
  have ld := ld_iC (w := W2) (b := w.heap.size) (o := 5) (z := d) (hk2.cell 5)
  have lf := rev_pf hk2
  have lu := ld_bC (rcell_up h2.blk hq)
  have hp1 : ¬ (q : Int) < 0 := by omega
  have hp2 : ¬ 7 < (q : Int) := by omega
  have hp3 : (0 : Int) ≤ q := by omega
  have hp4 : (q : Int) < 8 := by omega
  have HU := Lib.hid hu2
  have H2 := Lib.hid h2
  have HK2 := Lib.hid hk2
  have HW1 := Lib.hid hW1.symm
  have HQ := Lib.hid hq
  have HOK := Lib.hid hok
  have HD := Lib.hid hD
  have hd2 : ¬ d < 0 := by omega
  have hd3 : ¬ 255 < d := by omega
  rw [hup] at lu
  have HMAY := Lib.hid (may12_any (a, n) ha W2)
  rw [hm] at HMAY
  have HAT := Lib.hid (fun w3 (hb : Below W2.heap.size W2 w3) => (show Calls Try.prog 36 #[.pointer (some ⟨rb, 0, none⟩), .agg #[.int .u32 (a : Int), .int .i64 n]] w3 fun e w' => e = .returned (.int .i64 (-1)) ∧ Below w3.heap.size w3 w' by rw [← hat]; exact at12_any (h2.below hb) hok.len (a, n)))
  have HUP := Lib.hid hup
  have hwr : wrongF c (⟨4, (q : Int), 0, (a, n), d⟩ : Ev) = 0 := by unfold wrongF okE; simp [hm, hup]; omega
  have HWR := Lib.hid hwr
  obtain ⟨b, hb⟩ : ∃ b, b = decide ((cntT L : Int) < room) := ⟨_, rfl⟩
  obtain ⟨L2, hL2⟩ : ∃ L2, L2 = insE (newE (a, n) b) L := ⟨_, rfl⟩
  obtain ⟨i, hi⟩ : ∃ i : Nat, L2[i]? = some (newE (a, n) b) := by rw [hL2]; exact ins_at _ L
  have hsrt : sortedL L2 := by rw [hL2]; exact insE_sorted hok.srt hf
  have hlen2 : L2.length = L.length + 1 := by rw [hL2]; exact insE_len _ L
  have hst : stepE ⟨room, c, L⟩ (⟨4, (q : Int), 0, (a, n), d⟩ : Ev) = .inl (c, L2.set i (lookF c (hearF q d (newE (a, n) b))).1, (lookF c (hearF q d (newE (a, n) b))).2) := by
    have t1 := turn_set hsrt hi fun x => (lookF c (hearF q d x)).1
    have t2 := out_set hsrt hi fun x => (lookF c (hearF q d x)).2
    unfold stepE
    dsimp only
    rw [if_neg (by decide), if_neg (by decide), if_neg (by decide), if_pos rfl, if_neg (by rw [hf]; omega), hf]
    rw [if_pos rfl]
    rw [show ((q : Int).toNat) = q from rfl, ← hb, ← hL2]
    exact congrArg Sum.inl (congrArg (Prod.mk c) (by rw [← t1, ← t2]; rfl))
  have HST := Lib.hid hst
  have HEWX := Lib.hid (hear_ew (new_ew c hm b) hup hd0 hd1)
  have HX := Lib.hid hi
  have HSRT := Lib.hid hsrt
  have HL2 := Lib.hid hL2
  have HLEN2 := Lib.hid hlen2
  have HLT := Lib.hid hlt
  clear hf hm hup hat hwr hst hi hsrt hlen2 hL2 hlt
  clear hW1 hW2 hu2 h2 hk2 h hok hD hq
  go_enter Try.func19, Try.ntmps19
  go_upto_region 1 with (fail)
  rw [← HW1.out]
  go_upto_region 16 with (first
    | (go_at_call 35; refine HMAY.out.mono ?_; rintro e w3 ⟨rfl, hb3⟩; have HB3 := Lib.hid hb3; have lk3 := ev_k (HK2.out.below hb3 HK2.out.lt); have lp3 := ld_iC (w := w3) (b := w.heap.size) (o := 1) (z := (q : Int)) ((HK2.out.below hb3 HK2.out.lt).cell 1); have ld3 := ld_iC (w := w3) (b := w.heap.size) (o := 5) (z := d) ((HK2.out.below hb3 HK2.out.lt).cell 5); have lf3 := rev_pf (HK2.out.below hb3 HK2.out.lt); have lu3 := ld_bC (rcell_up (H2.out.below hb3).blk HQ.out); rw [HUP.out] at lu3; have HAT3 := Lib.hid (HAT.out w3 hb3); clear hb3)
    | (go_at_call 36; refine HAT3.out.mono ?_; rintro e w4 ⟨rfl, hb4⟩; have HB4 := Lib.hid hb4; clear hb4))
  have hb24 : Below W2.heap.size W2 w4 := HB3.out.trans (HB4.out.mono HB3.out.size)
  have h4 := H2.out.below hb24
  have hk4 := HK2.out.below hb24 HK2.out.lt
  have HU4 := Lib.hid (HU.out.trans_ (Upd.ofBelow hb24 _))
  have lk4 := ev_k hk4
  have H4 := Lib.hid h4
  have HK4 := Lib.hid hk4
  clear lk lp lc ld lf lu s0 h4 hk4 lk3 lp3 ld3 lf3 lu3 hb24
  obtain ⟨A, cap, hav, hcap⟩ := H4.out.len_le
  obtain ⟨m, hmm⟩ : ∃ m, m = L.length := ⟨_, rfl⟩
  have hm9 : m < 1024 := by rw [hmm]; exact HLT.out
  have HMM := Lib.hid hmm
  subst hav
  have l4 := ld_all (w := w4) (b := rb) (A := A) (n := m) (c := cap) (by rw [hmm]; exact H4.out.blk.cell 17)
  have HC4 := Lib.hid (And.intro H4.out HK4.out)
  have HB := Lib.hid hb
  obtain ⟨T, hT⟩ : ∃ T, T = cntT L := ⟨_, rfl⟩
  have HT := Lib.hid hT
  clear hcap hmm hb hT
  go_upto_region 39 with (fail)
  clear l4
  refine wp_region_mix [(true, 12), (false, 1)] 0 (by kernel_rfl) (fun wx => RcM wx D rb (.slice A L.length cap) (.slice none 0 0) room c L ∧ Blk wx w.heap.size 38 (evI 4 (q : Int) 0 a n d)) (fun _ _ h k => ⟨h.1.below k, h.2.below k h.2.lt⟩) (by kernel_rfl) HC4.out (a' := ?_) (fun wz hz => ?_) fun wz hz => ?_
  rotate_left
  · have cl0 := fun (dd : Nat) (os : Array Obj) => Calls.regrown_of (nothing_lit (grow (redrawn wz dd) os))
    have cl1 := fun (dd : Nat) (os : Array Obj) => Calls.regrown_of (calls_below (taken12_any (hz.1.below (below_regrown wz dd os)) (Nat.le_of_lt HLT.out)))
    have l5 := fun (dd : Nat) (os : Array Obj) => rev_pf (hz.2.below (below_regrown wz dd os) hz.2.lt)
    have l6 := fun (dd : Nat) (os : Array Obj) => ld_iC (b := rb) (o := 0) (z := room) ((hz.1.below (below_regrown wz dd os)).blk.cell 0)
    have bd := fun wx => bd_re a n b wx
    have hcnt := HB.out.symm
    rw [← HT.out] at cl1 hcnt
    clear hz
    simp only [pick_nil, pick_tt, pick_ft, List.take_succ_cons, List.take_zero, List.drop_succ_cons, List.drop_zero, List.append_nil]
    repeat (go_big_quiet_step (first | with_reducible exact cl0 _ _ | with_reducible exact cl1 _ _))
    refine wpQuiet_nil ?_
    rfl
  simp only [pick_nil, pick_ff, pick_tf, List.take_succ_cons, List.take_zero, List.drop_succ_cons, List.drop_zero, List.append_nil]
  have HCZ := Lib.hid (And.intro (HC4.out.1.below hz) (HC4.out.2.below hz HC4.out.2.lt))
  have HZ := Lib.hid hz
  clear hz
  refine wpMix_step HCZ.out fun w5 hw5 => ?_
  have HADD := Lib.hid (show Calls Try.prog 37 #[.pointer (some ⟨rb, 0, none⟩), .agg #[.int .u32 (a : Int), .int .i64 n, .bool false, .bool b, .int .i64 255, .int .i64 255, .int .i64 255, .int .i64 255, .int .i64 255, .int .i64 255, .int .i64 255, .int .i64 255, .int .i64 255, .int .i64 255, .int .i64 0, .int .i64 0, .int .i64 0, .int .i64 0, .int .i64 0, .int .i64 0, .int .i64 0, .int .i64 0]] w5 (AddPost w5 D rb (.slice none 0 0) room c (insE (newE (a, n) b) L)) from add12_any (HCZ.out.1.below hw5) (Nat.le_of_lt HLT.out) (Nat.le_trans HD.out (Nat.le_trans HU4.out.size (Nat.le_trans HZ.out.size hw5.size))) (newE (a, n) b))
  have HU5 := Lib.hid ((HU4.out.trans_ (Upd.ofBelow HZ.out _)).trans_ (Upd.ofBelow hw5 _))
  have HK5 := Lib.hid (HCZ.out.2.below hw5 HCZ.out.2.lt)
  clear hw5
  go_wp2_with fail
  go_at_call 37
  refine HADD.out.mono ?_
  rintro e w6 ⟨rfl, av3, hr3, hu3, hav3⟩
  have HR3 := Lib.hid hr3
  have HU6 := Lib.hid (HU5.out.trans_ hu3)
  have HAV3 := Lib.hid (fun j hj => Nat.le_trans HU5.out.size (hav3 j hj))
  have HK6 := Lib.hid (HK5.out.upd hu3 fun (e : w.heap.size = rb) => HCZ.out.2.ne_ HCZ.out.1.blk (by decide) e)
  clear hr3 hu3 hav3
  go_wp2_with fail
  refine wpMix_plain ?_
  have hc6 : RcM w6 D rb av3 (.slice none 0 0) room c L2 := by rw [HL2.out]; exact HR3.out
  have HC6 := Lib.hid hc6
  have lf6 := rev_pf HK6.out
  have HAT6 := Lib.hid (show Calls Try.prog 36 #[.pointer (some ⟨rb, 0, none⟩), .agg #[.int .u32 (a : Int), .int .i64 n]] w6 fun e w' => e = .returned (.int .i64 (i : Int)) ∧ Below w6.heap.size w6 w' by
    have := at_of HSRT.out HX.out
    rw [← this]
    exact at12_any hc6 (by rw [HLEN2.out]; exact HLT.out) (a, n))
  clear hc6
  go_upto_region 41 with (go_at_call 36; refine HAT6.out.mono ?_; rintro e w7 ⟨rfl, hb7⟩; have HB7 := Lib.hid hb7; clear hb7)
  clear lf6 lk4
  have HUS := Lib.hid (HU6.out.trans_ (Upd.ofBelow HB7.out _))
  have HKC := Lib.hid (HK6.out.below HB7.out HK6.out.lt)
  have hc7 := HC6.out.below HB7.out
  obtain ⟨g, cap2, hg, _⟩ := hc7.at_ (by rw [HLEN2.out]; omega)
  subst hg
  have HCX := Lib.hid (show RcM w7 D rb (avL g L2.length cap2) (.slice none 0 0) room c L2 from hc7)
  obtain ⟨m2, hm2⟩ : ∃ k, k = L2.length := ⟨_, rfl⟩
  have l7 := ld_all (w := w7) (b := rb) (A := some ⟨g, 0, none⟩) (n := m2) (c := cap2) (by rw [hm2]; exact hc7.blk.cell 17)
  have hi1 : (i : Int) < m2 := by have := (List.getElem?_eq_some_iff.1 HX.out).1; omega
  have hi0 : (0 : Int) ≤ i := by omega
  have HMM := Lib.hid hm2
  clear hm2 hc7
  have m0 := HCX.out.toRl (B := w.heap.size) (o := []) (U := RcU rb (avL g L2.length cap2) (.slice none 0 0)) (World.ownsRow_nil _ _ _ _) fun j hj => .inr (.inr hj)
  have hcell := HCX.out.cell HX.out (reC_said (newE (a, n) b) HQ.out)
  rw [← Nat.add_assoc] at hcell
  have lA2 := ld_all (w := w7.drew) (b := rb) (A := some ⟨g, 0, none⟩) (n := m2) (c := cap2) (by rw [HMM.out]; exact HCX.out.blk.cell 17)
  have ld5 := ld_iC (w := w7.drew) (b := w.heap.size) (o := 5) (z := d) (HKC.out.drew.cell 5)
  have sw := st_iC (w := w7.drew) hcell (HCX.out.frozen _) d
  have m1 := (m0.set1 (.inr (.inl rfl)) HX.out (by have := HQ.out; omega) (reC_set_said (newE (a, n) b) HQ.out d)).below (W' := (w7.setCell ⟨g, i * 22 + (4 + q), none⟩ (.int .i64 d)).drew) ⟨rfl, rfl, rfl, Nat.le_refl _, fun _ _ => rfl⟩
  rw [← Nat.add_assoc] at m1
  obtain ⟨W5, hW5⟩ : ∃ Z, Z = (w7.setCell ⟨g, i * 22 + 4 + q, none⟩ (.int .i64 d)).drew := ⟨_, rfl⟩
  rw [← hW5] at m1
  have hll : (L2.set i (hearF q d (newE (a, n) b))).length = L2.length := List.length_set
  have m1' : RlM w7 rb w.heap.size D (avL g (L2.set i (hearF q d (newE (a, n) b))).length cap2) room c (L2.set i (hearF q d (newE (a, n) b))) [] W5 (.slice none 0 0) (RcU rb (avL g L2.length cap2) (.slice none 0 0)) := by rw [hll]; exact m1
  have hlk := look12_any m1'.com HOK.out.pc (get_set HX.out) HEWX.out m1'.out (Nat.le_trans HUS.out.size m1'.upd.size) (by simp)
  rw [List.set_set, hll] at hlk
  have HLK := Lib.hid hlk
  have HM0 := Lib.hid m1
  have HW5 := Lib.hid hW5
  clear m0 hcell m1 m1' hW5 hll hlk
  go_still_tail 11, (by kernel_rfl)
  go_wp2_with fail
  rw [← HW5.out]
  clear lA2 ld5 sw l7
  go_wp2_with (first
    | (go_at_call 41; refine HLK.out.mono ?_; rintro e w8 ⟨rfl, ov2, mk⟩; have HM5 := Lib.hid (show RlM w7 rb w.heap.size D (avL g L2.length cap2) room c (L2.set i (lookF c (hearF q d (newE (a, n) b))).1) (lookF c (hearF q d (newE (a, n) b))).2 w8 ov2 (RcU rb (avL g L2.length cap2) (.slice none 0 0)) from by
          have mk2 := HM0.out.trans mk fun j hj => (by
            rcases hj with hj | hj | hj
            · exact .inl (.inl hj)
            · exact .inl (.inr (.inl (avL_own.2 hj.symm)))
            · exact HM0.out.own j hj)
          rw [List.nil_append] at mk2
          exact mk2); clear mk)
    | (go_at_call 43; refine (tidy12_step HOK.out HWR.out HST.out HUS.out HD.out HM5.out).mono ?_; rintro e w9 ⟨rfl, av2, ov2, m2, hown⟩; obtain ⟨A2, n2, c2, rfl⟩ : ∃ A n c, ov2 = Value.slice A n c := (by obtain ⟨A, c, h, _⟩ := own_form m2.out; exact ⟨A, _, c, h⟩); have l18 := ld_tlC (m2.com.blk.cell 18); have HM7 := Lib.hid m2; have HOWN := Lib.hid hown; clear m2 hown))
  go_ret2
  exact (done12_of HWR.out HST.out HUS.out HM5.out HM7.out HOWN.out).fresh fun j hj => HAV3.out j (by rw [← hj]; rfl)
end Go.Proofs.Ytahdjfegihnolaa
