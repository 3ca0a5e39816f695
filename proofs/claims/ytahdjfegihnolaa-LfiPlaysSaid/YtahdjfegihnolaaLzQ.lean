/- Layer 12: wrong: kinds 4, 5; all kinds. -/
import Derived.Test.YtahdjfegihnolaaLzP
namespace Go.Proofs.Ytahdjfegihnolaa
open Go.RowKit Go.Sort
theorem ld_pei {w : World} {b : Nat} {k po v : Int} {a : Nat} {n d : Int} (h : Blk w b 38 (evI k po v a n d)) : (Instr.loadAt 36 (.pointer (some ⟨b, 3, none⟩))).run Try.prog w = .ok (.agg #[.int .u32 (a : Int), .int .i64 n]) w := by
  have := run_loadAt_mid (P := Try.prog) w b 3 36 (pfE (a, n)) _ (blk_rangeZ h 3 _ fun j u hu => by
    have hj2 : j < 2 := by
      rcases Nat.lt_or_ge j 2 with hl | hl
      · exact hl
      · rw [List.getElem?_eq_none (by simpa [pfE] using hl)] at hu; cases hu
    rcases (by omega : j = 0 ∨ j = 1) with rfl | rfl <;> exact hu) Try.underlying36 rfl (show (Try.prog.info? 36).map (·.size) = some 2 by kernel_rfl)
  simpa [pfE] using this
theorem st_pei {w : World} {b : Nat} {k po v : Int} {a0 : Nat} {n0 d : Int} (h : Blk w b 38 (evI k po v a0 n0 d)) (a : Nat) (n : Int) :
    ∃ w', (Instr.storeAt 36 (.pointer (some ⟨b, 3, none⟩)) (.agg #[.int .u32 (a : Int), .int .i64 n])).run Try.prog w = .ok () w' ∧ Blk w' b 38 (evI k po v a n d) ∧ Upd (only b) w w' :=
  ⟨(w.setCell ⟨b, 3, none⟩ (.int .u32 (a : Int))).setCell ⟨b, 4, none⟩ (.int .i64 n), run_storeAt_mid w b 3 _ #[.int .u32 (a : Int), .int .i64 n] (fun j hj => by
    have hj2 : j < 2 := hj
    have hlt : 3 + j < (evI k po v a0 n0 d).size := by show 3 + j < 6; omega
    exact ⟨by rw [h.cell, Array.getElem?_eq_getElem hlt]; rfl, h.frozen _⟩) (by kernel_rfl) (by simp [Value.oneCell']), (h.set_ 3 (.int .u32 (a : Int))).set_ 4 (.int .i64 n), (upd_set w b 3 _).set_ 4 _⟩
theorem upd_below {w w' W : World} {b : Nat} {B : Nat} (h : Below B w W) (hu : Upd (only b) W w') (hb : B ≤ b) (hB : B ≤ W.heap.size) : Below B w w' :=
  ⟨hu.os.trans h.os, hu.tape.trans h.tape, hu.output.trans h.output, Nat.le_trans h.size hu.size, fun k hk => (hu.block k (Nat.lt_of_lt_of_le hk hB) fun (e : k = b) => by omega).trans (h.block k hk)⟩
set_option maxRecDepth 100000 in
set_option maxHeartbeats 8000000 in
attribute [-go_sem] Instr.storeAt Instr.loadAt in
theorem wrong_5 {w : World} {cb mb : Nat} {ov : Value} {room : Int} {c : Pc} (h : Blk w cb 81 (coC room c mb ov))  (po v d : Int) (p : Pf) (hp : p.1 < 2 ^ 32)  :
    Calls Try.prog 28 #[.pointer (some ⟨cb, 0, none⟩), .agg #[.int .i64 5, .int .i64 po, .int .i64 v, .int .u32 (p.1 : Int), .int .i64 p.2, .int .i64 d]] w (WrPost c ⟨5, po, v, p, d⟩ w) := by
  obtain ⟨a, n⟩ := p
  dsimp only at hp ⊢
  obtain ⟨W1, hW1⟩ : ∃ Z, Z = w.alloc (.cells #[.int .i64 5, .int .i64 po, .int .i64 v, .int .u32 (a : Int), .int .i64 n, .int .i64 d] 38) := ⟨_, rfl⟩
  have hb1 : Below w.heap.size w W1 := by rw [hW1]; exact (Below.refl _ _).alloc (Nat.le_refl _) _
  have hke : Blk W1 w.heap.size 38 (evI 5 po v a n d) := by rw [hW1]; exact Blk.new _ _ _
  have hc1 := h.below hb1 h.lt
  obtain ⟨W2, hW2⟩ : ∃ Z, Z = W1.alloc (.cells #[.int .i64 5, .int .i64 po, .int .i64 0, .int .u32 0, .int .i64 0, .int .i64 0] 38) := ⟨_, rfl⟩
  have hb2 : Below W1.heap.size W1 W2 := by rw [hW2]; exact (Below.refl _ _).alloc (Nat.le_refl _) _
  have hw2 : Blk W2 W1.heap.size 38 (evI 5 po 0 0 0 0) := by rw [hW2]; exact Blk.new _ _ _
  have sp := st_ev_new W1 5 po
  rw [← hW2] at sp
  have f1k := ev_k hke
  have f1p := ld_iC (w := W1) (b := w.heap.size) (o := 1) (z := po) (hke.cell 1)
  have hk2 := hke.below hb2 hke.lt
  have HC2 := Lib.hid (hc1.below hb2 hc1.lt)
  have HK2 := Lib.hid hk2
  have HW2 := Lib.hid hw2
  have HB2 := Lib.hid (hb1.trans (hb2.mono hb1.size))
  have HNE := Lib.hid (show w.heap.size ≠ W1.heap.size from Nat.ne_of_lt hke.lt)
  have HLT := Lib.hid (show w.heap.size < W1.heap.size from hke.lt)
  have HW1 := Lib.hid hW1
  have HPP := Lib.hid hp
  have HCL := Lib.hid (show cb < w.heap.size from h.lt)
  clear hW1 hb1 hc1 hke hW2 hb2 hw2 h hp hk2
  obtain ⟨gw, hgw⟩ : ∃ x, x = W1.heap.size := ⟨_, rfl⟩
  rw [← hgw] at HW2 HNE HLT sp
  have HGW := Lib.hid hgw
  subst hgw
  have HW3 := HW2
  have HK3 := HK2
  have HC3 := HC2
  have HB3 := HB2
  obtain ⟨W4, hst4, hw4, hu4⟩ := st_pei HW3.out a n
  have HW4 := Lib.hid hw4
  have HK4 := Lib.hid (show Blk W4 w.heap.size 38 (evI 5 po v a n d) from (hu4.block _ HK3.out.lt fun e => HNE.out e).trans HK3.out)
  have HC4 := Lib.hid (show Blk W4 cb 81 (coC room c mb ov) from (hu4.block _ HC3.out.lt fun (e : cb = W1.heap.size) => by have h1 := HCL.out; have h2 := HLT.out; omega).trans HC3.out)
  have HB4 := Lib.hid (show Below w.heap.size w W4 from upd_below HB3.out hu4 (Nat.le_of_lt HLT.out) HB3.out.size)
  obtain ⟨m, hm⟩ : ∃ m, m = mayP (a, n) := ⟨_, rfl⟩
  have hmay := may_any (a, n) HPP.out W4
  rw [← hm] at hmay
  have HMAY := Lib.hid hmay
  have HMM := Lib.hid hm
  clear hm hmay hw4 hu4
  have f2k := ev_k HK2.out
  have f2p := ld_iC (w := W2) (b := w.heap.size) (o := 1) (z := po) (HK2.out.cell 1)
  have f2v := ld_iC (w := W2) (b := w.heap.size) (o := 2) (z := v) (HK2.out.cell 2)
  have f2d := ld_iC (w := W2) (b := w.heap.size) (o := 5) (z := d) (HK2.out.cell 5)
  have f2e := ev_all HK2.out
  have f3q := ld_pei HK3.out
  have f4k := ev_k HK4.out
  have f4p := ld_iC (w := W4) (b := w.heap.size) (o := 1) (z := po) (HK4.out.cell 1)
  have f4v := ld_iC (w := W4) (b := w.heap.size) (o := 2) (z := v) (HK4.out.cell 2)
  have f4d := ld_iC (w := W4) (b := w.heap.size) (o := 5) (z := d) (HK4.out.cell 5)
  have f4e := ev_all HK4.out
  have f4q := ld_pei HK4.out
  have f4w := ev_all HW4.out
  obtain ⟨eb, heb⟩ : ∃ b : Bool, b = ((5 : Int) == 5 && po == po && v == 0 && (a : Int) == a && n == n && d == 0) := ⟨_, rfl⟩
  have qe := fun wx => ev_eq 5 po v a n d 5 po 0 a n 0 wx
  rw [← heb] at qe
  have HEB := Lib.hid heb
  clear heb
  go_enter Try.func28, Try.ntmps28
  go_upto_region 1 with (fail)
  rw [← HW1.out]
  by_cases h0 : 0 ≤ po
  · by_cases h8 : po < 8
    · cases m with
      | false =>
        have hr : wrongF c ⟨5, po, v, (a, n), d⟩ = 2 := by
          have := HMM.out
          unfold wrongF okE
          simp [← this]
        have HR := Lib.hid hr
        clear hr
        go_wp2_with (go_at_call 25; refine HMAY.out.mono ?_; rintro e w5 ⟨rfl, hb5⟩; have hk5 := HK4.out.below hb5 HK4.out.lt; have hw5 := HW4.out.below hb5 HW4.out.lt; have f5k := ev_k hk5; have f5p := ld_iC (w := w5) (b := w.heap.size) (o := 1) (z := po) (hk5.cell 1); have f5e := ev_all hk5; have f5w := ev_all hw5; have HK5 := Lib.hid hk5; have HC5 := Lib.hid (HC4.out.below hb5 HC4.out.lt); have HBE := Lib.hid (HB4.out.trans (hb5.mono HB4.out.size)); clear hb5 hk5 hw5)
        go_ret
        exact ⟨by rw [HR.out]; rfl, HBE.out⟩
      | true =>
        cases eb with
        | false =>
          have hr : wrongF c ⟨5, po, v, (a, n), d⟩ = 2 := by
            have := HEB.out
            unfold wrongF okE
            simp at this ⊢
            omega
          have HR := Lib.hid hr
          clear hr
          go_wp2_with (go_at_call 25; refine HMAY.out.mono ?_; rintro e w5 ⟨rfl, hb5⟩; have hk5 := HK4.out.below hb5 HK4.out.lt; have hw5 := HW4.out.below hb5 HW4.out.lt; have f5k := ev_k hk5; have f5p := ld_iC (w := w5) (b := w.heap.size) (o := 1) (z := po) (hk5.cell 1); have f5e := ev_all hk5; have f5w := ev_all hw5; have HK5 := Lib.hid hk5; have HC5 := Lib.hid (HC4.out.below hb5 HC4.out.lt); have HBE := Lib.hid (HB4.out.trans (hb5.mono HB4.out.size)); clear hb5 hk5 hw5)
          go_ret
          exact ⟨by rw [HR.out]; rfl, HBE.out⟩
        | true =>
          obtain ⟨q, rfl⟩ : ∃ q : Nat, po = q := ⟨po.toNat, by omega⟩
          have hq : q < 8 := by omega
          have hok : okE ⟨5, (q : Int), v, (a, n), d⟩ = true := by
            have h1 := HEB.out
            have h2 := HMM.out
            unfold okE
            simp [← h2] at h1 ⊢
            omega
          have HOK := Lib.hid hok
          have HQ := Lib.hid hq
          clear hok
          go_upto_region 18 with (go_at_call 25; refine HMAY.out.mono ?_; rintro e w5 ⟨rfl, hb5⟩; have hk5 := HK4.out.below hb5 HK4.out.lt; have hw5 := HW4.out.below hb5 HW4.out.lt; have f5k := ev_k hk5; have f5p := ld_iC (w := w5) (b := w.heap.size) (o := 1) (z := (q : Int)) (hk5.cell 1); have f5e := ev_all hk5; have f5w := ev_all hw5; have HK5 := Lib.hid hk5; have HC5 := Lib.hid (HC4.out.below hb5 HC4.out.lt); have HBE := Lib.hid (HB4.out.trans (hb5.mono HB4.out.size)); clear hb5 hk5 hw5)
          clear f2k f2p f2v f2d f2e f3q f4k f4p f4v f4d f4e f4q f4w f5k f5p f5e f5w
          have r1 := fun n => ev_k (w := w5.drewN n) (HK5.out.below (below_drewN w5 n) HK5.out.lt)
          have r2 := fun n => ld_iC (w := w5.drewN n) (b := w.heap.size) (o := 1) (z := (q : Int)) ((HK5.out.below (below_drewN w5 n) HK5.out.lt).cell 1)
          have r3 := fun n => ld_bC (w := w5.drewN n) (b := cb) (o := 1 + q) (z := c.up q) (((HC5.out.below (below_drewN w5 n) HC5.out.lt).cell (1 + q)).trans (coC_up _ _ _ _ HQ.out))
          obtain ⟨u, hu⟩ : ∃ u, u = c.up q := ⟨_, rfl⟩
          rw [← hu] at r3
          have HU := Lib.hid hu
          clear hu
          cases u with
          | false =>
            have hr : wrongF c ⟨5, (q : Int), v, (a, n), d⟩ = 7 := by
              unfold wrongF
              rw [HOK.out]
              have := HU.out
              simp [← this]
            have HR := Lib.hid hr
            clear hr
            go_quiet (fail)
            clear r1 r2 r3
            go_wp2_with fail
            go_ret
            exact ⟨by rw [HR.out]; rfl, HBE.out.trans ((below_drewN w5 nq).mono HBE.out.size)⟩
          | true =>
            have hr : wrongF c ⟨5, (q : Int), v, (a, n), d⟩ = 0 := by
              unfold wrongF
              rw [HOK.out]
              have := HU.out
              simp [← this]
            have HR := Lib.hid hr
            clear hr
            go_quiet (fail)
            clear r1 r2 r3
            go_wp2_with fail
            go_ret
            exact ⟨by rw [HR.out]; rfl, HBE.out.trans ((below_drewN w5 nq).mono HBE.out.size)⟩
    · have hr : wrongF c ⟨5, po, v, (a, n), d⟩ = 2 := by
        unfold wrongF okE
        simp
        omega
      have HR := Lib.hid hr
      clear hr
      go_wp2_with (fail)
      go_ret
      exact ⟨by rw [HR.out]; rfl, HB4.out⟩
  · have hr : wrongF c ⟨5, po, v, (a, n), d⟩ = 2 := by
      unfold wrongF okE
      simp
      omega
    have HR := Lib.hid hr
    clear hr
    go_wp2_with (fail)
    go_ret
    exact ⟨by rw [HR.out]; rfl, HB4.out⟩
set_option maxRecDepth 100000 in
set_option maxHeartbeats 8000000 in
attribute [-go_sem] Instr.storeAt Instr.loadAt in
theorem wrong_4 {w : World} {cb mb : Nat} {ov : Value} {room : Int} {c : Pc} (h : Blk w cb 81 (coC room c mb ov))  (po v d : Int) (p : Pf) (hp : p.1 < 2 ^ 32)  :
    Calls Try.prog 28 #[.pointer (some ⟨cb, 0, none⟩), .agg #[.int .i64 4, .int .i64 po, .int .i64 v, .int .u32 (p.1 : Int), .int .i64 p.2, .int .i64 d]] w (WrPost c ⟨4, po, v, p, d⟩ w) := by
  obtain ⟨a, n⟩ := p
  dsimp only at hp ⊢
  obtain ⟨W1, hW1⟩ : ∃ Z, Z = w.alloc (.cells #[.int .i64 4, .int .i64 po, .int .i64 v, .int .u32 (a : Int), .int .i64 n, .int .i64 d] 38) := ⟨_, rfl⟩
  have hb1 : Below w.heap.size w W1 := by rw [hW1]; exact (Below.refl _ _).alloc (Nat.le_refl _) _
  have hke : Blk W1 w.heap.size 38 (evI 4 po v a n d) := by rw [hW1]; exact Blk.new _ _ _
  have hc1 := h.below hb1 h.lt
  obtain ⟨W2, hW2⟩ : ∃ Z, Z = W1.alloc (.cells #[.int .i64 4, .int .i64 po, .int .i64 0, .int .u32 0, .int .i64 0, .int .i64 0] 38) := ⟨_, rfl⟩
  have hb2 : Below W1.heap.size W1 W2 := by rw [hW2]; exact (Below.refl _ _).alloc (Nat.le_refl _) _
  have hw2 : Blk W2 W1.heap.size 38 (evI 4 po 0 0 0 0) := by rw [hW2]; exact Blk.new _ _ _
  have sp := st_ev_new W1 4 po
  rw [← hW2] at sp
  have f1k := ev_k hke
  have f1p := ld_iC (w := W1) (b := w.heap.size) (o := 1) (z := po) (hke.cell 1)
  have hk2 := hke.below hb2 hke.lt
  have HC2 := Lib.hid (hc1.below hb2 hc1.lt)
  have HK2 := Lib.hid hk2
  have HW2 := Lib.hid hw2
  have HB2 := Lib.hid (hb1.trans (hb2.mono hb1.size))
  have HNE := Lib.hid (show w.heap.size ≠ W1.heap.size from Nat.ne_of_lt hke.lt)
  have HLT := Lib.hid (show w.heap.size < W1.heap.size from hke.lt)
  have HW1 := Lib.hid hW1
  have HPP := Lib.hid hp
  have HCL := Lib.hid (show cb < w.heap.size from h.lt)
  clear hW1 hb1 hc1 hke hW2 hb2 hw2 h hp hk2
  obtain ⟨gw, hgw⟩ : ∃ x, x = W1.heap.size := ⟨_, rfl⟩
  rw [← hgw] at HW2 HNE HLT sp
  have HGW := Lib.hid hgw
  subst hgw
  have st := st_iC (HW2.out.cell 5) (HW2.out.frozen 5) d
  obtain ⟨W3, hW3⟩ : ∃ Z, Z = W2.setCell ⟨W1.heap.size, 5, none⟩ (.int .i64 d) := ⟨_, rfl⟩
  rw [← hW3] at st
  have HW3 := Lib.hid (show Blk W3 W1.heap.size 38 (evI 4 po 0 0 0 d) by rw [hW3]; exact HW2.out.set_ 5 _)
  have HK3 := Lib.hid (show Blk W3 w.heap.size 38 (evI 4 po v a n d) by rw [hW3]; exact HK2.out.far (p := ⟨W1.heap.size, 5, none⟩) HNE.out _)
  have HC3 := Lib.hid (show Blk W3 cb 81 (coC room c mb ov) by rw [hW3]; exact HC2.out.far (p := ⟨W1.heap.size, 5, none⟩) (Nat.ne_of_lt (Nat.lt_trans HCL.out HLT.out)) _)
  have HB3 := Lib.hid (show Below w.heap.size w W3 by rw [hW3]; exact HB2.out.setCell (p := ⟨W1.heap.size, 5, none⟩) (Nat.le_of_lt HLT.out) _)
  clear hW3
  obtain ⟨W4, hst4, hw4, hu4⟩ := st_pei HW3.out a n
  have HW4 := Lib.hid hw4
  have HK4 := Lib.hid (show Blk W4 w.heap.size 38 (evI 4 po v a n d) from (hu4.block _ HK3.out.lt fun e => HNE.out e).trans HK3.out)
  have HC4 := Lib.hid (show Blk W4 cb 81 (coC room c mb ov) from (hu4.block _ HC3.out.lt fun (e : cb = W1.heap.size) => by have h1 := HCL.out; have h2 := HLT.out; omega).trans HC3.out)
  have HB4 := Lib.hid (show Below w.heap.size w W4 from upd_below HB3.out hu4 (Nat.le_of_lt HLT.out) HB3.out.size)
  obtain ⟨m, hm⟩ : ∃ m, m = mayP (a, n) := ⟨_, rfl⟩
  have hmay := may_any (a, n) HPP.out W4
  rw [← hm] at hmay
  have HMAY := Lib.hid hmay
  have HMM := Lib.hid hm
  clear hm hmay hw4 hu4
  have f2k := ev_k HK2.out
  have f2p := ld_iC (w := W2) (b := w.heap.size) (o := 1) (z := po) (HK2.out.cell 1)
  have f2v := ld_iC (w := W2) (b := w.heap.size) (o := 2) (z := v) (HK2.out.cell 2)
  have f2d := ld_iC (w := W2) (b := w.heap.size) (o := 5) (z := d) (HK2.out.cell 5)
  have f2e := ev_all HK2.out
  have f3k := ev_k HK3.out
  have f3p := ld_iC (w := W3) (b := w.heap.size) (o := 1) (z := po) (HK3.out.cell 1)
  have f3v := ld_iC (w := W3) (b := w.heap.size) (o := 2) (z := v) (HK3.out.cell 2)
  have f3d := ld_iC (w := W3) (b := w.heap.size) (o := 5) (z := d) (HK3.out.cell 5)
  have f3e := ev_all HK3.out
  have f3q := ld_pei HK3.out
  have f4k := ev_k HK4.out
  have f4p := ld_iC (w := W4) (b := w.heap.size) (o := 1) (z := po) (HK4.out.cell 1)
  have f4v := ld_iC (w := W4) (b := w.heap.size) (o := 2) (z := v) (HK4.out.cell 2)
  have f4d := ld_iC (w := W4) (b := w.heap.size) (o := 5) (z := d) (HK4.out.cell 5)
  have f4e := ev_all HK4.out
  have f4q := ld_pei HK4.out
  have f4w := ev_all HW4.out
  obtain ⟨eb, heb⟩ : ∃ b : Bool, b = ((4 : Int) == 4 && po == po && v == 0 && (a : Int) == a && n == n && d == d) := ⟨_, rfl⟩
  have qe := fun wx => ev_eq 4 po v a n d 4 po 0 a n d wx
  rw [← heb] at qe
  have HEB := Lib.hid heb
  clear heb
  go_enter Try.func28, Try.ntmps28
  go_upto_region 1 with (fail)
  rw [← HW1.out]
  by_cases h0 : 0 ≤ po
  · by_cases h8 : po < 8
    · by_cases hd0 : 0 ≤ d
      · by_cases hd2 : d ≤ 255
        · cases m with
          | false =>
            have hr : wrongF c ⟨4, po, v, (a, n), d⟩ = 2 := by
              have := HMM.out
              unfold wrongF okE
              simp [← this]
            have HR := Lib.hid hr
            clear hr
            go_wp2_with (go_at_call 25; refine HMAY.out.mono ?_; rintro e w5 ⟨rfl, hb5⟩; have hk5 := HK4.out.below hb5 HK4.out.lt; have hw5 := HW4.out.below hb5 HW4.out.lt; have f5k := ev_k hk5; have f5p := ld_iC (w := w5) (b := w.heap.size) (o := 1) (z := po) (hk5.cell 1); have f5e := ev_all hk5; have f5w := ev_all hw5; have HK5 := Lib.hid hk5; have HC5 := Lib.hid (HC4.out.below hb5 HC4.out.lt); have HBE := Lib.hid (HB4.out.trans (hb5.mono HB4.out.size)); clear hb5 hk5 hw5)
            go_ret
            exact ⟨by rw [HR.out]; rfl, HBE.out⟩
          | true =>
            cases eb with
            | false =>
              have hr : wrongF c ⟨4, po, v, (a, n), d⟩ = 2 := by
                have := HEB.out
                unfold wrongF okE
                simp at this ⊢
                omega
              have HR := Lib.hid hr
              clear hr
              go_wp2_with (go_at_call 25; refine HMAY.out.mono ?_; rintro e w5 ⟨rfl, hb5⟩; have hk5 := HK4.out.below hb5 HK4.out.lt; have hw5 := HW4.out.below hb5 HW4.out.lt; have f5k := ev_k hk5; have f5p := ld_iC (w := w5) (b := w.heap.size) (o := 1) (z := po) (hk5.cell 1); have f5e := ev_all hk5; have f5w := ev_all hw5; have HK5 := Lib.hid hk5; have HC5 := Lib.hid (HC4.out.below hb5 HC4.out.lt); have HBE := Lib.hid (HB4.out.trans (hb5.mono HB4.out.size)); clear hb5 hk5 hw5)
              go_ret
              exact ⟨by rw [HR.out]; rfl, HBE.out⟩
            | true =>
              obtain ⟨q, rfl⟩ : ∃ q : Nat, po = q := ⟨po.toNat, by omega⟩
              have hq : q < 8 := by omega
              have hok : okE ⟨4, (q : Int), v, (a, n), d⟩ = true := by
                have h1 := HEB.out
                have h2 := HMM.out
                unfold okE
                simp [← h2] at h1 ⊢
                omega
              have HOK := Lib.hid hok
              have HQ := Lib.hid hq
              clear hok
              go_upto_region 18 with (go_at_call 25; refine HMAY.out.mono ?_; rintro e w5 ⟨rfl, hb5⟩; have hk5 := HK4.out.below hb5 HK4.out.lt; have hw5 := HW4.out.below hb5 HW4.out.lt; have f5k := ev_k hk5; have f5p := ld_iC (w := w5) (b := w.heap.size) (o := 1) (z := (q : Int)) (hk5.cell 1); have f5e := ev_all hk5; have f5w := ev_all hw5; have HK5 := Lib.hid hk5; have HC5 := Lib.hid (HC4.out.below hb5 HC4.out.lt); have HBE := Lib.hid (HB4.out.trans (hb5.mono HB4.out.size)); clear hb5 hk5 hw5)
              clear f2k f2p f2v f2d f2e f3k f3p f3v f3d f3e f3q f4k f4p f4v f4d f4e f4q f4w f5k f5p f5e f5w
              have r1 := fun n => ev_k (w := w5.drewN n) (HK5.out.below (below_drewN w5 n) HK5.out.lt)
              have r2 := fun n => ld_iC (w := w5.drewN n) (b := w.heap.size) (o := 1) (z := (q : Int)) ((HK5.out.below (below_drewN w5 n) HK5.out.lt).cell 1)
              have r3 := fun n => ld_bC (w := w5.drewN n) (b := cb) (o := 1 + q) (z := c.up q) (((HC5.out.below (below_drewN w5 n) HC5.out.lt).cell (1 + q)).trans (coC_up _ _ _ _ HQ.out))
              obtain ⟨u, hu⟩ : ∃ u, u = c.up q := ⟨_, rfl⟩
              rw [← hu] at r3
              have HU := Lib.hid hu
              clear hu
              cases u with
              | false =>
                have hr : wrongF c ⟨4, (q : Int), v, (a, n), d⟩ = 7 := by
                  unfold wrongF
                  rw [HOK.out]
                  have := HU.out
                  simp [← this]
                have HR := Lib.hid hr
                clear hr
                go_quiet (fail)
                clear r1 r2 r3
                go_wp2_with fail
                go_ret
                exact ⟨by rw [HR.out]; rfl, HBE.out.trans ((below_drewN w5 nq).mono HBE.out.size)⟩
              | true =>
                have hr : wrongF c ⟨4, (q : Int), v, (a, n), d⟩ = 0 := by
                  unfold wrongF
                  rw [HOK.out]
                  have := HU.out
                  simp [← this]
                have HR := Lib.hid hr
                clear hr
                go_quiet (fail)
                clear r1 r2 r3
                go_wp2_with fail
                go_ret
                exact ⟨by rw [HR.out]; rfl, HBE.out.trans ((below_drewN w5 nq).mono HBE.out.size)⟩
        · have hr : wrongF c ⟨4, po, v, (a, n), d⟩ = 2 := by
            unfold wrongF okE
            simp
            omega
          have HR := Lib.hid hr
          clear hr
          go_wp2_with (fail)
          go_ret
          exact ⟨by rw [HR.out]; rfl, HB4.out⟩
      · have hr : wrongF c ⟨4, po, v, (a, n), d⟩ = 2 := by
          unfold wrongF okE
          simp
          omega
        have HR := Lib.hid hr
        clear hr
        go_wp2_with (fail)
        go_ret
        exact ⟨by rw [HR.out]; rfl, HB4.out⟩
    · have hr : wrongF c ⟨4, po, v, (a, n), d⟩ = 2 := by
        unfold wrongF okE
        simp
        omega
      have HR := Lib.hid hr
      clear hr
      go_wp2_with (fail)
      go_ret
      exact ⟨by rw [HR.out]; rfl, HB4.out⟩
  · have hr : wrongF c ⟨4, po, v, (a, n), d⟩ = 2 := by
      unfold wrongF okE
      simp
      omega
    have HR := Lib.hid hr
    clear hr
    go_wp2_with (fail)
    go_ret
    exact ⟨by rw [HR.out]; rfl, HB4.out⟩
/-- What is wrong with an event. -/
theorem wrong_any {w : World} {cb mb : Nat} {ov : Value} {room : Int} {c : Pc} (h : Blk w cb 81 (coC room c mb ov)) (k po v d : Int) (p : Pf) (hp : p.1 < 2 ^ 32) :
    Calls Try.prog 28 #[.pointer (some ⟨cb, 0, none⟩), .agg #[.int .i64 k, .int .i64 po, .int .i64 v, .int .u32 (p.1 : Int), .int .i64 p.2, .int .i64 d]] w (WrPost c ⟨k, po, v, p, d⟩ w) := by
  by_cases h1 : k = 1
  · subst h1; exact wrong_1 h po v d p hp
  by_cases h2 : k = 2
  · subst h2; exact wrong_2 h po v d p hp
  by_cases h3 : k = 3
  · subst h3; exact wrong_3 h po v d p hp
  by_cases h4 : k = 4
  · subst h4; exact wrong_4 h po v d p hp
  by_cases h5 : k = 5
  · subst h5; exact wrong_5 h po v d p hp
  exact wrong_o h po v d p hp h1 h2 h3 h4 h5
end Go.Proofs.Ytahdjfegihnolaa
