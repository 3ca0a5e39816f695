/- Layer 12: wrong. -/
import Derived.Test.YtahdjfegihnolaaLzO
namespace Go.Proofs.Ytahdjfegihnolaa
open Go.RowKit Go.Sort
def evI (k po v : Int) (a : Nat) (n d : Int) : Array Value := #[.int .i64 k, .int .i64 po, .int .i64 v, .int .u32 (a : Int), .int .i64 n, .int .i64 d]
theorem ev_eq (a b c d e f a' b' c' d' e' f' : Int) (w : World) : (Op.equalIn 10000 38 (.agg #[.int .i64 a, .int .i64 b, .int .i64 c, .int .u32 d, .int .i64 e, .int .i64 f]) (.agg #[.int .i64 a', .int .i64 b', .int .i64 c', .int .u32 d', .int .i64 e', .int .i64 f'])).run Try.prog w = .ok (a == a' && b == b' && c == c' && d == d' && e == e' && f == f') w := by
  go_simp
  by_cases h1 : a = a'
  · by_cases h2 : b = b'
    · by_cases h3 : c = c'
      · by_cases h4 : d = d'
        · by_cases h5 : e = e'
          · by_cases h6 : f = f' <;> simp [h1, h2, h3, h4, h5, h6]
          · simp [h1, h2, h3, h4, h5]
        · simp [h1, h2, h3, h4]
      · simp [h1, h2, h3]
    · simp [h1, h2]
  · simp [h1]
section
variable {w : World} {b : Nat} {k po v : Int} {a : Nat} {n d : Int} (h : Blk w b 38 (evI k po v a n d))
include h
theorem ev_k : (Instr.loadAt 32 (.pointer (some ⟨b, 0, none⟩))).run Try.prog w = .ok (.int .i64 k) w := by
  have hc : w.cell? ⟨b, 0, none⟩ = some (.int .i64 k) := h.cell 0
  simp [go_sem, hc]
theorem ev_all : (Instr.loadAt 38 (.pointer (some ⟨b, 0, none⟩))).run Try.prog w = .ok (.agg #[.int .i64 k, .int .i64 po, .int .i64 v, .int .u32 (a : Int), .int .i64 n, .int .i64 d]) w := by
  have := run_loadAt_mid (P := Try.prog) w b 0 38 (evI k po v a n d).toList _ (blk_rangeZ h 0 _ fun j u hu => by rw [Nat.zero_add]; simpa using hu) Try.underlying38 rfl (show (Try.prog.info? 38).map (·.size) = some 6 by kernel_rfl)
  simpa [evI] using this
end
theorem st_ev_new (wx : World) (k po : Int) : (Instr.storeAt 38 (.pointer (some ⟨wx.heap.size, 0, none⟩)) (.agg #[.int .i64 k, .int .i64 po, .int .i64 0, .int .u32 0, .int .i64 0, .int .i64 0])).run Try.prog (wx.alloc (.cells #[.int .i64 0, .int .i64 0, .int .i64 0, .int .u32 0, .int .i64 0, .int .i64 0] 38)) = .ok () (wx.alloc (.cells #[.int .i64 k, .int .i64 po, .int .i64 0, .int .u32 0, .int .i64 0, .int .i64 0] 38)) := by
  go_simp
def WrPost (c : Pc) (e : Ev) (w : World) (en : Ending) (w' : World) : Prop := en = .returned (.int .i64 ((wrongF c e : Nat) : Int)) ∧ Below w.heap.size w w'
set_option maxRecDepth 100000 in
set_option maxHeartbeats 8000000 in
attribute [-go_sem] Instr.storeAt Instr.loadAt in
theorem wrong_2 {w : World} {cb mb : Nat} {ov : Value} {room : Int} {c : Pc} (h : Blk w cb 81 (coC room c mb ov))  (po v d : Int) (p : Pf) (hp : p.1 < 2 ^ 32)  :
    Calls Try.prog 28 #[.pointer (some ⟨cb, 0, none⟩), .agg #[.int .i64 2, .int .i64 po, .int .i64 v, .int .u32 (p.1 : Int), .int .i64 p.2, .int .i64 d]] w (WrPost c ⟨2, po, v, p, d⟩ w) := by
  obtain ⟨a, n⟩ := p
  dsimp only at hp ⊢
  obtain ⟨W1, hW1⟩ : ∃ Z, Z = w.alloc (.cells #[.int .i64 2, .int .i64 po, .int .i64 v, .int .u32 (a : Int), .int .i64 n, .int .i64 d] 38) := ⟨_, rfl⟩
  have hb1 : Below w.heap.size w W1 := by rw [hW1]; exact (Below.refl _ _).alloc (Nat.le_refl _) _
  have hke : Blk W1 w.heap.size 38 (evI 2 po v a n d) := by rw [hW1]; exact Blk.new _ _ _
  have hc1 := h.below hb1 h.lt
  obtain ⟨W2, hW2⟩ : ∃ Z, Z = W1.alloc (.cells #[.int .i64 2, .int .i64 po, .int .i64 0, .int .u32 0, .int .i64 0, .int .i64 0] 38) := ⟨_, rfl⟩
  have hb2 : Below W1.heap.size W1 W2 := by rw [hW2]; exact (Below.refl _ _).alloc (Nat.le_refl _) _
  have hw2 : Blk W2 W1.heap.size 38 (evI 2 po 0 0 0 0) := by rw [hW2]; exact Blk.new _ _ _
  have sp := st_ev_new W1 2 po
  rw [← hW2] at sp
  have f1k := ev_k hke
  have f1p := ld_iC (w := W1) (b := w.heap.size) (o := 1) (z := po) (hke.cell 1)
  have hk2 := hke.below hb2 hke.lt
  have HC2 := Lib.hid (hc1.below hb2 hc1.lt)
  have HK2 := Lib.hid hk2
  have HW2 := Lib.hid hw2
  have HB2 := Lib.hid (hb1.trans (hb2.mono hb1.size))
  have HNE := Lib.hid (show w.heap.size ≠ W1.heap.size from Nat.ne_of_lt hke.lt)
  have HLT := Lib.hid (show w.heap.size < W1.heap.size from hke.lt)
  have HW1 := Lib.hid hW1
  have HPP := Lib.hid hp
  have HCL := Lib.hid (show cb < w.heap.size from h.lt)
  clear hW1 hb1 hc1 hke hW2 hb2 hw2 h hp hk2
  obtain ⟨gw, hgw⟩ : ∃ x, x = W1.heap.size := ⟨_, rfl⟩
  rw [← hgw] at HW2 HNE HLT sp
  have HGW := Lib.hid hgw
  have f2k := ev_k HK2.out
  have f2p := ld_iC (w := W2) (b := w.heap.size) (o := 1) (z := po) (HK2.out.cell 1)
  have f2v := ld_iC (w := W2) (b := w.heap.size) (o := 2) (z := v) (HK2.out.cell 2)
  have f2d := ld_iC (w := W2) (b := w.heap.size) (o := 5) (z := d) (HK2.out.cell 5)
  have f2e := ev_all HK2.out
  have f2w := ev_all HW2.out
  have HBE := Lib.hid HB2.out
  rw [hgw] at f2w sp
  obtain ⟨eb, heb⟩ : ∃ b : Bool, b = ((2 : Int) == 2 && po == po && v == 0 && (a : Int) == 0 && n == 0 && d == 0) := ⟨_, rfl⟩
  have qe := fun wx => ev_eq 2 po v a n d 2 po 0 0 0 0 wx
  rw [← heb] at qe
  have HEB := Lib.hid heb
  clear heb hgw
  go_enter Try.func28, Try.ntmps28
  go_upto_region 1 with (fail)
  rw [← HW1.out]
  by_cases h0 : 0 ≤ po
  · by_cases h8 : po < 8
    · cases eb with
      | false =>
        have hr : wrongF c ⟨2, po, v, (a, n), d⟩ = 2 := by
          have := HEB.out
          unfold wrongF okE
          simp at this ⊢
          omega
        have HR := Lib.hid hr
        clear hr
        go_wp2_with fail
        go_ret
        exact ⟨by rw [HR.out]; rfl, HBE.out⟩
      | true =>
        obtain ⟨q, rfl⟩ : ∃ q : Nat, po = q := ⟨po.toNat, by omega⟩
        have hq : q < 8 := by omega
        have hok : okE ⟨2, (q : Int), v, (a, n), d⟩ = true := by
          have := HEB.out
          unfold okE
          simp at this ⊢
          omega
        have HOK := Lib.hid hok
        have HQ := Lib.hid hq
        clear hok
        go_upto_region 18 with (fail)
        clear f2k f2p f2v f2d f2e
        have r1 := fun n => ev_k (w := W2.drewN n) (HK2.out.below (below_drewN W2 n) HK2.out.lt)
        have r2 := fun n => ld_iC (w := W2.drewN n) (b := w.heap.size) (o := 1) (z := (q : Int)) ((HK2.out.below (below_drewN W2 n) HK2.out.lt).cell 1)
        have r3 := fun n => ld_bC (w := W2.drewN n) (b := cb) (o := 1 + q) (z := c.up q) (((HC2.out.below (below_drewN W2 n) HC2.out.lt).cell (1 + q)).trans (coC_up _ _ _ _ HQ.out))
        obtain ⟨u, hu⟩ : ∃ u, u = c.up q := ⟨_, rfl⟩
        rw [← hu] at r3
        have HU := Lib.hid hu
        clear hu
        cases u with
        | false =>
          have hr : wrongF c ⟨2, (q : Int), v, (a, n), d⟩ = 7 := by
            unfold wrongF
            rw [HOK.out]
            have := HU.out
            simp [← this]
          have HR := Lib.hid hr
          clear hr
          go_quiet (fail)
          clear r1 r2 r3
          go_wp2_with fail
          go_ret
          exact ⟨by rw [HR.out]; rfl, HBE.out.trans ((below_drewN W2 nq).mono HBE.out.size)⟩
        | true =>
          have hr : wrongF c ⟨2, (q : Int), v, (a, n), d⟩ = 0 := by
            unfold wrongF
            rw [HOK.out]
            have := HU.out
            simp [← this]
          have HR := Lib.hid hr
          clear hr
          go_quiet (fail)
          clear r1 r2 r3
          go_wp2_with fail
          go_ret
          exact ⟨by rw [HR.out]; rfl, HBE.out.trans ((below_drewN W2 nq).mono HBE.out.size)⟩
    · have hr : wrongF c ⟨2, po, v, (a, n), d⟩ = 2 := by
        unfold wrongF okE
        simp
        omega
      have HR := Lib.hid hr
      clear hr
      go_wp2_with fail
      go_ret
      exact ⟨by rw [HR.out]; rfl, HBE.out⟩
  · have hr : wrongF c ⟨2, po, v, (a, n), d⟩ = 2 := by
      unfold wrongF okE
      simp
      omega
    have HR := Lib.hid hr
    clear hr
    go_wp2_with fail
    go_ret
    exact ⟨by rw [HR.out]; rfl, HBE.out⟩
set_option maxRecDepth 100000 in
set_option maxHeartbeats 8000000 in
attribute [-go_sem] Instr.storeAt Instr.loadAt in
theorem wrong_o {w : World} {cb mb : Nat} {ov : Value} {room : Int} {c : Pc} (h : Blk w cb 81 (coC room c mb ov)) {k : Int} (po v d : Int) (p : Pf) (hp : p.1 < 2 ^ 32) (h1 : k ≠ 1) (h2 : k ≠ 2) (h3 : k ≠ 3) (h4 : k ≠ 4) (h5 : k ≠ 5) :
    Calls Try.prog 28 #[.pointer (some ⟨cb, 0, none⟩), .agg #[.int .i64 k, .int .i64 po, .int .i64 v, .int .u32 (p.1 : Int), .int .i64 p.2, .int .i64 d]] w (WrPost c ⟨k, po, v, p, d⟩ w) := by
  obtain ⟨a, n⟩ := p
  dsimp only at hp ⊢
  obtain ⟨W1, hW1⟩ : ∃ Z, Z = w.alloc (.cells #[.int .i64 k, .int .i64 po, .int .i64 v, .int .u32 (a : Int), .int .i64 n, .int .i64 d] 38) := ⟨_, rfl⟩
  have hb1 : Below w.heap.size w W1 := by rw [hW1]; exact (Below.refl _ _).alloc (Nat.le_refl _) _
  have hke : Blk W1 w.heap.size 38 (evI k po v a n d) := by rw [hW1]; exact Blk.new _ _ _
  have hc1 := h.below hb1 h.lt
  obtain ⟨W2, hW2⟩ : ∃ Z, Z = W1.alloc (.cells #[.int .i64 k, .int .i64 po, .int .i64 0, .int .u32 0, .int .i64 0, .int .i64 0] 38) := ⟨_, rfl⟩
  have hb2 : Below W1.heap.size W1 W2 := by rw [hW2]; exact (Below.refl _ _).alloc (Nat.le_refl _) _
  have hw2 : Blk W2 W1.heap.size 38 (evI k po 0 0 0 0) := by rw [hW2]; exact Blk.new _ _ _
  have sp := st_ev_new W1 k po
  rw [← hW2] at sp
  have f1k := ev_k hke
  have f1p := ld_iC (w := W1) (b := w.heap.size) (o := 1) (z := po) (hke.cell 1)
  have hk2 := hke.below hb2 hke.lt
  have HC2 := Lib.hid (hc1.below hb2 hc1.lt)
  have HK2 := Lib.hid hk2
  have HW2 := Lib.hid hw2
  have HB2 := Lib.hid (hb1.trans (hb2.mono hb1.size))
  have HNE := Lib.hid (show w.heap.size ≠ W1.heap.size from Nat.ne_of_lt hke.lt)
  have HLT := Lib.hid (show w.heap.size < W1.heap.size from hke.lt)
  have HW1 := Lib.hid hW1
  have HPP := Lib.hid hp
  have HCL := Lib.hid (show cb < w.heap.size from h.lt)
  clear hW1 hb1 hc1 hke hW2 hb2 hw2 h hp hk2
  obtain ⟨gw, hgw⟩ : ∃ x, x = W1.heap.size := ⟨_, rfl⟩
  rw [← hgw] at HW2 HNE HLT sp
  have HGW := Lib.hid hgw
  subst hgw
  have HBE := Lib.hid HB2.out
  have hr : wrongF c ⟨k, po, v, (a, n), d⟩ = 2 := by
    unfold wrongF okE
    simp [h1, h2, h3, h4, h5]
  have f2k := ev_k HK2.out
  have f2p := ld_iC (w := W2) (b := w.heap.size) (o := 1) (z := po) (HK2.out.cell 1)
  have f2v := ld_iC (w := W2) (b := w.heap.size) (o := 2) (z := v) (HK2.out.cell 2)
  have f2d := ld_iC (w := W2) (b := w.heap.size) (o := 5) (z := d) (HK2.out.cell 5)
  have f2e := ev_all HK2.out
  go_enter Try.func28, Try.ntmps28
  go_upto_region 1 with (fail)
  rw [← HW1.out]
  have HR := Lib.hid hr
  clear hr
  by_cases h0 : 0 ≤ po
  · by_cases h8 : po < 8
    · go_wp2_with fail
      go_ret
      exact ⟨by rw [HR.out]; rfl, HBE.out⟩
    · go_wp2_with fail
      go_ret
      exact ⟨by rw [HR.out]; rfl, HBE.out⟩
  · go_wp2_with fail
    go_ret
    exact ⟨by rw [HR.out]; rfl, HBE.out⟩
set_option maxRecDepth 100000 in
set_option maxHeartbeats 8000000 in
attribute [-go_sem] Instr.storeAt Instr.loadAt in
theorem wrong_1 {w : World} {cb mb : Nat} {ov : Value} {room : Int} {c : Pc} (h : Blk w cb 81 (coC room c mb ov))  (po v d : Int) (p : Pf) (hp : p.1 < 2 ^ 32)  :
    Calls Try.prog 28 #[.pointer (some ⟨cb, 0, none⟩), .agg #[.int .i64 1, .int .i64 po, .int .i64 v, .int .u32 (p.1 : Int), .int .i64 p.2, .int .i64 d]] w (WrPost c ⟨1, po, v, p, d⟩ w) := by
  obtain ⟨a, n⟩ := p
  dsimp only at hp ⊢
  obtain ⟨W1, hW1⟩ : ∃ Z, Z = w.alloc (.cells #[.int .i64 1, .int .i64 po, .int .i64 v, .int .u32 (a : Int), .int .i64 n, .int .i64 d] 38) := ⟨_, rfl⟩
  have hb1 : Below w.heap.size w W1 := by rw [hW1]; exact (Below.refl _ _).alloc (Nat.le_refl _) _
  have hke : Blk W1 w.heap.size 38 (evI 1 po v a n d) := by rw [hW1]; exact Blk.new _ _ _
  have hc1 := h.below hb1 h.lt
  obtain ⟨W2, hW2⟩ : ∃ Z, Z = W1.alloc (.cells #[.int .i64 1, .int .i64 po, .int .i64 0, .int .u32 0, .int .i64 0, .int .i64 0] 38) := ⟨_, rfl⟩
  have hb2 : Below W1.heap.size W1 W2 := by rw [hW2]; exact (Below.refl _ _).alloc (Nat.le_refl _) _
  have hw2 : Blk W2 W1.heap.size 38 (evI 1 po 0 0 0 0) := by rw [hW2]; exact Blk.new _ _ _
  have sp := st_ev_new W1 1 po
  rw [← hW2] at sp
  have f1k := ev_k hke
  have f1p := ld_iC (w := W1) (b := w.heap.size) (o := 1) (z := po) (hke.cell 1)
  have hk2 := hke.below hb2 hke.lt
  have HC2 := Lib.hid (hc1.below hb2 hc1.lt)
  have HK2 := Lib.hid hk2
  have HW2 := Lib.hid hw2
  have HB2 := Lib.hid (hb1.trans (hb2.mono hb1.size))
  have HNE := Lib.hid (show w.heap.size ≠ W1.heap.size from Nat.ne_of_lt hke.lt)
  have HLT := Lib.hid (show w.heap.size < W1.heap.size from hke.lt)
  have HW1 := Lib.hid hW1
  have HPP := Lib.hid hp
  have HCL := Lib.hid (show cb < w.heap.size from h.lt)
  clear hW1 hb1 hc1 hke hW2 hb2 hw2 h hp hk2
  obtain ⟨gw, hgw⟩ : ∃ x, x = W1.heap.size := ⟨_, rfl⟩
  rw [← hgw] at HW2 HNE HLT sp
  have HGW := Lib.hid hgw
  subst hgw
  have st := st_iC (HW2.out.cell 2) (HW2.out.frozen 2) v
  obtain ⟨W3, hW3⟩ : ∃ Z, Z = W2.setCell ⟨W1.heap.size, 2, none⟩ (.int .i64 v) := ⟨_, rfl⟩
  rw [← hW3] at st
  have HW3 := Lib.hid (show Blk W3 W1.heap.size 38 (evI 1 po v 0 0 0) by rw [hW3]; exact HW2.out.set_ 2 _)
  have HK3 := Lib.hid (show Blk W3 w.heap.size 38 (evI 1 po v a n d) by rw [hW3]; exact HK2.out.far (p := ⟨W1.heap.size, 2, none⟩) HNE.out _)
  have HC3 := Lib.hid (show Blk W3 cb 81 (coC room c mb ov) by rw [hW3]; exact HC2.out.far (p := ⟨W1.heap.size, 2, none⟩) (Nat.ne_of_lt (Nat.lt_trans HCL.out HLT.out)) _)
  have HBE := Lib.hid (show Below w.heap.size w W3 by rw [hW3]; exact HB2.out.setCell (p := ⟨W1.heap.size, 2, none⟩) (Nat.le_of_lt HLT.out) _)
  clear hW3
  have f2k := ev_k HK2.out
  have f2p := ld_iC (w := W2) (b := w.heap.size) (o := 1) (z := po) (HK2.out.cell 1)
  have f2v := ld_iC (w := W2) (b := w.heap.size) (o := 2) (z := v) (HK2.out.cell 2)
  have f2d := ld_iC (w := W2) (b := w.heap.size) (o := 5) (z := d) (HK2.out.cell 5)
  have f2e := ev_all HK2.out
  have f3k := ev_k HK3.out
  have f3p := ld_iC (w := W3) (b := w.heap.size) (o := 1) (z := po) (HK3.out.cell 1)
  have f3v := ld_iC (w := W3) (b := w.heap.size) (o := 2) (z := v) (HK3.out.cell 2)
  have f3d := ld_iC (w := W3) (b := w.heap.size) (o := 5) (z := d) (HK3.out.cell 5)
  have f3e := ev_all HK3.out
  have f3w := ev_all HW3.out
  obtain ⟨eb, heb⟩ : ∃ b : Bool, b = ((1 : Int) == 1 && po == po && v == v && (a : Int) == 0 && n == 0 && d == 0) := ⟨_, rfl⟩
  have qe := fun wx => ev_eq 1 po v a n d 1 po v 0 0 0 wx
  rw [← heb] at qe
  have HEB := Lib.hid heb
  clear heb
  go_enter Try.func28, Try.ntmps28
  go_upto_region 1 with (fail)
  rw [← HW1.out]
  by_cases h0 : 0 ≤ po
  · by_cases h8 : po < 8
    · by_cases hv1 : 1 ≤ v
      · by_cases hv2 : v ≤ 50
        · cases eb with
          | false =>
            have hr : wrongF c ⟨1, po, v, (a, n), d⟩ = 2 := by
              have := HEB.out
              unfold wrongF okE
              simp at this ⊢
              omega
            have HR := Lib.hid hr
            clear hr
            go_wp2_with fail
            go_ret
            exact ⟨by rw [HR.out]; rfl, HBE.out⟩
          | true =>
            obtain ⟨q, rfl⟩ : ∃ q : Nat, po = q := ⟨po.toNat, by omega⟩
            have hq : q < 8 := by omega
            have hok : okE ⟨1, (q : Int), v, (a, n), d⟩ = true := by
              have := HEB.out
              unfold okE
              simp at this ⊢
              omega
            have HOK := Lib.hid hok
            have HQ := Lib.hid hq
            clear hok
            go_upto_region 18 with (fail)
            clear f2k f2p f2v f2d f2e f3k f3p f3v f3d f3e
            have r1 := fun n => ev_k (w := W3.drewN n) (HK3.out.below (below_drewN W3 n) HK3.out.lt)
            have r2 := fun n => ld_iC (w := W3.drewN n) (b := w.heap.size) (o := 1) (z := (q : Int)) ((HK3.out.below (below_drewN W3 n) HK3.out.lt).cell 1)
            have hr : wrongF c ⟨1, (q : Int), v, (a, n), d⟩ = 0 := by
              unfold wrongF
              rw [HOK.out]
              simp
            have HR := Lib.hid hr
            clear hr
            go_quiet (fail)
            clear r1 r2
            go_wp2_with fail
            go_ret
            exact ⟨by rw [HR.out]; rfl, HBE.out.trans ((below_drewN W3 nq).mono HBE.out.size)⟩
        · have hr : wrongF c ⟨1, po, v, (a, n), d⟩ = 2 := by
            unfold wrongF okE
            simp
            omega
          have HR := Lib.hid hr
          clear hr
          go_wp2_with fail
          go_ret
          exact ⟨by rw [HR.out]; rfl, HBE.out⟩
      · have hr : wrongF c ⟨1, po, v, (a, n), d⟩ = 2 := by
          unfold wrongF okE
          simp
          omega
        have HR := Lib.hid hr
        clear hr
        go_wp2_with fail
        go_ret
        exact ⟨by rw [HR.out]; rfl, HBE.out⟩
    · have hr : wrongF c ⟨1, po, v, (a, n), d⟩ = 2 := by
        unfold wrongF okE
        simp
        omega
      have HR := Lib.hid hr
      clear hr
      go_wp2_with fail
      go_ret
      exact ⟨by rw [HR.out]; rfl, HBE.out⟩
  · have hr : wrongF c ⟨1, po, v, (a, n), d⟩ = 2 := by
      unfold wrongF okE
      simp
      omega
    have HR := Lib.hid hr
    clear hr
    go_wp2_with fail
    go_ret
    exact ⟨by rw [HR.out]; rfl, HBE.out⟩
set_option maxRecDepth 100000 in
set_option maxHeartbeats 8000000 in
attribute [-go_sem] Instr.storeAt Instr.loadAt in
theorem wrong_3 {w : World} {cb mb : Nat} {ov : Value} {room : Int} {c : Pc} (h : Blk w cb 81 (coC room c mb ov))  (po v d : Int) (p : Pf) (hp : p.1 < 2 ^ 32)  :
    Calls Try.prog 28 #[.pointer (some ⟨cb, 0, none⟩), .agg #[.int .i64 3, .int .i64 po, .int .i64 v, .int .u32 (p.1 : Int), .int .i64 p.2, .int .i64 d]] w (WrPost c ⟨3, po, v, p, d⟩ w) := by
  obtain ⟨a, n⟩ := p
  dsimp only at hp ⊢
  obtain ⟨W1, hW1⟩ : ∃ Z, Z = w.alloc (.cells #[.int .i64 3, .int .i64 po, .int .i64 v, .int .u32 (a : Int), .int .i64 n, .int .i64 d] 38) := ⟨_, rfl⟩
  have hb1 : Below w.heap.size w W1 := by rw [hW1]; exact (Below.refl _ _).alloc (Nat.le_refl _) _
  have hke : Blk W1 w.heap.size 38 (evI 3 po v a n d) := by rw [hW1]; exact Blk.new _ _ _
  have hc1 := h.below hb1 h.lt
  obtain ⟨W2, hW2⟩ : ∃ Z, Z = W1.alloc (.cells #[.int .i64 3, .int .i64 po, .int .i64 0, .int .u32 0, .int .i64 0, .int .i64 0] 38) := ⟨_, rfl⟩
  have hb2 : Below W1.heap.size W1 W2 := by rw [hW2]; exact (Below.refl _ _).alloc (Nat.le_refl _) _
  have hw2 : Blk W2 W1.heap.size 38 (evI 3 po 0 0 0 0) := by rw [hW2]; exact Blk.new _ _ _
  have sp := st_ev_new W1 3 po
  rw [← hW2] at sp
  have f1k := ev_k hke
  have f1p := ld_iC (w := W1) (b := w.heap.size) (o := 1) (z := po) (hke.cell 1)
  have hk2 := hke.below hb2 hke.lt
  have HC2 := Lib.hid (hc1.below hb2 hc1.lt)
  have HK2 := Lib.hid hk2
  have HW2 := Lib.hid hw2
  have HB2 := Lib.hid (hb1.trans (hb2.mono hb1.size))
  have HNE := Lib.hid (show w.heap.size ≠ W1.heap.size from Nat.ne_of_lt hke.lt)
  have HLT := Lib.hid (show w.heap.size < W1.heap.size from hke.lt)
  have HW1 := Lib.hid hW1
  have HPP := Lib.hid hp
  have HCL := Lib.hid (show cb < w.heap.size from h.lt)
  clear hW1 hb1 hc1 hke hW2 hb2 hw2 h hp hk2
  obtain ⟨gw, hgw⟩ : ∃ x, x = W1.heap.size := ⟨_, rfl⟩
  rw [← hgw] at HW2 HNE HLT sp
  have HGW := Lib.hid hgw
  subst hgw
  have st := st_iC (HW2.out.cell 2) (HW2.out.frozen 2) v
  obtain ⟨W3, hW3⟩ : ∃ Z, Z = W2.setCell ⟨W1.heap.size, 2, none⟩ (.int .i64 v) := ⟨_, rfl⟩
  rw [← hW3] at st
  have HW3 := Lib.hid (show Blk W3 W1.heap.size 38 (evI 3 po v 0 0 0) by rw [hW3]; exact HW2.out.set_ 2 _)
  have HK3 := Lib.hid (show Blk W3 w.heap.size 38 (evI 3 po v a n d) by rw [hW3]; exact HK2.out.far (p := ⟨W1.heap.size, 2, none⟩) HNE.out _)
  have HC3 := Lib.hid (show Blk W3 cb 81 (coC room c mb ov) by rw [hW3]; exact HC2.out.far (p := ⟨W1.heap.size, 2, none⟩) (Nat.ne_of_lt (Nat.lt_trans HCL.out HLT.out)) _)
  have HBE := Lib.hid (show Below w.heap.size w W3 by rw [hW3]; exact HB2.out.setCell (p := ⟨W1.heap.size, 2, none⟩) (Nat.le_of_lt HLT.out) _)
  clear hW3
  have f2k := ev_k HK2.out
  have f2p := ld_iC (w := W2) (b := w.heap.size) (o := 1) (z := po) (HK2.out.cell 1)
  have f2v := ld_iC (w := W2) (b := w.heap.size) (o := 2) (z := v) (HK2.out.cell 2)
  have f2d := ld_iC (w := W2) (b := w.heap.size) (o := 5) (z := d) (HK2.out.cell 5)
  have f2e := ev_all HK2.out
  have f3k := ev_k HK3.out
  have f3p := ld_iC (w := W3) (b := w.heap.size) (o := 1) (z := po) (HK3.out.cell 1)
  have f3v := ld_iC (w := W3) (b := w.heap.size) (o := 2) (z := v) (HK3.out.cell 2)
  have f3d := ld_iC (w := W3) (b := w.heap.size) (o := 5) (z := d) (HK3.out.cell 5)
  have f3e := ev_all HK3.out
  have f3w := ev_all HW3.out
  obtain ⟨eb, heb⟩ : ∃ b : Bool, b = ((3 : Int) == 3 && po == po && v == v && (a : Int) == 0 && n == 0 && d == 0) := ⟨_, rfl⟩
  have qe := fun wx => ev_eq 3 po v a n d 3 po v 0 0 0 wx
  rw [← heb] at qe
  have HEB := Lib.hid heb
  clear heb
  go_enter Try.func28, Try.ntmps28
  go_upto_region 1 with (fail)
  rw [← HW1.out]
  by_cases h0 : 0 ≤ po
  · by_cases h8 : po < 8
    · by_cases hv1 : 1 ≤ v
      · by_cases hv2 : v ≤ 50
        · cases eb with
          | false =>
            have hr : wrongF c ⟨3, po, v, (a, n), d⟩ = 2 := by
              have := HEB.out
              unfold wrongF okE
              simp at this ⊢
              omega
            have HR := Lib.hid hr
            clear hr
            go_wp2_with fail
            go_ret
            exact ⟨by rw [HR.out]; rfl, HBE.out⟩
          | true =>
            obtain ⟨q, rfl⟩ : ∃ q : Nat, po = q := ⟨po.toNat, by omega⟩
            have hq : q < 8 := by omega
            have hok : okE ⟨3, (q : Int), v, (a, n), d⟩ = true := by
              have := HEB.out
              unfold okE
              simp at this ⊢
              omega
            have HOK := Lib.hid hok
            have HQ := Lib.hid hq
            clear hok
            go_upto_region 18 with (fail)
            clear f2k f2p f2v f2d f2e f3k f3p f3v f3d f3e
            have r1 := fun n => ev_k (w := W3.drewN n) (HK3.out.below (below_drewN W3 n) HK3.out.lt)
            have r2 := fun n => ld_iC (w := W3.drewN n) (b := w.heap.size) (o := 1) (z := (q : Int)) ((HK3.out.below (below_drewN W3 n) HK3.out.lt).cell 1)
            have r3 := fun n => ld_bC (w := W3.drewN n) (b := cb) (o := 1 + q) (z := c.up q) (((HC3.out.below (below_drewN W3 n) HC3.out.lt).cell (1 + q)).trans (coC_up _ _ _ _ HQ.out))
            obtain ⟨u, hu⟩ : ∃ u, u = c.up q := ⟨_, rfl⟩
            rw [← hu] at r3
            have HU := Lib.hid hu
            clear hu
            cases u with
            | false =>
              have hr : wrongF c ⟨3, (q : Int), v, (a, n), d⟩ = 7 := by
                unfold wrongF
                rw [HOK.out]
                have := HU.out
                simp [← this]
              have HR := Lib.hid hr
              clear hr
              go_quiet (fail)
              clear r1 r2 r3
              go_wp2_with fail
              go_ret
              exact ⟨by rw [HR.out]; rfl, HBE.out.trans ((below_drewN W3 nq).mono HBE.out.size)⟩
            | true =>
              have hr : wrongF c ⟨3, (q : Int), v, (a, n), d⟩ = 0 := by
                unfold wrongF
                rw [HOK.out]
                have := HU.out
                simp [← this]
              have HR := Lib.hid hr
              clear hr
              go_quiet (fail)
              clear r1 r2 r3
              go_wp2_with fail
              go_ret
              exact ⟨by rw [HR.out]; rfl, HBE.out.trans ((below_drewN W3 nq).mono HBE.out.size)⟩
        · have hr : wrongF c ⟨3, po, v, (a, n), d⟩ = 2 := by
            unfold wrongF okE
            simp
            omega
          have HR := Lib.hid hr
          clear hr
          go_wp2_with fail
          go_ret
          exact ⟨by rw [HR.out]; rfl, HBE.out⟩
      · have hr : wrongF c ⟨3, po, v, (a, n), d⟩ = 2 := by
          unfold wrongF okE
          simp
          omega
        have HR := Lib.hid hr
        clear hr
        go_wp2_with fail
        go_ret
        exact ⟨by rw [HR.out]; rfl, HBE.out⟩
    · have hr : wrongF c ⟨3, po, v, (a, n), d⟩ = 2 := by
        unfold wrongF okE
        simp
        omega
      have HR := Lib.hid hr
      clear hr
      go_wp2_with fail
      go_ret
      exact ⟨by rw [HR.out]; rfl, HBE.out⟩
  · have hr : wrongF c ⟨3, po, v, (a, n), d⟩ = 2 := by
      unfold wrongF okE
      simp
      omega
    have HR := Lib.hid hr
    clear hr
    go_wp2_with fail
    go_ret
    exact ⟨by rw [HR.out]; rfl, HBE.out⟩
end Go.Proofs.Ytahdjfegihnolaa
