/- ReassKeys' walk. -/
import Derived.Test.YtihfihehiifdkaaRvB
namespace Go.Proofs.Ytihfihehiifdkaa
open Go.RowKit Go.Sort
def RkΦ (H : Array Value) (X : By) (w w8 : World) (tb mb : Nat) (T : List Fl) : Nat → Value → World → Prop
  | 0, u, _ => u = .pointer (some ⟨tb, 0, none⟩)
  | 1, u, _ => u = .agg H
  | 2, u, wz => Sl8 wz (fun _ => True) u z8
  | 3, u, wz => Sl8 wz (fun _ => True) u X
  | 4, u, wz => ∃ A c G, u = .tuple #[.slice A 0 c, .int .i64 0] ∧ TkS w w8 tb mb G wz ∧ G.map GF.f = T
  | 5, u, _ => ∃ A c, u = .tuple #[.slice A 0 c, .int .i64 0]
  | 6, u, _ => ∃ A c, u = .slice A 0 c
  | 7, u, _ => u = .int .i64 0
  | 8, u, _ => ∃ A c, u = .slice A 0 c
  | 9, u, _ => u = .int .i64 0
  | _, _, _ => True
theorem RkΦ.keep {H : Array Value} {X : By} {w w8 wx wy : World} {tb mb : Nat} {T : List Fl} (hb : Below wx.heap.size wx wy) : ∀ j u, RkΦ H X w w8 tb mb T j u wx → RkΦ H X w w8 tb mb T j u wy := by
  intro j u h
  unfold RkΦ at h ⊢
  split at h
  all_goals first
    | exact h
    | exact Sl8.below h hb
    | (obtain ⟨A, c, G, e, h1, h2⟩ := h; exact ⟨A, c, G, e, h1.keep hb, h2⟩)
theorem RkΦ.bare {H : Array Value} {X : By} {w w8 wx wy : World} {tb mb : Nat} {T : List Fl} : ∀ j u, j ≠ 2 → j ≠ 3 → j ≠ 4 → RkΦ H X w w8 tb mb T j u wx → RkΦ H X w w8 tb mb T j u wy := by
  intro j u h2 h3 h4 h
  unfold RkΦ at h ⊢
  split at h
  all_goals first
    | exact h
    | omega
def RkΨ (H : Array Value) (w w8 : World) (tb mb : Nat) (j : Nat) (wx : World) : Prop := (j = 4 → TkS w w8 tb mb [] wx) ∧ (j = 1 → Blk wx w.heap.size 32 H)
theorem RkΨ.keep {H : Array Value} {w w8 wx wy : World} {tb mb : Nat} (hb : Below wx.heap.size wx wy) {j : Nat} (h : RkΨ H w w8 tb mb j wx) : RkΨ H w w8 tb mb j wy := ⟨fun e => (h.1 e).keep hb, fun e => (h.2 e).below hb (h.2 e).lt⟩
def rkDead (i j : Nat) : Bool := i == 4 && (j == 2 || j == 3)
def fstH (h : Hd) : Hd := { h with mf := true, off := 0 }
def sndH (h : Hd) : Hd := { h with mf := false, off := 1 }
set_option maxRecDepth 100000 in
set_option maxHeartbeats 16000000 in
attribute [-go_sem] Instr.storeAt Instr.loadAt in
theorem reasskeys_any (h0 o0 : Hd) (v1 v2 : Value) (Ap : Option Addr) (np cp : Nat) (p : By) (w : World) (hv1 : Sl8 w (fun k => k < w.heap.size) v1 h0.opts) (hv2 : Sl8 w (fun k => k < w.heap.size) v2 o0.opts) (hok1 : h0.ok) (hok2 : o0.ok)
    (hp : Reads w (fun k => k < w.heap.size) 1 Ap np (bytesV p)) (hpn : p.length = np) (hpc : np ≤ cp) :
    Calls Try.prog 9 #[hdV h0 v1, hdV o0 v2, .slice Ap np cp] w fun e w' => e = .returned (.bool true) ∧ Below w.heap.size w w' := by
  obtain ⟨Ao, co, rfl, hoc, hro⟩ := hv1
  obtain ⟨Aq, cq, rfl, hqc, hrq⟩ := hv2
  obtain ⟨W, hW⟩ : ∃ W, W = (w.alloc (.cells (hdC h0 (.slice Ao h0.opts.length co)) 32)).alloc (.cells (hdC o0 (.slice Aq o0.opts.length cq)) 32) := ⟨_, rfl⟩
  have hb0 : Below w.heap.size w W := by rw [hW]; exact ((Below.refl _ _).alloc (Nat.le_refl _) _).alloc (by simp) _
  have hk0 : Blk W w.heap.size 32 (hdC h0 (.slice Ao h0.opts.length co)) := by rw [hW]; exact (Blk.new _ _ _).alloc _
  have hj0 : Blk W (w.heap.size + 1) 32 (hdC o0 (.slice Aq o0.opts.length cq)) := by
    rw [hW]
    have := Blk.new (w.alloc (.cells (hdC h0 (.slice Ao h0.opts.length co)) 32)) 32 (hdC o0 (.slice Aq o0.opts.length cq))
    simpa using this
  have HSO := Lib.hid (show ∀ wx, Below w.heap.size w wx → Sl8 wx (fun k => k < w.heap.size) (.slice Ao h0.opts.length co) h0.opts from fun wx hb => ⟨Ao, co, rfl, hoc, hro.keep (Same.ofBelow hb fun k hk => hk)⟩)
  have HSQ := Lib.hid (show ∀ wx, Below w.heap.size w wx → Sl8 wx (fun k => k < w.heap.size) (.slice Aq o0.opts.length cq) o0.opts from fun wx hb => ⟨Aq, cq, rfl, hqc, hrq.keep (Same.ofBelow hb fun k hk => hk)⟩)
  have HP := Lib.hid (show ∀ wx, Below w.heap.size w wx → Sl8 wx (fun k => k < w.heap.size) (.slice Ap np cp) p from fun wx hb => ⟨Ap, cp, by rw [hpn], by rw [hpn]; exact hpc, by rw [hpn]; exact hp.keep (Same.ofBelow hb fun k hk => hk)⟩)
  have HPN := Lib.hid hpn
  have HOK1 := Lib.hid hok1
  have HOK2 := Lib.hid hok2
  have HB0 := Lib.hid hb0
  have HK0 := Lib.hid hk0
  have HJ0 := Lib.hid hj0
  have HW := Lib.hid hW
  have HKN := Lib.hid (fun wx => known16_any wx)
  have HNM := Lib.hid (fun n wx => num16_any n wx)
  obtain ⟨g1, hg1⟩ : ∃ g, g = w.heap.size + 1 := ⟨_, rfl⟩
  rw [← hg1] at HJ0
  have HG1 := Lib.hid hg1
  unfold hdC at HW
  clear hoc hro hqc hrq hb0 hk0 hj0 hW hp hpn hpc hok1 hok2 hg1
  unfold hdV
  go_enter Try.func9, Try.ntmps9
  go_upto_region 1 with (fail)
  rw [← HW.out, ← HG1.out]
  have HKY := Lib.hid (fun wx => key_any h0 (.slice Ao h0.opts.length co) wx)
  have HKZ := Lib.hid (fun wx => key_any o0 (.slice Aq o0.opts.length cq) wx)
  have HRY := Lib.hid (fun wx => rkey_any h0 (.slice Ao h0.opts.length co) wx)
  have HRZ := Lib.hid (fun wx => rkey_any o0 (.slice Aq o0.opts.length cq) wx)
  simp only [hdV_eq] at HKY HKZ HRY HRZ
  have l0 := hd_load HK0.out rfl
  obtain ⟨k1, hk1⟩ : ∃ k, k = keyF h0 := ⟨_, rfl⟩
  obtain ⟨k2, hk2⟩ : ∃ k, k = keyF o0 := ⟨_, rfl⟩
  rw [← hk1] at HKY HRY
  rw [← hk2] at HKZ HRZ
  have HE1 := Lib.hid hk1
  have HE2 := Lib.hid hk2
  clear hk1 hk2
  go_upto_region 2 with
    (go_at_call 44
     refine (HKY.out _).mono ?_
     rintro e w1 ⟨rfl, hb1⟩
     obtain ⟨w2, hs2, hb2, hb12, hkp⟩ := pc_var (HB0.out.trans (hb1.mono HB0.out.size)) (Nat.le_trans HB0.out.size hb1.size) k1
     have HB2 := Lib.hid hb2
     have HK2 := Lib.hid ((HK0.out.below hb1 HK0.out.lt).below hb12 (Nat.lt_of_lt_of_le HK0.out.lt hb1.size))
     have HJ2 := Lib.hid ((HJ0.out.below hb1 HJ0.out.lt).below hb12 (Nat.lt_of_lt_of_le HJ0.out.lt hb1.size))
     have HP2 := Lib.hid hkp
     have HG2 := Lib.hid (Nat.le_trans HB0.out.size hb1.size)
     have hn1 := HK0.out.lt
     have hn2 := HJ0.out.lt
     have hn3 := hb1.size
     have HNE := Lib.hid (show w.heap.size ≠ w1.heap.size ∧ g1 ≠ w1.heap.size ∧ w.heap.size ≠ g1 from by have := HG1.out; omega)
     have hs3 : (Instr.storeAt 68 (.pointer (some ⟨w1.heap.size, 0, none⟩)) (pcV k1)).run Try.prog (w1.alloc (.cells #[.int .u32 0, .int .u32 0, .int .u8 0, .int .u16 0] 68)) = .ok () w2 := hs2
     clear hb1 hb2 hb12 hkp hn1 hn2 hn3 hs2)
  clear hs3 l0
  obtain ⟨gp, hgp⟩ : ∃ g, g = w1.heap.size := ⟨_, rfl⟩
  rw [← hgp] at HP2 HNE HG2 ⊢
  clear hgp
  have x1 := fun (dd : Nat) (os : Array Obj) => (show _ = Result.ok (pcV k1) _ from pc_load (HP2.out.below (below_regrown w2 dd os) HP2.out.lt) rfl)
  have x2 := fun (dd : Nat) (os : Array Obj) => hd_load (HK2.out.below (below_regrown w2 dd os) HK2.out.lt) rfl
  have x3 := fun (dd : Nat) (os : Array Obj) => hd_load (HJ2.out.below (below_regrown w2 dd os) HJ2.out.lt) rfl
  have c1 := fun (dd : Nat) (os : Array Obj) => Calls.regrown_of (HRY.out (grow (redrawn w2 dd) os))
  have c2 := fun (dd : Nat) (os : Array Obj) => Calls.regrown_of (HKZ.out (grow (redrawn w2 dd) os))
  have c3 := fun (dd : Nat) (os : Array Obj) => Calls.regrown_of (HRZ.out (grow (redrawn w2 dd) os))
  have n1 := fun wx => neq_pc k1 k1 wx
  have n2 := fun wx => neq_pc k2 k2 wx
  have n3 := fun x y wx => ng_pc x y k1 k1 wx
  have n4 := fun x y wx => ng_pc x y k2 k2 wx
  simp only [decide_true, Bool.not_true] at n1 n2
  refine wp_region_quiet_below (by kernel_rfl) (by kernel_rfl) ?_
  repeat (go_big_quiet_step (first | with_reducible exact c1 _ _ | with_reducible exact c2 _ _ | with_reducible exact c3 _ _))
  refine wpQuiet_nil ?_
  intro _ hw'
  obtain ⟨⟨dq, osq⟩, hw''⟩ := hw'
  subst hw''
  have hbq := below_regrown w2 dq osq
  have HB3 := Lib.hid (HB2.out.trans (hbq.mono HB2.out.size))
  have HK3 := Lib.hid (HK2.out.below hbq HK2.out.lt)
  have HJ3 := Lib.hid (HJ2.out.below hbq HJ2.out.lt)
  have HP3 := Lib.hid (HP2.out.below hbq HP2.out.lt)
  clear x1 x2 x3 c1 c2 c3 n1 n2 n3 n4 hbq
  generalize grow (redrawn w2 dq) osq = w3 at HB3 HK3 HJ3 HP3 ⊢
  -- four stores
  have s3 := st_boolv (HK3.out.cell 4) (HK3.out.frozen 4) true
  obtain ⟨V1, hV1⟩ : ∃ Z, Z = w3.setCell ⟨w.heap.size, 4, none⟩ (.bool true) := ⟨_, rfl⟩
  have hk4 : Blk V1 w.heap.size 32 (hdC { h0 with mf := true } (.slice Ao h0.opts.length co)) := by rw [hV1]; exact HK3.out.set_ 4 _
  have s4 := st_int (hk4.cell 5) (hk4.frozen 5) 0
  obtain ⟨V2, hV2⟩ : ∃ Z, Z = V1.setCell ⟨w.heap.size, 5, none⟩ (.int .i64 0) := ⟨_, rfl⟩
  have hk5 : Blk V2 w.heap.size 32 (hdC (fstH h0) (.slice Ao h0.opts.length co)) := by rw [hV2]; exact hk4.set_ 5 _
  have hu2 : Upd (only w.heap.size) w3 V2 := by rw [hV2, hV1]; exact ((Upd.refl _ _).set_ 4 _).set_ 5 _
  have hj5 : Blk V2 g1 32 (hdC o0 (.slice Aq o0.opts.length cq)) := (hu2.block _ HJ3.out.lt (fun e => HNE.out.2.2 e.symm)).trans HJ3.out
  have s5 := st_boolv (hj5.cell 4) (hj5.frozen 4) false
  obtain ⟨V3, hV3⟩ : ∃ Z, Z = V2.setCell ⟨g1, 4, none⟩ (.bool false) := ⟨_, rfl⟩
  have hj6 : Blk V3 g1 32 (hdC { o0 with mf := false } (.slice Aq o0.opts.length cq)) := by rw [hV3]; exact hj5.set_ 4 _
  have s6 := st_int (hj6.cell 5) (hj6.frozen 5) 1
  obtain ⟨V4, hV4⟩ : ∃ Z, Z = V3.setCell ⟨g1, 5, none⟩ (.int .i64 1) := ⟨_, rfl⟩
  have hj7 : Blk V4 g1 32 (hdC (sndH o0) (.slice Aq o0.opts.length cq)) := by rw [hV4]; exact hj6.set_ 5 _
  have hu4 : Upd (only g1) V2 V4 := by rw [hV4, hV3]; exact ((Upd.refl _ _).set_ 4 _).set_ 5 _
  have hk7 : Blk V4 w.heap.size 32 (hdC (fstH h0) (.slice Ao h0.opts.length co)) := (hu4.block _ hk5.lt HNE.out.2.2).trans hk5
  have hp7 : Blk V4 gp 68 (pcC k1) := by
    have e1 : Blk V2 gp 68 (pcC k1) := (hu2.block _ HP3.out.lt (fun e => HNE.out.1 e.symm)).trans HP3.out
    exact (hu4.block _ e1.lt (fun e => HNE.out.2.1 e.symm)).trans e1
  have hb2 : Below w.heap.size w V2 := HB3.out.trans (hu2.below (fun k (hk : k = _) => by omega) HB3.out.size)
  have hb4 : Below w.heap.size w V4 := hb2.trans (hu4.below (fun k (hk : k = _) => by have := HG1.out; omega) hb2.size)
  rw [← hV1] at s3
  rw [← hV2] at s4
  rw [← hV3] at s5
  rw [← hV4] at s6
  have HB4 := Lib.hid hb4
  have HK4 := Lib.hid hk7
  have HJ4 := Lib.hid hj7
  have HP4 := Lib.hid hp7
  clear hV1 hV2 hV3 hV4 hk4 hk5 hu2 hj5 hj6 hj7 hu4 hk7 hp7 hb2 hb4 HK2 HK3 HJ2 HJ3 HP2 HP3
  go_upto_region 5 with (fail)
  clear s3 s4 s5 s6
  obtain ⟨h, hh⟩ : ∃ h, h = fstH h0 := ⟨_, rfl⟩
  obtain ⟨o, ho⟩ : ∃ h, h = sndH o0 := ⟨_, rfl⟩
  have hf1 : h.opts = h0.opts ∧ h.ok ∧ h.mf = true ∧ h.off = 0 ∧ keyF h = k1 := by rw [hh]; exact ⟨rfl, HOK1.out, rfl, rfl, HE1.out.symm⟩
  have hf2 : o.opts = o0.opts ∧ o.ok ∧ o.mf = false ∧ o.off = 1 ∧ keyF o = k2 := by rw [ho]; exact ⟨rfl, HOK2.out, rfl, rfl, HE2.out.symm⟩
  rw [← hh] at HK4
  rw [← ho] at HJ4
  have HF1 := Lib.hid hf1
  have HF2 := Lib.hid hf2
  rw [← hf1.1] at HSO HK4 ⊢
  rw [← hf2.1] at HSQ HJ4 ⊢
  clear hh ho hf1 hf2
  have HKZ := Lib.hid (fun wx => key_any o (.slice Aq o.opts.length cq) wx)
  simp only [hdV_eq] at HKZ
  rw [HF2.out.2.2.2.2] at HKZ
  have l1 := fun (dd : Nat) (os : Array Obj) => hd_load (HK4.out.below (below_regrown V4 dd os) HK4.out.lt) rfl
  have l2 := fun (dd : Nat) (os : Array Obj) => hd_load (HJ4.out.below (below_regrown V4 dd os) HJ4.out.lt) rfl
  have l3 := fun (dd : Nat) (os : Array Obj) => ld8s ((HK4.out.below (below_regrown V4 dd os) HK4.out.lt).cell 10)
  have l4 := fun (dd : Nat) (os : Array Obj) => ld8s ((HJ4.out.below (below_regrown V4 dd os) HJ4.out.lt).cell 10)
  have l5 := fun (dd : Nat) (os : Array Obj) => (show _ = Result.ok (pcV k1) _ from pc_load (HP4.out.below (below_regrown V4 dd os) HP4.out.lt) rfl)
  have q3 := fun (dd : Nat) (os : Array Obj) => Calls.regrown_of (HKZ.out (grow (redrawn V4 dd) os))
  have HL := Lib.hid (And.intro l1 (And.intro l2 (And.intro l3 (And.intro l4 (And.intro l5 q3)))))
  clear l1 l2 l3 l4 l5 q3
  have hmay1 := fun (hs : h.opts.length ≤ 300) (dd : Nat) (os : Array Obj) => Calls.regrown_of (by have := rmay_any h (.slice Ao h.opts.length co) (fun k => k < w.heap.size) (grow (redrawn V4 dd) os) (HSO.out _ (HB4.out.trans ((below_regrown V4 dd os).mono HB4.out.size))) (by omega); rw [hdV_eq] at this; exact this)
  have hmay2 := fun (hs : o.opts.length ≤ 300) (dd : Nat) (os : Array Obj) => Calls.regrown_of (by have := rmay_any o (.slice Aq o.opts.length cq) (fun k => k < w.heap.size) (grow (redrawn V4 dd) os) (HSQ.out _ (HB4.out.trans ((below_regrown V4 dd os).mono HB4.out.size))) (by omega); rw [hdV_eq] at this; exact this)
  have HM1 := Lib.hid hmay1
  have HM2 := Lib.hid hmay2
  clear hmay1 hmay2
  by_cases c1 : 300 < h.opts.length
  · have d1 : decide ((300 : Int) < (h.opts.length : Int)) = true := decide_eq_true (by omega)
    clear c1
    have q1 := trivial
    have q2 := trivial
    obtain ⟨l1, l2, l3, l4, l5, q3⟩ := HL.out
    refine wp_region_quiet_below (by kernel_rfl) (by kernel_rfl) ?_
    repeat (go_big_quiet_step (first | with_reducible exact q1 _ _ | with_reducible exact q2 _ _ | with_reducible exact q3 _ _))
    refine wpQuiet_nil ?_
    intro _ hw'
    obtain ⟨⟨dq, osq⟩, hw''⟩ := hw'
    subst hw''
    have hbq := below_regrown V4 dq osq
    have HB5 := Lib.hid (HB4.out.trans (hbq.mono HB4.out.size))
    clear l1 l2 l3 l4 l5 q1 q2 q3 hbq
    generalize grow (redrawn V4 dq) osq = w5 at HB5 ⊢
    go_wp2_with (go_at_call 36; refine (HKN.out _).mono ?_; rintro e wk ⟨rfl, hbk⟩; have HBK := Lib.hid (HB5.out.trans (hbk.mono HB5.out.size)); clear hbk)
    go_ret
    exact ⟨rfl, HBK.out⟩
  have d1 : decide ((300 : Int) < (h.opts.length : Int)) = false := decide_eq_false (by omega)
  by_cases c2 : 300 < o.opts.length
  · have d2 : decide ((300 : Int) < (o.opts.length : Int)) = true := decide_eq_true (by omega)
    clear c2
    have q1 := trivial
    have q2 := trivial
    obtain ⟨l1, l2, l3, l4, l5, q3⟩ := HL.out
    refine wp_region_quiet_below (by kernel_rfl) (by kernel_rfl) ?_
    repeat (go_big_quiet_step (first | with_reducible exact q1 _ _ | with_reducible exact q2 _ _ | with_reducible exact q3 _ _))
    refine wpQuiet_nil ?_
    intro _ hw'
    obtain ⟨⟨dq, osq⟩, hw''⟩ := hw'
    subst hw''
    have hbq := below_regrown V4 dq osq
    have HB5 := Lib.hid (HB4.out.trans (hbq.mono HB4.out.size))
    clear l1 l2 l3 l4 l5 q1 q2 q3 hbq
    generalize grow (redrawn V4 dq) osq = w5 at HB5 ⊢
    go_wp2_with (go_at_call 36; refine (HKN.out _).mono ?_; rintro e wk ⟨rfl, hbk⟩; have HBK := Lib.hid (HB5.out.trans (hbk.mono HB5.out.size)); clear hbk)
    go_ret
    exact ⟨rfl, HBK.out⟩
  have d2 : decide ((300 : Int) < (o.opts.length : Int)) = false := decide_eq_false (by omega)
  by_cases c3 : 3000 < np
  · have d3 : decide ((3000 : Int) < (np : Int)) = true := decide_eq_true (by omega)
    clear c3
    have q1 := trivial
    have q2 := trivial
    obtain ⟨l1, l2, l3, l4, l5, q3⟩ := HL.out
    refine wp_region_quiet_below (by kernel_rfl) (by kernel_rfl) ?_
    repeat (go_big_quiet_step (first | with_reducible exact q1 _ _ | with_reducible exact q2 _ _ | with_reducible exact q3 _ _))
    refine wpQuiet_nil ?_
    intro _ hw'
    obtain ⟨⟨dq, osq⟩, hw''⟩ := hw'
    subst hw''
    have hbq := below_regrown V4 dq osq
    have HB5 := Lib.hid (HB4.out.trans (hbq.mono HB4.out.size))
    clear l1 l2 l3 l4 l5 q1 q2 q3 hbq
    generalize grow (redrawn V4 dq) osq = w5 at HB5 ⊢
    go_wp2_with (go_at_call 36; refine (HKN.out _).mono ?_; rintro e wk ⟨rfl, hbk⟩; have HBK := Lib.hid (HB5.out.trans (hbk.mono HB5.out.size)); clear hbk)
    go_ret
    exact ⟨rfl, HBK.out⟩
  have d3 : decide ((3000 : Int) < (np : Int)) = false := decide_eq_false (by omega)
  have q1 := HM1.out (by omega)
  have q2 := HM2.out (by omega)
  have HQ := Lib.hid (And.intro q1 q2)
  clear q1 q2
  by_cases m1 : mayH h = true
  rotate_left
  · have hm2 : mayH h = false := by simpa using m1
    obtain ⟨q1, q2⟩ := HQ.out
    rw [hm2] at q1
    clear hm2 m1
    clear c1 c2 c3
    obtain ⟨l1, l2, l3, l4, l5, q3⟩ := HL.out
    refine wp_region_quiet_below (by kernel_rfl) (by kernel_rfl) ?_
    repeat (go_big_quiet_step (first | with_reducible exact q1 _ _ | with_reducible exact q2 _ _ | with_reducible exact q3 _ _))
    refine wpQuiet_nil ?_
    intro _ hw'
    obtain ⟨⟨dq, osq⟩, hw''⟩ := hw'
    subst hw''
    have hbq := below_regrown V4 dq osq
    have HB5 := Lib.hid (HB4.out.trans (hbq.mono HB4.out.size))
    clear l1 l2 l3 l4 l5 q1 q2 q3 hbq
    generalize grow (redrawn V4 dq) osq = w5 at HB5 ⊢
    go_wp2_with (go_at_call 36; refine (HKN.out _).mono ?_; rintro e wk ⟨rfl, hbk⟩; have HBK := Lib.hid (HB5.out.trans (hbk.mono HB5.out.size)); clear hbk)
    go_ret
    exact ⟨rfl, HBK.out⟩
  by_cases m2 : mayH o = true
  rotate_left
  · have hm2 : mayH o = false := by simpa using m2
    obtain ⟨q1, q2⟩ := HQ.out
    rw [hm2] at q2
    clear hm2 m2
    rw [m1] at q1
    clear m1
    clear c1 c2 c3
    obtain ⟨l1, l2, l3, l4, l5, q3⟩ := HL.out
    refine wp_region_quiet_below (by kernel_rfl) (by kernel_rfl) ?_
    repeat (go_big_quiet_step (first | with_reducible exact q1 _ _ | with_reducible exact q2 _ _ | with_reducible exact q3 _ _))
    refine wpQuiet_nil ?_
    intro _ hw'
    obtain ⟨⟨dq, osq⟩, hw''⟩ := hw'
    subst hw''
    have hbq := below_regrown V4 dq osq
    have HB5 := Lib.hid (HB4.out.trans (hbq.mono HB4.out.size))
    clear l1 l2 l3 l4 l5 q1 q2 q3 hbq
    generalize grow (redrawn V4 dq) osq = w5 at HB5 ⊢
    go_wp2_with (go_at_call 36; refine (HKN.out _).mono ?_; rintro e wk ⟨rfl, hbk⟩; have HBK := Lib.hid (HB5.out.trans (hbk.mono HB5.out.size)); clear hbk)
    go_ret
    exact ⟨rfl, HBK.out⟩
  have hq := HQ.out
  rw [m1, m2] at hq
  have HQ2 := Lib.hid hq
  have HMAY := Lib.hid (And.intro m1 m2)
  have HLE := Lib.hid (show h.opts.length ≤ 300 ∧ o.opts.length ≤ 300 ∧ np ≤ 3000 from ⟨by omega, by omega, by omega⟩)
  clear hq m1 m2 c1 c2 c3
  by_cases hkk : k1 = k2
  · have n1 := fun wx => eql_pc k1 k2 wx
    have n2 := fun x y wx => eg_pc x y k1 k2 wx
    rw [decide_eq_true hkk] at n1
    obtain ⟨q1, q2⟩ := HQ2.out
    clear hkk
    obtain ⟨l1, l2, l3, l4, l5, q3⟩ := HL.out
    refine wp_region_quiet_below (by kernel_rfl) (by kernel_rfl) ?_
    repeat (go_big_quiet_step (first | with_reducible exact q1 _ _ | with_reducible exact q2 _ _ | with_reducible exact q3 _ _))
    refine wpQuiet_nil ?_
    intro _ hw'
    obtain ⟨⟨dq, osq⟩, hw''⟩ := hw'
    subst hw''
    have hbq := below_regrown V4 dq osq
    have HB5 := Lib.hid (HB4.out.trans (hbq.mono HB4.out.size))
    clear n1 l1 l2 l3 l4 l5 q1 q2 q3 hbq
    generalize grow (redrawn V4 dq) osq = w5 at HB5 ⊢
    go_wp2_with (go_at_call 36; refine (HKN.out _).mono ?_; rintro e wk ⟨rfl, hbk⟩; have HBK := Lib.hid (HB5.out.trans (hbk.mono HB5.out.size)); clear hbk)
    go_ret
    exact ⟨rfl, HBK.out⟩
  -- all may be
  have n1 := fun wx => eql_pc k1 k2 wx
  have n2 := fun x y wx => eg_pc x y k1 k2 wx
  rw [decide_eq_false hkk] at n1
  have HKK := Lib.hid hkk
  obtain ⟨q1, q2⟩ := HQ2.out
  clear hkk
  obtain ⟨l1, l2, l3, l4, l5, q3⟩ := HL.out
  refine wp_region_quiet_below (by kernel_rfl) (by kernel_rfl) ?_
  repeat (go_big_quiet_step (first | with_reducible exact q1 _ _ | with_reducible exact q2 _ _ | with_reducible exact q3 _ _))
  refine wpQuiet_nil ?_
  intro _ hw'
  obtain ⟨⟨dq, osq⟩, hw''⟩ := hw'
  subst hw''
  have hbq := below_regrown V4 dq osq
  have HB5 := Lib.hid (HB4.out.trans (hbq.mono HB4.out.size))
  have HK5 := Lib.hid (HK4.out.below hbq HK4.out.lt)
  have HJ5 := Lib.hid (HJ4.out.below hbq HJ4.out.lt)
  clear l1 l2 l3 l4 l5 q1 q2 q3 hbq n1 n2 d1 d2 d3
  generalize grow (redrawn V4 dq) osq = w5 at HB5 HK5 HJ5 ⊢
  go_upto_region 10 with
    (go_at_call 40
     refine (tnew_any w5).mono ?_
     rintro e w8 ⟨tb, mb, rfl, ht8, hb81, hb82, hbl8⟩
     have HTT := Lib.hid ht8
     have HTB := Lib.hid hb81
     have HMB := Lib.hid hb82
     have HB8 := Lib.hid (HB5.out.trans (hbl8.mono HB5.out.size))
     have HK8 := Lib.hid (HK5.out.below hbl8 HK5.out.lt)
     have HJ8 := Lib.hid (HJ5.out.below hbl8 HJ5.out.lt)
     have HS5 := Lib.hid hbl8.size
     unfold ptrV
     clear ht8 hb81 hb82 hbl8)
  have hmu8 : ∀ x, TbMut tb mb [] x → x = tb ∨ x = mb ∨ w8.heap.size ≤ x := fun x hx => by
    rcases hx with hx | hx | ⟨q, hq, _⟩
    · exact .inl hx
    · exact .inr (.inl hx)
    · cases hq
  have HS8 := Lib.hid (show TkS w w8 tb mb [] w8 from ⟨HTT.out, hmu8, ⟨Nat.le_refl _, fun _ _ _ => rfl⟩, Nat.le_trans HB5.out.size HTB.out, Nat.le_trans HB5.out.size HMB.out, HB8.out⟩)
  have HD8 := Lib.hid HB8.out.size
  have HNT := Lib.hid (show (w.heap.size ≠ tb ∧ w.heap.size ≠ mb) ∧ (g1 ≠ tb ∧ g1 ≠ mb) from by
    have h1 := HK5.out.lt
    have h2 := HJ5.out.lt
    have h3 := HTB.out
    have h4 := HMB.out
    omega)
  clear hmu8
  have hz8 : ∀ w : World, (Instr.makeSlice 22 (.int .i64 8) (.int .i64 8)).run Try.prog w = .ok (.slice (some ⟨w.heap.size, 0, none⟩) 8 8) (w.alloc (.cells (List.replicate 8 (Value.int .u8 0)).toArray 5)) := fun _ => by kernel_rfl
  have HFIT := Lib.hid (fits_of (h := h) (p := z8) HMAY.out.1 (by decide))
  have HT1 := Lib.hid (keys_first HF1.out.2.1 HMAY.out.1 HF1.out.2.2.1 HF1.out.2.2.2.1)
  refine wp_region_psi (by kernel_rfl) (fun p q => Below w.heap.size p q) (RkΦ (hdC h (.slice Ao h.opts.length co)) (bytesF h z8) w w8 tb mb [layF (fl0 (keyF h)) h z8]) 10 (fun _ _ => True) rkDead (RkΨ (hdC h (.slice Ao h.opts.length co)) w w8 tb mb) (by kernel_rfl) (fun p => Below.refl _ p) (fun h k => h.trans k) (fun j => ⟨fun _ => HS8.out.keep ⟨rfl, rfl, rfl, Nat.le_refl _, fun _ _ => rfl⟩, fun _ => HK8.out⟩) (oblp_of ?_) (fun o h => by cases h) ?_
  · refine ⟨fun _ => ?_, fun _ => ?_, fun _ => ?_, fun _ => ?_, fun _ => ?_, fun _ => ?_, fun _ => ?_, fun _ => ?_, fun _ => ?_, fun _ => ?_, trivial⟩
    · -- 0
      intro val wx hg hψ hd hb hs K hK
      generalize hρ : rhoV _ _ val = ρ
      have cc : ∀ u, ρ (.const u) = u := fun u => by rw [← hρ]; rfl
      have ff : ∀ u, ρ (.func u) = .func (.func u) #[] #[] := fun u => by rw [← hρ]; rfl
      have r8 : ρ (.tmp 8) = .pointer (some ⟨tb, 0, none⟩) := by rw [← hρ]; rfl
      clear hρ hd hb hs hψ
      refine ifv rfl ?_
      go_simp
      exact hK _ _ (Below.refl _ _) rfl (fun _ _ _ _ h => h) fun _ _ _ h => h
    · -- 1
      intro val wx hg hψ hd hb hs K hK
      generalize hρ : rhoV _ _ val = ρ
      have cc : ∀ u, ρ (.const u) = u := fun u => by rw [← hρ]; rfl
      have ff : ∀ u, ρ (.func u) = .func (.func u) #[] #[] := fun u => by rw [← hρ]; rfl
      have r3 : ρ (.tmp 3) = .pointer (some ⟨w.heap.size, 0, none⟩) := by rw [← hρ]; rfl
      have hl := hd_load (hψ.2 rfl) rfl
      clear hρ hd hb hs hψ
      refine ifv rfl ?_
      go_simp
      exact hK _ _ (Below.refl _ _) rfl (fun _ _ _ _ h => h) fun _ _ _ h => h
    · -- 2
      intro val wx hg hψ hd hb hs K hK
      generalize hρ : rhoV _ _ val = ρ
      have cc : ∀ u, ρ (.const u) = u := fun u => by rw [← hρ]; rfl
      have ff : ∀ u, ρ (.func u) = .func (.func u) #[] #[] := fun u => by rw [← hρ]; rfl
      have hbw : Below w.heap.size w8 wx := ⟨hg.os, hg.tape, hg.output, hg.size, hg.block⟩
      have hsz : w.heap.size ≤ wx.heap.size := Nat.le_trans HD8.out hbw.size
      have hz := hz8 wx
      have hal : Below wx.heap.size wx (wx.alloc (.cells (List.replicate 8 (Value.int .u8 0)).toArray 5)) := (Below.refl _ _).alloc (Nat.le_refl _) _
      have hrz := row_zero wx 8 (by omega)
      clear hρ hd hb hs hψ
      refine ifv rfl ?_
      go_simp
      exact hK _ _ (hal.mono hsz) (row_sl hrz) (fun j _ _ _ h => RkΦ.keep hal j _ h) fun j _ _ h => h.keep hal
    · -- 3
      intro val wx hg hψ hd hb hs K hK
      generalize hρ : rhoV _ _ val = ρ
      have cc : ∀ u, ρ (.const u) = u := fun u => by rw [← hρ]; rfl
      have ff : ∀ u, ρ (.func u) = .func (.func u) #[] #[] := fun u => by rw [← hρ]; rfl
      have r67 : ρ (.tmp 67) = .agg (hdC h (.slice Ao h.opts.length co)) := by rw [← hρ]; exact hd 1 rfl rfl
      have r68 : ρ (.tmp 68) = val 2 := by rw [← hρ]; rfl
      have p2 := hd 2 rfl rfl
      have hbw : Below w.heap.size w8 wx := ⟨hg.os, hg.tape, hg.output, hg.size, hg.block⟩
      have hsz : w.heap.size ≤ wx.heap.size := Nat.le_trans HD8.out hbw.size
      obtain ⟨A2, c2, e2, hc2, hr2⟩ : Sl8 wx (fun _ => True) (val 2) z8 := hd 2 rfl rfl
      rw [e2] at r68
      have hby := rbytes_any h (.slice Ao h.opts.length co) (.slice A2 z8.length c2) z8 (fun _ => True) wx ((HSO.out wx (HB8.out.trans hbw)).mono fun _ _ => trivial) ⟨A2, c2, rfl, hc2, hr2⟩ HF1.out.2.1 HFIT.out
      rw [hdV_eq] at hby
      clear hρ hd hb hs hψ e2 hc2 hr2
      refine ifv rfl ?_
      go_simp
      refine hby.mono ?_
      rintro e w3 ⟨v3, rfl, h3, hb3⟩
      exact ⟨_, rfl, hK _ _ (hb3.mono hsz) (row_sl h3) (fun j _ _ _ h => RkΦ.keep hb3 j _ h) fun j _ _ h => h.keep hb3⟩
    · -- 4
      intro val wx hg hψ hd hb hs K hK
      generalize hρ : rhoV _ _ val = ρ
      have cc : ∀ u, ρ (.const u) = u := fun u => by rw [← hρ]; rfl
      have ff : ∀ u, ρ (.func u) = .func (.func u) #[] #[] := fun u => by rw [← hρ]; rfl
      have r66 : ρ (.tmp 66) = .pointer (some ⟨tb, 0, none⟩) := by rw [← hρ]; exact hd 0 rfl rfl
      have r69 : ρ (.tmp 69) = val 3 := by rw [← hρ]; rfl
      have p3 := hd 3 rfl rfl
      have hbw : Below w.heap.size w8 wx := ⟨hg.os, hg.tape, hg.output, hg.size, hg.block⟩
      have hsz : w.heap.size ≤ wx.heap.size := Nat.le_trans HD8.out hbw.size
      obtain ⟨A3, c3, e3, hc3, hr3⟩ : Sl8 wx (fun _ => True) (val 3) (bytesF h z8) := hd 3 rfl rfl
      rw [e3] at r69
      have hS := hψ.1 rfl
      have htk := rtake_any tb mb [] A3 (bytesF h z8).length c3 (bytesF h z8) _ wx hS.tbm hr3 rfl hc3 (by rw [bytesF_len]; have := HLE.out.1; have : z8.length = 8 := rfl; omega)
      clear hρ hd hb hs hψ e3 hc3 hr3
      refine ifv rfl ?_
      go_simp
      refine htk.mono ?_
      intro e w3 hp
      have hu : Below w.heap.size wx w3 := by
        obtain ⟨_, _, _, _, _, _, _, _, hu, _⟩ := hp
        refine hu.below (fun b hb => ?_) hsz
        rcases hS.mu b hb with e | e | e
        · rw [e]; exact hS.b1
        · rw [e]; exact hS.b2
        · exact Nat.le_trans HD8.out e
      obtain ⟨v, G', he, hv, hg', hs', _⟩ := hS.take HD8.out hp
      subst he
      rw [show takeF (([] : List GF).map GF.f) (bytesF h z8) = _ from HT1.out] at hv hg' ⊢
      obtain ⟨A4, c4, rfl, _⟩ := hv.form
      refine ⟨_, rfl, hK _ _ hu ⟨A4, c4, G', rfl, hs', hg'⟩ (fun j hj hdd _ h => ?_) fun j hj hbk _ => ⟨fun e => absurd e hj, fun e => ?_⟩⟩
      · rcases Classical.em (j = 2) with e | e
        · subst e; exact absurd hdd (by decide)
        rcases Classical.em (j = 3) with e2 | e2
        · subst e2; exact absurd hdd (by decide)
        exact RkΦ.bare j _ e e2 hj h
      · subst e; exact Bool.noConfusion (hbk.symm.trans rfl)
    · -- 5
      intro val wx hg hψ hd hb hs K hK
      generalize hρ : rhoV _ _ val = ρ
      have cc : ∀ u, ρ (.const u) = u := fun u => by rw [← hρ]; rfl
      have ff : ∀ u, ρ (.func u) = .func (.func u) #[] #[] := fun u => by rw [← hρ]; rfl
      have r70 : ρ (.tmp 70) = val 4 := by rw [← hρ]; rfl
      have p4 := hd 4 rfl rfl
      obtain ⟨A4, c4, G4, e4, _⟩ : ∃ A c G, val 4 = .tuple #[.slice A 0 c, .int .i64 0] ∧ TkS w w8 tb mb G wx ∧ G.map GF.f = [layF (fl0 (keyF h)) h z8] := hd 4 rfl rfl
      rw [e4] at r70
      clear hρ hd hb hs hψ
      refine ifv rfl ?_
      go_simp
      exact hK _ _ (Below.refl _ _) ⟨A4, c4, rfl⟩ (fun _ _ _ _ h => h) fun _ _ _ h => h
    · -- 6
      intro val wx hg hψ hd hb hs K hK
      generalize hρ : rhoV _ _ val = ρ
      have cc : ∀ u, ρ (.const u) = u := fun u => by rw [← hρ]; rfl
      have ff : ∀ u, ρ (.func u) = .func (.func u) #[] #[] := fun u => by rw [← hρ]; rfl
      have r65 : ρ (.tmp 65) = val 5 := by rw [← hρ]; rfl
      have p5 := hd 5 rfl rfl
      obtain ⟨A4, c4, e4⟩ : ∃ A c, val 5 = .tuple #[.slice A 0 c, .int .i64 0] := hd 5 rfl rfl
      rw [e4] at r65
      clear hρ hd hb hs hψ
      refine ifv rfl ?_
      go_simp
      exact hK _ _ (Below.refl _ _) ⟨A4, c4, rfl⟩ (fun _ _ _ _ h => h) fun _ _ _ h => h
    · -- 7
      intro val wx hg hψ hd hb hs K hK
      generalize hρ : rhoV _ _ val = ρ
      have cc : ∀ u, ρ (.const u) = u := fun u => by rw [← hρ]; rfl
      have ff : ∀ u, ρ (.func u) = .func (.func u) #[] #[] := fun u => by rw [← hρ]; rfl
      have r65 : ρ (.tmp 65) = val 5 := by rw [← hρ]; rfl
      have p5 := hd 5 rfl rfl
      obtain ⟨A4, c4, e4⟩ : ∃ A c, val 5 = .tuple #[.slice A 0 c, .int .i64 0] := hd 5 rfl rfl
      rw [e4] at r65
      clear hρ hd hb hs hψ
      refine ifv rfl ?_
      go_simp
      exact hK _ _ (Below.refl _ _) rfl (fun _ _ _ _ h => h) fun _ _ _ h => h
    · -- 8
      intro val wx hg hψ hd hb hs K hK
      generalize hρ : rhoV _ _ val = ρ
      have cc : ∀ u, ρ (.const u) = u := fun u => by rw [← hρ]; rfl
      have ff : ∀ u, ρ (.func u) = .func (.func u) #[] #[] := fun u => by rw [← hρ]; rfl
      have r71 : ρ (.tmp 71) = val 6 := by rw [← hρ]; rfl
      have p6 := hd 6 rfl rfl
      obtain ⟨A4, c4, e4⟩ : ∃ A c, val 6 = .slice A 0 c := hd 6 rfl rfl
      rw [e4] at r71
      clear hρ hd hb hs hψ
      refine ifv rfl ?_
      go_simp
      exact hK _ _ (Below.refl _ _) ⟨A4, c4, rfl⟩ (fun _ _ _ _ h => h) fun _ _ _ h => h
    · -- 9
      intro val wx hg hψ hd hb hs K hK
      generalize hρ : rhoV _ _ val = ρ
      have cc : ∀ u, ρ (.const u) = u := fun u => by rw [← hρ]; rfl
      have ff : ∀ u, ρ (.func u) = .func (.func u) #[] #[] := fun u => by rw [← hρ]; rfl
      have r72 : ρ (.tmp 72) = .int .i64 0 := by rw [← hρ]; exact hd 7 rfl rfl
      clear hρ hd hb hs hψ
      refine ifv rfl ?_
      go_simp
      exact hK _ _ (Below.refl _ _) rfl (fun _ _ _ _ h => h) fun _ _ _ h => h
  intro val w10 h9
  rw [if_neg (by decide)] at h9
  obtain ⟨_, h9⟩ := h9
  have p4 : ∃ A c G, val 4 = .tuple #[.slice A 0 c, .int .i64 0] ∧ TkS w w8 tb mb G w10 ∧ G.map GF.f = [layF (fl0 (keyF h)) h z8] := h9 4 (by decide) fun i _ => by simp [rkDead]
  have p8 : ∃ A c, val 8 = .slice A 0 c := h9 8 (by decide) fun i _ => by simp [rkDead]
  have p9 : val 9 = .int .i64 0 := h9 9 (by decide) fun i _ => by simp [rkDead]
  obtain ⟨_, _, G10, _, hs10, hg10⟩ := p4
  obtain ⟨A10, c10, p8⟩ := p8
  have HG10 := Lib.hid hg10
  have HS10 := Lib.hid hs10
  simp only [putAll, p8, p9]
  simp only [Act.put, List.setIfInBounds_toArray, List.set_cons_succ, List.set_cons_zero]
  clear h9 p8 p9 hs10 hg10 hz8
  generalize val 0 = x0, val 1 = x1, val 2 = x2, val 3 = x3, val 4 = x4, val 5 = x5, val 6 = x6, val 7 = x7
  have hj10 : Blk w10 g1 32 (hdC o (.slice Aq o.opts.length cq)) := (HS10.out.sm.2 _ HNT.out.2 HJ8.out.lt).trans HJ8.out
  have rl5 := hd_load hj10 rfl
  have hfit2 := fits_of (h := o) (p := p) HMAY.out.2 (by have := HPN.out; have := HLE.out; omega)
  have hby := rbytes_any o (.slice Aq o.opts.length cq) (.slice Ap np cp) p (fun k => k < w.heap.size) w10 (HSQ.out w10 HS10.out.below) (HP.out w10 HS10.out.below) HF2.out.2.1 hfit2
  rw [hdV_eq] at hby
  have HBY := Lib.hid hby
  have hkk := HKK.out
  rw [← HF1.out.2.2.2.2, ← HF2.out.2.2.2.2] at hkk
  have hk2 := keys_second (h := h) HF2.out.2.1 HMAY.out.2 HF2.out.2.2.1 HF2.out.2.2.2.1 (p := p) (by have := HPN.out; have := HLE.out; omega) hkk
  have HT2 := Lib.hid hk2
  clear hj10 hfit2 hby hkk hk2
  have harm : True := trivial
  by_cases h0 : np = 0
  · have hp0 : p.length = 0 := by rw [HPN.out]; exact h0
    have ht2 := HT2.out
    rw [if_pos hp0] at ht2
    have HT3 := Lib.hid ht2
    clear hp0 ht2 HT2
    subst h0
    go_upto_region 12 with (first
      | (go_at_call 38
         refine HBY.out.mono ?_
         rintro e w12 ⟨v12, rfl, h12, hb12⟩
         obtain ⟨A12, c12, rfl, hc12⟩ := h12.form
         have HR12 := Lib.hid h12
         have HS12 := Lib.hid (HS10.out.keep hb12)
         have HTK2 := Lib.hid (rtake_any tb mb G10 A12 (bytesF o p).length c12 (bytesF o p) _ w12 HS12.out.tbm h12.reads.2 rfl hc12 (by rw [bytesF_len]; have := HLE.out; have := HPN.out; omega))
         clear h12 hb12 hc12)
      | (go_at_call 41
         refine HTK2.out.mono ?_
         intro e w13 hp13
         obtain ⟨v13, G13, he13, hv13, hg13, hs13, _⟩ := HS12.out.take HD8.out hp13
         subst he13
         rw [HG10.out, HT3.out] at hv13 hg13 ⊢
         obtain ⟨A13, c13, rfl, _⟩ := hv13.form
         have HE13 := Lib.hid hg13
         have hn13 := congrArg List.length hg13
         simp at hn13
         have HN13 := Lib.hid hn13
         have HS13 := Lib.hid hs13
         have HJ13 := Lib.hid (show Blk w13 g1 32 (hdC o (.slice Aq o.opts.length cq)) from (hs13.sm.2 _ HNT.out.2 HJ8.out.lt).trans HJ8.out)
         clear hp13 hv13 hg13 hs13 hn13))
    clear rl5
    go_wp2_with (first
      | (go_at_call 43; refine (HNM.out _ _).mono ?_; rintro e w' ⟨rfl, rfl⟩)
      | (go_at_call 46; refine (tlen_any tb mb G13 _ HS13.out.tbm).mono ?_; rintro e w' ⟨rfl, rfl⟩; rw [HN13.out])
      | (go_at_call 36; refine (HKN.out _).mono ?_; rintro e wk ⟨rfl, hbk⟩; have HBK := Lib.hid (HS13.out.below.trans (hbk.mono HS13.out.below.size)); clear hbk))
    go_ret
    exact ⟨rfl, HBK.out⟩
  · have hp0 : ¬ p.length = 0 := by rw [HPN.out]; exact h0
    have ht2 := HT2.out
    rw [if_neg hp0] at ht2
    have HT3 := Lib.hid ht2
    have hb0 : ((np : Int) == 0) = false := by rw [beq_eq_false_iff_ne]; omega
    have hb1 : (np == 0) = false := by rw [beq_eq_false_iff_ne]; exact h0
    have HMI := Lib.hid (keys_miss (o := o) HF2.out.2.2.1 HF2.out.2.2.2.1 hp0)
    clear hp0 ht2 HT2 h0
    go_upto_region 12 with (first
      | (go_at_call 38
         refine HBY.out.mono ?_
         rintro e w12 ⟨v12, rfl, h12, hb12⟩
         obtain ⟨A12, c12, rfl, hc12⟩ := h12.form
         have HR12 := Lib.hid h12
         have HS12 := Lib.hid (HS10.out.keep hb12)
         have HTK2 := Lib.hid (rtake_any tb mb G10 A12 (bytesF o p).length c12 (bytesF o p) _ w12 HS12.out.tbm h12.reads.2 rfl hc12 (by rw [bytesF_len]; have := HLE.out; have := HPN.out; omega))
         clear h12 hb12 hc12)
      | (go_at_call 41
         refine HTK2.out.mono ?_
         intro e w13 hp13
         obtain ⟨v13, G13, he13, hv13, hg13, hs13, _⟩ := HS12.out.take HD8.out hp13
         subst he13
         rw [HG10.out, HT3.out] at hv13 hg13 ⊢
         obtain ⟨A13, c13, rfl, _⟩ := hv13.form
         have HE13 := Lib.hid hg13
         have hn13 := congrArg List.length hg13
         simp at hn13
         have HN13 := Lib.hid hn13
         have HS13 := Lib.hid hs13
         have HJ13 := Lib.hid (show Blk w13 g1 32 (hdC o (.slice Aq o.opts.length cq)) from (hs13.sm.2 _ HNT.out.2 HJ8.out.lt).trans HJ8.out)
         clear hp13 hv13 hg13 hs13 hn13))
    clear rl5
    have hf13 : missG G13 k2 = [0] := by
      have hd := HE13.out
      cases G13 with
      | nil => simp at hd
      | cons a L =>
        cases L with
        | nil => simp at hd
        | cons b L =>
          simp only [List.map_cons, List.cons.injEq] at hd
          obtain ⟨e1, e2, _⟩ := hd
          have hne : (a.f.key == k2) = false := by
            rw [beq_eq_false_iff_ne, e1]
            show keyF h ≠ k2
            rw [HF1.out.2.2.2.2]
            exact HKK.out
          have hyes : (b.f.key == k2) = true := by
            rw [beq_iff_eq, e2]
            show keyF o = k2
            exact HF2.out.2.2.2.2
          unfold missG findG
          rw [List.find?_cons, hne, List.find?_cons, hyes]
          show missF b.f = [0]
          rw [e2]
          exact HMI.out
    have HF13 := Lib.hid hf13
    have rl6 := hd_load HJ13.out rfl
    have bs := fun (wx : World) => (show (Instr.buildSlice 57 1 #[(0, .int .i64 0)]).run Try.prog wx = .ok (.slice (some ⟨wx.heap.size, 0, none⟩) 1 1) (wx.alloc (.cells #[.int .i64 0] 3)) by kernel_rfl)
    clear hf13
    go_wp2_with (first
      | (go_at_call 43; refine (HNM.out _ _).mono ?_; rintro e w' ⟨rfl, rfl⟩)
      | (go_at_call 46; refine (tlen_any tb mb G13 _ HS13.out.tbm).mono ?_; rintro e w' ⟨rfl, rfl⟩; rw [HN13.out])
      | (go_at_call 44; refine (HKZ.out _).mono ?_; rintro e w14 ⟨rfl, hb14⟩; have HS14 := Lib.hid (HS13.out.keep hb14); clear hb14)
      | (go_at_call 48
         refine (tmiss_any tb mb G13 k2 _ HS14.out.tbm (by rw [← HF2.out.2.2.2.2]; exact key_ok HF2.out.2.1)).mono ?_
         rintro e w15 ⟨v15, rfl, hr15, hb15⟩
         rw [HF13.out] at hr15
         obtain ⟨A15, c15, rfl, _⟩ := own_form hr15
         have HR15 := Lib.hid hr15
         have HS15 := Lib.hid (HS14.out.keep hb15)
         clear hb15 hr15)
      | (go_at_call 47
         refine (same16_any A15 1 c15 [0] (some ⟨w15.heap.size, 0, none⟩) 1 1 [0] (fun k => k < w15.heap.size) (fun _ => True) _ (Reads.keep (Reads.of_own HR15.out fun g hg => (own_lt HR15.out hg).2) (Same.ofBelow ((Below.refl _ _).alloc (Nat.le_refl _) _) fun k hk => hk)) (reads_new w15 3 (Value.int .i64 0)) rfl rfl (by omega)).mono ?_
         rintro e w16 ⟨rfl, hb16⟩
         have HS16 := Lib.hid ((HS15.out.keep ((Below.refl _ _).alloc (Nat.le_refl _) _)).keep hb16)
         clear hb16)
      | (go_at_call 36; refine (HKN.out _).mono ?_; rintro e wk ⟨rfl, hbk⟩; have HBK := Lib.hid (HS16.out.below.trans (hbk.mono HS16.out.below.size)); clear hbk))
    go_ret
    exact ⟨rfl, HBK.out⟩
end Go.Proofs.Ytihfihehiifdkaa
