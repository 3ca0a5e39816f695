/- Icmp: IcmpBytes' walk. -/
import Derived.Test.YtihfihehiifdkaaIdM
namespace Go.Proofs.Ytihfihehiifdkaa
open Go.RowKit Go.Sort Go.BigFrame
theorem icOf_code (x : By) : (icOf x).2 = 0 ∨ (icOf x).2 = 4 := by unfold icOf; split <;> simp
theorem icOf_small (x : By) : (icOf x).1.body.length ≤ x.length := by
  unfold icOf
  split
  · exact Nat.zero_le _
  · simp
theorem wanted_of {o : Oper} {val : Nat → Value} {g : Nat} {b : Bool} (hg : o.guard = some (g, b)) (hv : val g = .bool b) : wantedV o val = true := by
  unfold wantedV
  rw [hg]
  simp [hv]
def IbΦ (w : World) (m o : Ic) (Am Ao : Option Addr) (nm cm no co : Nat) (z : By) (s er : Bool) : Nat → Value → World → Prop
  | 0, u, _ => u = .agg (icC m (.slice Am nm cm))
  | 1, u, wz => Sl8 wz (fun _ => True) u z
  | 2, u, _ => u = .string ⟨z.toArray⟩
  | 3, u, _ => u = .agg (icC m (.slice Am nm cm))
  | 4, u, wz => Sl8 wz (fun _ => True) u z
  | 5, u, _ => u = .string ⟨z.toArray⟩
  | 6, u, _ => u = .bool true
  | 7, u, _ => u = .bool true
  | 8, u, _ => u = .agg (icC m (.slice Am nm cm))
  | 9, u, _ => u = .agg (icC o (.slice Ao no co))
  | 10, u, _ => u = .bool s
  | 11, u, _ => u = .agg (icC m (.slice Am nm cm))
  | 12, u, _ => u = .agg (icC o (.slice Ao no co))
  | 13, u, _ => u = .bool s
  | 14, u, _ => u = .bool true
  | 15, u, _ => u = .bool true
  | 16, u, _ => u = .bool true
  | 17, u, _ => u = .agg (icC m (.slice Am nm cm))
  | 18, u, _ => u = .agg (icC m (.slice Am nm cm))
  | 19, u, _ => u = .bool true
  | 20, u, _ => u = .bool true
  | 21, u, _ => u = .bool true
  | 22, u, _ => u = .agg (icC m (.slice Am nm cm))
  | 23, u, _ => u = .bool er
  | 24, u, _ => u = .pointer (some ⟨w.heap.size, 0, none⟩)
  | 25, u, _ => u = .int .u8 (m.ty.toNat : Int)
  | 26, u, _ => u = .bool er
  | 27, u, _ => u = .bool true
  | 28, u, _ => u = .bool true
  | 29, u, _ => u = .bool true
  | 30, u, _ => u = .bool true
  | 31, u, _ => u = .bool true
  | 32, u, _ => u = .bool true
  | _, _, _ => True
theorem IbΦ.keep {w : World} {m o : Ic} {Am Ao : Option Addr} {nm cm no co : Nat} {z : By} {s er : Bool} {wx wy : World} (hb : Below wx.heap.size wx wy) : ∀ j u, IbΦ w m o Am Ao nm cm no co z s er j u wx → IbΦ w m o Am Ao nm cm no co z s er j u wy := by
  intro j u h
  unfold IbΦ at h ⊢
  split at h
  all_goals first
    | exact h
    | exact Sl8.below h hb
attribute [-go_sem] Instr.storeAt Instr.loadAt in
set_option maxRecDepth 100000 in
set_option maxHeartbeats 16000000 in
theorem icmpbytes_any (m : Ic) (Am : Option Addr) (nm cm : Nat) (o : Ic) (Ao : Option Addr) (no co : Nat) (A : Option Addr) (n c : Nat) (x : By) (w : World) (hm : Reads w (fun k => k < w.heap.size) 1 Am nm (bytesV m.body)) (hnm : m.body.length = nm) (hcm : nm ≤ cm) (ho : Reads w (fun k => k < w.heap.size) 1 Ao no (bytesV o.body)) (hno : o.body.length = no) (_ : no ≤ co) (h : Reads w (fun k => k < w.heap.size) 1 A n (bytesV x)) (hn : x.length = n) (hc : n ≤ c) :
    Calls Try.prog 5 #[icV m (.slice Am nm cm), icV o (.slice Ao no co), .slice A n c] w fun e w' => e = .returned (.bool true) ∧ Below w.heap.size w w' := by
  have HKN := Lib.hid (fun wx => known4_any wx)
  have HNM := Lib.hid (fun z wx => num4_any z wx)
  have HN := Lib.hid hn
  have HC := Lib.hid hc
  have HH := Lib.hid (show ∀ wx, Below w.heap.size w wx → Reads wx (fun k => k < w.heap.size) 1 A n (bytesV x) from fun wx hb => h.keep (Same.ofBelow hb fun k hk => hk))
  have HM := Lib.hid (show ∀ wx, Below w.heap.size w wx → Reads wx (fun k => k < w.heap.size) 1 Am nm (bytesV m.body) from fun wx hb => hm.keep (Same.ofBelow hb fun k hk => hk))
  have HO := Lib.hid (show ∀ wx, Below w.heap.size w wx → Reads wx (fun k => k < w.heap.size) 1 Ao no (bytesV o.body) from fun wx hb => ho.keep (Same.ofBelow hb fun k hk => hk))
  have HNB := Lib.hid hnm
  have HNO := Lib.hid hno
  have HSL := Lib.hid (show ∀ wx, Below w.heap.size w wx → Sl8 wx (fun k => k < w.heap.size) (.slice Am nm cm) m.body from fun wx hb => ⟨Am, cm, by rw [hnm], by rw [hnm]; exact hcm, by rw [hnm]; exact hm.keep (Same.ofBelow hb fun k hk => hk)⟩)
  obtain ⟨W, hW⟩ : ∃ W, W = (w.alloc (.cells (icC m (.slice Am nm cm)) 45)).alloc (.cells (icC o (.slice Ao no co)) 45) := ⟨_, rfl⟩
  have hb0 : Below w.heap.size w W := by rw [hW]; exact ((Below.refl _ _).alloc (Nat.le_refl _) _).alloc (by simp) _
  have hk0 : Blk W w.heap.size 45 (icC m (.slice Am nm cm)) := by rw [hW]; exact (Blk.new _ _ _).alloc _
  have hk1 : Blk W (w.heap.size + 1) 45 (icC o (.slice Ao no co)) := by
    rw [hW]
    have := Blk.new (w.alloc (.cells (icC m (.slice Am nm cm)) 45)) 45 (icC o (.slice Ao no co))
    simpa using this
  have HB0 := Lib.hid hb0
  have HK0 := Lib.hid hk0
  have HL0 := Lib.hid hk1
  have HW := Lib.hid hW
  unfold icC at HW
  clear hb0 hk0 hk1 hW hm hnm hcm ho hno h hn hc
  unfold icV icC
  go_enter Try.func5, Try.ntmps5
  go_upto_region 1 with (fail)
  rw [← HW.out]
  have l6 := ld8s (HK0.out.cell 6)
  have l7 := ld8s (HL0.out.cell 6)
  by_cases hbig : 9000 < nm ∨ 9000 < no ∨ 9000 < n
  · by_cases b1 : 9000 < nm
    · have d1 : decide ((9000 : Int) < (nm : Int)) = true := decide_eq_true (by omega)
      clear b1 hbig
      go_wp2_with (go_at_call 13; refine (HKN.out _).mono ?_; rintro e w9 ⟨rfl, hb9⟩; have HB9 := Lib.hid (HB0.out.trans (hb9.mono HB0.out.size)); clear hb9)
      go_ret
      exact ⟨rfl, HB9.out⟩
    · have d1 : decide ((9000 : Int) < (nm : Int)) = false := decide_eq_false (by omega)
      by_cases b2 : 9000 < no
      · have d2 : decide ((9000 : Int) < (no : Int)) = true := decide_eq_true (by omega)
        clear b1 b2 hbig
        go_wp2_with (go_at_call 13; refine (HKN.out _).mono ?_; rintro e w9 ⟨rfl, hb9⟩; have HB9 := Lib.hid (HB0.out.trans (hb9.mono HB0.out.size)); clear hb9)
        go_ret
        exact ⟨rfl, HB9.out⟩
      · have d2 : decide ((9000 : Int) < (no : Int)) = false := decide_eq_false (by omega)
        have d3 : decide ((9000 : Int) < (n : Int)) = true := decide_eq_true (by omega)
        clear b1 b2 hbig
        go_wp2_with (go_at_call 13; refine (HKN.out _).mono ?_; rintro e w9 ⟨rfl, hb9⟩; have HB9 := Lib.hid (HB0.out.trans (hb9.mono HB0.out.size)); clear hb9)
        go_ret
        exact ⟨rfl, HB9.out⟩
  have d1 : decide ((9000 : Int) < (nm : Int)) = false := decide_eq_false (by omega)
  have d2 : decide ((9000 : Int) < (no : Int)) = false := decide_eq_false (by omega)
  have d3 : decide ((9000 : Int) < (n : Int)) = false := decide_eq_false (by omega)
  have hsm : n ≤ 1000000 := by omega
  have hmm : nm ≤ 1000000 := by omega
  have hbm : m.body.length ≤ 900000 := by have := HNB.out; omega
  have hof := icof_any A n c x _ W (HH.out W HB0.out) HN.out HC.out hsm
  have hrf := fun wx (hb : Below w.heap.size w wx) => ricof_any A n c x _ wx (HH.out wx hb) HN.out HC.out hsm
  have hcd := icOf_code x
  have hcs : (icOf x).1.body.length ≤ 1000000 := Nat.le_trans (icOf_small x) (by have := HN.out; omega)
  obtain ⟨R, hR⟩ : ∃ R, R = icOf x := ⟨_, rfl⟩
  rw [← hR] at hof hcd hcs
  rw [← hR] at hrf
  obtain ⟨g, er0⟩ := R
  simp only at hcd hcs
  have HCS := Lib.hid hcs
  have HCD := Lib.hid hcd
  have HOF := Lib.hid hof
  have HRF := Lib.hid hrf
  have HC1 := Lib.hid (fun wx (hb : Below w.heap.size w wx) => icbytes_any m (.slice Am nm cm) _ wx (HSL.out _ hb) hbm)
  have HC2 := Lib.hid (fun wx (hb : Below w.heap.size w wx) => ricbytes_any m (.slice Am nm cm) _ wx (HSL.out _ hb) hbm)
  have HC3 := Lib.hid (fun wx (hb : Below w.heap.size w wx) => isame_any m o Am nm cm Ao no co _ _ wx (HM.out _ hb) (HO.out _ hb) HNB.out HNO.out hmm)
  have HC4 := Lib.hid (fun wx (hb : Below w.heap.size w wx) => rsame4_any m o Am nm cm Ao no co _ _ wx (HM.out _ hb) (HO.out _ hb) HNB.out HNO.out)
  have hc5 := (fun wx (hb : Below w.heap.size w wx) => isame_any m m Am nm cm Am nm cm _ _ wx (HM.out _ hb) (HM.out _ hb) HNB.out HNB.out hmm)
  rw [sameI_self] at hc5
  have HC5 := Lib.hid hc5
  have HC6 := Lib.hid (fun wx => icerr_any m (.slice Am nm cm) wx rfl)
  have HC7 := Lib.hid (fun wx => ricerr_any m.ty wx)
  obtain ⟨z, hz⟩ : ∃ z, z = icB m := ⟨_, rfl⟩
  rw [← hz] at HC1 HC2
  obtain ⟨s, hs⟩ : ∃ s, s = sameI m o := ⟨_, rfl⟩
  rw [← hs] at HC3 HC4
  obtain ⟨er, her⟩ : ∃ s, s = errT m.ty := ⟨_, rfl⟩
  rw [← her] at HC6 HC7
  unfold icV at HC1 HC2 HC3 HC4 HC5 HC6
  clear hz hs her hc5 hof hrf hcd hcs hbig hR hsm hmm hbm
  go_upto_region 4 with
    (go_at_call 22
     refine HOF.out.mono ?_
     rintro e w1 ⟨v1, rfl, h1, hb1⟩
     obtain ⟨A1, c1, rfl, _⟩ := h1.form
     have hb01 := HB0.out.trans (hb1.mono HB0.out.size)
     obtain ⟨w2, hst, hb2, hb12, hk2⟩ := ic_var hb01 hb01.size g A1 g.body.length c1
     have HB2 := Lib.hid hb2
     have hb02 := hb1.trans (hb12.mono hb1.size)
     have HK2 := Lib.hid (HK0.out.below hb02 HK0.out.lt)
     have HL2 := Lib.hid (HL0.out.below hb02 HL0.out.lt)
     have HX2 := Lib.hid hk2
     have HR2 := Lib.hid (h1.below hb12)
     unfold icV
     clear h1 hb1 hb01 hb02 hb2 hb12 hk2)
  clear hst l6 l7
  obtain ⟨g1, hg1⟩ : ∃ z, z = w1.heap.size := ⟨_, rfl⟩
  rw [← hg1] at HX2 ⊢
  clear hg1
  go_upto_region 5 with
    (go_at_call 23
     refine (HRF.out _ HB2.out).mono ?_
     rintro e w3 ⟨v3, rfl, h3, hb3⟩
     obtain ⟨A3, c3, rfl, _, hr3⟩ := h3
     have hb23 := HB2.out.trans (hb3.mono HB2.out.size)
     obtain ⟨w4, hst, hb4, hb34, hk4⟩ := ic_var hb23 hb23.size g A3 g.body.length c3
     have hb24 := hb3.trans (hb34.mono hb3.size)
     have HB4 := Lib.hid hb4
     have HK4 := Lib.hid (HK2.out.below hb24 HK2.out.lt)
     have HL4 := Lib.hid (HL2.out.below hb24 HL2.out.lt)
     have HX4 := Lib.hid (HX2.out.below hb24 HX2.out.lt)
     have HY4 := Lib.hid hk4
     have HR4 := Lib.hid ((HR2.out.below hb3).below hb34)
     have HS4 := Lib.hid ((hr3.lt.keep (Same.ofBelow hb34 fun k hk => hk.2)).mono fun _ _ => trivial)
     unfold icV
     clear hr3 hb3 hb23 hb24 hb4 hb34 hk4)
  clear hst
  obtain ⟨g2, hg2⟩ : ∃ z, z = w3.heap.size := ⟨_, rfl⟩
  rw [← hg2] at HY4 ⊢
  clear hg2
  have hl1 := ic_load HX4.out rfl
  have hl2 := ic_load HY4.out rfl
  have hsm := rsame4_any g g A1 g.body.length c1 A3 g.body.length c3 _ (fun _ => True) w4 HR4.out.reads.2 HS4.out rfl rfl
  rw [sameI_self] at hsm
  unfold icV at hsm
  have HSM := Lib.hid hsm
  clear hsm
  rcases HCD.out with h0 | h0
  · have d0 : decide (er0 = 0) = true := decide_eq_true h0
    have b0 : ((er0 : Int) == 0) = true := by rw [beq_iff_eq, h0]; rfl
    have b1 : ((er0 : Int) != 4) = true := by rw [bne_iff_ne, h0]; decide
    clear h0
    go_upto_region 7 with (first
      | (go_at_call 15; refine (HNM.out _ _).mono ?_; rintro e w' ⟨rfl, rfl⟩)
      | (go_at_call 24
         refine HSM.out.mono ?_
         rintro e w5 ⟨rfl, hb5⟩
         have HB7 := Lib.hid (HB4.out.trans (hb5.mono HB4.out.size))
         have HK7 := Lib.hid (HK4.out.below hb5 HK4.out.lt)
         have HL7 := Lib.hid (HL4.out.below hb5 HL4.out.lt)
         clear hb5))
    clear hl1 hl2 d0 b0 b1
    obtain ⟨W7, hW7⟩ : ∃ W, W = w5 := ⟨_, rfl⟩
    rw [← hW7] at HB7 HK7 HL7 ⊢
    clear hW7
    refine wp_region_rel (by kernel_rfl) (fun p q => Below W7.heap.size p q ∧ p.heap.size ≤ q.heap.size) (IbΦ w m o Am Ao nm cm no co z s er) 33 (fun _ _ => True) (fun _ _ => false) (by kernel_rfl) (fun p => ⟨Below.refl _ p, Nat.le_refl _⟩) (fun h k => ⟨h.1.trans k.1, Nat.le_trans h.2 k.2⟩) (obl_of ?_) (fun o h => by cases h) ?_
    · refine ⟨fun _ => ?_, fun _ => ?_, fun _ => ?_, fun _ => ?_, fun _ => ?_, fun _ => ?_, fun _ => ?_, fun _ => ?_, fun _ => ?_, fun _ => ?_, fun _ => ?_, fun _ => ?_, fun _ => ?_, fun _ => ?_, fun _ => ?_, fun _ => ?_, fun _ => ?_, fun _ => ?_, fun _ => ?_, fun _ => ?_, fun _ => ?_, fun _ => ?_, fun _ => ?_, fun _ => ?_, fun _ => ?_, fun _ => ?_, fun _ => ?_, fun _ => ?_, fun _ => ?_, fun _ => ?_, fun _ => ?_, fun _ => ?_, fun _ => ?_, trivial⟩
      · -- 0
        intro val wx hg hd hb hs K hK
        generalize hρ : rhoV _ _ val = ρ
        have cc : ∀ u, ρ (.const u) = u := fun u => by rw [← hρ]; rfl
        have ff : ∀ u, ρ (.func u) = .func (.func u) #[] #[] := fun u => by rw [← hρ]; rfl
        have r3 : ρ (.tmp 3) = .pointer (some ⟨w.heap.size, 0, none⟩) := by rw [← hρ]; rfl
        have hbx : Below W7.heap.size W7 wx := ⟨hg.1.os, hg.1.tape, hg.1.output, hg.1.size, hg.1.block⟩
        have hl := ic_load (HK7.out.below hbx HK7.out.lt) rfl
        clear hρ hd hb hs
        refine ifv rfl ?_
        go_simp
        exact hK _ _ (⟨Below.refl _ _, Nat.le_refl _⟩) rfl fun _ _ _ _ h => h
      · -- 1
        intro val wx hg hd hb hs K hK
        generalize hρ : rhoV _ _ val = ρ
        have cc : ∀ u, ρ (.const u) = u := fun u => by rw [← hρ]; rfl
        have ff : ∀ u, ρ (.func u) = .func (.func u) #[] #[] := fun u => by rw [← hρ]; rfl
        have r57 : ρ (.tmp 57) = .agg (icC m (.slice Am nm cm)) := by rw [← hρ]; exact hd 0 rfl rfl
        have hbx : Below W7.heap.size W7 wx := ⟨hg.1.os, hg.1.tape, hg.1.output, hg.1.size, hg.1.block⟩
        have hbw := HB7.out.trans (hbx.mono HB7.out.size)
        have hc := HC1.out _ hbw
        have hzx : W7.heap.size ≤ wx.heap.size := hg.1.size
        clear hρ hd hb hs
        refine ifv rfl ?_
        go_simp
        refine hc.mono ?_
        rintro e w3 ⟨v3, rfl, h3, hb3⟩
        exact ⟨_, rfl, hK _ _ ⟨hb3.mono hzx, hb3.size⟩ (row_sl h3) fun j _ _ _ h => IbΦ.keep hb3 j _ h⟩
      · -- 2
        intro val wx hg hd hb hs K hK
        generalize hρ : rhoV _ _ val = ρ
        have cc : ∀ u, ρ (.const u) = u := fun u => by rw [← hρ]; rfl
        have ff : ∀ u, ρ (.func u) = .func (.func u) #[] #[] := fun u => by rw [← hρ]; rfl
        have r58 : ρ (.tmp 58) = val 1 := by rw [← hρ]; rfl
        have p1 := hd 1 rfl rfl
        obtain ⟨A3, c3, e3, _, hr3⟩ : Sl8 wx (fun _ => True) (val 1) z := hd 1 rfl rfl
        rw [e3] at r58
        have hs3 := run_str wx _ A3 z c3 hr3
        clear hρ hd hb hs e3 hr3
        refine ifv rfl ?_
        go_simp
        exact hK _ _ (⟨Below.refl _ _, Nat.le_refl _⟩) rfl fun _ _ _ _ h => h
      · -- 3
        intro val wx hg hd hb hs K hK
        generalize hρ : rhoV _ _ val = ρ
        have cc : ∀ u, ρ (.const u) = u := fun u => by rw [← hρ]; rfl
        have ff : ∀ u, ρ (.func u) = .func (.func u) #[] #[] := fun u => by rw [← hρ]; rfl
        have r3 : ρ (.tmp 3) = .pointer (some ⟨w.heap.size, 0, none⟩) := by rw [← hρ]; rfl
        have hbx : Below W7.heap.size W7 wx := ⟨hg.1.os, hg.1.tape, hg.1.output, hg.1.size, hg.1.block⟩
        have hl := ic_load (HK7.out.below hbx HK7.out.lt) rfl
        clear hρ hd hb hs
        refine ifv rfl ?_
        go_simp
        exact hK _ _ (⟨Below.refl _ _, Nat.le_refl _⟩) rfl fun _ _ _ _ h => h
      · -- 4
        intro val wx hg hd hb hs K hK
        generalize hρ : rhoV _ _ val = ρ
        have cc : ∀ u, ρ (.const u) = u := fun u => by rw [← hρ]; rfl
        have ff : ∀ u, ρ (.func u) = .func (.func u) #[] #[] := fun u => by rw [← hρ]; rfl
        have r60 : ρ (.tmp 60) = .agg (icC m (.slice Am nm cm)) := by rw [← hρ]; exact hd 3 rfl rfl
        have hbx : Below W7.heap.size W7 wx := ⟨hg.1.os, hg.1.tape, hg.1.output, hg.1.size, hg.1.block⟩
        have hbw := HB7.out.trans (hbx.mono HB7.out.size)
        have hc := HC2.out _ hbw
        have hzx : W7.heap.size ≤ wx.heap.size := hg.1.size
        clear hρ hd hb hs
        refine ifv rfl ?_
        go_simp
        refine hc.mono ?_
        rintro e w3 ⟨v3, rfl, h3, hb3⟩
        exact ⟨_, rfl, hK _ _ ⟨hb3.mono hzx, hb3.size⟩ (row_sl h3) fun j _ _ _ h => IbΦ.keep hb3 j _ h⟩
      · -- 5
        intro val wx hg hd hb hs K hK
        generalize hρ : rhoV _ _ val = ρ
        have cc : ∀ u, ρ (.const u) = u := fun u => by rw [← hρ]; rfl
        have ff : ∀ u, ρ (.func u) = .func (.func u) #[] #[] := fun u => by rw [← hρ]; rfl
        have r61 : ρ (.tmp 61) = val 4 := by rw [← hρ]; rfl
        have p4 := hd 4 rfl rfl
        obtain ⟨A3, c3, e3, _, hr3⟩ : Sl8 wx (fun _ => True) (val 4) z := hd 4 rfl rfl
        rw [e3] at r61
        have hs3 := run_str wx _ A3 z c3 hr3
        clear hρ hd hb hs e3 hr3
        refine ifv rfl ?_
        go_simp
        exact hK _ _ (⟨Below.refl _ _, Nat.le_refl _⟩) rfl fun _ _ _ _ h => h
      · -- 6
        intro val wx hg hd hb hs K hK
        generalize hρ : rhoV _ _ val = ρ
        have cc : ∀ u, ρ (.const u) = u := fun u => by rw [← hρ]; rfl
        have ff : ∀ u, ρ (.func u) = .func (.func u) #[] #[] := fun u => by rw [← hρ]; rfl
        have r59 : ρ (.tmp 59) = .string ⟨z.toArray⟩ := by rw [← hρ]; exact hd 2 rfl rfl
        have r62 : ρ (.tmp 62) = .string ⟨z.toArray⟩ := by rw [← hρ]; exact hd 5 rfl rfl
        have t2 : ((⟨z.toArray⟩ : ByteArray) == ⟨z.toArray⟩) = true := (bytes_beq z z).trans (by simp)
        clear hρ hd hb hs
        refine ifv rfl ?_
        go_simp
        exact hK _ _ (⟨Below.refl _ _, Nat.le_refl _⟩) rfl fun _ _ _ _ h => h
      · -- 7
        intro val wx hg hd hb hs K hK
        generalize hρ : rhoV _ _ val = ρ
        have cc : ∀ u, ρ (.const u) = u := fun u => by rw [← hρ]; rfl
        have ff : ∀ u, ρ (.func u) = .func (.func u) #[] #[] := fun u => by rw [← hρ]; rfl
        have r63 : ρ (.tmp 63) = .bool true := by rw [← hρ]; exact hd 6 rfl rfl
        clear hρ hd hb hs
        refine ifv rfl ?_
        go_simp
        exact hK _ _ (⟨Below.refl _ _, Nat.le_refl _⟩) rfl fun _ _ _ _ h => h
      · -- 8
        intro val wx hg hd hb hs K hK
        generalize hρ : rhoV _ _ val = ρ
        have cc : ∀ u, ρ (.const u) = u := fun u => by rw [← hρ]; rfl
        have ff : ∀ u, ρ (.func u) = .func (.func u) #[] #[] := fun u => by rw [← hρ]; rfl
        have r3 : ρ (.tmp 3) = .pointer (some ⟨w.heap.size, 0, none⟩) := by rw [← hρ]; rfl
        have hgv : val 7 = .bool true := hd 7 rfl rfl
        have hbx : Below W7.heap.size W7 wx := ⟨hg.1.os, hg.1.tape, hg.1.output, hg.1.size, hg.1.block⟩
        have hl := ic_load (HK7.out.below hbx HK7.out.lt) rfl
        clear hρ hd hb hs
        refine ifv (wanted_of (g := 7) (b := true) rfl hgv) ?_
        go_simp
        exact hK _ _ (⟨Below.refl _ _, Nat.le_refl _⟩) rfl fun _ _ _ _ h => h
      · -- 9
        intro val wx hg hd hb hs K hK
        generalize hρ : rhoV _ _ val = ρ
        have cc : ∀ u, ρ (.const u) = u := fun u => by rw [← hρ]; rfl
        have ff : ∀ u, ρ (.func u) = .func (.func u) #[] #[] := fun u => by rw [← hρ]; rfl
        have r4 : ρ (.tmp 4) = .pointer (some ⟨w.heap.size + 1, 0, none⟩) := by rw [← hρ]; rfl
        have hgv : val 7 = .bool true := hd 7 rfl rfl
        have hbx : Below W7.heap.size W7 wx := ⟨hg.1.os, hg.1.tape, hg.1.output, hg.1.size, hg.1.block⟩
        have hl := ic_load (HL7.out.below hbx HL7.out.lt) rfl
        clear hρ hd hb hs
        refine ifv (wanted_of (g := 7) (b := true) rfl hgv) ?_
        go_simp
        exact hK _ _ (⟨Below.refl _ _, Nat.le_refl _⟩) rfl fun _ _ _ _ h => h
      · -- 10
        intro val wx hg hd hb hs K hK
        generalize hρ : rhoV _ _ val = ρ
        have cc : ∀ u, ρ (.const u) = u := fun u => by rw [← hρ]; rfl
        have ff : ∀ u, ρ (.func u) = .func (.func u) #[] #[] := fun u => by rw [← hρ]; rfl
        have r65 : ρ (.tmp 65) = .agg (icC m (.slice Am nm cm)) := by rw [← hρ]; exact hd 8 rfl rfl
        have r66 : ρ (.tmp 66) = .agg (icC o (.slice Ao no co)) := by rw [← hρ]; exact hd 9 rfl rfl
        have hgv : val 7 = .bool true := hd 7 rfl rfl
        have hbx : Below W7.heap.size W7 wx := ⟨hg.1.os, hg.1.tape, hg.1.output, hg.1.size, hg.1.block⟩
        have hbw := HB7.out.trans (hbx.mono HB7.out.size)
        have hc := HC3.out wx hbw
        have hzx : W7.heap.size ≤ wx.heap.size := hg.1.size
        clear hρ hd hb hs
        refine ifv (wanted_of (g := 7) (b := true) rfl hgv) ?_
        go_simp
        refine hc.mono ?_
        rintro e w3 ⟨rfl, hb3⟩
        exact ⟨_, rfl, hK _ _ ⟨hb3.mono hzx, hb3.size⟩ rfl fun j _ _ _ h => IbΦ.keep hb3 j _ h⟩
      · -- 11
        intro val wx hg hd hb hs K hK
        generalize hρ : rhoV _ _ val = ρ
        have cc : ∀ u, ρ (.const u) = u := fun u => by rw [← hρ]; rfl
        have ff : ∀ u, ρ (.func u) = .func (.func u) #[] #[] := fun u => by rw [← hρ]; rfl
        have r3 : ρ (.tmp 3) = .pointer (some ⟨w.heap.size, 0, none⟩) := by rw [← hρ]; rfl
        have hgv : val 7 = .bool true := hd 7 rfl rfl
        have hbx : Below W7.heap.size W7 wx := ⟨hg.1.os, hg.1.tape, hg.1.output, hg.1.size, hg.1.block⟩
        have hl := ic_load (HK7.out.below hbx HK7.out.lt) rfl
        clear hρ hd hb hs
        refine ifv (wanted_of (g := 7) (b := true) rfl hgv) ?_
        go_simp
        exact hK _ _ (⟨Below.refl _ _, Nat.le_refl _⟩) rfl fun _ _ _ _ h => h
      · -- 12
        intro val wx hg hd hb hs K hK
        generalize hρ : rhoV _ _ val = ρ
        have cc : ∀ u, ρ (.const u) = u := fun u => by rw [← hρ]; rfl
        have ff : ∀ u, ρ (.func u) = .func (.func u) #[] #[] := fun u => by rw [← hρ]; rfl
        have r4 : ρ (.tmp 4) = .pointer (some ⟨w.heap.size + 1, 0, none⟩) := by rw [← hρ]; rfl
        have hgv : val 7 = .bool true := hd 7 rfl rfl
        have hbx : Below W7.heap.size W7 wx := ⟨hg.1.os, hg.1.tape, hg.1.output, hg.1.size, hg.1.block⟩
        have hl := ic_load (HL7.out.below hbx HL7.out.lt) rfl
        clear hρ hd hb hs
        refine ifv (wanted_of (g := 7) (b := true) rfl hgv) ?_
        go_simp
        exact hK _ _ (⟨Below.refl _ _, Nat.le_refl _⟩) rfl fun _ _ _ _ h => h
      · -- 13
        intro val wx hg hd hb hs K hK
        generalize hρ : rhoV _ _ val = ρ
        have cc : ∀ u, ρ (.const u) = u := fun u => by rw [← hρ]; rfl
        have ff : ∀ u, ρ (.func u) = .func (.func u) #[] #[] := fun u => by rw [← hρ]; rfl
        have r68 : ρ (.tmp 68) = .agg (icC m (.slice Am nm cm)) := by rw [← hρ]; exact hd 11 rfl rfl
        have r69 : ρ (.tmp 69) = .agg (icC o (.slice Ao no co)) := by rw [← hρ]; exact hd 12 rfl rfl
        have hgv : val 7 = .bool true := hd 7 rfl rfl
        have hbx : Below W7.heap.size W7 wx := ⟨hg.1.os, hg.1.tape, hg.1.output, hg.1.size, hg.1.block⟩
        have hbw := HB7.out.trans (hbx.mono HB7.out.size)
        have hc := HC4.out wx hbw
        have hzx : W7.heap.size ≤ wx.heap.size := hg.1.size
        clear hρ hd hb hs
        refine ifv (wanted_of (g := 7) (b := true) rfl hgv) ?_
        go_simp
        refine hc.mono ?_
        rintro e w3 ⟨rfl, hb3⟩
        exact ⟨_, rfl, hK _ _ ⟨hb3.mono hzx, hb3.size⟩ rfl fun j _ _ _ h => IbΦ.keep hb3 j _ h⟩
      · -- 14
        intro val wx hg hd hb hs K hK
        generalize hρ : rhoV _ _ val = ρ
        have cc : ∀ u, ρ (.const u) = u := fun u => by rw [← hρ]; rfl
        have ff : ∀ u, ρ (.func u) = .func (.func u) #[] #[] := fun u => by rw [← hρ]; rfl
        have r67 : ρ (.tmp 67) = .bool s := by rw [← hρ]; exact hd 10 rfl rfl
        have r70 : ρ (.tmp 70) = .bool s := by rw [← hρ]; exact hd 13 rfl rfl
        have hgv : val 7 = .bool true := hd 7 rfl rfl
        have t1 : (s == s) = true := by cases s <;> rfl
        clear hρ hd hb hs
        refine ifv (wanted_of (g := 7) (b := true) rfl hgv) ?_
        go_simp
        exact hK _ _ (⟨Below.refl _ _, Nat.le_refl _⟩) rfl fun _ _ _ _ h => h
      · -- 15
        intro val wx hg hd hb hs K hK
        generalize hρ : rhoV _ _ val = ρ
        have cc : ∀ u, ρ (.const u) = u := fun u => by rw [← hρ]; rfl
        have ff : ∀ u, ρ (.func u) = .func (.func u) #[] #[] := fun u => by rw [← hρ]; rfl
        have r64 : ρ (.tmp 64) = .bool true := by rw [← hρ]; exact hd 7 rfl rfl
        have r71 : ρ (.tmp 71) = .bool true := by rw [← hρ]; exact hd 14 rfl rfl
        clear hρ hd hb hs
        refine ifv rfl ?_
        go_simp
        exact hK _ _ (⟨Below.refl _ _, Nat.le_refl _⟩) rfl fun _ _ _ _ h => h
      · -- 16
        intro val wx hg hd hb hs K hK
        generalize hρ : rhoV _ _ val = ρ
        have cc : ∀ u, ρ (.const u) = u := fun u => by rw [← hρ]; rfl
        have ff : ∀ u, ρ (.func u) = .func (.func u) #[] #[] := fun u => by rw [← hρ]; rfl
        have r72 : ρ (.tmp 72) = .bool true := by rw [← hρ]; exact hd 15 rfl rfl
        clear hρ hd hb hs
        refine ifv rfl ?_
        go_simp
        exact hK _ _ (⟨Below.refl _ _, Nat.le_refl _⟩) rfl fun _ _ _ _ h => h
      · -- 17
        intro val wx hg hd hb hs K hK
        generalize hρ : rhoV _ _ val = ρ
        have cc : ∀ u, ρ (.const u) = u := fun u => by rw [← hρ]; rfl
        have ff : ∀ u, ρ (.func u) = .func (.func u) #[] #[] := fun u => by rw [← hρ]; rfl
        have r3 : ρ (.tmp 3) = .pointer (some ⟨w.heap.size, 0, none⟩) := by rw [← hρ]; rfl
        have hgv : val 16 = .bool true := hd 16 rfl rfl
        have hbx : Below W7.heap.size W7 wx := ⟨hg.1.os, hg.1.tape, hg.1.output, hg.1.size, hg.1.block⟩
        have hl := ic_load (HK7.out.below hbx HK7.out.lt) rfl
        clear hρ hd hb hs
        refine ifv (wanted_of (g := 16) (b := true) rfl hgv) ?_
        go_simp
        exact hK _ _ (⟨Below.refl _ _, Nat.le_refl _⟩) rfl fun _ _ _ _ h => h
      · -- 18
        intro val wx hg hd hb hs K hK
        generalize hρ : rhoV _ _ val = ρ
        have cc : ∀ u, ρ (.const u) = u := fun u => by rw [← hρ]; rfl
        have ff : ∀ u, ρ (.func u) = .func (.func u) #[] #[] := fun u => by rw [← hρ]; rfl
        have r3 : ρ (.tmp 3) = .pointer (some ⟨w.heap.size, 0, none⟩) := by rw [← hρ]; rfl
        have hgv : val 16 = .bool true := hd 16 rfl rfl
        have hbx : Below W7.heap.size W7 wx := ⟨hg.1.os, hg.1.tape, hg.1.output, hg.1.size, hg.1.block⟩
        have hl := ic_load (HK7.out.below hbx HK7.out.lt) rfl
        clear hρ hd hb hs
        refine ifv (wanted_of (g := 16) (b := true) rfl hgv) ?_
        go_simp
        exact hK _ _ (⟨Below.refl _ _, Nat.le_refl _⟩) rfl fun _ _ _ _ h => h
      · -- 19
        intro val wx hg hd hb hs K hK
        generalize hρ : rhoV _ _ val = ρ
        have cc : ∀ u, ρ (.const u) = u := fun u => by rw [← hρ]; rfl
        have ff : ∀ u, ρ (.func u) = .func (.func u) #[] #[] := fun u => by rw [← hρ]; rfl
        have r74 : ρ (.tmp 74) = .agg (icC m (.slice Am nm cm)) := by rw [← hρ]; exact hd 17 rfl rfl
        have r75 : ρ (.tmp 75) = .agg (icC m (.slice Am nm cm)) := by rw [← hρ]; exact hd 18 rfl rfl
        have hgv : val 16 = .bool true := hd 16 rfl rfl
        have hbx : Below W7.heap.size W7 wx := ⟨hg.1.os, hg.1.tape, hg.1.output, hg.1.size, hg.1.block⟩
        have hbw := HB7.out.trans (hbx.mono HB7.out.size)
        have hc := HC5.out wx hbw
        have hzx : W7.heap.size ≤ wx.heap.size := hg.1.size
        clear hρ hd hb hs
        refine ifv (wanted_of (g := 16) (b := true) rfl hgv) ?_
        go_simp
        refine hc.mono ?_
        rintro e w3 ⟨rfl, hb3⟩
        exact ⟨_, rfl, hK _ _ ⟨hb3.mono hzx, hb3.size⟩ rfl fun j _ _ _ h => IbΦ.keep hb3 j _ h⟩
      · -- 20
        intro val wx hg hd hb hs K hK
        generalize hρ : rhoV _ _ val = ρ
        have cc : ∀ u, ρ (.const u) = u := fun u => by rw [← hρ]; rfl
        have ff : ∀ u, ρ (.func u) = .func (.func u) #[] #[] := fun u => by rw [← hρ]; rfl
        have r73 : ρ (.tmp 73) = .bool true := by rw [← hρ]; exact hd 16 rfl rfl
        have r76 : ρ (.tmp 76) = .bool true := by rw [← hρ]; exact hd 19 rfl rfl
        clear hρ hd hb hs
        refine ifv rfl ?_
        go_simp
        exact hK _ _ (⟨Below.refl _ _, Nat.le_refl _⟩) rfl fun _ _ _ _ h => h
      · -- 21
        intro val wx hg hd hb hs K hK
        generalize hρ : rhoV _ _ val = ρ
        have cc : ∀ u, ρ (.const u) = u := fun u => by rw [← hρ]; rfl
        have ff : ∀ u, ρ (.func u) = .func (.func u) #[] #[] := fun u => by rw [← hρ]; rfl
        have r77 : ρ (.tmp 77) = .bool true := by rw [← hρ]; exact hd 20 rfl rfl
        clear hρ hd hb hs
        refine ifv rfl ?_
        go_simp
        exact hK _ _ (⟨Below.refl _ _, Nat.le_refl _⟩) rfl fun _ _ _ _ h => h
      · -- 22
        intro val wx hg hd hb hs K hK
        generalize hρ : rhoV _ _ val = ρ
        have cc : ∀ u, ρ (.const u) = u := fun u => by rw [← hρ]; rfl
        have ff : ∀ u, ρ (.func u) = .func (.func u) #[] #[] := fun u => by rw [← hρ]; rfl
        have r3 : ρ (.tmp 3) = .pointer (some ⟨w.heap.size, 0, none⟩) := by rw [← hρ]; rfl
        have hgv : val 21 = .bool true := hd 21 rfl rfl
        have hbx : Below W7.heap.size W7 wx := ⟨hg.1.os, hg.1.tape, hg.1.output, hg.1.size, hg.1.block⟩
        have hl := ic_load (HK7.out.below hbx HK7.out.lt) rfl
        clear hρ hd hb hs
        refine ifv (wanted_of (g := 21) (b := true) rfl hgv) ?_
        go_simp
        exact hK _ _ (⟨Below.refl _ _, Nat.le_refl _⟩) rfl fun _ _ _ _ h => h
      · -- 23
        intro val wx hg hd hb hs K hK
        generalize hρ : rhoV _ _ val = ρ
        have cc : ∀ u, ρ (.const u) = u := fun u => by rw [← hρ]; rfl
        have ff : ∀ u, ρ (.func u) = .func (.func u) #[] #[] := fun u => by rw [← hρ]; rfl
        have r79 : ρ (.tmp 79) = .agg (icC m (.slice Am nm cm)) := by rw [← hρ]; exact hd 22 rfl rfl
        have hgv : val 21 = .bool true := hd 21 rfl rfl
        have hbx : Below W7.heap.size W7 wx := ⟨hg.1.os, hg.1.tape, hg.1.output, hg.1.size, hg.1.block⟩
        have hbw := HB7.out.trans (hbx.mono HB7.out.size)
        have hc := HC6.out wx
        have hzx : W7.heap.size ≤ wx.heap.size := hg.1.size
        clear hρ hd hb hs
        refine ifv (wanted_of (g := 21) (b := true) rfl hgv) ?_
        go_simp
        refine hc.mono ?_
        rintro e w3 ⟨rfl, hb3⟩
        exact ⟨_, rfl, hK _ _ ⟨hb3.mono hzx, hb3.size⟩ rfl fun j _ _ _ h => IbΦ.keep hb3 j _ h⟩
      · -- 24
        intro val wx hg hd hb hs K hK
        generalize hρ : rhoV _ _ val = ρ
        have cc : ∀ u, ρ (.const u) = u := fun u => by rw [← hρ]; rfl
        have ff : ∀ u, ρ (.func u) = .func (.func u) #[] #[] := fun u => by rw [← hρ]; rfl
        have r3 : ρ (.tmp 3) = .pointer (some ⟨w.heap.size, 0, none⟩) := by rw [← hρ]; rfl
        have hgv : val 21 = .bool true := hd 21 rfl rfl
        clear hρ hd hb hs
        refine ifv (wanted_of (g := 21) (b := true) rfl hgv) ?_
        go_simp
        exact hK _ _ (⟨Below.refl _ _, Nat.le_refl _⟩) rfl fun _ _ _ _ h => h
      · -- 25
        intro val wx hg hd hb hs K hK
        generalize hρ : rhoV _ _ val = ρ
        have cc : ∀ u, ρ (.const u) = u := fun u => by rw [← hρ]; rfl
        have ff : ∀ u, ρ (.func u) = .func (.func u) #[] #[] := fun u => by rw [← hρ]; rfl
        have r81 : ρ (.tmp 81) = .pointer (some ⟨w.heap.size, 0, none⟩) := by rw [← hρ]; exact hd 24 rfl rfl
        have hgv : val 21 = .bool true := hd 21 rfl rfl
        have hbx : Below W7.heap.size W7 wx := ⟨hg.1.os, hg.1.tape, hg.1.output, hg.1.size, hg.1.block⟩
        have hl := ld_u8s ((HK7.out.below hbx HK7.out.lt).cell 0)
        clear hρ hd hb hs
        refine ifv (wanted_of (g := 21) (b := true) rfl hgv) ?_
        go_simp
        exact hK _ _ (⟨Below.refl _ _, Nat.le_refl _⟩) rfl fun _ _ _ _ h => h
      · -- 26
        intro val wx hg hd hb hs K hK
        generalize hρ : rhoV _ _ val = ρ
        have cc : ∀ u, ρ (.const u) = u := fun u => by rw [← hρ]; rfl
        have ff : ∀ u, ρ (.func u) = .func (.func u) #[] #[] := fun u => by rw [← hρ]; rfl
        have r82 : ρ (.tmp 82) = .int .u8 (m.ty.toNat : Int) := by rw [← hρ]; exact hd 25 rfl rfl
        have hgv : val 21 = .bool true := hd 21 rfl rfl
        have hc := HC7.out wx
        clear hρ hd hb hs
        refine ifv (wanted_of (g := 21) (b := true) rfl hgv) ?_
        go_simp
        refine hc.mono ?_
        rintro e w3 ⟨rfl, rfl⟩
        exact ⟨_, rfl, hK _ _ (⟨Below.refl _ _, Nat.le_refl _⟩) rfl fun _ _ _ _ h => h⟩
      · -- 27
        intro val wx hg hd hb hs K hK
        generalize hρ : rhoV _ _ val = ρ
        have cc : ∀ u, ρ (.const u) = u := fun u => by rw [← hρ]; rfl
        have ff : ∀ u, ρ (.func u) = .func (.func u) #[] #[] := fun u => by rw [← hρ]; rfl
        have r80 : ρ (.tmp 80) = .bool er := by rw [← hρ]; exact hd 23 rfl rfl
        have r83 : ρ (.tmp 83) = .bool er := by rw [← hρ]; exact hd 26 rfl rfl
        have hgv : val 21 = .bool true := hd 21 rfl rfl
        have t1 : (er == er) = true := by cases er <;> rfl
        clear hρ hd hb hs
        refine ifv (wanted_of (g := 21) (b := true) rfl hgv) ?_
        go_simp
        exact hK _ _ (⟨Below.refl _ _, Nat.le_refl _⟩) rfl fun _ _ _ _ h => h
      · -- 28
        intro val wx hg hd hb hs K hK
        generalize hρ : rhoV _ _ val = ρ
        have cc : ∀ u, ρ (.const u) = u := fun u => by rw [← hρ]; rfl
        have ff : ∀ u, ρ (.func u) = .func (.func u) #[] #[] := fun u => by rw [← hρ]; rfl
        have r78 : ρ (.tmp 78) = .bool true := by rw [← hρ]; exact hd 21 rfl rfl
        have r84 : ρ (.tmp 84) = .bool true := by rw [← hρ]; exact hd 27 rfl rfl
        clear hρ hd hb hs
        refine ifv rfl ?_
        go_simp
        exact hK _ _ (⟨Below.refl _ _, Nat.le_refl _⟩) rfl fun _ _ _ _ h => h
      · -- 29
        intro val wx hg hd hb hs K hK
        generalize hρ : rhoV _ _ val = ρ
        have cc : ∀ u, ρ (.const u) = u := fun u => by rw [← hρ]; rfl
        have ff : ∀ u, ρ (.func u) = .func (.func u) #[] #[] := fun u => by rw [← hρ]; rfl
        have r85 : ρ (.tmp 85) = .bool true := by rw [← hρ]; exact hd 28 rfl rfl
        clear hρ hd hb hs
        refine ifv rfl ?_
        go_simp
        exact hK _ _ (⟨Below.refl _ _, Nat.le_refl _⟩) rfl fun _ _ _ _ h => h
      · -- 30
        intro val wx hg hd hb hs K hK
        generalize hρ : rhoV _ _ val = ρ
        have cc : ∀ u, ρ (.const u) = u := fun u => by rw [← hρ]; rfl
        have ff : ∀ u, ρ (.func u) = .func (.func u) #[] #[] := fun u => by rw [← hρ]; rfl
        have hgv : val 29 = .bool true := hd 29 rfl rfl
        have hbx : Below W7.heap.size W7 wx := ⟨hg.1.os, hg.1.tape, hg.1.output, hg.1.size, hg.1.block⟩
        have hbw := HB7.out.trans (hbx.mono HB7.out.size)
        have hc := HKN.out wx
        have hzx : W7.heap.size ≤ wx.heap.size := hg.1.size
        clear hρ hd hb hs
        refine ifv (wanted_of (g := 29) (b := true) rfl hgv) ?_
        go_simp
        refine hc.mono ?_
        rintro e w3 ⟨rfl, hb3⟩
        exact ⟨_, rfl, hK _ _ ⟨hb3.mono hzx, hb3.size⟩ rfl fun j _ _ _ h => IbΦ.keep hb3 j _ h⟩
      · -- 31
        intro val wx hg hd hb hs K hK
        generalize hρ : rhoV _ _ val = ρ
        have cc : ∀ u, ρ (.const u) = u := fun u => by rw [← hρ]; rfl
        have ff : ∀ u, ρ (.func u) = .func (.func u) #[] #[] := fun u => by rw [← hρ]; rfl
        have r86 : ρ (.tmp 86) = .bool true := by rw [← hρ]; exact hd 29 rfl rfl
        have r87 : ρ (.tmp 87) = .bool true := by rw [← hρ]; exact hd 30 rfl rfl
        clear hρ hd hb hs
        refine ifv rfl ?_
        go_simp
        exact hK _ _ (⟨Below.refl _ _, Nat.le_refl _⟩) rfl fun _ _ _ _ h => h
      · -- 32
        intro val wx hg hd hb hs K hK
        generalize hρ : rhoV _ _ val = ρ
        have cc : ∀ u, ρ (.const u) = u := fun u => by rw [← hρ]; rfl
        have ff : ∀ u, ρ (.func u) = .func (.func u) #[] #[] := fun u => by rw [← hρ]; rfl
        have r88 : ρ (.tmp 88) = .bool true := by rw [← hρ]; exact hd 31 rfl rfl
        clear hρ hd hb hs
        refine ifv rfl ?_
        go_simp
        exact hK _ _ (⟨Below.refl _ _, Nat.le_refl _⟩) rfl fun _ _ _ _ h => h
    · intro val w9 h9
      rw [if_neg (by decide)] at h9
      obtain ⟨hb9, h9⟩ := h9
      have p32 : val 32 = .bool true := h9 32 (by decide) fun _ _ => rfl
      have HB9 := Lib.hid (show Below w.heap.size w w9 from HB7.out.trans (Below.mono (⟨hb9.1.os, hb9.1.tape, hb9.1.output, hb9.1.size, hb9.1.block⟩ : Below W7.heap.size W7 w9) HB7.out.size))
      simp only [putAll, p32]
      simp only [Act.put, List.setIfInBounds_toArray, List.set_cons_succ, List.set_cons_zero]
      clear h9 hb9 p32
      generalize val 0 = y0, val 1 = y1, val 2 = y2, val 3 = y3, val 4 = y4, val 5 = y5, val 6 = y6, val 7 = y7, val 8 = y8, val 9 = y9, val 10 = y10, val 11 = y11, val 12 = y12, val 13 = y13, val 14 = y14, val 15 = y15, val 16 = y16, val 17 = y17, val 18 = y18, val 19 = y19, val 20 = y20, val 21 = y21, val 22 = y22, val 23 = y23, val 24 = y24, val 25 = y25, val 26 = y26, val 27 = y27, val 28 = y28, val 29 = y29, val 30 = y30, val 31 = y31
      go_wp2_with fail
      go_ret
      exact ⟨rfl, HB9.out⟩
  · have d0 : decide (er0 = 0) = false := decide_eq_false (by omega)
    have b0 : ((er0 : Int) == 0) = false := by rw [beq_eq_false_iff_ne, h0]; decide
    have b1 : ((er0 : Int) != 4) = false := by rw [bne_eq_false_iff_eq, h0]; rfl
    clear h0
    go_upto_region 7 with (first
      | (go_at_call 15; refine (HNM.out _ _).mono ?_; rintro e w' ⟨rfl, rfl⟩)
      | (go_at_call 24
         refine HSM.out.mono ?_
         rintro e w5 ⟨rfl, hb5⟩
         have HB7 := Lib.hid (HB4.out.trans (hb5.mono HB4.out.size))
         have HK7 := Lib.hid (HK4.out.below hb5 HK4.out.lt)
         have HL7 := Lib.hid (HL4.out.below hb5 HL4.out.lt)
         clear hb5))
    clear hl1 hl2 d0 b0 b1
    obtain ⟨W7, hW7⟩ : ∃ W, W = w5 := ⟨_, rfl⟩
    rw [← hW7] at HB7 HK7 HL7 ⊢
    clear hW7
    refine wp_region_rel (by kernel_rfl) (fun p q => Below W7.heap.size p q ∧ p.heap.size ≤ q.heap.size) (IbΦ w m o Am Ao nm cm no co z s er) 33 (fun _ _ => True) (fun _ _ => false) (by kernel_rfl) (fun p => ⟨Below.refl _ p, Nat.le_refl _⟩) (fun h k => ⟨h.1.trans k.1, Nat.le_trans h.2 k.2⟩) (obl_of ?_) (fun o h => by cases h) ?_
    · refine ⟨fun _ => ?_, fun _ => ?_, fun _ => ?_, fun _ => ?_, fun _ => ?_, fun _ => ?_, fun _ => ?_, fun _ => ?_, fun _ => ?_, fun _ => ?_, fun _ => ?_, fun _ => ?_, fun _ => ?_, fun _ => ?_, fun _ => ?_, fun _ => ?_, fun _ => ?_, fun _ => ?_, fun _ => ?_, fun _ => ?_, fun _ => ?_, fun _ => ?_, fun _ => ?_, fun _ => ?_, fun _ => ?_, fun _ => ?_, fun _ => ?_, fun _ => ?_, fun _ => ?_, fun _ => ?_, fun _ => ?_, fun _ => ?_, fun _ => ?_, trivial⟩
      · -- 0
        intro val wx hg hd hb hs K hK
        generalize hρ : rhoV _ _ val = ρ
        have cc : ∀ u, ρ (.const u) = u := fun u => by rw [← hρ]; rfl
        have ff : ∀ u, ρ (.func u) = .func (.func u) #[] #[] := fun u => by rw [← hρ]; rfl
        have r3 : ρ (.tmp 3) = .pointer (some ⟨w.heap.size, 0, none⟩) := by rw [← hρ]; rfl
        have hbx : Below W7.heap.size W7 wx := ⟨hg.1.os, hg.1.tape, hg.1.output, hg.1.size, hg.1.block⟩
        have hl := ic_load (HK7.out.below hbx HK7.out.lt) rfl
        clear hρ hd hb hs
        refine ifv rfl ?_
        go_simp
        exact hK _ _ (⟨Below.refl _ _, Nat.le_refl _⟩) rfl fun _ _ _ _ h => h
      · -- 1
        intro val wx hg hd hb hs K hK
        generalize hρ : rhoV _ _ val = ρ
        have cc : ∀ u, ρ (.const u) = u := fun u => by rw [← hρ]; rfl
        have ff : ∀ u, ρ (.func u) = .func (.func u) #[] #[] := fun u => by rw [← hρ]; rfl
        have r57 : ρ (.tmp 57) = .agg (icC m (.slice Am nm cm)) := by rw [← hρ]; exact hd 0 rfl rfl
        have hbx : Below W7.heap.size W7 wx := ⟨hg.1.os, hg.1.tape, hg.1.output, hg.1.size, hg.1.block⟩
        have hbw := HB7.out.trans (hbx.mono HB7.out.size)
        have hc := HC1.out _ hbw
        have hzx : W7.heap.size ≤ wx.heap.size := hg.1.size
        clear hρ hd hb hs
        refine ifv rfl ?_
        go_simp
        refine hc.mono ?_
        rintro e w3 ⟨v3, rfl, h3, hb3⟩
        exact ⟨_, rfl, hK _ _ ⟨hb3.mono hzx, hb3.size⟩ (row_sl h3) fun j _ _ _ h => IbΦ.keep hb3 j _ h⟩
      · -- 2
        intro val wx hg hd hb hs K hK
        generalize hρ : rhoV _ _ val = ρ
        have cc : ∀ u, ρ (.const u) = u := fun u => by rw [← hρ]; rfl
        have ff : ∀ u, ρ (.func u) = .func (.func u) #[] #[] := fun u => by rw [← hρ]; rfl
        have r58 : ρ (.tmp 58) = val 1 := by rw [← hρ]; rfl
        have p1 := hd 1 rfl rfl
        obtain ⟨A3, c3, e3, _, hr3⟩ : Sl8 wx (fun _ => True) (val 1) z := hd 1 rfl rfl
        rw [e3] at r58
        have hs3 := run_str wx _ A3 z c3 hr3
        clear hρ hd hb hs e3 hr3
        refine ifv rfl ?_
        go_simp
        exact hK _ _ (⟨Below.refl _ _, Nat.le_refl _⟩) rfl fun _ _ _ _ h => h
      · -- 3
        intro val wx hg hd hb hs K hK
        generalize hρ : rhoV _ _ val = ρ
        have cc : ∀ u, ρ (.const u) = u := fun u => by rw [← hρ]; rfl
        have ff : ∀ u, ρ (.func u) = .func (.func u) #[] #[] := fun u => by rw [← hρ]; rfl
        have r3 : ρ (.tmp 3) = .pointer (some ⟨w.heap.size, 0, none⟩) := by rw [← hρ]; rfl
        have hbx : Below W7.heap.size W7 wx := ⟨hg.1.os, hg.1.tape, hg.1.output, hg.1.size, hg.1.block⟩
        have hl := ic_load (HK7.out.below hbx HK7.out.lt) rfl
        clear hρ hd hb hs
        refine ifv rfl ?_
        go_simp
        exact hK _ _ (⟨Below.refl _ _, Nat.le_refl _⟩) rfl fun _ _ _ _ h => h
      · -- 4
        intro val wx hg hd hb hs K hK
        generalize hρ : rhoV _ _ val = ρ
        have cc : ∀ u, ρ (.const u) = u := fun u => by rw [← hρ]; rfl
        have ff : ∀ u, ρ (.func u) = .func (.func u) #[] #[] := fun u => by rw [← hρ]; rfl
        have r60 : ρ (.tmp 60) = .agg (icC m (.slice Am nm cm)) := by rw [← hρ]; exact hd 3 rfl rfl
        have hbx : Below W7.heap.size W7 wx := ⟨hg.1.os, hg.1.tape, hg.1.output, hg.1.size, hg.1.block⟩
        have hbw := HB7.out.trans (hbx.mono HB7.out.size)
        have hc := HC2.out _ hbw
        have hzx : W7.heap.size ≤ wx.heap.size := hg.1.size
        clear hρ hd hb hs
        refine ifv rfl ?_
        go_simp
        refine hc.mono ?_
        rintro e w3 ⟨v3, rfl, h3, hb3⟩
        exact ⟨_, rfl, hK _ _ ⟨hb3.mono hzx, hb3.size⟩ (row_sl h3) fun j _ _ _ h => IbΦ.keep hb3 j _ h⟩
      · -- 5
        intro val wx hg hd hb hs K hK
        generalize hρ : rhoV _ _ val = ρ
        have cc : ∀ u, ρ (.const u) = u := fun u => by rw [← hρ]; rfl
        have ff : ∀ u, ρ (.func u) = .func (.func u) #[] #[] := fun u => by rw [← hρ]; rfl
        have r61 : ρ (.tmp 61) = val 4 := by rw [← hρ]; rfl
        have p4 := hd 4 rfl rfl
        obtain ⟨A3, c3, e3, _, hr3⟩ : Sl8 wx (fun _ => True) (val 4) z := hd 4 rfl rfl
        rw [e3] at r61
        have hs3 := run_str wx _ A3 z c3 hr3
        clear hρ hd hb hs e3 hr3
        refine ifv rfl ?_
        go_simp
        exact hK _ _ (⟨Below.refl _ _, Nat.le_refl _⟩) rfl fun _ _ _ _ h => h
      · -- 6
        intro val wx hg hd hb hs K hK
        generalize hρ : rhoV _ _ val = ρ
        have cc : ∀ u, ρ (.const u) = u := fun u => by rw [← hρ]; rfl
        have ff : ∀ u, ρ (.func u) = .func (.func u) #[] #[] := fun u => by rw [← hρ]; rfl
        have r59 : ρ (.tmp 59) = .string ⟨z.toArray⟩ := by rw [← hρ]; exact hd 2 rfl rfl
        have r62 : ρ (.tmp 62) = .string ⟨z.toArray⟩ := by rw [← hρ]; exact hd 5 rfl rfl
        have t2 : ((⟨z.toArray⟩ : ByteArray) == ⟨z.toArray⟩) = true := (bytes_beq z z).trans (by simp)
        clear hρ hd hb hs
        refine ifv rfl ?_
        go_simp
        exact hK _ _ (⟨Below.refl _ _, Nat.le_refl _⟩) rfl fun _ _ _ _ h => h
      · -- 7
        intro val wx hg hd hb hs K hK
        generalize hρ : rhoV _ _ val = ρ
        have cc : ∀ u, ρ (.const u) = u := fun u => by rw [← hρ]; rfl
        have ff : ∀ u, ρ (.func u) = .func (.func u) #[] #[] := fun u => by rw [← hρ]; rfl
        have r63 : ρ (.tmp 63) = .bool true := by rw [← hρ]; exact hd 6 rfl rfl
        clear hρ hd hb hs
        refine ifv rfl ?_
        go_simp
        exact hK _ _ (⟨Below.refl _ _, Nat.le_refl _⟩) rfl fun _ _ _ _ h => h
      · -- 8
        intro val wx hg hd hb hs K hK
        generalize hρ : rhoV _ _ val = ρ
        have cc : ∀ u, ρ (.const u) = u := fun u => by rw [← hρ]; rfl
        have ff : ∀ u, ρ (.func u) = .func (.func u) #[] #[] := fun u => by rw [← hρ]; rfl
        have r3 : ρ (.tmp 3) = .pointer (some ⟨w.heap.size, 0, none⟩) := by rw [← hρ]; rfl
        have hgv : val 7 = .bool true := hd 7 rfl rfl
        have hbx : Below W7.heap.size W7 wx := ⟨hg.1.os, hg.1.tape, hg.1.output, hg.1.size, hg.1.block⟩
        have hl := ic_load (HK7.out.below hbx HK7.out.lt) rfl
        clear hρ hd hb hs
        refine ifv (wanted_of (g := 7) (b := true) rfl hgv) ?_
        go_simp
        exact hK _ _ (⟨Below.refl _ _, Nat.le_refl _⟩) rfl fun _ _ _ _ h => h
      · -- 9
        intro val wx hg hd hb hs K hK
        generalize hρ : rhoV _ _ val = ρ
        have cc : ∀ u, ρ (.const u) = u := fun u => by rw [← hρ]; rfl
        have ff : ∀ u, ρ (.func u) = .func (.func u) #[] #[] := fun u => by rw [← hρ]; rfl
        have r4 : ρ (.tmp 4) = .pointer (some ⟨w.heap.size + 1, 0, none⟩) := by rw [← hρ]; rfl
        have hgv : val 7 = .bool true := hd 7 rfl rfl
        have hbx : Below W7.heap.size W7 wx := ⟨hg.1.os, hg.1.tape, hg.1.output, hg.1.size, hg.1.block⟩
        have hl := ic_load (HL7.out.below hbx HL7.out.lt) rfl
        clear hρ hd hb hs
        refine ifv (wanted_of (g := 7) (b := true) rfl hgv) ?_
        go_simp
        exact hK _ _ (⟨Below.refl _ _, Nat.le_refl _⟩) rfl fun _ _ _ _ h => h
      · -- 10
        intro val wx hg hd hb hs K hK
        generalize hρ : rhoV _ _ val = ρ
        have cc : ∀ u, ρ (.const u) = u := fun u => by rw [← hρ]; rfl
        have ff : ∀ u, ρ (.func u) = .func (.func u) #[] #[] := fun u => by rw [← hρ]; rfl
        have r65 : ρ (.tmp 65) = .agg (icC m (.slice Am nm cm)) := by rw [← hρ]; exact hd 8 rfl rfl
        have r66 : ρ (.tmp 66) = .agg (icC o (.slice Ao no co)) := by rw [← hρ]; exact hd 9 rfl rfl
        have hgv : val 7 = .bool true := hd 7 rfl rfl
        have hbx : Below W7.heap.size W7 wx := ⟨hg.1.os, hg.1.tape, hg.1.output, hg.1.size, hg.1.block⟩
        have hbw := HB7.out.trans (hbx.mono HB7.out.size)
        have hc := HC3.out wx hbw
        have hzx : W7.heap.size ≤ wx.heap.size := hg.1.size
        clear hρ hd hb hs
        refine ifv (wanted_of (g := 7) (b := true) rfl hgv) ?_
        go_simp
        refine hc.mono ?_
        rintro e w3 ⟨rfl, hb3⟩
        exact ⟨_, rfl, hK _ _ ⟨hb3.mono hzx, hb3.size⟩ rfl fun j _ _ _ h => IbΦ.keep hb3 j _ h⟩
      · -- 11
        intro val wx hg hd hb hs K hK
        generalize hρ : rhoV _ _ val = ρ
        have cc : ∀ u, ρ (.const u) = u := fun u => by rw [← hρ]; rfl
        have ff : ∀ u, ρ (.func u) = .func (.func u) #[] #[] := fun u => by rw [← hρ]; rfl
        have r3 : ρ (.tmp 3) = .pointer (some ⟨w.heap.size, 0, none⟩) := by rw [← hρ]; rfl
        have hgv : val 7 = .bool true := hd 7 rfl rfl
        have hbx : Below W7.heap.size W7 wx := ⟨hg.1.os, hg.1.tape, hg.1.output, hg.1.size, hg.1.block⟩
        have hl := ic_load (HK7.out.below hbx HK7.out.lt) rfl
        clear hρ hd hb hs
        refine ifv (wanted_of (g := 7) (b := true) rfl hgv) ?_
        go_simp
        exact hK _ _ (⟨Below.refl _ _, Nat.le_refl _⟩) rfl fun _ _ _ _ h => h
      · -- 12
        intro val wx hg hd hb hs K hK
        generalize hρ : rhoV _ _ val = ρ
        have cc : ∀ u, ρ (.const u) = u := fun u => by rw [← hρ]; rfl
        have ff : ∀ u, ρ (.func u) = .func (.func u) #[] #[] := fun u => by rw [← hρ]; rfl
        have r4 : ρ (.tmp 4) = .pointer (some ⟨w.heap.size + 1, 0, none⟩) := by rw [← hρ]; rfl
        have hgv : val 7 = .bool true := hd 7 rfl rfl
        have hbx : Below W7.heap.size W7 wx := ⟨hg.1.os, hg.1.tape, hg.1.output, hg.1.size, hg.1.block⟩
        have hl := ic_load (HL7.out.below hbx HL7.out.lt) rfl
        clear hρ hd hb hs
        refine ifv (wanted_of (g := 7) (b := true) rfl hgv) ?_
        go_simp
        exact hK _ _ (⟨Below.refl _ _, Nat.le_refl _⟩) rfl fun _ _ _ _ h => h
      · -- 13
        intro val wx hg hd hb hs K hK
        generalize hρ : rhoV _ _ val = ρ
        have cc : ∀ u, ρ (.const u) = u := fun u => by rw [← hρ]; rfl
        have ff : ∀ u, ρ (.func u) = .func (.func u) #[] #[] := fun u => by rw [← hρ]; rfl
        have r68 : ρ (.tmp 68) = .agg (icC m (.slice Am nm cm)) := by rw [← hρ]; exact hd 11 rfl rfl
        have r69 : ρ (.tmp 69) = .agg (icC o (.slice Ao no co)) := by rw [← hρ]; exact hd 12 rfl rfl
        have hgv : val 7 = .bool true := hd 7 rfl rfl
        have hbx : Below W7.heap.size W7 wx := ⟨hg.1.os, hg.1.tape, hg.1.output, hg.1.size, hg.1.block⟩
        have hbw := HB7.out.trans (hbx.mono HB7.out.size)
        have hc := HC4.out wx hbw
        have hzx : W7.heap.size ≤ wx.heap.size := hg.1.size
        clear hρ hd hb hs
        refine ifv (wanted_of (g := 7) (b := true) rfl hgv) ?_
        go_simp
        refine hc.mono ?_
        rintro e w3 ⟨rfl, hb3⟩
        exact ⟨_, rfl, hK _ _ ⟨hb3.mono hzx, hb3.size⟩ rfl fun j _ _ _ h => IbΦ.keep hb3 j _ h⟩
      · -- 14
        intro val wx hg hd hb hs K hK
        generalize hρ : rhoV _ _ val = ρ
        have cc : ∀ u, ρ (.const u) = u := fun u => by rw [← hρ]; rfl
        have ff : ∀ u, ρ (.func u) = .func (.func u) #[] #[] := fun u => by rw [← hρ]; rfl
        have r67 : ρ (.tmp 67) = .bool s := by rw [← hρ]; exact hd 10 rfl rfl
        have r70 : ρ (.tmp 70) = .bool s := by rw [← hρ]; exact hd 13 rfl rfl
        have hgv : val 7 = .bool true := hd 7 rfl rfl
        have t1 : (s == s) = true := by cases s <;> rfl
        clear hρ hd hb hs
        refine ifv (wanted_of (g := 7) (b := true) rfl hgv) ?_
        go_simp
        exact hK _ _ (⟨Below.refl _ _, Nat.le_refl _⟩) rfl fun _ _ _ _ h => h
      · -- 15
        intro val wx hg hd hb hs K hK
        generalize hρ : rhoV _ _ val = ρ
        have cc : ∀ u, ρ (.const u) = u := fun u => by rw [← hρ]; rfl
        have ff : ∀ u, ρ (.func u) = .func (.func u) #[] #[] := fun u => by rw [← hρ]; rfl
        have r64 : ρ (.tmp 64) = .bool true := by rw [← hρ]; exact hd 7 rfl rfl
        have r71 : ρ (.tmp 71) = .bool true := by rw [← hρ]; exact hd 14 rfl rfl
        clear hρ hd hb hs
        refine ifv rfl ?_
        go_simp
        exact hK _ _ (⟨Below.refl _ _, Nat.le_refl _⟩) rfl fun _ _ _ _ h => h
      · -- 16
        intro val wx hg hd hb hs K hK
        generalize hρ : rhoV _ _ val = ρ
        have cc : ∀ u, ρ (.const u) = u := fun u => by rw [← hρ]; rfl
        have ff : ∀ u, ρ (.func u) = .func (.func u) #[] #[] := fun u => by rw [← hρ]; rfl
        have r72 : ρ (.tmp 72) = .bool true := by rw [← hρ]; exact hd 15 rfl rfl
        clear hρ hd hb hs
        refine ifv rfl ?_
        go_simp
        exact hK _ _ (⟨Below.refl _ _, Nat.le_refl _⟩) rfl fun _ _ _ _ h => h
      · -- 17
        intro val wx hg hd hb hs K hK
        generalize hρ : rhoV _ _ val = ρ
        have cc : ∀ u, ρ (.const u) = u := fun u => by rw [← hρ]; rfl
        have ff : ∀ u, ρ (.func u) = .func (.func u) #[] #[] := fun u => by rw [← hρ]; rfl
        have r3 : ρ (.tmp 3) = .pointer (some ⟨w.heap.size, 0, none⟩) := by rw [← hρ]; rfl
        have hgv : val 16 = .bool true := hd 16 rfl rfl
        have hbx : Below W7.heap.size W7 wx := ⟨hg.1.os, hg.1.tape, hg.1.output, hg.1.size, hg.1.block⟩
        have hl := ic_load (HK7.out.below hbx HK7.out.lt) rfl
        clear hρ hd hb hs
        refine ifv (wanted_of (g := 16) (b := true) rfl hgv) ?_
        go_simp
        exact hK _ _ (⟨Below.refl _ _, Nat.le_refl _⟩) rfl fun _ _ _ _ h => h
      · -- 18
        intro val wx hg hd hb hs K hK
        generalize hρ : rhoV _ _ val = ρ
        have cc : ∀ u, ρ (.const u) = u := fun u => by rw [← hρ]; rfl
        have ff : ∀ u, ρ (.func u) = .func (.func u) #[] #[] := fun u => by rw [← hρ]; rfl
        have r3 : ρ (.tmp 3) = .pointer (some ⟨w.heap.size, 0, none⟩) := by rw [← hρ]; rfl
        have hgv : val 16 = .bool true := hd 16 rfl rfl
        have hbx : Below W7.heap.size W7 wx := ⟨hg.1.os, hg.1.tape, hg.1.output, hg.1.size, hg.1.block⟩
        have hl := ic_load (HK7.out.below hbx HK7.out.lt) rfl
        clear hρ hd hb hs
        refine ifv (wanted_of (g := 16) (b := true) rfl hgv) ?_
        go_simp
        exact hK _ _ (⟨Below.refl _ _, Nat.le_refl _⟩) rfl fun _ _ _ _ h => h
      · -- 19
        intro val wx hg hd hb hs K hK
        generalize hρ : rhoV _ _ val = ρ
        have cc : ∀ u, ρ (.const u) = u := fun u => by rw [← hρ]; rfl
        have ff : ∀ u, ρ (.func u) = .func (.func u) #[] #[] := fun u => by rw [← hρ]; rfl
        have r74 : ρ (.tmp 74) = .agg (icC m (.slice Am nm cm)) := by rw [← hρ]; exact hd 17 rfl rfl
        have r75 : ρ (.tmp 75) = .agg (icC m (.slice Am nm cm)) := by rw [← hρ]; exact hd 18 rfl rfl
        have hgv : val 16 = .bool true := hd 16 rfl rfl
        have hbx : Below W7.heap.size W7 wx := ⟨hg.1.os, hg.1.tape, hg.1.output, hg.1.size, hg.1.block⟩
        have hbw := HB7.out.trans (hbx.mono HB7.out.size)
        have hc := HC5.out wx hbw
        have hzx : W7.heap.size ≤ wx.heap.size := hg.1.size
        clear hρ hd hb hs
        refine ifv (wanted_of (g := 16) (b := true) rfl hgv) ?_
        go_simp
        refine hc.mono ?_
        rintro e w3 ⟨rfl, hb3⟩
        exact ⟨_, rfl, hK _ _ ⟨hb3.mono hzx, hb3.size⟩ rfl fun j _ _ _ h => IbΦ.keep hb3 j _ h⟩
      · -- 20
        intro val wx hg hd hb hs K hK
        generalize hρ : rhoV _ _ val = ρ
        have cc : ∀ u, ρ (.const u) = u := fun u => by rw [← hρ]; rfl
        have ff : ∀ u, ρ (.func u) = .func (.func u) #[] #[] := fun u => by rw [← hρ]; rfl
        have r73 : ρ (.tmp 73) = .bool true := by rw [← hρ]; exact hd 16 rfl rfl
        have r76 : ρ (.tmp 76) = .bool true := by rw [← hρ]; exact hd 19 rfl rfl
        clear hρ hd hb hs
        refine ifv rfl ?_
        go_simp
        exact hK _ _ (⟨Below.refl _ _, Nat.le_refl _⟩) rfl fun _ _ _ _ h => h
      · -- 21
        intro val wx hg hd hb hs K hK
        generalize hρ : rhoV _ _ val = ρ
        have cc : ∀ u, ρ (.const u) = u := fun u => by rw [← hρ]; rfl
        have ff : ∀ u, ρ (.func u) = .func (.func u) #[] #[] := fun u => by rw [← hρ]; rfl
        have r77 : ρ (.tmp 77) = .bool true := by rw [← hρ]; exact hd 20 rfl rfl
        clear hρ hd hb hs
        refine ifv rfl ?_
        go_simp
        exact hK _ _ (⟨Below.refl _ _, Nat.le_refl _⟩) rfl fun _ _ _ _ h => h
      · -- 22
        intro val wx hg hd hb hs K hK
        generalize hρ : rhoV _ _ val = ρ
        have cc : ∀ u, ρ (.const u) = u := fun u => by rw [← hρ]; rfl
        have ff : ∀ u, ρ (.func u) = .func (.func u) #[] #[] := fun u => by rw [← hρ]; rfl
        have r3 : ρ (.tmp 3) = .pointer (some ⟨w.heap.size, 0, none⟩) := by rw [← hρ]; rfl
        have hgv : val 21 = .bool true := hd 21 rfl rfl
        have hbx : Below W7.heap.size W7 wx := ⟨hg.1.os, hg.1.tape, hg.1.output, hg.1.size, hg.1.block⟩
        have hl := ic_load (HK7.out.below hbx HK7.out.lt) rfl
        clear hρ hd hb hs
        refine ifv (wanted_of (g := 21) (b := true) rfl hgv) ?_
        go_simp
        exact hK _ _ (⟨Below.refl _ _, Nat.le_refl _⟩) rfl fun _ _ _ _ h => h
      · -- 23
        intro val wx hg hd hb hs K hK
        generalize hρ : rhoV _ _ val = ρ
        have cc : ∀ u, ρ (.const u) = u := fun u => by rw [← hρ]; rfl
        have ff : ∀ u, ρ (.func u) = .func (.func u) #[] #[] := fun u => by rw [← hρ]; rfl
        have r79 : ρ (.tmp 79) = .agg (icC m (.slice Am nm cm)) := by rw [← hρ]; exact hd 22 rfl rfl
        have hgv : val 21 = .bool true := hd 21 rfl rfl
        have hbx : Below W7.heap.size W7 wx := ⟨hg.1.os, hg.1.tape, hg.1.output, hg.1.size, hg.1.block⟩
        have hbw := HB7.out.trans (hbx.mono HB7.out.size)
        have hc := HC6.out wx
        have hzx : W7.heap.size ≤ wx.heap.size := hg.1.size
        clear hρ hd hb hs
        refine ifv (wanted_of (g := 21) (b := true) rfl hgv) ?_
        go_simp
        refine hc.mono ?_
        rintro e w3 ⟨rfl, hb3⟩
        exact ⟨_, rfl, hK _ _ ⟨hb3.mono hzx, hb3.size⟩ rfl fun j _ _ _ h => IbΦ.keep hb3 j _ h⟩
      · -- 24
        intro val wx hg hd hb hs K hK
        generalize hρ : rhoV _ _ val = ρ
        have cc : ∀ u, ρ (.const u) = u := fun u => by rw [← hρ]; rfl
        have ff : ∀ u, ρ (.func u) = .func (.func u) #[] #[] := fun u => by rw [← hρ]; rfl
        have r3 : ρ (.tmp 3) = .pointer (some ⟨w.heap.size, 0, none⟩) := by rw [← hρ]; rfl
        have hgv : val 21 = .bool true := hd 21 rfl rfl
        clear hρ hd hb hs
        refine ifv (wanted_of (g := 21) (b := true) rfl hgv) ?_
        go_simp
        exact hK _ _ (⟨Below.refl _ _, Nat.le_refl _⟩) rfl fun _ _ _ _ h => h
      · -- 25
        intro val wx hg hd hb hs K hK
        generalize hρ : rhoV _ _ val = ρ
        have cc : ∀ u, ρ (.const u) = u := fun u => by rw [← hρ]; rfl
        have ff : ∀ u, ρ (.func u) = .func (.func u) #[] #[] := fun u => by rw [← hρ]; rfl
        have r81 : ρ (.tmp 81) = .pointer (some ⟨w.heap.size, 0, none⟩) := by rw [← hρ]; exact hd 24 rfl rfl
        have hgv : val 21 = .bool true := hd 21 rfl rfl
        have hbx : Below W7.heap.size W7 wx := ⟨hg.1.os, hg.1.tape, hg.1.output, hg.1.size, hg.1.block⟩
        have hl := ld_u8s ((HK7.out.below hbx HK7.out.lt).cell 0)
        clear hρ hd hb hs
        refine ifv (wanted_of (g := 21) (b := true) rfl hgv) ?_
        go_simp
        exact hK _ _ (⟨Below.refl _ _, Nat.le_refl _⟩) rfl fun _ _ _ _ h => h
      · -- 26
        intro val wx hg hd hb hs K hK
        generalize hρ : rhoV _ _ val = ρ
        have cc : ∀ u, ρ (.const u) = u := fun u => by rw [← hρ]; rfl
        have ff : ∀ u, ρ (.func u) = .func (.func u) #[] #[] := fun u => by rw [← hρ]; rfl
        have r82 : ρ (.tmp 82) = .int .u8 (m.ty.toNat : Int) := by rw [← hρ]; exact hd 25 rfl rfl
        have hgv : val 21 = .bool true := hd 21 rfl rfl
        have hc := HC7.out wx
        clear hρ hd hb hs
        refine ifv (wanted_of (g := 21) (b := true) rfl hgv) ?_
        go_simp
        refine hc.mono ?_
        rintro e w3 ⟨rfl, rfl⟩
        exact ⟨_, rfl, hK _ _ (⟨Below.refl _ _, Nat.le_refl _⟩) rfl fun _ _ _ _ h => h⟩
      · -- 27
        intro val wx hg hd hb hs K hK
        generalize hρ : rhoV _ _ val = ρ
        have cc : ∀ u, ρ (.const u) = u := fun u => by rw [← hρ]; rfl
        have ff : ∀ u, ρ (.func u) = .func (.func u) #[] #[] := fun u => by rw [← hρ]; rfl
        have r80 : ρ (.tmp 80) = .bool er := by rw [← hρ]; exact hd 23 rfl rfl
        have r83 : ρ (.tmp 83) = .bool er := by rw [← hρ]; exact hd 26 rfl rfl
        have hgv : val 21 = .bool true := hd 21 rfl rfl
        have t1 : (er == er) = true := by cases er <;> rfl
        clear hρ hd hb hs
        refine ifv (wanted_of (g := 21) (b := true) rfl hgv) ?_
        go_simp
        exact hK _ _ (⟨Below.refl _ _, Nat.le_refl _⟩) rfl fun _ _ _ _ h => h
      · -- 28
        intro val wx hg hd hb hs K hK
        generalize hρ : rhoV _ _ val = ρ
        have cc : ∀ u, ρ (.const u) = u := fun u => by rw [← hρ]; rfl
        have ff : ∀ u, ρ (.func u) = .func (.func u) #[] #[] := fun u => by rw [← hρ]; rfl
        have r78 : ρ (.tmp 78) = .bool true := by rw [← hρ]; exact hd 21 rfl rfl
        have r84 : ρ (.tmp 84) = .bool true := by rw [← hρ]; exact hd 27 rfl rfl
        clear hρ hd hb hs
        refine ifv rfl ?_
        go_simp
        exact hK _ _ (⟨Below.refl _ _, Nat.le_refl _⟩) rfl fun _ _ _ _ h => h
      · -- 29
        intro val wx hg hd hb hs K hK
        generalize hρ : rhoV _ _ val = ρ
        have cc : ∀ u, ρ (.const u) = u := fun u => by rw [← hρ]; rfl
        have ff : ∀ u, ρ (.func u) = .func (.func u) #[] #[] := fun u => by rw [← hρ]; rfl
        have r85 : ρ (.tmp 85) = .bool true := by rw [← hρ]; exact hd 28 rfl rfl
        clear hρ hd hb hs
        refine ifv rfl ?_
        go_simp
        exact hK _ _ (⟨Below.refl _ _, Nat.le_refl _⟩) rfl fun _ _ _ _ h => h
      · -- 30
        intro val wx hg hd hb hs K hK
        generalize hρ : rhoV _ _ val = ρ
        have cc : ∀ u, ρ (.const u) = u := fun u => by rw [← hρ]; rfl
        have ff : ∀ u, ρ (.func u) = .func (.func u) #[] #[] := fun u => by rw [← hρ]; rfl
        have hgv : val 29 = .bool true := hd 29 rfl rfl
        have hbx : Below W7.heap.size W7 wx := ⟨hg.1.os, hg.1.tape, hg.1.output, hg.1.size, hg.1.block⟩
        have hbw := HB7.out.trans (hbx.mono HB7.out.size)
        have hc := HKN.out wx
        have hzx : W7.heap.size ≤ wx.heap.size := hg.1.size
        clear hρ hd hb hs
        refine ifv (wanted_of (g := 29) (b := true) rfl hgv) ?_
        go_simp
        refine hc.mono ?_
        rintro e w3 ⟨rfl, hb3⟩
        exact ⟨_, rfl, hK _ _ ⟨hb3.mono hzx, hb3.size⟩ rfl fun j _ _ _ h => IbΦ.keep hb3 j _ h⟩
      · -- 31
        intro val wx hg hd hb hs K hK
        generalize hρ : rhoV _ _ val = ρ
        have cc : ∀ u, ρ (.const u) = u := fun u => by rw [← hρ]; rfl
        have ff : ∀ u, ρ (.func u) = .func (.func u) #[] #[] := fun u => by rw [← hρ]; rfl
        have r86 : ρ (.tmp 86) = .bool true := by rw [← hρ]; exact hd 29 rfl rfl
        have r87 : ρ (.tmp 87) = .bool true := by rw [← hρ]; exact hd 30 rfl rfl
        clear hρ hd hb hs
        refine ifv rfl ?_
        go_simp
        exact hK _ _ (⟨Below.refl _ _, Nat.le_refl _⟩) rfl fun _ _ _ _ h => h
      · -- 32
        intro val wx hg hd hb hs K hK
        generalize hρ : rhoV _ _ val = ρ
        have cc : ∀ u, ρ (.const u) = u := fun u => by rw [← hρ]; rfl
        have ff : ∀ u, ρ (.func u) = .func (.func u) #[] #[] := fun u => by rw [← hρ]; rfl
        have r88 : ρ (.tmp 88) = .bool true := by rw [← hρ]; exact hd 31 rfl rfl
        clear hρ hd hb hs
        refine ifv rfl ?_
        go_simp
        exact hK _ _ (⟨Below.refl _ _, Nat.le_refl _⟩) rfl fun _ _ _ _ h => h
    · intro val w9 h9
      rw [if_neg (by decide)] at h9
      obtain ⟨hb9, h9⟩ := h9
      have p32 : val 32 = .bool true := h9 32 (by decide) fun _ _ => rfl
      have HB9 := Lib.hid (show Below w.heap.size w w9 from HB7.out.trans (Below.mono (⟨hb9.1.os, hb9.1.tape, hb9.1.output, hb9.1.size, hb9.1.block⟩ : Below W7.heap.size W7 w9) HB7.out.size))
      simp only [putAll, p32]
      simp only [Act.put, List.setIfInBounds_toArray, List.set_cons_succ, List.set_cons_zero]
      clear h9 hb9 p32
      generalize val 0 = y0, val 1 = y1, val 2 = y2, val 3 = y3, val 4 = y4, val 5 = y5, val 6 = y6, val 7 = y7, val 8 = y8, val 9 = y9, val 10 = y10, val 11 = y11, val 12 = y12, val 13 = y13, val 14 = y14, val 15 = y15, val 16 = y16, val 17 = y17, val 18 = y18, val 19 = y19, val 20 = y20, val 21 = y21, val 22 = y22, val 23 = y23, val 24 = y24, val 25 = y25, val 26 = y26, val 27 = y27, val 28 = y28, val 29 = y29, val 30 = y30, val 31 = y31
      go_wp2_with fail
      go_ret
      exact ⟨rfl, HB9.out⟩
end Go.Proofs.Ytihfihehiifdkaa
