/- Icmp: send. -/
import Derived.Test.YtihfihehiifdkaaIcJ
namespace Go.Proofs.Ytihfihehiifdkaa
open Go.RowKit Go.Sort Go.BigFrame
def sentH (h : Hd) : Hd := { h with ttl := 64, proto := 1 }
/-- What is there while a message is sent. -/
structure SnS (w : World) (m : Ic) (v : Value) (h : Hd) (vo : Value) (wx : World) : Prop where
  ic : Blk wx w.heap.size 45 (icC m v)
  hd : Blk wx (w.heap.size + 1) 32 (hdC (sentH h) vo)
  sv : Sl8 wx (fun _ => True) v m.body
  so : Sl8 wx (fun _ => True) vo h.opts
  below : Below w.heap.size w wx
theorem SnS.on {w wx wy : World} {m : Ic} {v : Value} {h : Hd} {vo : Value} (s : SnS w m v h vo wx) (hb : Below wx.heap.size wx wy) : SnS w m v h vo wy :=
  ⟨s.ic.below hb s.ic.lt, s.hd.below hb s.hd.lt, s.sv.below hb, s.so.below hb, s.below.trans (hb.mono s.below.size)⟩
def SndΦ (H C : Array Value) (B : Nat) (x z : By) : Nat → Value → World → Prop
  | 0, u, _ => u = .agg H
  | 1, u, _ => u = .agg C
  | 2, u, w => Sl8 w (fun _ => True) u x
  | 3, u, w => ∃ v, u = .tuple #[v, .int .i64 0] ∧ Row8 B w v z
  | 4, u, w => Row8 B w u z
  | 5, u, _ => u = .int .i64 0
  | 6, u, w => Row8 B w u z
  | 7, u, _ => u = .int .i64 0
  | _, _, _ => True
theorem SndΦ.keep {H C : Array Value} {B : Nat} {x z : By} {wx wy : World} (hb : Below wx.heap.size wx wy) : ∀ (j : Nat) (u : Value), SndΦ H C B x z j u wx → SndΦ H C B x z j u wy
  | 0, _, h => h
  | 1, _, h => h
  | 2, _, h => Sl8.below h hb
  | 3, _, ⟨v, e, h⟩ => ⟨v, e, Row8.below h hb⟩
  | 4, _, h => Row8.below h hb
  | 5, _, h => h
  | 6, _, h => Row8.below h hb
  | 7, _, h => h
  | _ + 8, _, _ => trivial
attribute [-go_sem] Instr.storeAt Instr.loadAt in
set_option maxRecDepth 100000 in
set_option maxHeartbeats 4000000 in
theorem send_any (m : Ic) (v : Value) (h : Hd) (vo : Value) (I : Nat → Prop) (w : World) (hv : Sl8 w I v m.body) (hvo : Sl8 w I vo h.opts) (hsm : m.body.length ≤ 900000) (ok : (sentH h).ok) (hf : fitsH (sentH h) (icB m) = true) :
    Calls Try.prog 65 #[icV m v, hdV h vo] w (BytPost w (bytesF (sentH h) (icB m)) 0) := by
  have hv' := hv
  obtain ⟨A, c, e1, hc, hr⟩ := hv'
  obtain ⟨Ao, co, e2, hco, hro⟩ := hvo
  obtain ⟨W0, hW0⟩ : ∃ W, W = (w.alloc (.cells (icC m v) 45)).alloc (.cells (hdC h vo) 32) := ⟨_, rfl⟩
  have hb0 : Below w.heap.size w W0 := by rw [hW0]; exact ((Below.refl _ _).alloc (Nat.le_refl _) _).alloc (by simp) _
  have hk1 : Blk W0 w.heap.size 45 (icC m v) := by rw [hW0]; exact (Blk.new _ _ _).alloc _
  have hk2 : Blk W0 (w.heap.size + 1) 32 (hdC h vo) := by
    rw [hW0]
    have := Blk.new (w.alloc (.cells (icC m v) 45)) 32 (hdC h vo)
    simpa using this
  have s6 := st8 (hk2.cell 6) (hk2.frozen 6) 64
  obtain ⟨W1, hW1⟩ : ∃ W, W = W0.setCell ⟨w.heap.size + 1, 6, none⟩ (.int .u8 64) := ⟨_, rfl⟩
  have hk3 : Blk W1 (w.heap.size + 1) 32 (hdC { h with ttl := 64 } vo) := by rw [hW1]; exact hk2.set_ 6 _
  have s7 := st8 (hk3.cell 7) (hk3.frozen 7) 1
  obtain ⟨W2, hW2⟩ : ∃ W, W = W1.setCell ⟨w.heap.size + 1, 7, none⟩ (.int .u8 1) := ⟨_, rfl⟩
  have hk4 : Blk W2 (w.heap.size + 1) 32 (hdC (sentH h) vo) := by rw [hW2]; exact hk3.set_ 7 _
  have hu : Upd (only (w.heap.size + 1)) W0 W2 := by
    rw [hW2, hW1]
    exact ((Upd.refl (only (w.heap.size + 1)) W0).set_ 6 _).set_ 7 _
  have hb2 : Below w.heap.size w W2 := hb0.trans (hu.below (B := w.heap.size) (fun k (hk : k = _) => by omega) hb0.size)
  have S2 : SnS w m v h vo W2 := by
    refine ⟨(hu.block _ hk1.lt (fun (e : w.heap.size = w.heap.size + 1) => by omega)).trans hk1, hk4, ?_, ?_, hb2⟩
    · exact (hv.lt.keep (Same.ofBelow hb2 fun k hk => hk.2)).mono fun _ _ => trivial
    · exact ⟨Ao, co, e2, hco, (hro.lt.keep (Same.ofBelow hb2 fun k hk => hk.2)).mono fun _ _ => trivial⟩
  rw [← hW1] at s6
  rw [← hW2] at s7
  have HW0 := Lib.hid hW0
  have HS := Lib.hid S2
  have HOK := Lib.hid ok
  have HF := Lib.hid hf
  subst e1 e2
  clear hb0 hk1 hk2 hk3 hk4 hu hb2 S2 hv hr hro hc hco hW0 hW1 hW2 ok hf
  unfold icV hdV
  go_enter Try.func65, Try.ntmps65
  go_upto_region 1 with (fail)
  have hw0 := HW0.out
  unfold hdC at hw0
  rw [← hw0]
  clear hw0
  go_upto_region 2 with (fail)
  have HZ2 := Lib.hid HS.out.below.size
  refine wp_region_rel (by kernel_rfl) (fun p q => Below W2.heap.size p q ∧ p.heap.size ≤ q.heap.size) (SndΦ (hdC (sentH h) (.slice Ao h.opts.length co)) (icC m (.slice A m.body.length c)) w.heap.size (icB m) (bytesF (sentH h) (icB m))) 8 (fun _ _ => True) (fun _ _ => false) (by kernel_rfl) (fun p => ⟨Below.refl _ p, Nat.le_refl _⟩) (fun h k => ⟨h.1.trans k.1, Nat.le_trans h.2 k.2⟩) (obl_of ?_) (fun o h => by cases h) ?_
  · refine ⟨fun _ => ?_, fun _ => ?_, fun _ => ?_, fun _ => ?_, fun _ => ?_, fun _ => ?_, fun _ => ?_, fun _ => ?_, trivial⟩
    · -- 0
      intro val wx hg hd hb hs K hK
      generalize hρ : rhoV _ _ val = ρ
      have r3 : ρ (.tmp 3) = .pointer (some ⟨w.heap.size + 1, 0, none⟩) := by rw [← hρ]; rfl
      have hbx : Below W2.heap.size W2 wx := ⟨hg.1.os, hg.1.tape, hg.1.output, hg.1.size, hg.1.block⟩
      have hl := hd_load (HS.out.on hbx).hd rfl
      clear hρ hd hb hs
      refine ifv rfl ?_
      go_simp
      exact hK _ _ ⟨Below.refl _ _, Nat.le_refl _⟩ rfl fun _ _ _ _ h => h
    · -- 1
      intro val wx hg hd hb hs K hK
      generalize hρ : rhoV _ _ val = ρ
      have r2 : ρ (.tmp 2) = .pointer (some ⟨w.heap.size, 0, none⟩) := by rw [← hρ]; rfl
      have hbx : Below W2.heap.size W2 wx := ⟨hg.1.os, hg.1.tape, hg.1.output, hg.1.size, hg.1.block⟩
      have hl := ic_load (HS.out.on hbx).ic rfl
      clear hρ hd hb hs
      refine ifv rfl ?_
      go_simp
      exact hK _ _ ⟨Below.refl _ _, Nat.le_refl _⟩ rfl fun _ _ _ _ h => h
    · -- 2
      intro val wx hg hd hb hs K hK
      generalize hρ : rhoV _ _ val = ρ
      have ff : ∀ u, ρ (.func u) = .func (.func u) #[] #[] := fun u => by rw [← hρ]; rfl
      have r9 : ρ (.tmp 9) = .agg (icC m (.slice A m.body.length c)) := by rw [← hρ]; exact hd 1 rfl rfl
      have hbx : Below W2.heap.size W2 wx := ⟨hg.1.os, hg.1.tape, hg.1.output, hg.1.size, hg.1.block⟩
      have hc := icbytes_any m (.slice A m.body.length c) _ wx (HS.out.on hbx).sv hsm
      unfold icV at hc
      have hzx : W2.heap.size ≤ wx.heap.size := hg.1.size
      clear hρ hd hb hs
      refine ifv rfl ?_
      go_simp
      refine hc.mono ?_
      rintro e w3 ⟨v3, rfl, h3, hb3⟩
      exact ⟨_, rfl, hK _ _ ⟨hb3.mono hzx, hb3.size⟩ (row_sl h3) fun j _ _ _ h => SndΦ.keep hb3 j _ h⟩
    · -- 3
      intro val wx hg hd hb hs K hK
      generalize hρ : rhoV _ _ val = ρ
      have ff : ∀ u, ρ (.func u) = .func (.func u) #[] #[] := fun u => by rw [← hρ]; rfl
      have r8 : ρ (.tmp 8) = .agg (hdC (sentH h) (.slice Ao h.opts.length co)) := by rw [← hρ]; exact hd 0 rfl rfl
      have r10 : ρ (.tmp 10) = val 2 := by rw [← hρ]; rfl
      have p2 : Sl8 wx (fun _ => True) (val 2) (icB m) := hd 2 rfl rfl
      have hbx : Below W2.heap.size W2 wx := ⟨hg.1.os, hg.1.tape, hg.1.output, hg.1.size, hg.1.block⟩
      obtain ⟨A3, c3, e3, _⟩ := id p2
      rw [e3] at r10 p2
      have hc := bytes_yes (sentH h) (.slice Ao h.opts.length co) (.slice A3 (icB m).length c3) (icB m) _ wx (HS.out.on hbx).so p2 HOK.out HF.out
      rw [hdV_eq] at hc
      have hzx : W2.heap.size ≤ wx.heap.size := hg.1.size
      have hzw : w.heap.size ≤ wx.heap.size := Nat.le_trans HZ2.out hzx
      clear hρ hd hb hs e3 p2
      refine ifv rfl ?_
      go_simp
      refine hc.mono ?_
      rintro e w3 ⟨v3, rfl, h3, hb3⟩
      exact ⟨_, rfl, hK _ _ ⟨hb3.mono hzx, hb3.size⟩ ⟨v3, rfl, own_base h3 hzw⟩ fun j _ _ _ h => SndΦ.keep hb3 j _ h⟩
    · -- 4
      intro val wx hg hd hb hs K hK
      generalize hρ : rhoV _ _ val = ρ
      have r11 : ρ (.tmp 11) = val 3 := by rw [← hρ]; rfl
      obtain ⟨v3, e3, h3⟩ : ∃ v, val 3 = .tuple #[v, .int .i64 0] ∧ Row8 w.heap.size wx v (bytesF (sentH h) (icB m)) := hd 3 rfl rfl
      rw [e3] at r11
      clear hρ hd hb hs e3
      refine ifv rfl ?_
      go_simp
      exact hK _ _ ⟨Below.refl _ _, Nat.le_refl _⟩ h3 fun _ _ _ _ h => h
    · -- 5
      intro val wx hg hd hb hs K hK
      generalize hρ : rhoV _ _ val = ρ
      have r11 : ρ (.tmp 11) = val 3 := by rw [← hρ]; rfl
      obtain ⟨v3, e3, h3⟩ : ∃ v, val 3 = .tuple #[v, .int .i64 0] ∧ Row8 w.heap.size wx v (bytesF (sentH h) (icB m)) := hd 3 rfl rfl
      rw [e3] at r11
      clear hρ hd hb hs e3 h3
      refine ifv rfl ?_
      go_simp
      exact hK _ _ ⟨Below.refl _ _, Nat.le_refl _⟩ rfl fun _ _ _ _ h => h
    · -- 6
      intro val wx hg hd hb hs K hK
      generalize hρ : rhoV _ _ val = ρ
      have r12 : ρ (.tmp 12) = val 4 := by rw [← hρ]; rfl
      have h4 : Row8 w.heap.size wx (val 4) (bytesF (sentH h) (icB m)) := hd 4 rfl rfl
      clear hρ hd hb hs
      refine ifv rfl ?_
      go_simp
      exact hK _ _ ⟨Below.refl _ _, Nat.le_refl _⟩ h4 fun _ _ _ _ h => h
    · -- 7
      intro val wx hg hd hb hs K hK
      generalize hρ : rhoV _ _ val = ρ
      have r13 : ρ (.tmp 13) = .int .i64 0 := by rw [← hρ]; exact hd 5 rfl rfl
      clear hρ hd hb hs
      refine ifv rfl ?_
      go_simp
      exact hK _ _ ⟨Below.refl _ _, Nat.le_refl _⟩ rfl fun _ _ _ _ h => h
  · intro val w9 h9
    rw [if_neg (by decide)] at h9
    obtain ⟨hb9, h9⟩ := h9
    have p6 : Row8 w.heap.size w9 (val 6) (bytesF (sentH h) (icB m)) := h9 6 (by decide) fun _ _ => rfl
    have p7 : val 7 = .int .i64 0 := h9 7 (by decide) fun _ _ => rfl
    have HB9 := Lib.hid (show Below w.heap.size w w9 from HS.out.below.trans (Below.mono (⟨hb9.1.os, hb9.1.tape, hb9.1.output, hb9.1.size, hb9.1.block⟩ : Below W2.heap.size W2 w9) HS.out.below.size))
    have HP6 := Lib.hid p6
    simp only [putAll, p7]
    simp only [Act.put, List.setIfInBounds_toArray, List.set_cons_succ, List.set_cons_zero]
    clear h9 hb9 p6 p7
    generalize val 0 = x0, val 1 = x1, val 2 = x2, val 3 = x3, val 4 = x4, val 5 = x5, val 6 = x6 at HP6 ⊢
    obtain ⟨A6, c6, rfl, _⟩ := HP6.out.form
    go_wp2_with fail
    go_ret2
    exact ⟨_, rfl, HP6.out, HB9.out⟩
end Go.Proofs.Ytihfihehiifdkaa
