/- Layer 12: Copy. -/
import Derived.Test.YtahdjfegihnolaaLwE
import Derived.Maps.Views
namespace Go.Proofs.Ytahdjfegihnolaa
open Go.RowKit Go.Sort
theorem sorted_nodup {l : List Le} (h : sortedL l) : l.Nodup := by
  unfold sortedL at h
  have h2 : l.Pairwise fun a b => lessP a.p b.p := by rw [List.pairwise_map] at h; exact h
  exact h2.imp fun {a b} hh (e : a = b) => lessP_irrefl b.p (by rw [e] at hh; exact hh)
theorem sorted_ext {l m : List Le} (h : sortedL l) (k : sortedL m) (he : ∀ x, x ∈ l ↔ x ∈ m) : l = m := by
  have hp : l.Perm m := (List.perm_ext_iff_of_nodup (sorted_nodup h) (sorted_nodup k)).2 he
  unfold sortedL at h k
  rw [List.pairwise_map] at h k
  refine hp.eq_of_pairwise (fun a b _ _ h1 h2 => absurd (lessP_trans h1 h2) (lessP_irrefl _)) h k
theorem upd_grown {k : Nat} {w w' : World} (hu : Upd (only k) w w') : w.grownBy w' (some k) := ⟨hu.os, hu.tape, hu.output, hu.size, fun i hi hn => hu.block i hi fun (e : i = k) => hn (by rw [e])⟩
theorem en_info : (Try.prog.info? 87).map (·.size) = some 20 := by kernel_rfl
theorem bd_coC (w : World) (room : Int) (f : Nat → Bool) (g : Nat → Int) (mb : Nat) : (Instr.build 81 #[(0, .int .i64 room), (1, .agg (arB f)), (2, .agg (arA g)), (3, .map (some mb))]).run Try.prog w = .ok (.agg (coC room ⟨f, g⟩ mb (.slice none 0 0))) w := by kernel_rfl
def enZ : Array Value := #[.bool false, .bool false, .int .i64 0, .int .i64 0, .int .i64 0, .int .i64 0, .int .i64 0, .int .i64 0, .int .i64 0, .int .i64 0, .int .i64 0, .int .i64 0, .int .i64 0, .int .i64 0, .int .i64 0, .int .i64 0, .int .i64 0, .int .i64 0, .int .i64 0, .int .i64 0]
theorem ld_cost {w : World} {b mb : Nat} {ov : Value} {room : Int} {c : Pc} (h : Blk w b 81 (coC room c mb ov)) : (Instr.loadAt 41 (.pointer (some ⟨b, 9, none⟩))).run Try.prog w = .ok (.agg (arA c.cost)) w := by
  have := run_loadAt_mid (P := Try.prog) w b 9 41 (arA c.cost).toList _ (blk_rangeZ h 9 _ fun j u hu => by obtain ⟨h1, rfl⟩ := ar_get _ hu; exact coC_cost room c mb ov h1) Try.underlying41 rfl (by simpa [arA] using ar_info)
  simpa using this
set_option maxRecDepth 100000 in
theorem com_nil {w' : World} {cb mb : Nat} {room : Int} {c : Pc} (hm : MapV Try.prog 36 w' mb 0 (fun _ => none) 0) (hk : Blk w' cb 81 (coC room c mb (.slice none 0 0))) : CoM w' cb mb (.slice none 0 0) room c [] :=
  ⟨hk, ⟨fun _ => none, hm, fun g hg => by (cases hg), fun _ _ _ => rfl, fun kl v hv => by (cases hv)⟩, fun g hg => by (cases hg), List.nodup_nil, List.Pairwise.nil, fun g hg => by (cases hg), Nat.zero_le _⟩
/-- What Copy leaves. -/
def CopyPost (w : World) (room : Int) (c : Pc) (l : List Le) (e : Ending) (w' : World) : Prop :=
  ∃ cb mb G, e = .returned (.pointer (some ⟨cb, 0, none⟩)) ∧ CoM w' cb mb (.slice none 0 0) room c G ∧ G.map (·.x) = l ∧ Below w.heap.size w w' ∧ ∀ b, CoMut cb mb G b → w.heap.size ≤ b
set_option maxRecDepth 100000 in
set_option maxHeartbeats 8000000 in
attribute [-go_sem] Instr.storeAt Instr.loadAt Instr.build in
theorem lcopy_any {w : World} {cb mb : Nat} {ov : Value} {room : Int} {c : Pc} {G : List GE} (h : CoM w cb mb ov room c G) :
    Calls Try.prog 20 #[.pointer (some ⟨cb, 0, none⟩)] w (CopyPost w room c (G.map (·.x))) := by
  have HTH := Lib.hid (cthere_any h.blk)
  have H := Lib.hid h
  clear h
  go_enter Try.func20, Try.ntmps20
  go_upto_region 3 with (go_at_call 27; refine HTH.out.mono ?_; rintro e w' ⟨rfl, rfl⟩)
  refine wp_region_mix [(true, 12), (false, 4)] 1 (by kernel_rfl) (fun wx => Below w.heap.size w wx) (fun _ _ h k => h.trans (k.mono h.size)) (by kernel_rfl) (Below.refl _ _) (a' := ?_) (fun wz hz => ?_) fun wz hz => ?_
  rotate_left
  · have hb := fun (dd : Nat) (os : Array Obj) => (H.out.below (hz.trans ((below_regrown wz dd os).mono hz.size))).blk
    have l0 := fun (dd : Nat) (os : Array Obj) => ld_iC (b := cb) (o := 0) (z := room) ((hb dd os).cell 0)
    have l1 := fun (dd : Nat) (os : Array Obj) => ld_up (hb dd os)
    have l2 := fun (dd : Nat) (os : Array Obj) => ld_cost (hb dd os)
    clear hz hb
    simp only [pick_nil, pick_tt, pick_ft, List.take_succ_cons, List.take_zero, List.drop_succ_cons, List.drop_zero, List.append_nil]
    repeat (go_big_quiet_step (fail))
    refine wpQuiet_nil ?_
    rfl
  simp only [pick_nil, pick_ff, pick_tf, List.take_succ_cons, List.take_zero, List.drop_succ_cons, List.drop_zero, List.append_nil]
  have HZ := Lib.hid hz
  clear hz
  refine wpMix_step HZ.out fun wa ha => ?_
  obtain ⟨mb2, hmb2⟩ : ∃ b, b = wa.heap.size := ⟨_, rfl⟩
  obtain ⟨W1, hW1⟩ : ∃ Z, Z = wa.alloc (.map #[] 0) := ⟨_, rfl⟩
  have mk := mk_map wa
  rw [← hW1, ← hmb2] at mk
  have hba := HZ.out.trans (ha.mono HZ.out.size)
  have hb1 : Below wa.heap.size wa W1 := by rw [hW1]; exact (Below.refl _ _).alloc (Nat.le_refl _) _
  have HM1 := Lib.hid (show MapV Try.prog 36 W1 mb2 0 (fun _ => none) 0 by rw [hW1, hmb2]; exact mapv_new wa Try.prog 36)
  have HB1 := Lib.hid (hba.trans (hb1.mono hba.size))
  have HMB := Lib.hid (show w.heap.size ≤ mb2 ∧ mb2 < W1.heap.size by rw [hmb2, hW1]; exact ⟨hba.size, by simp⟩)
  clear ha hba hb1 hW1 hmb2
  go_wp2_with fail
  clear mk
  refine wpMix_step HB1.out fun wb hbb => ?_
  have HBB := Lib.hid (HB1.out.trans (hbb.mono HB1.out.size))
  have HMb := Lib.hid (HM1.out.below hbb)
  have HMB2 := Lib.hid (show mb2 < wb.heap.size from Nat.lt_of_lt_of_le HMB.out.2 hbb.size)
  have bd := fun wx => bd_coC wx room c.up c.cost mb2
  clear hbb
  go_wp2_with fail
  refine wpMix_plain ?_
  go_upto_region 4 with (fail)
  obtain ⟨cb2, hcb2⟩ : ∃ b, b = wb.heap.size := ⟨_, rfl⟩
  obtain ⟨W4, hW4⟩ : ∃ Z, Z = wb.alloc (.cells (coC room ⟨c.up, c.cost⟩ mb2 (.slice none 0 0)) 81) := ⟨_, rfl⟩
  rw [← hW4, ← hcb2]
  have hb4 : Below wb.heap.size wb W4 := by rw [hW4]; exact (Below.refl _ _).alloc (Nat.le_refl _) _
  have HM4 := Lib.hid (show CoM W4 cb2 mb2 (.slice none 0 0) room c [] from com_nil (HMb.out.below hb4) (by rw [hW4, hcb2]; exact Blk.new _ _ _))
  have hbw4 := HBB.out.trans (hb4.mono HBB.out.size)
  have h4 := H.out.below hbw4
  obtain ⟨F, m⟩ := h4.map
  have hka := h4.keysAre m
  obtain ⟨W5, lf, hr, hra, hl, hb5, hs5⟩ := m.map.range pfKeyed Try.underlying79
  have c17 := ld_mC (h4.blk.cell 17)
  obtain ⟨r, hr0⟩ : ∃ r, r = W4.heap.size := ⟨_, rfl⟩
  rw [← hr0] at hr hra
  have HR0 := Lib.hid (show w.heap.size ≤ r ∧ mb2 < r ∧ cb2 < r by
    have h1 : W4.heap.size = wb.heap.size + 1 := by rw [hW4]; simp
    have h2 := HMB2.out
    have h3 := HBB.out.size
    refine ⟨?_, ?_, ?_⟩ <;> omega)
  have HMBL := Lib.hid (show mb < w.heap.size ∧ ∀ g ∈ G, g.b < w.heap.size from ⟨H.out.lt mb (.inr (.inl rfl)), fun g hg => (H.out.en g hg).lt⟩)
  have HCB2 := Lib.hid (show w.heap.size ≤ cb2 by rw [hcb2]; exact HBB.out.size)
  have HRA := Lib.hid hra
  have HF := Lib.hid m
  have HKA := Lib.hid hka
  have HL := Lib.hid (show ∀ g ∈ G, lf (pfL g.x.p) = true from fun g hg => by rw [hl _ (pfL_lit (hka.ok _ (List.mem_map_of_mem hg))), m.at_ g hg]; rfl)
  have HM5 := Lib.hid (HM4.out.below hb5)
  have HB5 := Lib.hid (hbw4.trans (hb5.mono hbw4.size))
  clear hcb2 hW4 hb4 hbw4 h4 m hka hra hl hb5 hs5 hr0
  go_wp2_with fail
  clear hr c17
  go_loopw [] (fun wr => ∃ (left : Lit → Bool) (cnt : Nat) (G2 : List GE), RangeV Try.prog 36 wr mb r G.length F left cnt ∧ CoM wr cb2 mb2 (.slice none 0 0) room c G2 ∧ (∀ x, (∃ g ∈ G2, g.x = x) ↔ ∃ g ∈ G, g.x = x ∧ left (pfL g.x.p) = false) ∧ G2.length + cnt ≤ G.length ∧ Below w.heap.size w wr ∧ ∀ g ∈ G2, w.heap.size ≤ g.b ∧ g.b ≠ r) (fun wr => wr.rangeLeft mb r)
  case atStart => exact ⟨_, _, [], HRA.out, HM5.out, fun x => ⟨fun ⟨g, hg, _⟩ => (by cases hg), fun ⟨g, hg, _, h⟩ => by rw [HL.out g hg] at h; cases h⟩, by simp, HB5.out, fun g hg => by cases hg⟩
  case round =>
    obtain ⟨left, cnt, G2, hR, hM, hmem, hcnt, hB, hg2⟩ := hrel
    have HM := Lib.hid hM
    have HMEM := Lib.hid hmem
    have HCNT := Lib.hid hcnt
    have HB := Lib.hid hB
    have HG2 := Lib.hid hg2
    rcases hR.next pfKeyed 0 with ⟨_, hdone, hrun⟩ | ⟨key, v, kl, w2, cnt2, a1, a2, a3, a4, hrun, hR2, hlt, hgr, hs2, hent⟩
    · have heq : G2.map (·.x) = G.map (·.x) := sorted_ext hM.srt H.out.srt fun x => by
        rw [List.mem_map, List.mem_map]
        exact ⟨fun h => by obtain ⟨g, hg, e, _⟩ := (hmem x).1 h; exact ⟨g, hg, e⟩, fun ⟨g, hg, e⟩ => (hmem x).2 ⟨g, hg, e, hdone _⟩⟩
      have HEQ := Lib.hid heq
      clear hR hM hmem hcnt hB hg2 hdone heq
      go_wp2_with fail
      go_ret
      refine ⟨cb2, mb2, G2, rfl, HM.out, HEQ.out, HB.out, fun b hb => ?_⟩
      rcases hb with hb | hb | ⟨g, hg, hb⟩
      · rw [hb]; exact HCB2.out
      · rw [hb]; exact HMB.out.1
      · rw [hb]; exact (HG2.out g hg).1
    · obtain ⟨g, hg, rfl⟩ := HF.out.keys kl v a4 a2
      have hv := HF.out.at_ g hg
      rw [a4] at hv
      injection hv with hv
      subst hv
      have hpo := HKA.out.ok _ (List.mem_map_of_mem hg)
      obtain rfl : key = pfV g.x.p := pfKeyed.inj a1 (pfL_key hpo)
      have hsm : Same (CoMut cb2 mb2 G2) wr w2 := ⟨hgr.size, fun k hk hkl => hgr.block k hkl fun e => by
        injection e with e
        have h0 := HR0.out
        rcases hk with hk | hk | ⟨a, ha, hk⟩
        · omega
        · omega
        · exact (HG2.out a ha).2 (by omega)⟩
      have hM2 := hM.same hsm
      have hB2 : Below w.heap.size w w2 := hB.grown hgr hB.size fun j e => by injection e with e; have := HR0.out.1; omega
      have hkg : Blk w2 g.b 87 (enC g.x) := (H.out.en g hg).below hB2 (H.out.en g hg).lt
      -- the key's variable
      obtain ⟨V1, hV1⟩ : ∃ Z, Z = w2.alloc (.cells #[.int .u32 (g.x.p.1 : Int), .int .i64 g.x.p.2] 36) := ⟨_, rfl⟩
      have hbv1 : Below w2.heap.size w2 V1 := by rw [hV1]; exact (Below.refl _ _).alloc (Nat.le_refl _) _
      have sp := st_pf_new w2 (g.x.p.1 : Int) g.x.p.2
      rw [← hV1] at sp
      have hkp : Blk V1 w2.heap.size 36 (pfC g.x.p) := by rw [hV1]; exact Blk.new _ _ _
      -- the entry's copy
      have le := stc_load Try.underlying87 rfl en_info (hkg.below hbv1 hkg.lt) rfl
      have st := stc_store en_info (Blk.new V1 87 enZ) rfl (vs := enC g.x) rfl (by simp [enC, Value.oneCell'])
      obtain ⟨eb, heb⟩ : ∃ b, b = V1.heap.size := ⟨_, rfl⟩
      obtain ⟨V2, hV2⟩ : ∃ Z, Z = (V1.alloc (.cells enZ 87)).setCells eb 0 (enC g.x).toList := ⟨_, rfl⟩
      rw [← heb, ← hV2] at st
      have hbv2 : Below V1.heap.size V1 V2 := by
        rw [hV2]
        exact below_setCells (by rw [heb]; exact Nat.le_refl _) _ _ _ ((Below.refl _ _).alloc (Nat.le_refl _) _)
      have hke : Blk V2 eb 87 (enC g.x) := by
        rw [hV2, heb]
        exact blk_setCells (Blk.new V1 87 enZ) rfl
      have hb12 := hbv1.trans (hbv2.mono hbv1.size)
      have HMV := Lib.hid (hM2.below hb12)
      have HBV := Lib.hid (hB2.trans (hb12.mono hB2.size))
      have HRV := Lib.hid (hR2.below hb12)
      have HKP := Lib.hid (hkp.below hbv2 hkp.lt)
      have HKE := Lib.hid hke
      have hr2 : r < w2.heap.size := hR2.lt
      have HEB := Lib.hid (show w.heap.size ≤ eb ∧ eb ≠ r ∧ ∀ a ∈ G2, a.b ≠ eb from ⟨by rw [heb]; exact Nat.le_trans hB2.size hbv1.size, by have := hbv1.size; omega, fun a ha => by
        have := (hM2.en a ha).lt
        have := hbv1.size
        omega⟩)
      have HLT := Lib.hid (show cnt2 < cnt ∧ wr.rangeLeft mb r = cnt from ⟨hlt, hR.left_eq⟩)
      have HG := Lib.hid hg
      have HA3 := Lib.hid a3
      have HPO := Lib.hid hpo
      unfold ptrE at hrun hent
      unfold pfV pfC at hrun hent
      unfold enZ at st
      rw [heb] at st
      have HBE := Lib.hid heb
      clear hR hM hmem hcnt hB hg2 a1 a2 a3 a4 hR2 hlt hgr hs2 hpo hsm hM2 hB2 hkg hV1 hbv1 hkp hV2 hbv2 hke hb12 hr2 hg heb
      go_upto_region 8 with (fail)
      rw [← HBE.out]
      clear sp le st hrun hent
      have HBN := Lib.hid (Below.refl V2.heap.size V2)
      refine wp_region_mix [(true, 5), (false, 1)] 0 (by kernel_rfl) (fun wx => Below V2.heap.size V2 wx) (fun _ _ h k => h.trans (k.mono h.size)) (by kernel_rfl) HBN.out (a' := ?_) (fun wz hz => ?_) fun wz hz => ?_
      rotate_left
      · have hb := fun (dd : Nat) (os : Array Obj) => hz.trans ((below_regrown wz dd os).mono hz.size)
        have l1 := fun (dd : Nat) (os : Array Obj) => ld_mC ((HMV.out.below (hb dd os)).blk.cell 17)
        have l2 := fun (dd : Nat) (os : Array Obj) => ld_pf (HKP.out.below (hb dd os) HKP.out.lt)
        clear hz hb
        simp only [pick_nil, pick_tt, pick_ft, List.take_succ_cons, List.take_zero, List.drop_succ_cons, List.drop_zero, List.append_nil]
        repeat (go_big_quiet_step (fail))
        refine wpQuiet_nil ?_
        rfl
      simp only [pick_nil, pick_ff, pick_tf, List.take_succ_cons, List.take_zero, List.drop_succ_cons, List.drop_zero, List.append_nil]
      have HZ := Lib.hid (HBN.out.trans (hz.mono HBN.out.size))
      clear hz
      refine wpMix_step HZ.out fun wc hcc => ?_
      have hbx := HZ.out.trans (hcc.mono HZ.out.size)
      have hnone : findP G2 g.x.p = none := by
        cases hf : findP G2 g.x.p with
        | none => rfl
        | some a =>
          obtain ⟨q1, q2⟩ := findP_some hf
          obtain ⟨b, hb1, hb2, hb3⟩ := (HMEM.out a.x).1 ⟨a, q1, rfl⟩
          rw [hb2, q2, HA3.out] at hb3
          cases hb3
      obtain ⟨wd, hrd, hcd, hud⟩ := (HMV.out.below hbx).put (e := g.x) (b := eb) (by have h1 := HCNT.out; have h2 := HLT.out.1; have h3 := H.out.len; omega) (H.out.may g HG.out) hnone (HKE.out.below hbx HKE.out.lt) HEB.out.2.2
      have hrk := ((HRV.out.below hbx).kept (upd_grown hud) (fun e => by injection e with e; have := HMBL.out.1; have := HMB.out.1; omega) (fun e => by injection e with e; have := HR0.out.2.1; omega))
      have HMD := Lib.hid hcd
      have HRD := Lib.hid hrk
      have HBD := Lib.hid (show Below w.heap.size w wd from (HBV.out.trans (hbx.mono HBV.out.size)).trans (hud.below (fun k (e : k = mb2) => by rw [e]; exact HMB.out.1) (Nat.le_trans HBV.out.size hbx.size)))
      clear hcc hbx hcd hud hnone hrk
      go_wp2_with fail
      refine wpMix_plain ?_
      go_wp2_with fail
      clear hrd
      go_roundw
      case rel =>
        refine ⟨_, _, insGE ⟨g.x, eb⟩ G2, HRD.out, HMD.out, fun x => ?_, ?_, HBD.out, fun a ha => ?_⟩
        · constructor
          · rintro ⟨a, ha, rfl⟩
            rcases mem_insGE.1 ha with rfl | ha
            · exact ⟨g, HG.out, rfl, by rw [WideAt.sameKey_self (pfL_lit HPO.out)]; simp⟩
            · obtain ⟨b, hb1, hb2, hb3⟩ := (HMEM.out a.x).1 ⟨a, ha, rfl⟩
              exact ⟨b, hb1, hb2, by rw [hb3]; rfl⟩
          · rintro ⟨b, hb1, rfl, hb3⟩
            by_cases e : pfL b.x.p = pfL g.x.p
            · have hpb := HKA.out.ok _ (List.mem_map_of_mem (f := fun g : GE => g.x.p) hb1)
              obtain rfl := nodup_g HKA.out.nd HG.out hb1 (pfL_inj hpb HPO.out e)
              exact ⟨_, mem_insGE.2 (.inl rfl), rfl⟩
            · rw [Maps.sameKey_ne e] at hb3
              obtain ⟨a, ha, e2⟩ := (HMEM.out b.x).2 ⟨b, hb1, rfl, by simpa using hb3⟩
              exact ⟨a, mem_insGE.2 (.inr ha), e2⟩
        · rw [(insGE_perm _ _).length_eq, List.length_cons]
          have h1 := HCNT.out
          have h2 := HLT.out.1
          omega
        · rcases mem_insGE.1 ha with rfl | ha
          · exact ⟨HEB.out.1, HEB.out.2.1⟩
          · exact HG2.out a ha
      case measure =>
        rw [HRD.out.left_eq, HLT.out.2]
        exact HLT.out.1
/-- A copy of a core. -/
theorem core_copy {w0 wx : World} {M : Nat → Prop} {cb mb : Nat} {S : Lc} (h : Core w0 wx M cb mb S) :
    Calls Try.prog 20 #[.pointer (some ⟨cb, 0, none⟩)] wx fun e w' => ∃ cb2 mb2 M2, e = .returned (.pointer (some ⟨cb2, 0, none⟩)) ∧ Core w0 w' M2 cb2 mb2 S ∧ Below wx.heap.size wx w' ∧ ∀ b, M2 b → wx.heap.size ≤ b := by
  obtain ⟨ov, G, h1, h2, h3⟩ := h.ex
  refine (lcopy_any h1).mono ?_
  rintro e w' ⟨cb2, mb2, G2, rfl, hc, hx, hb, hm⟩
  exact ⟨cb2, mb2, CoMut cb2 mb2 G2, rfl, ⟨⟨_, G2, hc, by rw [hx, h2], fun b => Iff.rfl⟩, h.ok, fun b hb2 => Nat.le_trans h.bel.size (hm b hb2), h.bel.trans (hb.mono h.bel.size)⟩, hb, hm⟩
end Go.Proofs.Ytahdjfegihnolaa
