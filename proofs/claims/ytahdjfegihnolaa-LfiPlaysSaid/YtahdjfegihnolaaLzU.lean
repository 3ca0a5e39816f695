/- Layer 12: Do, the walk. -/
import Derived.Test.YtahdjfegihnolaaLzS
namespace Go.Proofs.Ytahdjfegihnolaa
open Go.RowKit Go.Sort
def codeE : (Pc × List Le × List Tl) ⊕ Nat → Int
  | .inr n => (n : Int)
  | .inl _ => 0
def StepRest (w : World) (cb mb B : Nat) (room : Int) (c : Pc) (G : List GE) (e : Ev) (U : Nat → Prop) (w' : World) : Prop :=
  match stepE ⟨room, c, G.map (·.x)⟩ e with
  | .inr n => n ≠ 0 ∧ ∃ ov, TlM w cb mb B room c G [] w' ov U
  | .inl (pc, l, o) => ∃ ov G', TlM w cb mb B room pc G' o w' ov U ∧ G'.map (·.x) = l ∧ OldB w G G'
theorem step_split {w : World} {cb mb B : Nat} {room : Int} {c : Pc} {G : List GE} {e : Ev} {U : Nat → Prop} {en : Ending} {w' : World} (h : StepPost w cb mb B room c G e U en w') {cd : Int} (hc : cd = codeE (stepE ⟨room, c, G.map (·.x)⟩ e)) : en = .returned (.int .i64 cd) ∧ StepRest w cb mb B room c G e U w' := by
  unfold StepPost at h
  unfold StepRest
  subst hc
  cases hs : stepE ⟨room, c, G.map (·.x)⟩ e with
  | inr n => rw [hs] at h; exact h
  | inl r => obtain ⟨pc, l, o⟩ := r; rw [hs] at h; exact h
theorem nil_ownB {k : Nat} : (Value.slice none 0 0).ownBlock ≠ some k := by intro h; cases h
set_option maxRecDepth 100000 in
set_option maxHeartbeats 8000000 in
attribute [-go_sem] Instr.storeAt Instr.loadAt in
theorem do_any {w : World} {cb mb : Nat} {ov : Value} {room : Int} {c : Pc} {G : List GE} (h : CoM w cb mb ov room c G) (hok : LcOk ⟨room, c, G.map (·.x)⟩) (e : Ev) (hp : e.p.1 < 2 ^ 32) :
    Calls Try.prog 12 #[.pointer (some ⟨cb, 0, none⟩), .agg #[.int .i64 e.kind, .int .i64 e.port, .int .i64 e.cost, .int .u32 (e.p.1 : Int), .int .i64 e.p.2, .int .i64 e.dist]] w (DoPost w cb mb room c G e) := by
  obtain ⟨W1, hW1⟩ : ∃ Z, Z = w.alloc (.cells #[.int .i64 e.kind, .int .i64 e.port, .int .i64 e.cost, .int .u32 (e.p.1 : Int), .int .i64 e.p.2, .int .i64 e.dist] 38) := ⟨_, rfl⟩
  have hb1 : Below w.heap.size w W1 := by rw [hW1]; exact (Below.refl _ _).alloc (Nat.le_refl _) _
  have hke : Blk W1 w.heap.size 38 (evI e.kind e.port e.cost e.p.1 e.p.2 e.dist) := by rw [hW1]; exact Blk.new _ _ _
  have hm1 := h.below hb1
  have lev := ev_all hke
  have HTH := Lib.hid (cthere_any hm1.blk)
  have HWR := Lib.hid (wrong_any hm1.blk e.kind e.port e.cost e.dist e.p hp)
  have HM1 := Lib.hid hm1
  have HB1 := Lib.hid hb1
  have HW1 := Lib.hid hW1
  have HKE := Lib.hid hke
  have HOK := Lib.hid hok
  have HP := Lib.hid hp
  have HCE := Lib.hid (show w.heap.size ≠ cb from fun e => by have := h.blk.lt; omega)
  have HMT := Lib.hid (show ∀ k, CoMut cb mb G k → k < w.heap.size from h.lt)
  obtain ⟨nw, hnw⟩ : ∃ n, n = wrongF c e := ⟨_, rfl⟩
  have HNW := Lib.hid hnw
  clear hW1 hb1 hke hm1 hok hp h hnw
  go_enter Try.func12, Try.ntmps12
  go_upto_region 1 with (fail)
  rw [← HW1.out]
  go_upto_region 4 with (first
    | (go_at_call 27; refine HTH.out.mono ?_; rintro e w' ⟨rfl, rfl⟩)
    | (go_at_call 28; refine HWR.out.mono ?_; rintro e2 w2 ⟨rfl, hb2⟩; have HB2 := Lib.hid hb2; clear hb2))
  clear lev
  have hnw : wrongF c e = nw := HNW.out.symm
  rw [show wrongF c (⟨e.kind, e.port, e.cost, e.p, e.dist⟩ : Ev) = nw from hnw]
  clear hnw
  by_cases hz : nw = 0
  · subst hz
    have hm2 := HM1.out.below HB2.out
    have st := st_tlC (hm2.blk.cell 18) (hm2.blk.frozen 18) none 0 0
    obtain ⟨W3, hW3⟩ : ∃ Z, Z = w2.setCell ⟨cb, 18, none⟩ (.slice none 0 0) := ⟨_, rfl⟩
    rw [← hW3] at st
    have HM3 := Lib.hid (show CoM W3 cb mb (.slice none 0 0) room c G from hm2.setCore rfl hW3)
    have HK3 := Lib.hid (show Blk W3 w.heap.size 38 (evI e.kind e.port e.cost e.p.1 e.p.2 e.dist) by
      rw [hW3]
      exact (HKE.out.below HB2.out HKE.out.lt).far (p := ⟨cb, 18, none⟩) HCE.out _)
    have HU3 := Lib.hid (show Upd (CoMut cb mb G) w W3 by
      rw [hW3]
      exact (Upd.ofBelow (HB1.out.trans (HB2.out.mono HB1.out.size)) _).trans_ ((upd_set w2 cb 18 _).mono fun k (e : k = cb) => .inl (.inl e)))
    have hk : e.kind = 1 ∨ e.kind = 2 ∨ e.kind = 3 ∨ e.kind = 4 ∨ e.kind = 5 := by
      have h1 := HNW.out
      unfold wrongF okE at h1
      by_cases k1 : e.kind = 1
      · exact .inl k1
      by_cases k2 : e.kind = 2
      · exact .inr (.inl k2)
      by_cases k3 : e.kind = 3
      · exact .inr (.inr (.inl k3))
      by_cases k4 : e.kind = 4
      · exact .inr (.inr (.inr (.inl k4)))
      by_cases k5 : e.kind = 5
      · exact .inr (.inr (.inr (.inr k5)))
      · simp [k1, k2, k3, k4, k5] at h1
    have HKD := Lib.hid hk
    clear hW3 hm2 hk
    go_upto_region 7 with (fail)
    clear st
    refine wp_region_mix [(false, 1), (true, 2), (false, 1), (true, 2), (false, 2)] 2 (by kernel_rfl) (fun wx => Blk wx w.heap.size 38 (evI e.kind e.port e.cost e.p.1 e.p.2 e.dist)) (fun _ _ h k => h.below k h.lt) (by kernel_rfl) HK3.out (a' := ?_) (fun wz hz => ?_) fun wz hz => ?_
    rotate_left
    · have l1 := fun (dd : Nat) (os : Array Obj) => ev_k (Blk.below hz (below_regrown wz dd os) hz.lt)
      have l2 := fun (dd : Nat) (os : Array Obj) => ev_all (Blk.below hz (below_regrown wz dd os) hz.lt)
      clear hz
      simp only [pick_nil, pick_tt, pick_ft, List.take_succ_cons, List.take_zero, List.drop_succ_cons, List.drop_zero, List.append_nil, List.cons_append, List.nil_append]
      repeat (go_big_quiet_step (fail))
      refine wpQuiet_nil ?_
      rfl
    simp only [pick_nil, pick_ff, pick_tf, List.take_succ_cons, List.take_zero, List.drop_succ_cons, List.drop_zero, List.append_nil, List.cons_append, List.nil_append]
    have HZ := Lib.hid hz
    clear hz
    refine wpMix_step (HK3.out.below HZ.out HK3.out.lt) fun wa ha => ?_
    have HA := Lib.hid (HZ.out.trans (ha.mono HZ.out.size))
    have HKI := Lib.hid (kinds_any wa)
    clear ha
    go_wp2_with (go_at_call 29; refine HKI.out.mono ?_; rintro e2 wb ⟨kb, rfl, hkm, hbb⟩; have HKM := Lib.hid hkm; have HBB := Lib.hid (HA.out.trans (hbb.mono HA.out.size)); clear hkm hbb)
    refine wpMix_step (HK3.out.below HBB.out HK3.out.lt) fun wc hc => ?_
    have HC := Lib.hid (HBB.out.trans (hc.mono HBB.out.size))
    have HKC := Lib.hid (HKM.out.below hc)
    clear hc
    obtain ⟨fid, hfid⟩ : ∃ n, n = stepId e.kind := ⟨_, rfl⟩
    have hl : (Instr.lookup 90 (.map (some kb)) (.int .i64 e.kind) false).run Try.prog wc = .ok (.func (.func fid) #[] #[]) wc := by
      obtain ⟨F, s, m, f1, f2, f3, f4, f5⟩ := HKC.out.map
      rcases HKD.out with hk | hk | hk | hk | hk <;> rw [hfid, hk]
      · have := m.look ckKeyed Try.underlying90 (zero_fn wc) (ck_key 1 (by decide)); rwa [f1] at this
      · have := m.look ckKeyed Try.underlying90 (zero_fn wc) (ck_key 2 (by decide)); rwa [f2] at this
      · have := m.look ckKeyed Try.underlying90 (zero_fn wc) (ck_key 3 (by decide)); rwa [f3] at this
      · have := m.look ckKeyed Try.underlying90 (zero_fn wc) (ck_key 4 (by decide)); rwa [f4] at this
      · have := m.look ckKeyed Try.underlying90 (zero_fn wc) (ck_key 5 (by decide)); rwa [f5] at this
    have HFID := Lib.hid hfid
    clear hfid
    go_wp2_with fail
    clear hl
    refine wpMix_step (HK3.out.below HC.out HK3.out.lt) fun wd hd => ?_
    have HD := Lib.hid (HC.out.trans (hd.mono HC.out.size))
    clear hd
    have hst := step_any (B := w.heap.size) (HM3.out.below HD.out) HOK.out HNW.out.symm HP.out (World.ownsRow_nil _ _ _ _) (Nat.le_trans HU3.out.size HD.out.size)
    rw [← HFID.out] at hst
    have HST := Lib.hid hst
    clear hst
    have HUD := Lib.hid (show ∀ we : World, Upd (TidU cb mb G (.slice none 0 0)) wd we → Upd (CoMut cb mb G) w we from fun we hu => (HU3.out.trans_ ((Upd.ofBelow HD.out (CoMut cb mb G)).mono fun _ e => .inl e)).trans_ (hu.mono fun k hk => .inl (by
      rcases hk with hk | hk | hk | hk
      · exact .inl hk
      · exact .inr (.inl hk)
      · exact .inr (.inr hk)
      · cases hk)))
    have HSZ := Lib.hid (show w.heap.size ≤ wd.heap.size from Nat.le_trans HU3.out.size HD.out.size)
    obtain ⟨cd, hcd⟩ : ∃ z, z = codeE (stepE ⟨room, c, G.map (·.x)⟩ e) := ⟨_, rfl⟩
    have HCD := Lib.hid hcd
    clear hcd
    rcases HKD.out with hk | hk | hk | hk | hk
    all_goals
      have hf : fid = stepId e.kind := HFID.out
      rw [hk] at hf
      unfold stepId at hf
      simp at hf
      subst hf
      clear hk
      go_wp2_with ((first | go_at_call 48 | go_at_call 49 | go_at_call 50 | go_at_call 51 | go_at_call 52); refine HST.out.mono ?_; intro e2 we hpp; obtain ⟨rfl, hrest⟩ := step_split hpp HCD.out; have HRE := Lib.hid hrest; clear hpp hrest)
      refine wpMix_plain ?_
      go_upto_region 8 with (fail)
      have hre := HRE.out
      unfold StepRest at hre
      cases hs : stepE ⟨room, c, G.map (·.x)⟩ e with
      | inr n =>
        rw [hs] at hre
        obtain ⟨hn0, ov2, hm⟩ := hre
        have hcd : cd = (n : Int) := by rw [HCD.out, hs]; rfl
        subst hcd
        have hne : (((n : Nat) : Int) != 0) = true := by rw [bne_iff_ne]; omega
        have HM := Lib.hid hm
        have hd : doF ⟨room, c, G.map (·.x)⟩ e = (⟨room, c, G.map (·.x)⟩, [], n) := by
          unfold doF
          rw [if_neg (show ¬ wrongF c e ≠ 0 by rw [← HNW.out]; simp), hs]
        have HDD := Lib.hid hd
        clear hn0 hm hs hd
        go_wp2_with fail
        go_ret2
        unfold DoPost
        rw [HDD.out]
        exact ⟨.slice none 0 0, G, ov2, rfl, World.ownsRow_nil _ _ _ _, HM.out.com, rfl, fun a ha => .inl ⟨a, ha, rfl⟩, HUD.out _ HM.out.upd⟩
      | inl r =>
        obtain ⟨pc, l, o⟩ := r
        rw [hs] at hre
        obtain ⟨ov2, G2, hm, hl, hold⟩ := hre
        have hcd : cd = 0 := by rw [HCD.out, hs]; rfl
        subst hcd
        obtain ⟨s1, s2, s3, s4, s5⟩ := step_ok HOK.out HNW.out.symm hs
        have hlen := step_len hs
        have htd := tidy_any (B := w.heap.size) hm.com s1 (fun g hg => s3 g.x (by rw [← hl]; exact List.mem_map_of_mem hg)) hm.out (Nat.le_trans HSZ.out hm.upd.size) (by have := HOK.out.len; dsimp only at hlen this; omega)
        have hd : doF ⟨room, c, G.map (·.x)⟩ e = (⟨room, pc, (tidyW pc room l).1⟩, o ++ (tidyW pc room l).2, 0) := by
          unfold doF
          rw [if_neg (show ¬ wrongF c e ≠ 0 by rw [← HNW.out]; simp), hs]
        have HDD := Lib.hid hd
        have HM := Lib.hid hm
        have HTD := Lib.hid htd
        have HL := Lib.hid hl
        have HOLD := Lib.hid hold
        clear hm hl hold s1 s2 s3 s4 s5 hlen htd hs hd
        go_wp2_with (go_at_call 30; refine HTD.out.mono ?_; rintro e2 w9 ⟨rfl, ov3, G3, hm3, hx3, hb3⟩; obtain ⟨A, cp, rfl, _⟩ := own_form hm3.out; have lo := ld_tlC (hm3.com.blk.cell 18); have HM3b := Lib.hid hm3; have HX3 := Lib.hid hx3; have HB3 := Lib.hid hb3; clear hm3 hx3 hb3)
        go_ret2
        unfold DoPost
        rw [HDD.out]
        have hx := HX3.out
        have ho := HM3b.out.out
        rw [← HL.out]
        refine ⟨.slice A (o ++ (tidyW pc room (G2.map (·.x))).2).length cp, G3, _, by rw [List.length_append]; rfl, ho, HM3b.out.com, hx, fun a ha => ?_, HUD.out _ (HM.out.upd.trans HM3b.out.upd fun k hk => ?_)⟩
        · obtain ⟨b, hb, eb⟩ := HB3.out a ha
          rw [← eb]
          rcases HOLD.out b hb with e1 | e1
          · exact .inl e1
          · exact .inr (Nat.le_trans HSZ.out e1)
        · rcases hk with hk | hk | ⟨b, hb, hk⟩ | hk
          · exact .inl (.inl hk)
          · exact .inl (.inr (.inl hk))
          · rcases HOLD.out b hb with ⟨b2, hb2, e1⟩ | e1
            · exact .inl (.inr (.inr (.inl ⟨b2, hb2, hk.trans e1⟩)))
            · exact .inr (by rw [hk]; exact e1)
          · exact HM.out.own k hk
  · have HZ := Lib.hid hz
    have hne : (((nw : Nat) : Int) != 0) = true := by rw [bne_iff_ne]; omega
    clear hz
    go_wp2_with fail
    go_ret2
    have hd : doF ⟨room, c, G.map (·.x)⟩ e = (⟨room, c, G.map (·.x)⟩, [], nw) := by
      unfold doF
      rw [if_pos (show wrongF c e ≠ 0 by rw [← HNW.out]; exact HZ.out), ← HNW.out]
    refine ⟨.slice none 0 0, G, ov, by rw [hd]; rfl, by rw [hd]; exact World.ownsRow_nil _ _ _ _, by rw [hd]; exact HM1.out.below HB2.out, by rw [hd], fun a ha => .inl ⟨a, ha, rfl⟩, Upd.ofBelow (HB1.out.trans (HB2.out.mono HB1.out.size)) _⟩
end Go.Proofs.Ytahdjfegihnolaa
