/- Layer 12: portDown. -/
import Derived.Test.YtahdjfegihnolaaLzI
namespace Go.Proofs.Ytahdjfegihnolaa
open Go.RowKit Go.Sort
theorem nodup_inj {α β : Type} {f : α → β} {G : List α} (hn : (G.map f).Nodup) {g h : α} (hg : g ∈ G) (hh : h ∈ G) (e : f h = f g) : h = g := by
  induction G with
  | nil => cases hg
  | cons a G ih =>
    rw [List.map_cons, List.nodup_cons] at hn
    rcases List.mem_cons.1 hg with eg | hg
    · rcases List.mem_cons.1 hh with eh | hh
      · exact eh.trans eg.symm
      · have := List.mem_map_of_mem (f := f) hh
        rw [e, eg] at this
        exact absurd this hn.1
    · rcases List.mem_cons.1 hh with eh | hh
      · have := List.mem_map_of_mem (f := f) hg
        rw [← e, eh] at this
        exact absurd this hn.1
      · exact ih hn.2 hg hh
section
variable {w w' : World} {cb mb : Nat} {ov : Value} {room : Int} {c : Pc} {G : List GE}
theorem CoM.upd (h : CoM w cb mb ov room c G) {V : Nat → Prop} (hu : Upd V w w') (hV : ∀ k, V k → ¬ CoMut cb mb G k) : CoM w' cb mb ov room c G :=
  h.same (hu.same (I := CoMut cb mb G) fun j hj hI => hV j hj hI)
theorem CoM.ndp (h : CoM w cb mb ov room c G) : (G.map (·.x.p)).Nodup := by
  obtain ⟨F, m⟩ := h.map
  exact (h.keysAre m).nd
end
theorem TlM.updV {w W W2 : World} {cb mb B : Nat} {room : Int} {c : Pc} {G : List GE} {o : List Tl} {ov : Value} {U V : Nat → Prop} (m : TlM w cb mb B room c G o W ov U) (hu : Upd V W W2) (hV : ∀ k, V k → w.heap.size ≤ k) (h1 : ∀ k, V k → ¬ CoMut cb mb G k) (h2 : ∀ k, V k → ov.ownBlock ≠ some k) : TlM w cb mb B room c G o W2 ov U :=
  ⟨m.com.upd hu h1, m.out.upd hu fun j hj hv => h2 j hv hj, m.upd.trans hu fun k hk => .inr (hV k hk), m.own⟩
theorem RangeV.updg {P : Program} {k : TypeId} {w w' : World} {b r n cnt : Nat} {F : Lit → Option Value} {left : Lit → Bool} (h : RangeV P k w b r n F left cnt) {g : Nat} (hu : Upd (only g) w w') (hb : b ≠ g) (hr : r ≠ g) : RangeV P k w' b r n F left cnt :=
  h.kept (row := some g) ⟨hu.os, hu.tape, hu.output, hu.size, fun i hi hne => hu.block i hi fun (e : i = g) => hne (by rw [e])⟩ (fun e => hb (by injection e)) (fun e => hr (by injection e))
/-- While a port's words go: left are those that are as they were. -/
noncomputable def cutG (q : Nat) (left : Lit → Bool) (G : List GE) : List GE := G.map fun g => if left (pfL g.x.p) = true then g else ⟨cutE q g.x, g.b⟩
def cutAll (q : Nat) (G : List GE) : List GE := G.map fun g => ⟨cutE q g.x, g.b⟩
theorem cutG_start {q : Nat} {left : Lit → Bool} {G : List GE} (h : ∀ g ∈ G, left (pfL g.x.p) = true) : cutG q left G = G :=
  (List.map_congr_left fun g hg => if_pos (h g hg)).trans (List.map_id' G)
theorem cutG_end {q : Nat} {left : Lit → Bool} {G : List GE} (h : ∀ kl, left kl = false) : cutG q left G = cutAll q G :=
  List.map_congr_left fun g _ => if_neg (by rw [h]; simp)
set_option maxRecDepth 100000 in
theorem cutG_step {q : Nat} {left : Lit → Bool} {G : List GE} (hn : (G.map (·.b)).Nodup) (hp : (G.map (·.x.p)).Nodup) (ok : ∀ g ∈ G, pfOk g.x.p) {g : GE} (hg : g ∈ G) : putG (cutG q left G) g.b (cutE q g.x) = cutG q (fun x => left x && !x.sameKey (pfL g.x.p)) G := by
  unfold putG cutG
  rw [List.map_map]
  refine List.map_congr_left fun h hh => ?_
  have hb : (if left (pfL h.x.p) = true then h else ⟨cutE q h.x, h.b⟩ : GE).b = h.b := by split <;> rfl
  simp only [Function.comp]
  rw [hb]
  by_cases e : h.b = g.b
  · obtain rfl := nodup_inj hn hg hh e
    rw [if_pos rfl, if_neg]
    rw [WideAt.sameKey_self (pfL_lit (ok h hg))]
    simp
  · rw [if_neg e]
    have hne : pfL h.x.p ≠ pfL g.x.p := fun e2 => e (by rw [nodup_inj (f := fun g : GE => g.x.p) hp hg hh (pfL_inj (ok h hh) (ok g hg) e2)])
    simp only [Maps.sameKey_ne hne, Bool.not_false, Bool.and_true]
theorem cutG_mem {q : Nat} {left : Lit → Bool} {G : List GE} {g : GE} (hg : g ∈ G) (hl : left (pfL g.x.p) = true) : g ∈ cutG q left G :=
  List.mem_map.2 ⟨g, hg, if_pos hl⟩
theorem cutG_b (q : Nat) (left : Lit → Bool) (G : List GE) : ∀ g ∈ cutG q left G, ∃ h ∈ G, g.b = h.b := fun g hg => by
  obtain ⟨a, ha, rfl⟩ := List.mem_map.1 hg
  exact ⟨a, ha, by split <;> rfl⟩
set_option maxRecDepth 100000 in
set_option maxHeartbeats 4000000 in
attribute [-go_sem] Instr.storeAt Instr.loadAt in
theorem portDown_any {w : World} {cb mb B : Nat} {ov : Value} {room : Int} {c : Pc} {G : List GE} (h : CoM w cb mb ov room c G) {q : Nat} (hq : q < 8) (hpc : PcOk c) (hew : ∀ g ∈ G, EW c g.x) {o : List Tl} (ho : OutM w B ov o) (hB : B ≤ w.heap.size) (hlen : o.length ≤ 800000) (k v : Int) (p : Pf) (d : Int) :
    Calls Try.prog 49 #[.pointer (some ⟨cb, 0, none⟩), .agg #[.int .i64 k, .int .i64 (q : Int), .int .i64 v, .int .u32 (p.1 : Int), .int .i64 p.2, .int .i64 d]] w
      (DonePost w cb mb B room (downF c q) (lookG (downF c q) (cutAll q G)) (o ++ lookO (downF c q) (cutAll q G)) (CoU cb G ov)) := by
  obtain ⟨W1, hW1⟩ : ∃ Z, Z = w.alloc (.cells #[.int .i64 k, .int .i64 (q : Int), .int .i64 v, .int .u32 (p.1 : Int), .int .i64 p.2, .int .i64 d] 38) := ⟨_, rfl⟩
  have hb1 : Below w.heap.size w W1 := by rw [hW1]; exact (Below.refl _ _).alloc (Nat.le_refl _) _
  have hke : Blk W1 w.heap.size 38 (evA k q v p d) := by rw [hW1]; exact Blk.new _ _ _
  have HM1 := Lib.hid (show TlM w cb mb B room c G o W1 ov (CoU cb G ov) from ⟨h.below hb1, own_below ho hb1, Upd.ofBelow hb1 _, fun j hj => .inl (.inr (.inr hj))⟩)
  have HW1 := Lib.hid hW1
  have HKE := Lib.hid hke
  have HQ := Lib.hid hq
  have HPC := Lib.hid (pc_down hpc q)
  have HEW := Lib.hid (show ∀ g ∈ cutAll q G, EW (downF c q) g.x from fun g hg => by
    obtain ⟨a, ha, rfl⟩ := List.mem_map.1 hg
    exact cut_ew (hew a ha) q)
  have HB := Lib.hid hB
  have HLEN := Lib.hid (show o.length + 8 * (cutAll q G).length ≤ 900000 by have := h.len; unfold cutAll; rw [List.length_map]; omega)
  have HCB := Lib.hid (show cb ≠ w.heap.size from Nat.ne_of_lt h.blk.lt)
  have HGB := Lib.hid (show ∀ g ∈ G, g.b ≠ w.heap.size from fun g hg => Nat.ne_of_lt (h.en g hg).lt)
  have hq0 : (0 : Int) ≤ q := by omega
  have hq1 : (q : Int) < 8 := by omega
  clear hW1 hb1 hke hpc hew ho hB hlen h
  go_enter Try.func49, Try.ntmps49
  go_upto_region 1 with (fail)
  rw [← HW1.out]
  refine wp_region_mix [(true, 9), (false, 1), (true, 2), (false, 2)] 1 (by kernel_rfl) (fun wx => Blk wx w.heap.size 38 (evA k q v p d)) (fun _ _ h k => h.below k h.lt) (by kernel_rfl) HKE.out (a' := ?_) (fun wz hz => ?_) fun wz hz => ?_
  rotate_left
  · have l1 := fun (dd : Nat) (os : Array Obj) => ld_iC (b := w.heap.size) (o := 1) (z := (q : Int)) ((Blk.below hz (below_regrown wz dd os) hz.lt).cell 1)
    clear hz
    simp only [pick_nil, pick_tt, pick_ft, List.take_succ_cons, List.take_zero, List.drop_succ_cons, List.drop_zero, List.append_nil, List.cons_append, List.nil_append]
    repeat (go_big_quiet_step (fail))
    refine wpQuiet_nil ?_
    rfl
  simp only [pick_nil, pick_ff, pick_tf, List.take_succ_cons, List.take_zero, List.drop_succ_cons, List.drop_zero, List.append_nil, List.cons_append, List.nil_append]
  have HZ := Lib.hid hz
  clear hz
  refine wpMix_step (HKE.out.below HZ.out HKE.out.lt) fun wa ha => ?_
  have hma := (HM1.out.below HZ.out).below ha
  have hka := (HKE.out.below HZ.out HKE.out.lt).below ha (Nat.lt_of_lt_of_le HKE.out.lt HZ.out.size)
  have st := st_bC ((hma.com.blk.cell (1 + q)).trans (coC_up _ _ _ _ HQ.out)) (hma.com.blk.frozen (1 + q)) false
  obtain ⟨W2, hW2⟩ : ∃ Z, Z = wa.setCell ⟨cb, 1 + q, none⟩ (.bool false) := ⟨_, rfl⟩
  rw [← hW2] at st
  have hk2 : Blk W2 w.heap.size 38 (evA k q v p d) := by rw [hW2]; exact hka.far (p := ⟨cb, 1 + q, none⟩) HCB.out.symm _
  have HK2 := Lib.hid hk2
  have HM2 := Lib.hid (show TlM w cb mb B room ⟨setB c.up q false, c.cost⟩ G o W2 ov (CoU cb G ov) from ⟨hma.com.setCore (coC_set_up _ _ _ _ HQ.out false) hW2, hma.out.setCore hma.com hW2, hma.upd.trans_ (by rw [hW2]; exact (upd_set wa cb (1 + q) _).mono fun k (e : k = cb) => .inl (.inl e)), hma.own⟩)
  clear hma ha hka hW2 hk2
  go_wp2_with fail
  clear st
  refine wpMix_step HK2.out fun wb hb => ?_
  have hmb := HM2.out.below hb
  have hkb := HK2.out.below hb HK2.out.lt
  have st := st_iC ((hmb.com.blk.cell (9 + q)).trans (coC_cost _ _ _ _ HQ.out)) (hmb.com.blk.frozen (9 + q)) 0
  obtain ⟨W3, hW3⟩ : ∃ Z, Z = wb.setCell ⟨cb, 9 + q, none⟩ (.int .i64 0) := ⟨_, rfl⟩
  rw [← hW3] at st
  have hk3 : Blk W3 w.heap.size 38 (evA k q v p d) := by rw [hW3]; exact hkb.far (p := ⟨cb, 9 + q, none⟩) HCB.out.symm _
  have HK3 := Lib.hid hk3
  have hm3 : TlM w cb mb B room (downF c q) G o W3 ov (CoU cb G ov) := ⟨hmb.com.setCore (coC_set_cost _ _ _ _ HQ.out 0) hW3, hmb.out.setCore hmb.com hW3, hmb.upd.trans_ (by rw [hW3]; exact (upd_set wb cb (9 + q) _).mono fun k (e : k = cb) => .inl (.inl e)), hmb.own⟩
  obtain ⟨F, m⟩ := hm3.com.map
  have hka := hm3.com.keysAre m
  obtain ⟨W4, lf, hr, hra, hl, hb4, hs4⟩ := m.map.range pfKeyed Try.underlying79
  have c17 := ld_mC (hm3.com.blk.cell 17)
  have hst : cutG q lf G = G := cutG_start fun g hg => by rw [hl _ (pfL_lit (hka.ok _ (List.mem_map_of_mem hg))), m.at_ g hg]; rfl
  obtain ⟨r, hr0⟩ : ∃ r, r = W3.heap.size := ⟨_, rfl⟩
  have HMUT := Lib.hid (show ∀ k, CoMut cb mb G k → k < r by rw [hr0]; exact hm3.com.lt)
  have HOV := Lib.hid (show ∀ k, ov.ownBlock = some k → k < r from fun k hk => by
    rw [hr0]
    obtain ⟨cs, hb⟩ := own_blkT hm3.out hk
    exact hb.lt)
  have HWR := Lib.hid (show w.heap.size < r by rw [hr0]; exact HK3.out.lt)
  have HM4 := Lib.hid (show TlM w cb mb B room (downF c q) (cutG q lf G) o W4 ov (CoU cb G ov) by rw [hst]; exact hm3.below hb4)
  have HK4 := Lib.hid (HK3.out.below hb4 HK3.out.lt)
  have HRA := Lib.hid (show RangeV Try.prog 36 W4 mb r G.length F lf G.length by rw [hr0]; exact hra)
  have HF := Lib.hid m
  have HKA := Lib.hid hka
  have HND := Lib.hid (And.intro hm3.com.nd hm3.com.ndp)
  have HR0 := Lib.hid hr0
  rw [← hr0] at hr
  clear hmb hb hkb hW3 hk3 hm3 m hka hra hl hb4 hs4 hst hr0
  go_wp2_with fail
  refine wpMix_plain ?_
  go_wp2_with fail
  clear hr c17 st
  go_loopw [] (fun wr => ∃ (left : Lit → Bool) (cnt : Nat), RangeV Try.prog 36 wr mb r G.length F left cnt ∧ TlM w cb mb B room (downF c q) (cutG q left G) o wr ov (CoU cb G ov) ∧ Blk wr w.heap.size 38 (evA k q v p d)) (fun wr => wr.rangeLeft mb r)
  case atStart => exact ⟨_, _, HRA.out, HM4.out, HK4.out⟩
  case round =>
    obtain ⟨left, cnt, hR, hM, hK⟩ := hrel
    rcases hR.next pfKeyed 0 with ⟨_, hdone, hrun⟩ | ⟨key, v1, kl, w2, cnt2, a1, a2, a3, a4, hrun, hR2, hlt, hg2, hs2, hent⟩
    · rw [cutG_end hdone] at hM
      have hla := lookAll_any (B := B) hM.com HPC.out HEW.out hM.out (by have := hM.upd.size; have := HB.out; omega) HLEN.out
      have HLA := Lib.hid hla
      have HM := Lib.hid hM
      clear hR hM hK hdone hla
      go_wp2_with (go_at_call 62; refine HLA.out.mono ?_; rintro e w5 ⟨rfl, ov3, hm⟩; have HM5 := Lib.hid hm; clear hm)
      go_ret
      exact ⟨rfl, ov3, HM.out.trans HM5.out fun j hj => by
        rcases hj with hj | ⟨g, hg, hj⟩ | hj
        · exact .inl (.inl hj)
        · obtain ⟨a, ha, rfl⟩ := List.mem_map.1 hg
          exact .inl (.inr (.inl ⟨a, ha, hj⟩))
        · exact HM.out.own j hj⟩
    · obtain ⟨g, hg, rfl⟩ := HF.out.keys kl v1 a4 a2
      have hv := HF.out.at_ g hg
      rw [a4] at hv
      injection hv with hv
      subst hv
      have hU2 : Upd (only r) wr w2 := (Upd.refl _ _).grown hg2 fun k e => .inl (by injection e with e; exact e.symm)
      have hgc := cutG_mem (q := q) hg a3
      have hm2 := hM.updV hU2 (fun k (e : k = r) => by have := HWR.out; omega) (fun k (e : k = r) hc => by
        have hc2 : CoMut cb mb G k := by
          rcases hc with hc | hc | ⟨a, ha, hc⟩
          · exact .inl hc
          · exact .inr (.inl hc)
          · obtain ⟨a2, h2, e2⟩ := cutG_b _ _ _ a ha
            exact .inr (.inr ⟨a2, h2, hc.trans e2⟩)
        have := HMUT.out k hc2
        omega) (fun k (e : k = r) hc => by have := HOV.out k hc; omega)
      have hk2 : Blk w2 w.heap.size 38 (evA k q v p d) := (hU2.block _ hK.lt fun (e : w.heap.size = r) => by have := HWR.out; omega).trans hK
      have HK2 := Lib.hid hk2
      have HM2 := Lib.hid hm2
      have HR2 := Lib.hid hR2
      have HGC := Lib.hid hgc
      have HG := Lib.hid hg
      have HLT := Lib.hid (show cnt2 < wr.rangeLeft mb r by rw [hR.left_eq]; exact hlt)
      have HGR := Lib.hid (show mb ≠ g.b ∧ r ≠ g.b ∧ w.heap.size ≠ g.b from ⟨(hm2.com.ne.2 g hgc).2.symm, fun e => by have := HMUT.out g.b (.inr (.inr ⟨g, hg, rfl⟩)); omega, (HGB.out g hg).symm⟩)
      unfold ptrE at hrun hent
      clear hR hM hK a1 a2 a3 a4 hU2 hgc hm2 hk2 hR2 hlt hg2 hs2 hg
      go_upto_region 5 with (fail)
      clear hrun hent
      refine wp_region_mix [(true, 9), (false, 1), (true, 2), (false, 2)] 1 (by kernel_rfl) (fun wx => Blk wx w.heap.size 38 (evA k q v p d)) (fun _ _ h k => h.below k h.lt) (by kernel_rfl) HK2.out (a' := ?_) (fun wz hz => ?_) fun wz hz => ?_
      rotate_left
      · have l1 := fun (dd : Nat) (os : Array Obj) => ld_iC (b := w.heap.size) (o := 1) (z := (q : Int)) ((Blk.below hz (below_regrown wz dd os) hz.lt).cell 1)
        clear hz
        simp only [pick_nil, pick_tt, pick_ft, List.take_succ_cons, List.take_zero, List.drop_succ_cons, List.drop_zero, List.append_nil, List.cons_append, List.nil_append]
        repeat (go_big_quiet_step (fail))
        refine wpQuiet_nil ?_
        rfl
      simp only [pick_nil, pick_ff, pick_tf, List.take_succ_cons, List.take_zero, List.drop_succ_cons, List.drop_zero, List.append_nil, List.cons_append, List.nil_append]
      have HZ := Lib.hid hz
      clear hz
      refine wpMix_step (HK2.out.below HZ.out HK2.out.lt) fun wa ha => ?_
      have hma := (HM2.out.below HZ.out).below ha
      have hka := (HK2.out.below HZ.out HK2.out.lt).below ha (Nat.lt_of_lt_of_le HK2.out.lt HZ.out.size)
      have he := hma.com.en g HGC.out
      have st := st_iC ((he.cell (2 + q)).trans (enC_said _ HQ.out)) (he.frozen (2 + q)) 255
      have m5 := hma.com.set1 (w := wa) hma.out (Below.refl _ _) HGC.out (enC_set_said g.x HQ.out 255) rfl
      have hu5 : Upd (only g.b) w2 (wa.setCell ⟨g.b, 2 + q, none⟩ (.int .i64 255)) := (Upd.ofBelow (HZ.out.trans (ha.mono HZ.out.size)) _).trans_ ((upd_set wa g.b (2 + q) _).mono fun k e => .inl e)
      have hk5 : Blk (wa.setCell ⟨g.b, 2 + q, none⟩ (.int .i64 255)) w.heap.size 38 (evA k q v p d) := hka.far (p := ⟨g.b, 2 + q, none⟩) HGR.out.2.2 _
      obtain ⟨W5, hW5⟩ : ∃ Z, Z = wa.setCell ⟨g.b, 2 + q, none⟩ (.int .i64 255) := ⟨_, rfl⟩
      rw [← hW5] at st m5 hu5 hk5
      have HM5 := Lib.hid (hma.trans m5 fun i hi => by
        rcases hi with hi | hi | hi
        · exact .inl (.inl hi)
        · exact .inl (.inr (.inl ⟨g, HG.out, hi⟩))
        · exact hma.own i hi)
      have HK5 := Lib.hid hk5
      have HU5 := Lib.hid hu5
      clear hma ha hka he m5 hu5 hk5 hW5
      go_wp2_with fail
      clear st
      refine wpMix_step HK5.out fun wb hb => ?_
      have hmb := HM5.out.below hb
      have hkb := HK5.out.below hb HK5.out.lt
      have he := hmb.com.en _ (mem_put HGC.out _)
      have st := st_iC ((he.cell (12 + q)).trans (enC_aw _ HQ.out)) (he.frozen (12 + q)) 0
      have m6 := hmb.com.set1 (w := wb) hmb.out (Below.refl _ _) (mem_put HGC.out _) (i := 12 + q) (u := .int .i64 0) (x := cutE q g.x) (enC_set_aw { g.x with said := setAt g.x.said q 255 } HQ.out 0) rfl
      have hu6 : Upd (only g.b) w2 (wb.setCell ⟨g.b, 12 + q, none⟩ (.int .i64 0)) := (HU5.out.trans_ ((Upd.ofBelow hb (only g.b)).mono fun k e => .inl e)).trans_ ((upd_set wb g.b (12 + q) _).mono fun k e => .inl e)
      have hk6 : Blk (wb.setCell ⟨g.b, 12 + q, none⟩ (.int .i64 0)) w.heap.size 38 (evA k q v p d) := hkb.far (p := ⟨g.b, 12 + q, none⟩) HGR.out.2.2 _
      obtain ⟨W6, hW6⟩ : ∃ Z, Z = wb.setCell ⟨g.b, 12 + q, none⟩ (.int .i64 0) := ⟨_, rfl⟩
      rw [← hW6] at hu6 hk6
      change TlM wb cb mb B room (downF c q) (putG (putG (cutG q left G) g.b _) g.b (cutE q g.x)) o (wb.setCell ⟨g.b, 12 + q, none⟩ (.int .i64 0)) ov (LkU cb g.b ov) at m6
      rw [← hW6] at m6
      change (Instr.storeAt 3 (.pointer (some ⟨g.b, 12 + q, none⟩)) (.int .i64 0)).run Try.prog wb = .ok () (wb.setCell ⟨g.b, 12 + q, none⟩ (.int .i64 0)) at st
      rw [← hW6] at st
      have hm6 := hmb.trans m6 fun i hi => by
        rcases hi with hi | hi | hi
        · exact .inl (.inl hi)
        · exact .inl (.inr (.inl ⟨g, HG.out, hi⟩))
        · exact hmb.own i hi
      rw [putG_putG, cutG_step HND.out.1 HND.out.2 (fun a ha => HKA.out.ok _ (List.mem_map_of_mem (f := fun g : GE => g.x.p) ha)) HG.out] at hm6
      have HM6 := Lib.hid hm6
      have HK6 := Lib.hid hk6
      have HR6 := Lib.hid (HR2.out.updg hu6 HGR.out.1 HGR.out.2.1)
      clear hmb hb hkb he m6 hu6 hk6 hW6 hm6
      go_wp2_with fail
      refine wpMix_plain ?_
      go_wp2_with fail
      go_roundw
      case rel => exact ⟨_, _, HR6.out, HM6.out, HK6.out⟩
      case measure => rw [HR6.out.left_eq]; exact HLT.out
end Go.Proofs.Ytahdjfegihnolaa
