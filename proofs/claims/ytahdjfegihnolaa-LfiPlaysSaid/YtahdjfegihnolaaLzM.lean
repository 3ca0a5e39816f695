/- Layer 12: acked; an entry comes in. -/
import Derived.Test.YtahdjfegihnolaaLzK
namespace Go.Proofs.Ytahdjfegihnolaa
open Go.RowKit Go.Sort
theorem ld_pe {w : World} {b : Nat} {k : Int} {q : Nat} {v : Int} {p : Pf} {d : Int} (h : Blk w b 38 (evA k q v p d)) : (Instr.loadAt 36 (.pointer (some ⟨b, 3, none⟩))).run Try.prog w = .ok (.agg #[.int .u32 (p.1 : Int), .int .i64 p.2]) w := by
  have := run_loadAt_mid (P := Try.prog) w b 3 36 (pfE p) _ (blk_rangeZ h 3 _ fun j u hu => by
    have hj2 : j < 2 := by
      rcases Nat.lt_or_ge j 2 with hl | hl
      · exact hl
      · rw [List.getElem?_eq_none (by simpa [pfE] using hl)] at hu; cases hu
    rcases (by omega : j = 0 ∨ j = 1) with rfl | rfl <;> exact hu) Try.underlying36 rfl (show (Try.prog.info? 36).map (·.size) = some 2 by kernel_rfl)
  simpa [pfE] using this
def findP (G : List GE) (p : Pf) : Option GE := G.find? fun g => g.x.p == p
theorem findP_x (G : List GE) (p : Pf) : (findP G p).map (·.x) = findE (G.map (·.x)) p := by
  unfold findP findE
  rw [List.find?_map]
  rfl
theorem findP_some {G : List GE} {p : Pf} {g : GE} (h : findP G p = some g) : g ∈ G ∧ g.x.p = p := by
  unfold findP at h
  exact ⟨List.mem_of_find?_eq_some h, by simpa using List.find?_some h⟩
theorem findP_none {G : List GE} {p : Pf} (h : findP G p = none) : ∀ g ∈ G, g.x.p ≠ p := fun g hg => by
  unfold findP at h
  have := List.find?_eq_none.1 h g hg
  simpa using this
theorem CoF.look_none {w w' : World} {mb : Nat} {G : List GE} {F : Lit → Option Value} (h : CoF w mb G F) (hb : Below w.heap.size w w') {p : Pf} (hp : pfOk p) (hn : findP G p = none) : (Instr.lookup 79 (.map (some mb)) (.agg #[.int .u32 (p.1 : Int), .int .i64 p.2]) false).run Try.prog w' = .ok (.pointer none) w' := by
  have := (h.map.below hb).look pfKeyed Try.underlying79 (zero_ptrE w') (pfL_key hp)
  rw [h.miss p hp (findP_none hn)] at this
  exact this
theorem CoF.look_some {w w' : World} {mb : Nat} {G : List GE} {F : Lit → Option Value} (h : CoF w mb G F) (hb : Below w.heap.size w w') {p : Pf} (hp : pfOk p) {g : GE} (hn : findP G p = some g) : (Instr.lookup 79 (.map (some mb)) (.agg #[.int .u32 (p.1 : Int), .int .i64 p.2]) false).run Try.prog w' = .ok (.pointer (some ⟨g.b, 0, none⟩)) w' := by
  obtain ⟨h1, h2⟩ := findP_some hn
  subst h2
  exact h.look hb h1 hp
def ackR (c : Pc) (q : Nat) (p : Pf) (G : List GE) : Nat × List GE × List Tl := match findP G p with
  | none => (7, G, [])
  | some g => if g.x.aw q = 0 then (7, G, []) else (0, putG G g.b (lookF c (ackF q g.x)).1, (lookF c (ackF q g.x)).2)
def CodePost (w : World) (cb mb B : Nat) (room : Int) (c : Pc) (r : Nat × List GE × List Tl) (o : List Tl) (U : Nat → Prop) (e : Ending) (w' : World) : Prop := e = .returned (.int .i64 (r.1 : Int)) ∧ ∃ ov, TlM w cb mb B room c r.2.1 (o ++ r.2.2) w' ov U
set_option maxRecDepth 100000 in
set_option maxHeartbeats 4000000 in
attribute [-go_sem] Instr.storeAt Instr.loadAt in
theorem acked_any {w : World} {cb mb B : Nat} {ov : Value} {room : Int} {c : Pc} {G : List GE} (h : CoM w cb mb ov room c G) {q : Nat} (hq : q < 8) (hpc : PcOk c) (hew : ∀ g ∈ G, EW c g.x) {o : List Tl} (ho : OutM w B ov o) (hB : B ≤ w.heap.size) (hlen : o.length ≤ 800000) (k v : Int) {p : Pf} (hp : pfOk p) (d : Int) :
    Calls Try.prog 52 #[.pointer (some ⟨cb, 0, none⟩), .agg #[.int .i64 k, .int .i64 (q : Int), .int .i64 v, .int .u32 (p.1 : Int), .int .i64 p.2, .int .i64 d]] w
      (CodePost w cb mb B room c (ackR c q p G) o (CoU cb G ov)) := by
  obtain ⟨W1, hW1⟩ : ∃ Z, Z = w.alloc (.cells #[.int .i64 k, .int .i64 (q : Int), .int .i64 v, .int .u32 (p.1 : Int), .int .i64 p.2, .int .i64 d] 38) := ⟨_, rfl⟩
  have hb1 : Below w.heap.size w W1 := by rw [hW1]; exact (Below.refl _ _).alloc (Nat.le_refl _) _
  have hke : Blk W1 w.heap.size 38 (evA k q v p d) := by rw [hW1]; exact Blk.new _ _ _
  have hm1 : TlM w cb mb B room c G o W1 ov (CoU cb G ov) := ⟨h.below hb1, own_below ho hb1, Upd.ofBelow hb1 _, fun j hj => .inl (.inr (.inr hj))⟩
  have HM1 := Lib.hid hm1
  have HW1 := Lib.hid hW1
  have HKE := Lib.hid hke
  have HQ := Lib.hid hq
  have HPC := Lib.hid hpc
  have HEW := Lib.hid hew
  have HB := Lib.hid hB
  have HLEN := Lib.hid hlen
  have HGB := Lib.hid (show ∀ g ∈ G, g.b < w.heap.size from fun g hg => (h.en g hg).lt)
  have hq0 : (0 : Int) ≤ q := by omega
  have hq1 : (q : Int) < 8 := by omega
  obtain ⟨F, hF⟩ := hm1.com.map
  have r1 := fun n => ld_mC (w := W1.drewN n) ((hm1.com.below (below_drewN W1 n)).blk.cell 17)
  have r2 := fun n => ld_pe (w := W1.drewN n) (hke.below (below_drewN W1 n) hke.lt)
  have r3n := fun n hn => hF.look_none (w' := W1.drewN n) (below_drewN W1 n) hp hn
  have r3s := fun n g hn => hF.look_some (w' := W1.drewN n) (g := g) (below_drewN W1 n) hp hn
  clear hW1 hb1 hke hpc hew ho hB hlen h hm1 hF
  go_enter Try.func52, Try.ntmps52
  go_upto_region 1 with (fail)
  rw [← HW1.out]
  cases hf : findP G p with
  | none =>
    have hR : ackR c q p G = (7, G, []) := by unfold ackR; rw [hf]
    have r3 := fun n => r3n n hf
    have HR := Lib.hid hR
    clear r3n r3s hf hR
    go_quiet (fail)
    clear r1 r2 r3
    obtain ⟨W2, hW2⟩ : ∃ Z, Z = W1.drewN nq := ⟨_, rfl⟩
    rw [← hW2]
    have HM2 := Lib.hid (HM1.out.below (show Below W1.heap.size W1 W2 by rw [hW2]; exact below_drewN W1 nq))
    clear hW2
    go_upto_region 2 with (fail)
    go_quiet (fail)
    go_wp2_with fail
    go_ret
    unfold CodePost
    rw [HR.out]
    exact ⟨rfl, ov, by rw [List.append_nil]; exact HM2.out.below (below_drewN W2 _)⟩
  | some g =>
    have r3 := fun n => r3s n g hf
    obtain ⟨hgm, rfl⟩ := findP_some hf
    have HF := Lib.hid hf
    have HGM := Lib.hid hgm
    clear r3n r3s hf hgm
    go_quiet (fail)
    clear r1 r2 r3
    obtain ⟨W2, hW2⟩ : ∃ Z, Z = W1.drewN nq := ⟨_, rfl⟩
    rw [← hW2]
    have hb2 : Below W1.heap.size W1 W2 := by rw [hW2]; exact below_drewN W1 nq
    have HM2 := Lib.hid (HM1.out.below hb2)
    have HK2 := Lib.hid (HKE.out.below hb2 HKE.out.lt)
    clear hW2 hb2
    have e1 := fun n => ld_iC (w := W2.drewN n) (b := w.heap.size) (o := 1) (z := (q : Int)) ((HK2.out.below (below_drewN W2 n) HK2.out.lt).cell 1)
    have a1 := fun n => ld_iC (w := W2.drewN n) (b := g.b) (o := 12 + q) (z := ((g.x.aw q : Nat) : Int)) ((((HM2.out.com.below (below_drewN W2 n)).en g HGM.out).cell (12 + q)).trans (enC_aw _ HQ.out))
    have HAW := Lib.hid (show g.x.aw q ≤ 1 from (HEW.out g HGM.out).aw q)
    obtain ⟨a, ha⟩ : ∃ a, a = g.x.aw q := ⟨_, rfl⟩
    rw [← ha] at a1 HAW
    have HA := Lib.hid ha
    clear ha
    go_upto_region 2 with (fail)
    by_cases hz : a = 0
    · have hR : ackR c q g.x.p G = (7, G, []) := by unfold ackR; rw [HF.out]; exact if_pos (by rw [← HA.out]; exact hz)
      have HR := Lib.hid hR
      subst hz
      clear hR
      go_quiet (fail)
      clear e1 a1
      go_wp2_with fail
      go_ret
      unfold CodePost
      rw [HR.out]
      exact ⟨rfl, ov, by rw [List.append_nil]; exact HM2.out.below (below_drewN W2 _)⟩
    · have hR : ackR c q g.x.p G = (0, putG G g.b (lookF c (ackF q g.x)).1, (lookF c (ackF q g.x)).2) := by unfold ackR; rw [HF.out]; exact if_neg (by rw [← HA.out]; exact hz)
      have HR := Lib.hid hR
      have HZ := Lib.hid hz
      have hne : (((a : Nat) : Int) == 0) = false := by rw [beq_eq_false_iff_ne]; omega
      clear hR hz
      go_quiet (fail)
      clear e1 a1 hne
      obtain ⟨W3, hW3⟩ : ∃ Z, Z = W2.drewN nq := ⟨_, rfl⟩
      rw [← hW3]
      have hb3 : Below W2.heap.size W2 W3 := by rw [hW3]; exact below_drewN W2 nq
      have HM3 := Lib.hid (HM2.out.below hb3)
      have HK3 := Lib.hid (HK2.out.below hb3 HK2.out.lt)
      have HBW := Lib.hid (Below.refl W3.heap.size W3)
      clear hW3 hb3
      go_upto_region 4 with (fail)
      have hwr : IntKind.i64.wrap (((a : Nat) : Int) - 1) = ((a : Nat) : Int) - 1 := IntWalk.i64_in _ ⟨by have := HAW.out; omega, by have := HAW.out; omega⟩
      refine wp_region_mix [(true, 11), (false, 1)] 0 (by kernel_rfl) (fun wx => Below W3.heap.size W3 wx) (fun _ _ h k => h.trans (k.mono h.size)) (by kernel_rfl) HBW.out (a' := ?_) (fun wz hz => ?_) fun wz hz => ?_
      rotate_left
      · have hb := fun (dd : Nat) (os : Array Obj) => hz.trans ((below_regrown wz dd os).mono hz.size)
        have l1 := fun (dd : Nat) (os : Array Obj) => ld_iC (b := w.heap.size) (o := 1) (z := (q : Int)) ((HK3.out.below (hb dd os) HK3.out.lt).cell 1)
        have l2 := fun (dd : Nat) (os : Array Obj) => ld_iC (b := g.b) (o := 12 + q) (z := ((a : Nat) : Int)) ((((HM3.out.com.below (hb dd os)).en g HGM.out).cell (12 + q)).trans (by rw [HA.out]; exact enC_aw _ HQ.out))
        clear hz hb
        simp only [pick_nil, pick_tt, pick_ft, List.take_succ_cons, List.take_zero, List.drop_succ_cons, List.drop_zero, List.append_nil]
        repeat (go_big_quiet_step (fail))
        refine wpQuiet_nil ?_
        rfl
      simp only [pick_nil, pick_ff, pick_tf, List.take_succ_cons, List.take_zero, List.drop_succ_cons, List.drop_zero, List.append_nil]
      have HZZ := Lib.hid (HBW.out.trans (hz.mono HBW.out.size))
      clear hz hwr
      refine wpMix_step HZZ.out fun wa hx => ?_
      have hba := HZZ.out.trans (hx.mono HZZ.out.size)
      have hma := HM3.out.below hba
      have hka := HK3.out.below hba HK3.out.lt
      have he := hma.com.en g HGM.out
      have st := st_iC ((he.cell (12 + q)).trans (enC_aw _ HQ.out)) (he.frozen (12 + q)) (((a : Nat) : Int) - 1)
      have hcast : (Value.int .i64 (((a : Nat) : Int) - 1)) = .int .i64 (((g.x.aw q - 1 : Nat)) : Int) := by
        have h1 := HA.out
        have h2 := HZ.out
        congr 1
        omega
      have m5 := hma.com.set1 (w := wa) hma.out (Below.refl _ _) HGM.out (i := 12 + q) (u := .int .i64 (((a : Nat) : Int) - 1)) (x := ackF q g.x) (by rw [hcast]; exact enC_set_aw g.x HQ.out _) rfl
      have hk5 : Blk (wa.setCell ⟨g.b, 12 + q, none⟩ (.int .i64 (((a : Nat) : Int) - 1))) w.heap.size 38 (evA k q v g.x.p d) := hka.far (p := ⟨g.b, 12 + q, none⟩) (fun (e : w.heap.size = g.b) => by have := HGB.out g HGM.out; omega) _
      obtain ⟨W5, hW5⟩ : ∃ Z, Z = wa.setCell ⟨g.b, 12 + q, none⟩ (.int .i64 (((a : Nat) : Int) - 1)) := ⟨_, rfl⟩
      rw [← hW5] at st m5 hk5
      have hm5 := hma.trans m5 fun i hi => by
        rcases hi with hi | hi | hi
        · exact .inl (.inl hi)
        · exact .inl (.inr (.inl ⟨g, HGM.out, hi⟩))
        · exact hma.own i hi
      have hlk := look_any (B := B) (g := ⟨ackF q g.x, g.b⟩) hm5.com HPC.out (mem_put HGM.out _) (ack_ew (HEW.out g HGM.out) q) hm5.out (by have := hm5.upd.size; have := HB.out; omega) (by have := HLEN.out; omega)
      have HLK := Lib.hid (show Calls Try.prog 55 #[.pointer (some ⟨cb, 0, none⟩), .agg #[.int .u32 (g.x.p.1 : Int), .int .i64 g.x.p.2]] W5 (TellPost W5 cb mb B room c (putG (putG G g.b (ackF q g.x)) g.b (lookF c (ackF q g.x)).1) (o ++ (lookF c (ackF q g.x)).2) (LkU cb g.b ov)) from hlk)
      have HM5 := Lib.hid hm5
      have lpe := ld_pe hk5
      clear hba hx hma hka he hcast m5 hk5 hW5 hm5 hlk
      go_wp2_with fail
      refine wpMix_plain ?_
      clear st
      go_wp2_with (go_at_call 55; refine HLK.out.mono ?_; rintro e w6 ⟨rfl, ov3, hm⟩; have HM6 := Lib.hid hm; clear hm)
      go_ret
      have hm := HM5.out.trans HM6.out fun i hi => by
        rcases hi with hi | hi | hi
        · exact .inl (.inl hi)
        · exact .inl (.inr (.inl ⟨g, HGM.out, hi⟩))
        · exact HM5.out.own i hi
      rw [putG_putG] at hm
      unfold CodePost
      rw [HR.out]
      exact ⟨rfl, ov3, hm⟩
end Go.Proofs.Ytahdjfegihnolaa
namespace Go.Proofs.Ytahdjfegihnolaa
open Go.RowKit Go.Sort
def insGE (e : GE) : List GE → List GE
  | [] => [e]
  | x :: l => if lessP x.x.p e.x.p then x :: insGE e l else e :: x :: l
theorem insGE_x (e : GE) : ∀ l : List GE, (insGE e l).map (·.x) = insE e.x (l.map (·.x))
  | [] => rfl
  | x :: l => by
    rw [List.map_cons]
    unfold insGE insE
    by_cases h : lessP x.x.p e.x.p
    · rw [if_pos h, if_pos h, List.map_cons, insGE_x e l]
    · rw [if_neg h, if_neg h, List.map_cons, List.map_cons]
theorem insGE_perm (e : GE) : ∀ l : List GE, (insGE e l).Perm (e :: l)
  | [] => List.Perm.refl _
  | x :: l => by
    unfold insGE
    by_cases h : lessP x.x.p e.x.p
    · rw [if_pos h]
      exact ((insGE_perm e l).cons x).trans (List.Perm.swap e x l)
    · rw [if_neg h]
theorem mem_insGE {e x : GE} {l : List GE} : x ∈ insGE e l ↔ x = e ∨ x ∈ l := by rw [(insGE_perm e l).mem_iff, List.mem_cons]
set_option maxRecDepth 100000 in
/-- An entry comes in. -/
theorem CoM.put {w : World} {cb mb : Nat} {ov : Value} {room : Int} {c : Pc} {G : List GE} (h : CoM w cb mb ov room c G) (hl : G.length < 1024) {e : Le} (hp : mayP e.p = true ∧ e.p.1 < 2 ^ 32) (hn : findP G e.p = none) {b : Nat} (hb : Blk w b 87 (enC e)) (hbn : ∀ g ∈ G, g.b ≠ b) :
    ∃ w', (Instr.mapUpdate 79 (.map (some mb)) (.agg #[.int .u32 (e.p.1 : Int), .int .i64 e.p.2]) (.pointer (some ⟨b, 0, none⟩))).run Try.prog w = .ok () w' ∧ CoM w' cb mb ov room c (insGE ⟨e, b⟩ G) ∧ Upd (only mb) w w' := by
  obtain ⟨F, m⟩ := h.map
  have hpo := may_ok hp
  have hmiss := m.miss e.p hpo (findP_none hn)
  obtain ⟨w', hr, hm, hu, hs⟩ := m.map.store pfKeyed Try.underlying79 (by omega) (pfL_key hpo) (.pointer (some ⟨b, 0, none⟩))
  rw [hmiss, if_neg (by simp)] at hm
  have hlen : (insGE ⟨e, b⟩ G).length = G.length + 1 := by rw [(insGE_perm _ _).length_eq]; rfl
  obtain ⟨n1, n2⟩ := h.ne
  have hbm : b ≠ mb := by
    rintro rfl
    obtain ⟨D, ⟨es, cc, q1, _⟩, _⟩ := m.map
    unfold Blk at hb
    rw [q1] at hb
    cases hb
  have hne : ∀ g ∈ G, pfL g.x.p ≠ pfL e.p := fun g hg e2 => findP_none hn g hg (pfL_inj (may_ok (h.may g hg)) hpo e2)
  refine ⟨w', hr, ⟨(hu.block cb h.blk.lt n1).trans h.blk, ⟨setK F (pfL e.p) (some (ptrE b)), ?_, fun a ha => ?_, fun p hp2 hn2 => ?_, fun kl v hv hl2 => ?_⟩, fun a ha => ?_, ?_, ?_, fun a ha => ?_, ?_⟩, hu⟩
  · rw [hlen]; exact hm
  · rcases mem_insGE.1 ha with rfl | ha
    · exact setK_same _ _ _
    · rw [setK_other _ _ (hne a ha)]
      exact m.at_ a ha
  · by_cases e2 : p = e.p
    · exact absurd (show (⟨e, b⟩ : GE).x.p = p from e2.symm) (hn2 ⟨e, b⟩ (mem_insGE.2 (.inl rfl)))
    · rw [setK_other _ _ (fun x => e2 (pfL_inj hp2 hpo x))]
      exact m.miss p hp2 fun a ha ea => hn2 a (mem_insGE.2 (.inr ha)) ea
  · by_cases e2 : kl = pfL e.p
    · exact ⟨⟨e, b⟩, mem_insGE.2 (.inl rfl), e2⟩
    · rw [setK_other _ _ e2] at hv
      obtain ⟨a, ha, h2⟩ := m.keys kl v hv hl2
      exact ⟨a, mem_insGE.2 (.inr ha), h2⟩
  · rcases mem_insGE.1 ha with rfl | ha
    · exact (hu.block b hb.lt hbm).trans hb
    · exact (hu.block a.b (h.en a ha).lt (n2 a ha).2).trans (h.en a ha)
  · rw [((insGE_perm ⟨e, b⟩ G).map (·.b)).nodup_iff, List.map_cons, List.nodup_cons]
    refine ⟨fun hh => ?_, h.nd⟩
    obtain ⟨a, ha, e2⟩ := List.mem_map.1 hh
    exact hbn a ha e2
  · rw [insGE_x]
    refine insE_sorted h.srt ?_
    rw [← findP_x, hn]
    rfl
  · rcases mem_insGE.1 ha with rfl | ha
    · exact hp
    · exact h.may a ha
  · rw [hlen]; omega
theorem putG_turn {G : List GE} (hb : (G.map (·.b)).Nodup) (hp : (G.map (·.x.p)).Nodup) {g : GE} (hg : g ∈ G) (f : Le → Le) : (putG G g.b (f g.x)).map (·.x) = turnE (G.map (·.x)) g.x.p f := by
  unfold putG turnE
  rw [List.map_map, List.map_map]
  refine List.map_congr_left fun h hh => ?_
  show (if h.b = g.b then (⟨f g.x, g.b⟩ : GE) else h).x = if h.x.p = g.x.p then f h.x else h.x
  by_cases e : h.b = g.b
  · obtain rfl := nodup_inj hb hg hh e
    rw [if_pos rfl, if_pos rfl]
  · rw [if_neg e, if_neg fun e2 => e (by rw [nodup_inj (f := fun g : GE => g.x.p) hp hg hh e2])]
theorem outE_one {f : Le → List Tl} : ∀ {G : List GE}, (G.map (·.x.p)).Nodup → ∀ {g : GE}, g ∈ G → outE (G.map (·.x)) g.x.p f = f g.x
  | [], _, _, h => by cases h
  | a :: G, hn, g, hg => by
    rw [List.map_cons, List.nodup_cons] at hn
    unfold outE
    rw [List.map_cons, List.flatMap_cons]
    rcases List.mem_cons.1 hg with rfl | hg
    · rw [if_pos rfl]
      have : ((G.map (·.x)).flatMap fun x => if x.p = g.x.p then f x else []) = [] := by
        rw [List.flatMap_eq_nil_iff]
        intro x hx
        obtain ⟨h, hh, rfl⟩ := List.mem_map.1 hx
        rw [if_neg fun e => hn.1 (by rw [← e]; exact List.mem_map_of_mem (f := fun g : GE => g.x.p) hh)]
      rw [this, List.append_nil]
    · rw [if_neg fun e => hn.1 (by rw [e]; exact List.mem_map_of_mem (f := fun g : GE => g.x.p) hg)]
      exact outE_one hn.2 hg
def heardL (room : Int) (p : Pf) (G : List GE) : List Le := if findE (G.map (·.x)) p = none then insE (newE p (decide ((cntT (G.map (·.x)) : Int) < room))) (G.map (·.x)) else G.map (·.x)
def OldB (w : World) (G G' : List GE) : Prop := ∀ a ∈ G', (∃ b ∈ G, a.b = b.b) ∨ w.heap.size ≤ a.b
def HeardPost (w : World) (cb mb B : Nat) (room : Int) (c : Pc) (q : Nat) (d : Int) (p : Pf) (G : List GE) (o : List Tl) (U : Nat → Prop) (e : Ending) (w' : World) : Prop :=
  (findE (G.map (·.x)) p = none ∧ 1024 ≤ G.length ∧ e = .returned (.int .i64 5) ∧ ∃ ov, TlM w cb mb B room c G o w' ov U) ∨
  (¬ (findE (G.map (·.x)) p = none ∧ 1024 ≤ G.length) ∧ e = .returned (.int .i64 0) ∧ ∃ ov G', TlM w cb mb B room c G' (o ++ outE (heardL room p G) p fun x => (lookF c (hearF q d x)).2) w' ov U ∧ G'.map (·.x) = turnE (heardL room p G) p (fun x => (lookF c (hearF q d x)).1) ∧ OldB w G G')
theorem bd_en (b : Bool) (wx : World) : (Instr.build 87 #[(2, .agg (arA fun _ => 255)), (3, .int .i64 255), (4, .int .i64 255), (1, .bool b)]).run Try.prog wx = .ok (.agg (enC (newE (0, 0) b))) wx := by kernel_rfl
end Go.Proofs.Ytahdjfegihnolaa
