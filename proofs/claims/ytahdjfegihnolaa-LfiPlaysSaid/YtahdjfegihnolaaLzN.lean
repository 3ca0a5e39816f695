/- Layer 12: heard. -/
import Derived.Test.YtahdjfegihnolaaLzM
namespace Go.Proofs.Ytahdjfegihnolaa
open Go.RowKit Go.Sort
theorem blank_lit (w : World) : Calls Try.prog 26 #[] w fun e w' => e = .returned (.agg #[.int .i64 255, .int .i64 255, .int .i64 255, .int .i64 255, .int .i64 255, .int .i64 255, .int .i64 255, .int .i64 255]) ∧ Below w.heap.size w w' := blank_any w
theorem TlM.mapT {w wa wd : World} {cb mb B : Nat} {room : Int} {c : Pc} {G G2 : List GE} {o : List Tl} {ov : Value} {U : Nat → Prop} (m : TlM w cb mb B room c G o wa ov U) (hc : CoM wd cb mb ov room c G2) (hu : Upd (only mb) wa wd) (hU : U mb) : TlM w cb mb B room c G2 o wd ov U :=
  ⟨hc, m.out.upd hu fun j hj (e : j = mb) => own_not_map m.out m.com (by rw [hj, e]), m.upd.trans_ (hu.mono fun k (e : k = mb) => .inl (e ▸ hU)), m.own⟩
set_option maxRecDepth 100000 in
set_option maxHeartbeats 8000000 in
attribute [-go_sem] Instr.storeAt Instr.loadAt in
theorem heard_any {w : World} {cb mb B : Nat} {ov : Value} {room : Int} {c : Pc} {G : List GE} (h : CoM w cb mb ov room c G) {q : Nat} (hq : q < 8) (hup : c.up q = true) (hpc : PcOk c) (hew : ∀ g ∈ G, EW c g.x) {o : List Tl} (ho : OutM w B ov o) (hB : B ≤ w.heap.size) (hlen : o.length ≤ 800000) (k v : Int) {p : Pf} (hp : mayP p = true ∧ p.1 < 2 ^ 32) {d : Int} (hd : 0 ≤ d ∧ d ≤ 255) :
    Calls Try.prog 51 #[.pointer (some ⟨cb, 0, none⟩), .agg #[.int .i64 k, .int .i64 (q : Int), .int .i64 v, .int .u32 (p.1 : Int), .int .i64 p.2, .int .i64 d]] w
      (HeardPost w cb mb B room c q d p G o (TidU cb mb G ov)) := by
  obtain ⟨W1, hW1⟩ : ∃ Z, Z = w.alloc (.cells #[.int .i64 k, .int .i64 (q : Int), .int .i64 v, .int .u32 (p.1 : Int), .int .i64 p.2, .int .i64 d] 38) := ⟨_, rfl⟩
  have hb1 : Below w.heap.size w W1 := by rw [hW1]; exact (Below.refl _ _).alloc (Nat.le_refl _) _
  have hke : Blk W1 w.heap.size 38 (evA k q v p d) := by rw [hW1]; exact Blk.new _ _ _
  have hm1 : TlM w cb mb B room c G o W1 ov (TidU cb mb G ov) := ⟨h.below hb1, own_below ho hb1, Upd.ofBelow hb1 _, fun j hj => .inl (.inr (.inr (.inr hj)))⟩
  have HM1 := Lib.hid hm1
  have HW1 := Lib.hid hW1
  have HKE := Lib.hid hke
  have HQ := Lib.hid hq
  have HUP := Lib.hid hup
  have HPC := Lib.hid hpc
  have HEW := Lib.hid hew
  have HB := Lib.hid hB
  have HLEN := Lib.hid hlen
  have HP := Lib.hid hp
  have HDD := Lib.hid hd
  have HGL := Lib.hid h.len
  have hq0 : (0 : Int) ≤ q := by omega
  have hq1 : (q : Int) < 8 := by omega
  obtain ⟨F, hF⟩ := hm1.com.map
  have r1 := fun n => ld_mC (w := W1.drewN n) ((hm1.com.below (below_drewN W1 n)).blk.cell 17)
  have r2 := fun n => ld_pe (w := W1.drewN n) (hke.below (below_drewN W1 n) hke.lt)
  obtain ⟨u, hu⟩ : ∃ u : Value, u = match findP G p with | some g => .pointer (some ⟨g.b, 0, none⟩) | none => .pointer none := ⟨_, rfl⟩
  have r3 : ∀ n, (Instr.lookup 79 (.map (some mb)) (.agg #[.int .u32 (p.1 : Int), .int .i64 p.2]) false).run Try.prog (W1.drewN n) = .ok u (W1.drewN n) := fun n => by
    rw [hu]
    cases hf : findP G p with
    | none => exact hF.look_none (w' := W1.drewN n) (below_drewN W1 n) (may_ok hp) hf
    | some g => exact hF.look_some (w' := W1.drewN n) (below_drewN W1 n) (may_ok hp) hf
  have HUU := Lib.hid hu
  clear hW1 hb1 hke hup hpc hew ho hB hlen h hm1 hF hp hd hu
  go_enter Try.func51, Try.ntmps51
  go_upto_region 1 with (fail)
  rw [← HW1.out]
  go_quiet (fail)
  clear r1 r2 r3
  obtain ⟨W2, hW2⟩ : ∃ Z, Z = W1.drewN nq := ⟨_, rfl⟩
  rw [← hW2]
  have hb2 : Below W1.heap.size W1 W2 := by rw [hW2]; exact below_drewN W1 nq
  have HM2 := Lib.hid (HM1.out.below hb2)
  have HK2 := Lib.hid (HKE.out.below hb2 HKE.out.lt)
  clear hW2 hb2
  obtain ⟨bn, hbn⟩ : ∃ b, b = (findP G p).isNone := ⟨_, rfl⟩
  have q1 : ∀ wx, (binOp .eql 84 u (.pointer none)).run Try.prog wx = .ok (.bool bn) wx := fun wx => by
    rw [HUU.out, hbn]
    cases findP G p with
    | none => go_simp
    | some g => go_simp
  have q2 : ∀ x y wx, (eqGuard .eql 84 x y u (.pointer none)).run Try.prog wx = .ok () wx := fun x y wx => by
    rw [HUU.out]
    cases findP G p with
    | none => go_simp
    | some g => go_simp
  have HBN := Lib.hid hbn
  clear hbn
  go_upto_if 14 with (fail)
  clear q1 q2
  go_cut [5] from 6 (fun s5 wx => ∃ (G1 : List GE) (g : GE), s5 = .pointer (some ⟨g.b, 0, none⟩) ∧ g ∈ G1 ∧ g.x.p = p ∧ G1.map (·.x) = heardL room p G ∧ OldB w G G1 ∧ (∀ a ∈ G1, EW c a.x) ∧ TlM w cb mb B room c G1 o wx ov (TidU cb mb G ov) ∧ Blk wx w.heap.size 38 (evA k q v p d) ∧ ¬ (findE (G.map (·.x)) p = none ∧ 1024 ≤ G.length))
  case first =>
    cases hf : findP G p with
    | some g =>
      have hu : u = .pointer (some ⟨g.b, 0, none⟩) := by rw [HUU.out, hf]
      have hb : bn = false := by rw [HBN.out, hf]; rfl
      have HF := Lib.hid hf
      subst hu hb
      clear hf
      go_wp2_with fail
      go_meet
      case rel =>
        obtain ⟨h1, h2⟩ := findP_some HF.out
        have hfe : findE (G.map (·.x)) p = some g.x := by rw [← findP_x, HF.out]; rfl
        refine ⟨G, g, rfl, h1, h2, ?_, fun a ha => .inl ⟨a, ha, rfl⟩, HEW.out, HM2.out, HK2.out, fun hh => ?_⟩
        · unfold heardL
          rw [if_neg (by rw [hfe]; simp)]
        · rw [hfe] at hh
          cases hh.1
    | none =>
      have hu : u = .pointer none := by rw [HUU.out, hf]
      have hb : bn = true := by rw [HBN.out, hf]; rfl
      have hfe : findE (G.map (·.x)) p = none := by rw [← findP_x, hf]; rfl
      have HF := Lib.hid hf
      have HFE := Lib.hid hfe
      subst hu hb
      clear hf hfe
      obtain ⟨F2, hF2⟩ := HM2.out.com.map
      have c17 := ld_mC (HM2.out.com.blk.cell 17)
      have hl := hF2.map.len Try.underlying79 3
      obtain ⟨n, hn⟩ : ∃ n, n = G.length := ⟨_, rfl⟩
      rw [← hn] at hl
      have HN := Lib.hid hn
      clear hF2 hn
      by_cases hbig : 1024 ≤ n
      · have HBIG := Lib.hid hbig
        have hge : (1024 : Int) ≤ (n : Int) := by omega
        clear hbig
        go_wp2_with fail
        go_ret
        exact .inl ⟨HFE.out, by rw [← HN.out]; exact HBIG.out, rfl, ov, HM2.out⟩
      · have HBIG := Lib.hid hbig
        have hge : ¬ (1024 : Int) ≤ (n : Int) := by omega
        clear hbig
        go_upto_region 5 with (fail)
        clear c17 hl hge
        obtain ⟨t, ht⟩ : ∃ t, t = cntT (G.map (·.x)) := ⟨_, rfl⟩
        have HTT := Lib.hid ht
        have HBW := Lib.hid (Below.refl W2.heap.size W2)
        clear ht
        refine wp_region_mix [(true, 9), (false, 2)] 0 (by kernel_rfl) (fun wx => Below W2.heap.size W2 wx) (fun _ _ h k => h.trans (k.mono h.size)) (by kernel_rfl) HBW.out (a' := ?_) (fun wz hz => ?_) fun wz hz => ?_
        rotate_left
        · have hb := fun (dd : Nat) (os : Array Obj) => hz.trans ((below_regrown wz dd os).mono hz.size)
          have c1 := fun (dd : Nat) (os : Array Obj) => Calls.regrown_of (takenNow_any (HM2.out.com.below (hb dd os)))
          rw [← HTT.out] at c1
          have c2 := fun (dd : Nat) (os : Array Obj) => Calls.regrown_of (blank_lit (grow (redrawn wz dd) os))
          have l0 := fun (dd : Nat) (os : Array Obj) => ld_iC (b := cb) (o := 0) (z := room) ((HM2.out.com.below (hb dd os)).blk.cell 0)
          clear hz hb
          simp only [pick_nil, pick_tt, pick_ft, List.take_succ_cons, List.take_zero, List.drop_succ_cons, List.drop_zero, List.append_nil]
          repeat (go_big_quiet_step (first | with_reducible exact c1 _ _ | with_reducible exact c2 _ _))
          refine wpQuiet_nil ?_
          rfl
        simp only [pick_nil, pick_ff, pick_tf, List.take_succ_cons, List.take_zero, List.drop_succ_cons, List.drop_zero, List.append_nil]
        have HZ := Lib.hid (HBW.out.trans (hz.mono HBW.out.size))
        clear hz
        refine wpMix_step HZ.out fun wa ha => ?_
        have HA := Lib.hid (HZ.out.trans (ha.mono HZ.out.size))
        clear ha
        go_wp2_with fail
        refine wpMix_plain ?_
        go_upto_region 6 with (fail)
        obtain ⟨gb, hgb⟩ : ∃ b, b = wa.heap.size := ⟨_, rfl⟩
        obtain ⟨W3, hW3⟩ : ∃ Z, Z = wa.alloc (.cells #[.bool false, .bool (decide ((t : Int) < room)), .int .i64 255, .int .i64 255, .int .i64 255, .int .i64 255, .int .i64 255, .int .i64 255, .int .i64 255, .int .i64 255, .int .i64 255, .int .i64 255, .int .i64 0, .int .i64 0, .int .i64 0, .int .i64 0, .int .i64 0, .int .i64 0, .int .i64 0, .int .i64 0] 87) := ⟨_, rfl⟩
        rw [← hW3, ← hgb]
        have hma := HM2.out.below HA.out
        have hb3 : Below wa.heap.size wa W3 := by rw [hW3]; exact (Below.refl _ _).alloc (Nat.le_refl _) _
        have HE3 := Lib.hid (show Blk W3 gb 87 (enC (newE p (decide ((t : Int) < room)))) by rw [hW3, hgb]; exact Blk.new _ _ _)
        have HM3 := Lib.hid (hma.below hb3)
        have HK3 := Lib.hid ((HK2.out.below HA.out HK2.out.lt).below hb3 (Nat.lt_of_lt_of_le HK2.out.lt HA.out.size))
        have HGBW := Lib.hid (show w.heap.size ≤ gb by rw [hgb]; exact hma.upd.size)
        have HGBN := Lib.hid (show ∀ g ∈ G, g.b ≠ gb from fun g hg => by rw [hgb]; exact Nat.ne_of_lt (hma.com.en g hg).lt)
        have HB3 := Lib.hid (Below.refl W3.heap.size W3)
        clear hgb hW3 hma hb3
        refine wp_region_mix [(true, 7), (false, 1)] 0 (by kernel_rfl) (fun wx => Below W3.heap.size W3 wx) (fun _ _ h k => h.trans (k.mono h.size)) (by kernel_rfl) HB3.out (a' := ?_) (fun wz hz => ?_) fun wz hz => ?_
        rotate_left
        · have hb := fun (dd : Nat) (os : Array Obj) => hz.trans ((below_regrown wz dd os).mono hz.size)
          have l1 := fun (dd : Nat) (os : Array Obj) => ld_mC ((HM3.out.com.below (hb dd os)).blk.cell 17)
          have l2 := fun (dd : Nat) (os : Array Obj) => ld_pe (HK3.out.below (hb dd os) HK3.out.lt)
          clear hz hb
          simp only [pick_nil, pick_tt, pick_ft, List.take_succ_cons, List.take_zero, List.drop_succ_cons, List.drop_zero, List.append_nil]
          repeat (go_big_quiet_step (fail))
          refine wpQuiet_nil ?_
          rfl
        simp only [pick_nil, pick_ff, pick_tf, List.take_succ_cons, List.take_zero, List.drop_succ_cons, List.drop_zero, List.append_nil]
        have HZ3 := Lib.hid (HB3.out.trans (hz.mono HB3.out.size))
        clear hz
        refine wpMix_step HZ3.out fun wb hbb => ?_
        have hbx := HZ3.out.trans (hbb.mono HZ3.out.size)
        have hmb := HM3.out.below hbx
        obtain ⟨wd, hrd, hcd, hud⟩ := hmb.com.put (e := newE p (decide ((t : Int) < room))) (b := gb) (by rw [← HN.out]; have := HBIG.out; omega) HP.out HF.out (HE3.out.below hbx HE3.out.lt) HGBN.out
        have HMD := Lib.hid (hmb.mapT hcd hud (.inr (.inl rfl)))
        have HKD := Lib.hid (show Blk wd w.heap.size 38 (evA k q v p d) from (hud.block _ (HK3.out.below hbx HK3.out.lt).lt fun (e : w.heap.size = mb) => by
          have h1 := HM1.out.com
          obtain ⟨F3, m3⟩ := hmb.com.map
          obtain ⟨D, ⟨es, cc, x1, _⟩, _⟩ := m3.map
          have x2 := HK3.out.below hbx HK3.out.lt
          unfold Blk at x2
          rw [e, x1] at x2
          cases x2).trans (HK3.out.below hbx HK3.out.lt))
        clear hbb hbx hmb hcd hud
        change (Instr.mapUpdate 79 (.map (some mb)) (.agg #[.int .u32 (p.1 : Int), .int .i64 p.2]) (.pointer (some ⟨gb, 0, none⟩))).run Try.prog wb = .ok () wd at hrd
        go_wp2_with fail
        refine wpMix_plain ?_
        go_wp2_with fail
        go_meet
        case rel =>
          have hL : heardL room p G = insE (newE p (decide ((t : Int) < room))) (G.map (·.x)) := by
            unfold heardL
            rw [if_pos HFE.out, HTT.out]
          refine ⟨insGE ⟨newE p (decide ((t : Int) < room)), gb⟩ G, ⟨newE p (decide ((t : Int) < room)), gb⟩, rfl, mem_insGE.2 (.inl rfl), rfl, by rw [insGE_x, hL], fun a ha => ?_, fun a ha => ?_, HMD.out, HKD.out, fun hh => ?_⟩
          · rcases mem_insGE.1 ha with rfl | ha
            · exact .inr HGBW.out
            · exact .inl ⟨a, ha, rfl⟩
          · rcases mem_insGE.1 ha with rfl | ha
            · exact new_ew c HP.out.1 _
            · exact HEW.out a ha
          · have h1 := hh.2
            have h2 := HBIG.out
            rw [← HN.out] at h1
            exact h2 h1
  case rest =>
    obtain ⟨G1, g, rfl, hgm, hgp, hL, hOld, hE, hM, hK, hno⟩ := hcut
    subst hgp
    have HM3 := Lib.hid hM
    have HK3 := Lib.hid hK
    have HGM := Lib.hid hgm
    have HL := Lib.hid hL
    have HOLD := Lib.hid hOld
    have HE1 := Lib.hid hE
    have HNO := Lib.hid hno
    have HBW := Lib.hid (Below.refl wc.heap.size wc)
    clear hM hK hgm hL hOld hE hno
    go_upto_region 7 with (fail)
    refine wp_region_mix [(true, 8), (false, 1)] 0 (by kernel_rfl) (fun wx => Below wc.heap.size wc wx) (fun _ _ h k => h.trans (k.mono h.size)) (by kernel_rfl) HBW.out (a' := ?_) (fun wz hz => ?_) fun wz hz => ?_
    rotate_left
    · have hb := fun (dd : Nat) (os : Array Obj) => hz.trans ((below_regrown wz dd os).mono hz.size)
      have l1 := fun (dd : Nat) (os : Array Obj) => ld_iC (b := w.heap.size) (o := 1) (z := (q : Int)) ((HK3.out.below (hb dd os) HK3.out.lt).cell 1)
      have l2 := fun (dd : Nat) (os : Array Obj) => ld_iC (b := w.heap.size) (o := 5) (z := d) ((HK3.out.below (hb dd os) HK3.out.lt).cell 5)
      clear hz hb
      simp only [pick_nil, pick_tt, pick_ft, List.take_succ_cons, List.take_zero, List.drop_succ_cons, List.drop_zero, List.append_nil]
      repeat (go_big_quiet_step (fail))
      refine wpQuiet_nil ?_
      rfl
    simp only [pick_nil, pick_ff, pick_tf, List.take_succ_cons, List.take_zero, List.drop_succ_cons, List.drop_zero, List.append_nil]
    have HZ := Lib.hid (HBW.out.trans (hz.mono HBW.out.size))
    clear hz
    refine wpMix_step HZ.out fun wa ha => ?_
    have hba := HZ.out.trans (ha.mono HZ.out.size)
    have hma := HM3.out.below hba
    have hka := HK3.out.below hba HK3.out.lt
    have he := hma.com.en g HGM.out
    have st := st_iC ((he.cell (2 + q)).trans (enC_said _ HQ.out)) (he.frozen (2 + q)) d
    have m5 := hma.com.set1 (w := wa) hma.out (Below.refl _ _) HGM.out (x := hearF q d g.x) (enC_set_said g.x HQ.out d) rfl
    have hk5 : Blk (wa.setCell ⟨g.b, 2 + q, none⟩ (.int .i64 d)) w.heap.size 38 (evA k q v g.x.p d) := hka.far (p := ⟨g.b, 2 + q, none⟩) (hka.ne_ he (by decide)) _
    obtain ⟨W5, hW5⟩ : ∃ Z, Z = wa.setCell ⟨g.b, 2 + q, none⟩ (.int .i64 d) := ⟨_, rfl⟩
    rw [← hW5] at st m5 hk5
    have HLU := Lib.hid (show ∀ i, LkU cb g.b ov i → TidU cb mb G ov i ∨ w.heap.size ≤ i from fun i hi => by
      rcases hi with hi | hi | hi
      · exact .inl (.inl hi)
      · rcases HOLD.out g HGM.out with ⟨b, hb, e⟩ | e
        · exact .inl (.inr (.inr (.inl ⟨b, hb, hi.trans e⟩)))
        · exact .inr (by rw [hi]; exact e)
      · exact .inl (.inr (.inr (.inr hi))))
    have hm5 := hma.trans m5 HLU.out
    have hlk := look_any (B := B) (g := ⟨hearF q d g.x, g.b⟩) hm5.com HPC.out (mem_put HGM.out _) (hear_ew (HE1.out g HGM.out) HUP.out HDD.out.1 HDD.out.2) hm5.out (by have := hm5.upd.size; have := HB.out; omega) (by have := HLEN.out; omega)
    have HLK := Lib.hid (show Calls Try.prog 55 #[.pointer (some ⟨cb, 0, none⟩), .agg #[.int .u32 (g.x.p.1 : Int), .int .i64 g.x.p.2]] W5 (TellPost W5 cb mb B room c (putG (putG G1 g.b (hearF q d g.x)) g.b (lookF c (hearF q d g.x)).1) (o ++ (lookF c (hearF q d g.x)).2) (LkU cb g.b ov)) from hlk)
    have HM5 := Lib.hid hm5
    have HND := Lib.hid (And.intro HM3.out.com.nd HM3.out.com.ndp)
    have lpe := ld_pe hk5
    clear ha hba hma hka he m5 hk5 hW5 hm5 hlk
    go_wp2_with fail
    refine wpMix_plain ?_
    clear st
    go_wp2_with (go_at_call 55; refine HLK.out.mono ?_; rintro e w6 ⟨rfl, ov3, hm⟩; have HM6 := Lib.hid hm; clear hm)
    go_ret
    have hm := HM5.out.trans HM6.out HLU.out
    rw [putG_putG] at hm
    have h1 := putG_turn HND.out.1 HND.out.2 HGM.out (fun x => (lookF c (hearF q d x)).1)
    have h2 := outE_one (f := fun x => (lookF c (hearF q d x)).2) HND.out.2 HGM.out
    rw [HL.out] at h1 h2
    refine .inr ⟨HNO.out, rfl, ov3, _, by rw [h2]; exact hm, h1, fun a ha => ?_⟩
    have hab : a.b ∈ G1.map (·.b) := by rw [← putG_b G1 g.b]; exact List.mem_map_of_mem (f := fun g : GE => g.b) ha
    obtain ⟨a2, ha2, e2⟩ := List.mem_map.1 hab
    rw [← e2]
    exact HOLD.out a2 ha2
end Go.Proofs.Ytahdjfegihnolaa
