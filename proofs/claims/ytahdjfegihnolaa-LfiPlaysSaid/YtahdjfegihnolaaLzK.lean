/- Layer 12: portUp. -/
import Derived.Test.YtahdjfegihnolaaLzJ
import Derived.Deep.Cut
namespace Go.Proofs.Ytahdjfegihnolaa
open Go.RowKit Go.Sort
def mapK (f : Le → Le) (G : List GE) (k : Nat) : List GE := ((G.take k).map fun g => (⟨f g.x, g.b⟩ : GE)) ++ G.drop k
theorem mapK_b (f : Le → Le) (G : List GE) (k : Nat) : (mapK f G k).map (·.b) = G.map (·.b) := by
  unfold mapK
  rw [List.map_append, List.map_map]
  show (G.take k).map (·.b) ++ _ = _
  rw [← List.map_append, List.take_append_drop]
theorem mapK_len (f : Le → Le) (G : List GE) (k : Nat) : (mapK f G k).length = G.length := by
  have := congrArg List.length (mapK_b f G k)
  simpa using this
theorem mapK_step {f : Le → Le} {G : List GE} (hn : (G.map (·.b)).Nodup) {k : Nat} {g : GE} (hg : G[k]? = some g) : g ∈ mapK f G k ∧ putG (mapK f G k) g.b (f g.x) = mapK f G (k + 1) := by
  obtain ⟨hk, he⟩ := List.getElem?_eq_some_iff.1 hg
  have hd : G.drop k = g :: G.drop (k + 1) := by rw [List.drop_eq_getElem_cons hk, he]
  have h1 : mapK f G k = ((G.take k).map fun g => (⟨f g.x, g.b⟩ : GE)) ++ g :: G.drop (k + 1) := by unfold mapK; rw [hd]
  refine ⟨by rw [h1]; simp, ?_⟩
  rw [h1, putG_mid _ _ _ _ (by rw [← h1, mapK_b]; exact hn)]
  unfold mapK
  rw [List.take_succ_eq_append_getElem hk, he, List.map_append, List.append_assoc]
  rfl
theorem mapK_same {f : Le → Le} {G : List GE} {k : Nat} {g : GE} (hg : G[k]? = some g) (h : f g.x = g.x) : mapK f G (k + 1) = mapK f G k := by
  obtain ⟨hk, he⟩ := List.getElem?_eq_some_iff.1 hg
  have hd : G.drop k = g :: G.drop (k + 1) := by rw [List.drop_eq_getElem_cons hk, he]
  unfold mapK
  rw [List.take_succ_eq_append_getElem hk, he, hd, List.map_append, List.append_assoc, List.map_singleton, h]
  rfl
theorem mapK_end (f : Le → Le) (G : List GE) : mapK f G G.length = G.map fun g => (⟨f g.x, g.b⟩ : GE) := by
  unfold mapK
  rw [List.take_of_length_le (Nat.le_refl _), List.drop_of_length_le (Nat.le_refl _), List.append_nil]
def tuE (q : Nat) (x : Le) : Le := if x.told ≠ 255 then { x with aw := setN x.aw q (x.aw q + 1) } else x
def tuO (q : Nat) (G : List GE) : List Tl := (G.filter fun g => decide (g.x.told ≠ 255)).map fun g => (q, g.x.p, g.x.told)
theorem tuO_len (q : Nat) (G : List GE) : (tuO q G).length ≤ G.length := by
  unfold tuO
  rw [List.length_map]
  exact List.length_filter_le _ _
theorem tuO_yes {q : Nat} {G : List GE} {k : Nat} {g : GE} (hg : G[k]? = some g) (h : g.x.told ≠ 255) : tuO q (G.take (k + 1)) = tuO q (G.take k) ++ [(q, g.x.p, g.x.told)] := by
  unfold tuO
  rw [List.take_add_one, hg, List.filter_append, List.map_append]
  simp [h]
theorem tuO_no {q : Nat} {G : List GE} {k : Nat} {g : GE} (hg : G[k]? = some g) (h : g.x.told = 255) : tuO q (G.take (k + 1)) = tuO q (G.take k) := by
  unfold tuO
  rw [List.take_add_one, hg, List.filter_append, List.map_append]
  simp [h]
/-- A port that comes up while it is up goes down first. -/
def upD (c : Pc) (q : Nat) (G : List GE) : Pc × List GE × List Tl := if c.up q = true then (downF c q, lookG (downF c q) (cutAll q G), lookO (downF c q) (cutAll q G)) else (c, G, [])
theorem bd_ev (q : Int) (wx : World) : (Instr.build 38 #[(1, .int .i64 q)]).run Try.prog wx = .ok (.agg #[.int .i64 0, .int .i64 q, .int .i64 0, .int .u32 0, .int .i64 0, .int .i64 0]) wx := by kernel_rfl
set_option maxRecDepth 100000 in
set_option maxHeartbeats 8000000 in
attribute [-go_sem] Instr.storeAt Instr.loadAt in
theorem portUp_any {w : World} {cb mb B : Nat} {ov : Value} {room : Int} {c : Pc} {G : List GE} (h : CoM w cb mb ov room c G) {q : Nat} (hq : q < 8) (hpc : PcOk c) (hew : ∀ g ∈ G, EW c g.x) {o : List Tl} (ho : OutM w B ov o) (hB : B ≤ w.heap.size) (hlen : o.length ≤ 700000) (k v : Int) (p : Pf) (d : Int) :
    Calls Try.prog 48 #[.pointer (some ⟨cb, 0, none⟩), .agg #[.int .i64 k, .int .i64 (q : Int), .int .i64 v, .int .u32 (p.1 : Int), .int .i64 p.2, .int .i64 d]] w
      (DonePost w cb mb B room (upF (upD c q G).1 q v) (mapK (tuE q) (upD c q G).2.1 (upD c q G).2.1.length) (o ++ (upD c q G).2.2 ++ tuO q (upD c q G).2.1) (CoU cb G ov)) := by
  obtain ⟨W1, hW1⟩ : ∃ Z, Z = w.alloc (.cells #[.int .i64 k, .int .i64 (q : Int), .int .i64 v, .int .u32 (p.1 : Int), .int .i64 p.2, .int .i64 d] 38) := ⟨_, rfl⟩
  have hb1 : Below w.heap.size w W1 := by rw [hW1]; exact (Below.refl _ _).alloc (Nat.le_refl _) _
  have hke : Blk W1 w.heap.size 38 (evA k q v p d) := by rw [hW1]; exact Blk.new _ _ _
  have hm1 : TlM w cb mb B room c G o W1 ov (CoU cb G ov) := ⟨h.below hb1, own_below ho hb1, Upd.ofBelow hb1 _, fun j hj => .inl (.inr (.inr hj))⟩
  have HM1 := Lib.hid hm1
  have HW1 := Lib.hid hW1
  have HKE := Lib.hid hke
  have HQ := Lib.hid hq
  have HPC := Lib.hid hpc
  have HEW := Lib.hid hew
  have HB := Lib.hid hB
  have HLEN := Lib.hid hlen
  have HCB := Lib.hid (show cb < w.heap.size from h.blk.lt)
  have HGB := Lib.hid (show ∀ g ∈ G, g.b < w.heap.size from fun g hg => (h.en g hg).lt)
  have hq0 : (0 : Int) ≤ q := by omega
  have hq1 : (q : Int) < 8 := by omega
  have b1 := fun n => ld_bC (w := W1.drewN n) (b := cb) (o := 1 + q) (z := c.up q) (((hm1.com.below (below_drewN W1 n)).blk.cell (1 + q)).trans (coC_up _ _ _ _ hq))
  have e1 := fun n => ld_iC (w := W1.drewN n) (b := w.heap.size) (o := 1) (z := (q : Int)) ((hke.below (below_drewN W1 n) hke.lt).cell 1)
  obtain ⟨u, hu⟩ : ∃ u, u = c.up q := ⟨_, rfl⟩
  rw [← hu] at b1
  have HU := Lib.hid hu
  clear hW1 hb1 hke hpc hew ho hB hlen h hm1 hu
  go_enter Try.func48, Try.ntmps48
  go_upto_region 1 with (fail)
  rw [← HW1.out]
  go_quiet (fail)
  clear b1 e1
  obtain ⟨W2, hW2⟩ : ∃ Z, Z = W1.drewN nq := ⟨_, rfl⟩
  rw [← hW2]
  have hb2 : Below W1.heap.size W1 W2 := by rw [hW2]; exact below_drewN W1 nq
  have HM2 := Lib.hid (HM1.out.below hb2)
  have HK2 := Lib.hid (HKE.out.below hb2 HKE.out.lt)
  clear hW2 hb2
  obtain ⟨c1, hc1⟩ : ∃ z, z = (upD c q G).1 := ⟨_, rfl⟩
  obtain ⟨G1, hG1⟩ : ∃ z, z = (upD c q G).2.1 := ⟨_, rfl⟩
  obtain ⟨o1, ho1⟩ : ∃ z, z = o ++ (upD c q G).2.2 := ⟨_, rfl⟩
  rw [← hc1, ← hG1, ← ho1]
  have HC1 := Lib.hid hc1
  have HG1 := Lib.hid hG1
  have HO1 := Lib.hid ho1
  clear hc1 hG1 ho1
  go_upto_if 14 with (fail)
  go_cut [] from 8 (fun wx => ∃ ov1, TlM w cb mb B room c1 G1 o1 wx ov1 (CoU cb G ov) ∧ Blk wx w.heap.size 38 (evA k q v p d) ∧ (∀ g ∈ G1, EW c1 g.x) ∧ o1.length ≤ 710000 ∧ (∀ g ∈ G1, ∃ a ∈ G, g.b = a.b))
  case first =>
    cases u with
    | false =>
      have hD : upD c q G = (c, G, []) := by unfold upD; rw [if_neg (by rw [← HU.out]; simp)]
      have HMM := Lib.hid (show TlM w cb mb B room c1 G1 o1 W2 ov (CoU cb G ov) by rw [HC1.out, HG1.out, HO1.out, hD, List.append_nil]; exact HM2.out)
      have HST := Lib.hid (show (∀ g ∈ G1, EW c1 g.x) ∧ o1.length ≤ 710000 ∧ (∀ g ∈ G1, ∃ a ∈ G, g.b = a.b) by
        rw [HC1.out, HG1.out, HO1.out, hD, List.append_nil]
        exact ⟨HEW.out, by have := HLEN.out; omega, fun g hg => ⟨g, hg, rfl⟩⟩)
      clear hD
      go_wp2_with fail
      go_meet
      case rel => exact ⟨ov, HMM.out, HK2.out, HST.out⟩
    | true =>
      have hD : upD c q G = (downF c q, lookG (downF c q) (cutAll q G), lookO (downF c q) (cutAll q G)) := by unfold upD; rw [if_pos HU.out.symm]
      have be := fun wx => bd_ev (q : Int) wx
      have e1 := ld_iC (w := W2) (b := w.heap.size) (o := 1) (z := (q : Int)) (HK2.out.cell 1)
      have hpd := portDown_any (B := B) HM2.out.com HQ.out HPC.out HEW.out HM2.out.out (by have := HM2.out.upd.size; have := HB.out; omega) (by have := HLEN.out; omega) 0 0 (0, 0) 0
      have HPD := Lib.hid (show Calls Try.prog 49 #[.pointer (some ⟨cb, 0, none⟩), .agg #[.int .i64 0, .int .i64 (q : Int), .int .i64 0, .int .u32 0, .int .i64 0, .int .i64 0]] W2 (DonePost W2 cb mb B room (downF c q) (lookG (downF c q) (cutAll q G)) (o ++ lookO (downF c q) (cutAll q G)) (CoU cb G ov)) from hpd)
      have HD := Lib.hid hD
      clear hD hpd
      go_wp2_with (go_at_call 49; refine HPD.out.mono ?_; rintro e w5 ⟨rfl, ov3, hm⟩; have HM5 := Lib.hid hm; clear hm)
      go_meet
      case rel =>
        refine ⟨ov3, ?_, ?_, ?_, ?_, ?_⟩
        · rw [HC1.out, HG1.out, HO1.out, HD.out]
          exact HM2.out.trans HM5.out fun j hj => by
            rcases hj with hj | hj | hj
            · exact .inl (.inl hj)
            · exact .inl (.inr (.inl hj))
            · exact HM2.out.own j hj
        · refine (HM5.out.upd.block _ HK2.out.lt fun hU => ?_).trans HK2.out
          rcases hU with hU | ⟨a, ha, hU⟩ | hU
          · have := HCB.out; omega
          · have := HGB.out a ha; omega
          · obtain ⟨cs, hb⟩ := own_blkT HM2.out.out hU
            exact hb.ne_ HK2.out (by decide) rfl
        · rw [HC1.out, HG1.out, HD.out]
          intro g hg
          obtain ⟨a, ha, rfl⟩ := List.mem_map.1 hg
          obtain ⟨a2, h2, rfl⟩ := List.mem_map.1 ha
          exact (look_ok (cut_ew (HEW.out a2 h2) q) (pc_down HPC.out q)).toEW
        · rw [HO1.out, HD.out, List.length_append]
          have h1 := lookO_len (downF c q) (cutAll q G)
          have h2 := HM1.out.com.len
          have h3 : (cutAll q G).length = G.length := by unfold cutAll; rw [List.length_map]
          have h4 := HLEN.out
          dsimp only
          omega
        · rw [HG1.out, HD.out]
          intro g hg
          obtain ⟨a, ha, rfl⟩ := List.mem_map.1 hg
          obtain ⟨a2, h2, rfl⟩ := List.mem_map.1 ha
          exact ⟨a2, h2, rfl⟩
  case rest =>
    obtain ⟨ov1, hM, hK, hE, hL, hBB⟩ := hcut
    have HM3 := Lib.hid hM
    have HK3 := Lib.hid hK
    have HE1 := Lib.hid hE
    have HL1 := Lib.hid hL
    have HBB := Lib.hid hBB
    clear hM hK hE hL hBB
    go_upto_region 3 with (fail)
    refine wp_region_mix [(true, 11), (false, 1), (true, 2), (false, 2)] 1 (by kernel_rfl) (fun wx => Blk wx w.heap.size 38 (evA k q v p d)) (fun _ _ h k => h.below k h.lt) (by kernel_rfl) HK3.out (a' := ?_) (fun wz hz => ?_) fun wz hz => ?_
    rotate_left
    · have l1 := fun (dd : Nat) (os : Array Obj) => ld_iC (b := w.heap.size) (o := 1) (z := (q : Int)) ((Blk.below hz (below_regrown wz dd os) hz.lt).cell 1)
      have l2 := fun (dd : Nat) (os : Array Obj) => ld_iC (b := w.heap.size) (o := 2) (z := v) ((Blk.below hz (below_regrown wz dd os) hz.lt).cell 2)
      clear hz
      simp only [pick_nil, pick_tt, pick_ft, List.take_succ_cons, List.take_zero, List.drop_succ_cons, List.drop_zero, List.append_nil, List.cons_append, List.nil_append]
      repeat (go_big_quiet_step (fail))
      refine wpQuiet_nil ?_
      rfl
    simp only [pick_nil, pick_ff, pick_tf, List.take_succ_cons, List.take_zero, List.drop_succ_cons, List.drop_zero, List.append_nil, List.cons_append, List.nil_append]
    have HZ := Lib.hid hz
    clear hz
    refine wpMix_step (HK3.out.below HZ.out HK3.out.lt) fun wa ha => ?_
    have hma := (HM3.out.below HZ.out).below ha
    have hka := (HK3.out.below HZ.out HK3.out.lt).below ha (Nat.lt_of_lt_of_le HK3.out.lt HZ.out.size)
    have st := st_bC ((hma.com.blk.cell (1 + q)).trans (coC_up _ _ _ _ HQ.out)) (hma.com.blk.frozen (1 + q)) true
    obtain ⟨W4, hW4⟩ : ∃ Z, Z = wa.setCell ⟨cb, 1 + q, none⟩ (.bool true) := ⟨_, rfl⟩
    rw [← hW4] at st
    have HCW := Lib.hid (show w.heap.size ≠ cb from fun e => by have := HCB.out; omega)
    have hk4 : Blk W4 w.heap.size 38 (evA k q v p d) := by rw [hW4]; exact hka.far (p := ⟨cb, 1 + q, none⟩) HCW.out _
    have HK4 := Lib.hid hk4
    have HM4 := Lib.hid (show TlM w cb mb B room ⟨setB c1.up q true, c1.cost⟩ G1 o1 W4 ov1 (CoU cb G ov) from ⟨hma.com.setCore (coC_set_up _ _ _ _ HQ.out true) hW4, hma.out.setCore hma.com hW4, hma.upd.trans_ (by rw [hW4]; exact (upd_set wa cb (1 + q) _).mono fun k (e : k = cb) => .inl (.inl e)), hma.own⟩)
    clear hma ha hka hW4 hk4
    go_wp2_with fail
    clear st
    refine wpMix_step HK4.out fun wb hb => ?_
    have hmb := HM4.out.below hb
    have st := st_iC ((hmb.com.blk.cell (9 + q)).trans (coC_cost _ _ _ _ HQ.out)) (hmb.com.blk.frozen (9 + q)) v
    obtain ⟨W5, hW5⟩ : ∃ Z, Z = wb.setCell ⟨cb, 9 + q, none⟩ (.int .i64 v) := ⟨_, rfl⟩
    rw [← hW5] at st
    have hm5 : TlM w cb mb B room (upF c1 q v) G1 o1 W5 ov1 (CoU cb G ov) := ⟨hmb.com.setCore (coC_set_cost _ _ _ _ HQ.out v) hW5, hmb.out.setCore hmb.com hW5, hmb.upd.trans_ (by rw [hW5]; exact (upd_set wb cb (9 + q) _).mono fun k (e : k = cb) => .inl (.inl e)), hmb.own⟩
    have HM5 := Lib.hid hm5
    have hk5 : Blk W5 w.heap.size 38 (evA k q v p d) := by rw [hW5]; exact (HK4.out.below hb HK4.out.lt).far (p := ⟨cb, 9 + q, none⟩) HCW.out _
    have HK5 := Lib.hid hk5
    have HKW := Lib.hid hm5.com.keysW
    obtain ⟨n, hn⟩ : ∃ n, n = G1.length := ⟨_, rfl⟩
    have HN := Lib.hid hn
    have hG := hm5.com.len
    rw [← hn] at hG
    obtain ⟨bR, hbR⟩ : ∃ b, b = W5.heap.size := ⟨_, rfl⟩
    have HBR := Lib.hid hbR
    have HCB2 := Lib.hid (show cb < bR by rw [hbR]; exact hm5.com.blk.lt)
    have HGB2 := Lib.hid (show ∀ g ∈ G1, g.b < bR from fun g hg => by rw [hbR]; exact (hm5.com.en g hg).lt)
    have HND := Lib.hid hm5.com.nd
    clear hmb hb hW5 hm5 hk5 hn hbR
    go_wp2_with fail
    refine wpMix_plain ?_
    go_wp2_with (go_at_call 31; refine HKW.out.mono ?_; rintro e w6 ⟨v6, rfl, hr, hb⟩; obtain ⟨A, cp, rfl, _⟩ := own_form hr; have HR := Lib.hid hr; have HB6 := Lib.hid hb; clear hr hb)
    clear st
    have hr := HR.out
    rw [← HN.out, ← HBR.out] at hr
    rw [← HN.out]
    have HR6 := Lib.hid hr
    have HPL := Lib.hid (show (G1.map (·.x.p)).length = n by rw [List.length_map, HN.out])
    have HM6 := Lib.hid (show TlM w cb mb B room (upF c1 q v) (mapK (tuE q) G1 0) (o1 ++ tuO q (G1.take 0)) w6 ov1 (CoU cb G ov) by
      rw [show mapK (tuE q) G1 0 = G1 from rfl, show tuO q (G1.take 0) = [] from rfl, List.append_nil]
      exact HM5.out.below HB6.out)
    have HK6 := Lib.hid (HK5.out.below HB6.out HK5.out.lt)
    clear hr HR
    go_loopw [37] (fun s37 wr => ∃ (j : Nat) (ov2 : Value), j ≤ n ∧ s37 = .int .i64 (j : Int) ∧ TlM w cb mb B room (upF c1 q v) (mapK (tuE q) G1 j) (o1 ++ tuO q (G1.take j)) wr ov2 (CoU cb G ov) ∧ wr.ownsRow bR 36 2 (.slice A n cp) n (flatP (G1.map (·.x.p))) ∧ Blk wr w.heap.size 38 (evA k q v p d)) (fun s37 _ => n - (intOf s37).toNat)
    case atStart => exact ⟨0, ov1, Nat.zero_le _, rfl, HM6.out, HR6.out, HK6.out⟩
    case round =>
      obtain ⟨j, ov2, hj, rfl, hM, hRr, hK⟩ := hrel
      have HM := Lib.hid hM
      have HRr := Lib.hid hRr
      have HK := Lib.hid hK
      by_cases hlt : j < n
      · obtain ⟨g, hg⟩ : ∃ g, G1[j]? = some g := ⟨_, List.getElem?_eq_getElem (by rw [← HN.out]; exact hlt)⟩
        have hgm := List.mem_of_getElem? hg
        obtain ⟨gr, cq, e8, _⟩ := own_form1 hRr (by omega)
        obtain ⟨rfl, rfl⟩ : A = some ⟨gr, 0, none⟩ ∧ cp = cq := by cases e8; exact ⟨rfl, rfl⟩
        have lp := ld_pfrow hRr HPL.out (k := j) (p := g.x.p) (by rw [List.getElem?_map, hg]; rfl)
        obtain ⟨q1, q2⟩ := mapK_step (f := tuE q) HND.out hg
        obtain ⟨W7, hW7⟩ : ∃ Z, Z = wr.alloc (.cells #[.int .u32 (g.x.p.1 : Int), .int .i64 g.x.p.2] 36) := ⟨_, rfl⟩
        have hb7 : Below wr.heap.size wr W7 := by rw [hW7]; exact (Below.refl _ _).alloc (Nat.le_refl _) _
        have sp := st_pf_new wr (g.x.p.1 : Int) g.x.p.2
        rw [← hW7] at sp
        have hkp : Blk W7 wr.heap.size 36 (pfC g.x.p) := by rw [hW7]; exact Blk.new _ _ _
        have HM7 := Lib.hid (hM.below hb7)
        have HR7 := Lib.hid (own_below hRr hb7)
        have HK7 := Lib.hid (hK.below hb7 hK.lt)
        have HKP := Lib.hid hkp
        have HGM := Lib.hid hgm
        have HGK := Lib.hid hg
        have HQ1 := Lib.hid (And.intro q1 q2)
        have HW7 := Lib.hid hW7
        have k0 : (0 : Int) ≤ j := by omega
        have k1 : (j : Int) < n := by omega
        clear hM hRr hK hgm hg q1 q2 hW7 hb7 hkp e8
        go_upto_region 7 with (fail)
        clear lp sp
        obtain ⟨F, hF⟩ := HM7.out.com.map
        have r1 := fun k => ld_mC (w := W7.drewN k) ((HM7.out.com.below (below_drewN W7 k)).blk.cell 17)
        have r2 := fun k => ld_pf (w := W7.drewN k) (HKP.out.below (below_drewN W7 k) HKP.out.lt)
        have r3 := fun k => hF.look (w' := W7.drewN k) (below_drewN W7 k) HQ1.out.1 (may_ok (HM7.out.com.may g HQ1.out.1))
        unfold ptrE at r3
        clear hF
        go_quiet (fail)
        clear r1 r2 r3
        obtain ⟨W8, hW8⟩ : ∃ Z, Z = W7.drewN nq := ⟨_, rfl⟩
        rw [← hW8]
        have hb8 : Below W7.heap.size W7 W8 := by rw [hW8]; exact below_drewN W7 nq
        have HM8 := Lib.hid (HM7.out.below hb8)
        have HR8 := Lib.hid (own_below HR7.out hb8)
        have HK8 := Lib.hid (HK7.out.below hb8 HK7.out.lt)
        have HP8 := Lib.hid (HKP.out.below hb8 HKP.out.lt)
        clear hW8 hb8
        have lt := ld_iC (w := W8) (b := g.b) (o := 10) (z := g.x.told) ((HM8.out.com.en g HQ1.out.1).cell 10)
        have lp8 := ld_pf HP8.out
        have le8 := ld_iC (w := W8) (b := w.heap.size) (o := 1) (z := (q : Int)) (HK8.out.cell 1)
        by_cases ht : g.x.told = 255
        · have hne : (g.x.told != 255) = false := by rw [ht]; rfl
          have HT := Lib.hid ht
          obtain ⟨t, htt⟩ : ∃ t, t = g.x.told := ⟨_, rfl⟩
          rw [← htt] at lt hne
          clear ht htt
          go_wp2_with fail
          go_roundw
          case rel =>
            have hs : tuE q g.x = g.x := by unfold tuE; rw [if_neg (by rw [HT.out]; simp)]
            exact ⟨j + 1, ov2, hlt, by go_num, by rw [mapK_same HGK.out hs, tuO_no HGK.out HT.out]; exact HM8.out, HR8.out, HK8.out⟩
          case measure => simp [intOf]; omega
        · have hne : (g.x.told != 255) = true := by rw [bne_iff_ne]; exact ht
          have HT := Lib.hid ht
          have htl := tell_any (B := B) HM8.out.com HQ1.out.1 HQ.out HM8.out.out (by have := HM8.out.upd.size; have := HB.out; omega) (by
            have h1 := tuO_len q (G1.take j)
            have h2 : (G1.take j).length ≤ j := by simp; omega
            have h3 := HL1.out
            rw [List.length_append]
            omega) (by have := (HE1.out g HGM.out).aw q; omega) g.x.p
          have hq2 := HQ1.out.2
          have hf : tuE q g.x = { g.x with aw := setN g.x.aw q (g.x.aw q + 1) } := by unfold tuE; rw [if_pos ht]
          rw [hf] at hq2
          rw [hq2] at htl
          have HTL := Lib.hid htl
          obtain ⟨t, htt⟩ : ∃ t, t = g.x.told := ⟨_, rfl⟩
          rw [← htt] at lt hne
          clear ht htt htl hq2 hf
          go_wp2_with (go_at_call 61; refine HTL.out.mono ?_; rintro e w9 ⟨rfl, ov3, hm⟩; have HM9 := Lib.hid hm; clear hm)
          go_roundw
          case rel =>
            have hm := HM9.out
            rw [List.append_assoc, ← tuO_yes HGK.out HT.out] at hm
            refine ⟨j + 1, ov3, hlt, by go_num, HM8.out.trans hm fun i hi => ?_, row_keepU HR8.out HM9.out.upd fun i hi hU => ?_, (HM9.out.upd.block _ HK8.out.lt fun hU => ?_).trans HK8.out⟩
            · rcases hi with hi | hi | hi
              · exact .inl (.inl hi)
              · obtain ⟨a, ha, e⟩ := HBB.out g HGM.out
                exact .inl (.inr (.inl ⟨a, ha, hi.trans e⟩))
              · exact HM8.out.own i hi
            · have hge := (own_lt HR8.out hi).1
              rcases hU with hU | hU | hU
              · have := HCB2.out; omega
              · have := HGB2.out g HGM.out; omega
              · obtain ⟨cs, hb⟩ := own_blkT HM8.out.out hU
                obtain ⟨cs2, hb2⟩ := own_blk HR8.out hi
                exact hb.ne_ hb2 (by decide) rfl
            · rcases hU with hU | hU | hU
              · exact HCW.out hU
              · obtain ⟨a, ha, e⟩ := HBB.out g HGM.out
                have := HGB.out a ha
                omega
              · obtain ⟨cs, hb⟩ := own_blkT HM8.out.out hU
                exact hb.ne_ HK8.out (by decide) rfl
          case measure => simp [intOf]; omega
      · obtain rfl : j = n := by omega
        clear hM hRr hK
        go_wp2_with fail
        go_ret
        have hm := HM.out
        rw [show G1.take j = G1 from List.take_of_length_le (by rw [HN.out]; exact Nat.le_refl _), HN.out] at hm
        rw [HC1.out, HG1.out, HO1.out] at hm
        exact ⟨rfl, ov2, hm⟩
end Go.Proofs.Ytahdjfegihnolaa
