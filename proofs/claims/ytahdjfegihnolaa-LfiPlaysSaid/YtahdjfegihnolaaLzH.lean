/- Layer 12: tidy. -/
import Derived.Test.YtahdjfegihnolaaLzG
import Derived.Deep.LoopGhost
import Derived.Lib.QuietBelow
namespace Go.Proofs.Ytahdjfegihnolaa
open Go.RowKit Go.Sort
theorem TlM.dropped {w wa wd : World} {cb mb B : Nat} {room : Int} {c : Pc} {A D : List GE} {g : GE} {o : List Tl} {ov : Value} {U : Nat → Prop} (m : TlM w cb mb B room c (A ++ g :: D) o wa ov U) (hc : CoM wd cb mb ov room c (A ++ D)) (hu : Upd (only mb) wa wd) (hU : U mb) : TlM w cb mb B room c (A ++ D) o wd ov U :=
  ⟨hc, m.out.upd hu fun j hj (e : j = mb) => own_not_map m.out m.com (by rw [hj, e]), m.upd.trans_ (hu.mono fun k (e : k = mb) => .inl (e ▸ hU)), m.own⟩
theorem row_keepU {w w' : World} {B : Nat} {v : Value} {n : Nat} {l : List Value} {t : TypeId} {s : Nat} (h : w.ownsRow B t s v n l) {U : Nat → Prop} (hu : Upd U w w') (hn : ∀ j, v.ownBlock = some j → ¬ U j) : w'.ownsRow B t s v n l :=
  own_keep h (hu.same (I := fun j => v.ownBlock = some j) fun j hj hI => hn j hI hj) fun _ e => e
set_option maxRecDepth 100000 in
set_option maxHeartbeats 8000000 in
attribute [-go_sem] Instr.storeAt Instr.loadAt in
theorem tidy_any {w : World} {cb mb B : Nat} {ov : Value} {room : Int} {c : Pc} {G0 : List GE} (h : CoM w cb mb ov room c G0) (hpc : PcOk c) (hok : ∀ g ∈ G0, EOk c g.x) {o0 : List Tl} (ho : OutM w B ov o0) (hB : B ≤ w.heap.size) (hlen : o0.length ≤ 800000) :
    Calls Try.prog 30 #[.pointer (some ⟨cb, 0, none⟩)] w (TidyPost w cb mb B room c G0 o0 ov) := by
  obtain ⟨U, hU⟩ : ∃ U, U = TidU cb mb G0 ov := ⟨_, rfl⟩
  have HM0 := Lib.hid (show TlM w cb mb B room c G0 o0 w ov U from ⟨h, ho, Upd.refl _ _, fun j hj => .inl (by rw [hU]; exact .inr (.inr (.inr hj)))⟩)
  have HTD0 := Lib.hid (TdI.start (room := room) (o0 := o0) hok)
  have HPC := Lib.hid hpc
  have HB := Lib.hid hB
  have HLEN := Lib.hid (show o0.length + 8 * untk (G0.map (·.x)) ≤ 810000 by
    have h1 := untk_len (G0.map (·.x))
    have h2 := h.len
    rw [List.length_map] at h1
    omega)
  have HU := Lib.hid hU
  have HUM := Lib.hid (show U mb by rw [hU]; exact .inr (.inl rfl))
  have HUC := Lib.hid (show U cb by rw [hU]; exact .inl rfl)
  have HUG := Lib.hid (show ∀ g ∈ G0, U g.b from fun g hg => by rw [hU]; exact .inr (.inr (.inl ⟨g, hg, rfl⟩)))
  unfold TidyPost
  rw [← hU]
  clear h hpc hok ho hB hlen hU
  go_enter Try.func30, Try.ntmps30
  go_wp2_with fail
  go_loopg [2] (1 + G0.length + untk (G0.map (·.x))) (fun gk s2 wr => ∃ (ag : Bool) (G : List GE) (o1 : List Tl) (ov1 : Value), s2 = .bool ag ∧ gk = (if ag = true then 1 + G.length + untk (G.map (·.x)) else 0) ∧ TdI c room G0 o0 ag G o1 ∧ TlM w cb mb B room c G o1 wr ov1 U)
  case atStart => exact ⟨true, G0, o0, ov, rfl, rfl, HTD0.out, HM0.out⟩
  case round =>
    obtain ⟨ag, G, o1, ov1, rfl, hgk, hTD, hM⟩ := hrel
    have HTD := Lib.hid hTD
    have HM := Lib.hid hM
    cases ag with
    | false =>
      clear hgk hTD hM
      go_wp2_with fail
      go_end0
      have hm := HM.out
      have e1 := HTD.out.e1
      have e2 := HTD.out.e2
      rw [if_neg (by simp)] at e1 e2
      rw [List.append_nil] at e2
      rw [← e2] at hm
      exact ⟨rfl, ov1, G, hm, e1.symm, HTD.out.b⟩
    | true =>
      rw [if_pos rfl] at hgk
      have HGK := Lib.hid hgk
      have HKW := Lib.hid hM.com.keysW
      obtain ⟨n, hn⟩ : ∃ n, n = G.length := ⟨_, rfl⟩
      have HN := Lib.hid hn
      have hG := hM.com.len
      rw [← hn] at hG
      have hmb : mb < wr.heap.size := hM.com.lt mb (.inr (.inl rfl))
      obtain ⟨bR, hbR⟩ : ∃ b, b = wr.heap.size := ⟨_, rfl⟩
      have HBR := Lib.hid hbR
      rw [← hbR] at hmb
      have HMB := Lib.hid hmb
      have HCB := Lib.hid (show cb < bR by rw [hbR]; exact hM.com.blk.lt)
      have HGB := Lib.hid (show ∀ g ∈ G, g.b < bR from fun g hg => by rw [hbR]; exact (hM.com.en g hg).lt)
      clear hgk hTD hM hn hmb hbR
      go_wp2_with (go_at_call 31; refine HKW.out.mono ?_; rintro e w1 ⟨v, rfl, hr, hb⟩; obtain ⟨A, cp, rfl, _⟩ := own_form hr; have HR := Lib.hid hr; have HB1 := Lib.hid hb; clear hr hb)
      have hr := HR.out
      rw [← HN.out, ← HBR.out] at hr
      rw [← HN.out]
      have HR2 := Lib.hid hr
      have HPL := Lib.hid (show (G.map (·.x.p)).length = n by rw [List.length_map, HN.out])
      have HM1 := Lib.hid (show TlM w cb mb B room c (stK G 0) o1 w1 ov1 U from HM.out.below HB1.out)
      clear hr HR
      go_loopw [2, 12] (fun s2 s12 wk => ∃ k : Nat, k ≤ n ∧ s12 = .int .i64 (k : Int) ∧ s2 = .bool (decide ((stK G k).length ≠ n)) ∧ TlM w cb mb B room c (stK G k) o1 wk ov1 U ∧ wk.ownsRow bR 36 2 (.slice A n cp) n (flatP (G.map (·.x.p)))) (fun _ s12 _ => n - (intOf s12).toNat)
      case atStart => exact ⟨0, Nat.zero_le _, rfl, by rw [show (stK G 0).length = n from HN.out.symm]; simp, HM1.out, HR2.out⟩
      case round =>
        obtain ⟨k, hk, rfl, rfl, hMk, hRk⟩ := hrel
        obtain ⟨ag1, hag1⟩ : ∃ a, a = decide ((stK G k).length ≠ n) := ⟨_, rfl⟩
        rw [← hag1]
        have HAG1 := Lib.hid hag1
        have HMk := Lib.hid hMk
        have HRk := Lib.hid hRk
        by_cases hlt : k < n
        · obtain ⟨g, hg⟩ : ∃ g, G[k]? = some g := ⟨_, List.getElem?_eq_getElem (by rw [← HN.out]; exact hlt)⟩
          have hgm := List.mem_of_getElem? hg
          have hga : g ∈ stK G k := by rw [stK_at hg]; simp
          obtain ⟨gr, cq, e8, _⟩ := own_form1 hRk (by omega)
          obtain ⟨rfl, rfl⟩ : A = some ⟨gr, 0, none⟩ ∧ cp = cq := by cases e8; exact ⟨rfl, rfl⟩
          have lp := ld_pfrow hRk HPL.out (k := k) (p := g.x.p) (by rw [List.getElem?_map, hg]; rfl)
          obtain ⟨W2, hW2⟩ : ∃ Z, Z = wr.alloc (.cells #[.int .u32 (g.x.p.1 : Int), .int .i64 g.x.p.2] 36) := ⟨_, rfl⟩
          have hb2 : Below wr.heap.size wr W2 := by rw [hW2]; exact (Below.refl _ _).alloc (Nat.le_refl _) _
          have sp := st_pf_new wr (g.x.p.1 : Int) g.x.p.2
          rw [← hW2] at sp
          have hkp : Blk W2 wr.heap.size 36 (pfC g.x.p) := by rw [hW2]; exact Blk.new _ _ _
          have hm2 := hMk.below hb2
          have HM2 := Lib.hid hm2
          have HRk2 := Lib.hid (own_below hRk hb2)
          have HKP := Lib.hid hkp
          have HG := Lib.hid hg
          have HGM := Lib.hid hgm
          have HGA := Lib.hid hga
          have HW2 := Lib.hid hW2
          have k0 : (0 : Int) ≤ k := by omega
          have k1 : (k : Int) < n := by omega
          clear hMk hRk hg hgm hga hW2 hb2 hkp hm2 e8 hag1
          go_upto_region 6 with (fail)
          clear lp sp
          obtain ⟨F, hF⟩ := HM2.out.com.map
          have c1 := fun (dd : Nat) (os : Array Obj) => Calls.regrown_of (stays_any ((HM2.out.com.below (below_regrown W2 dd os)).en g HGA.out))
          have r1 := fun (dd : Nat) (os : Array Obj) => ld_mC (w := grow (redrawn W2 dd) os) ((HM2.out.com.below (below_regrown W2 dd os)).blk.cell 17)
          have r2 := fun (dd : Nat) (os : Array Obj) => ld_pf (w := grow (redrawn W2 dd) os) (HKP.out.below (below_regrown W2 dd os) HKP.out.lt)
          have r3 := fun (dd : Nat) (os : Array Obj) => hF.look (w' := grow (redrawn W2 dd) os) (below_regrown W2 dd os) HGA.out (may_ok (HM2.out.com.may g HGA.out))
          unfold ptrE at r3
          obtain ⟨st, hst⟩ : ∃ s, s = staysF g.x := ⟨_, rfl⟩
          rw [← hst] at c1
          have HST := Lib.hid hst
          clear hF hst
          cases st with
          | true =>
            refine wp_region_quiet_below (by kernel_rfl) (by kernel_rfl) ?_
            repeat (go_big_quiet_step (first | with_reducible exact c1 _ _))
            refine wpQuiet_nil ?_
            intro _ hw'
            obtain ⟨⟨dq, osq⟩, hw''⟩ := hw'
            subst hw''
            have hbq := below_regrown W2 dq osq
            generalize grow (redrawn W2 dq) osq = wq at hbq ⊢
            have HBQ := Lib.hid hbq
            clear c1 r1 r2 r3 hbq
            go_wp2_with fail
            go_roundw
            case rel => exact ⟨k + 1, hlt, by go_num, by rw [stK_yes HG.out HST.out.symm, HAG1.out], by rw [stK_yes HG.out HST.out.symm]; exact HM2.out.below HBQ.out, own_below HRk2.out HBQ.out⟩
            case measure => simp [intOf]; omega
          | false =>
            refine wp_region_quiet_below (by kernel_rfl) (by kernel_rfl) ?_
            repeat (go_big_quiet_step (first | with_reducible exact c1 _ _))
            refine wpQuiet_nil ?_
            intro _ hw'
            obtain ⟨⟨dq, osq⟩, hw''⟩ := hw'
            subst hw''
            have hbq := below_regrown W2 dq osq
            generalize grow (redrawn W2 dq) osq = wq at hbq ⊢
            have hmq := HM2.out.below hbq
            rw [stK_at HG.out] at hmq
            have HMQ := Lib.hid hmq
            have HRq := Lib.hid (own_below HRk2.out hbq)
            have hkq := HKP.out.below hbq HKP.out.lt
            have HKQ := Lib.hid hkq
            have HBQ := Lib.hid (Below.refl wq.heap.size wq)
            clear c1 r1 r2 r3 hbq hmq hkq
            go_upto_region 7 with (fail)
            have HR0 := Lib.hid (fun wx (hb : Below wq.heap.size wq wx) => ld_mC ((HMQ.out.com.below hb).blk.cell 17))
            have HR1 := Lib.hid (fun wx (hb : Below wq.heap.size wq wx) => ld_pf (HKQ.out.below hb HKQ.out.lt))
            refine wp_region_mix [(true, 5), (false, 1)] 0 (by kernel_rfl) (fun wx => Below wq.heap.size wq wx) (fun _ _ h k => h.trans (k.mono h.size)) (by kernel_rfl) HBQ.out (a' := ?_) (fun wz hz => ?_) fun wz hz => ?_
            rotate_left
            · have r0 := fun (d : Nat) (os : Array Obj) => HR0.out (grow (redrawn wz d) os) (hz.trans ((below_regrown wz d os).mono hz.size))
              have r1 := fun (d : Nat) (os : Array Obj) => HR1.out (grow (redrawn wz d) os) (hz.trans ((below_regrown wz d os).mono hz.size))
              clear hz
              simp only [pick_nil, pick_tt, pick_ft, List.take_succ_cons, List.take_zero, List.drop_succ_cons, List.drop_zero, List.append_nil]
              repeat (go_big_quiet_step (fail))
              refine wpQuiet_nil ?_
              rfl
            · simp only [pick_nil, pick_ff, pick_tf, List.take_succ_cons, List.take_zero, List.drop_succ_cons, List.drop_zero, List.append_nil]
              have HZ := Lib.hid (HBQ.out.trans (hz.mono HBQ.out.size))
              clear hz
              refine wpMix_step HZ.out fun wa ha => ?_
              have HA := Lib.hid (HZ.out.trans (ha.mono HZ.out.size))
              clear ha
              have hma := HMQ.out.below HA.out
              obtain ⟨wd, hrd, hcd, hud⟩ := hma.com.drop 0
              have HMD := Lib.hid (hma.dropped hcd hud HUM.out)
              have HRD := Lib.hid (row_keepU (own_below HRq.out HA.out) hud fun j hj e => by
                have h1 := (own_lt HRq.out hj).1
                have h2 := HMB.out
                have h3 : j = mb := e
                omega)
              clear hma hcd hud
              go_wp2_with fail
              refine wpMix_plain ?_
              go_wp2_with fail
              go_roundw
              case rel => exact ⟨k + 1, hlt, by go_num, by rw [decide_eq_true]; have := stK_len HG.out HST.out.symm; rw [← HN.out] at this; omega, by rw [stK_no HG.out HST.out.symm]; exact HMD.out, HRD.out⟩
              case measure => simp [intOf]; omega
        · obtain rfl : k = n := by omega
          obtain ⟨S, hS⟩ : ∃ S, S = stK G k := ⟨_, rfl⟩
          rw [← hS] at hMk
          have HS := Lib.hid hS
          have HKW2 := Lib.hid hMk.com.keysW
          obtain ⟨n2, hn2⟩ : ∃ n, n = S.length := ⟨_, rfl⟩
          have HN2 := Lib.hid hn2
          have hG2 := hMk.com.len
          rw [← hn2] at hG2
          have HMS := Lib.hid hMk
          obtain ⟨bS, hbS⟩ : ∃ b, b = wr.heap.size := ⟨_, rfl⟩
          have HBS := Lib.hid hbS
          have HCB2 := Lib.hid (show cb < bS by rw [hbS]; exact hMk.com.blk.lt)
          have HGB2 := Lib.hid (show ∀ g ∈ S, g.b < bS from fun g hg => by rw [hbS]; exact (hMk.com.en g hg).lt)
          have HSS := Lib.hid (show S.Sublist G by rw [hS]; exact stK_sub G k)
          clear hMk hRk hag1 hS hn2 HMk hbS
          go_wp2_with (go_at_call 31; refine HKW2.out.mono ?_; rintro e w3 ⟨v3, rfl, hr, hb⟩; obtain ⟨A3, cp3, rfl, _⟩ := own_form hr; have HR3 := Lib.hid hr; have HB3 := Lib.hid hb; clear hr hb)
          have hr := HR3.out
          rw [← HN2.out, ← HBS.out] at hr
          rw [← HN2.out]
          have HR4 := Lib.hid hr
          have HPL2 := Lib.hid (show (S.map (·.x.p)).length = n2 by rw [List.length_map, HN2.out])
          have HM3 := Lib.hid (show TlM w cb mb B room c ([] ++ S.drop 0) (o1 ++ []) w3 ov1 U by rw [List.append_nil]; exact HMS.out.below HB3.out)
          clear hr HR3
          go_loopw [2, 33] (fun s2 s33 wl => ∃ (j : Nat) (P : List GE) (m : Nat) (o2 : List Tl) (ov2 : Value), j ≤ n2 ∧ s33 = .int .i64 (j : Int) ∧ s2 = .bool (ag1 || decide (m ≠ 0)) ∧ TakI c room S (cntT (S.map (·.x))) j P m o2 ∧ TlM w cb mb B room c (P ++ S.drop j) (o1 ++ o2) wl ov2 U ∧ wl.ownsRow bS 36 2 (.slice A3 n2 cp3) n2 (flatP (S.map (·.x.p)))) (fun _ s33 _ => n2 - (intOf s33).toNat)
          case atStart => exact ⟨0, [], 0, [], ov1, Nat.zero_le _, rfl, by simp, TakI.start, HM3.out, HR4.out⟩
          case round =>
            obtain ⟨j, P, m, o2, ov2, hj, rfl, rfl, hT, hMl, hRl⟩ := hrel
            obtain ⟨ag2, hag2⟩ : ∃ a, a = (ag1 || decide (m ≠ 0)) := ⟨_, rfl⟩
            rw [← hag2]
            have HAG2 := Lib.hid hag2
            have HT := Lib.hid hT
            by_cases hlt : j < n2
            · obtain ⟨g, hg⟩ : ∃ g, S[j]? = some g := ⟨_, List.getElem?_eq_getElem (by rw [← HN2.out]; exact hlt)⟩
              have hgs := List.mem_of_getElem? hg
              have hd := drop_at hg
              have hcnt := hT.cnt
              rw [hd] at hMl hcnt
              have hgm : g ∈ P ++ g :: S.drop (j + 1) := by simp
              have HEK := Lib.hid (HTD.out.ok g (HSS.out.subset hgs))
              obtain ⟨gr, cq, e8, _⟩ := own_form1 hRl (by omega)
              obtain ⟨rfl, rfl⟩ : A3 = some ⟨gr, 0, none⟩ ∧ cp3 = cq := by cases e8; exact ⟨rfl, rfl⟩
              have lp := ld_pfrow hRl HPL2.out (k := j) (p := g.x.p) (by rw [List.getElem?_map, hg]; rfl)
              obtain ⟨t, ht⟩ : ∃ t, t = cntT (S.map (·.x)) + m := ⟨_, rfl⟩
              rw [← ht] at hcnt
              have HTT := Lib.hid ht
              have HCNT := Lib.hid hcnt
              obtain ⟨D, hD⟩ : ∃ D, D = S.drop (j + 1) := ⟨_, rfl⟩
              rw [← hD] at hMl hgm
              obtain ⟨W2, hW2⟩ : ∃ Z, Z = wr.alloc (.cells #[.int .u32 (g.x.p.1 : Int), .int .i64 g.x.p.2] 36) := ⟨_, rfl⟩
              have hb2 : Below wr.heap.size wr W2 := by rw [hW2]; exact (Below.refl _ _).alloc (Nat.le_refl _) _
              have sp := st_pf_new wr (g.x.p.1 : Int) g.x.p.2
              rw [← hW2] at sp
              have hkp : Blk W2 wr.heap.size 36 (pfC g.x.p) := by rw [hW2]; exact Blk.new _ _ _
              have HM2 := Lib.hid (hMl.below hb2)
              have HRl2 := Lib.hid (own_below hRl hb2)
              have HKP := Lib.hid hkp
              have HG := Lib.hid hg
              have HGS := Lib.hid hgs
              have HGM := Lib.hid hgm
              have HW2 := Lib.hid hW2
              have HD := Lib.hid hD
              have HAGm := Lib.hid (show P ++ [g] ++ D = P ++ g :: D by simp)
              have k0 : (0 : Int) ≤ j := by omega
              have k1 : (j : Int) < n2 := by omega
              clear hMl hRl hg hgs hgm hW2 hb2 hkp e8 hag2 hT hcnt ht hd hD
              go_upto_region 13 with (fail)
              clear lp sp
              obtain ⟨F, hF⟩ := HM2.out.com.map
              have r1 := fun k => ld_mC (w := W2.drewN k) ((HM2.out.com.below (below_drewN W2 k)).blk.cell 17)
              have r2 := fun k => ld_pf (w := W2.drewN k) (HKP.out.below (below_drewN W2 k) HKP.out.lt)
              have r3 := fun k => hF.look (w' := W2.drewN k) (below_drewN W2 k) HGM.out (may_ok (HM2.out.com.may g HGM.out))
              unfold ptrE at r3
              clear hF
              go_quiet (fail)
              clear r1 r2 r3
              obtain ⟨W3, hW3⟩ : ∃ Z, Z = W2.drewN nq := ⟨_, rfl⟩
              rw [← hW3]
              have hb3 : Below W2.heap.size W2 W3 := by rw [hW3]; exact below_drewN W2 nq
              have HM3b := Lib.hid (HM2.out.below hb3)
              have HRl3 := Lib.hid (own_below HRl2.out hb3)
              have HKP3 := Lib.hid (HKP.out.below hb3 HKP.out.lt)
              clear hW3 hb3
              go_upto_region 14 with (fail)
              have b1 := fun (dd : Nat) (os : Array Obj) => ld_bC (b := g.b) (o := 1) (z := g.x.tk) (((HM3b.out.com.below (below_regrown W3 dd os)).en g HGM.out).cell 1)
              have b0 := fun (dd : Nat) (os : Array Obj) => ld_iC (b := cb) (o := 0) (z := room) ((HM3b.out.com.below (below_regrown W3 dd os)).blk.cell 0)
              have c1 := fun (dd : Nat) (os : Array Obj) => Calls.regrown_of (takenNow_any (HM3b.out.com.below (below_regrown W3 dd os)))
              rw [show cntT ((P ++ g :: D).map (·.x)) = t by rw [HD.out]; exact HCNT.out] at c1
              obtain ⟨tk, htk⟩ : ∃ s, s = g.x.tk := ⟨_, rfl⟩
              rw [← htk] at b1
              have HTK := Lib.hid htk
              clear htk
              cases tk with
              | true =>
                clear b0 c1
                refine wp_region_quiet_below (by kernel_rfl) (by kernel_rfl) ?_
                repeat (go_big_quiet_step (fail))
                refine wpQuiet_nil ?_
                intro _ hw'
                obtain ⟨⟨dq, osq⟩, hw''⟩ := hw'
                subst hw''
                have hbq := below_regrown W3 dq osq
                generalize grow (redrawn W3 dq) osq = wq at hbq ⊢
                have HBQ := Lib.hid hbq
                clear b1 hbq
                go_wp2_with fail
                go_roundw
                case rel => exact ⟨j + 1, P ++ [g], m, o2, ov2, hlt, by go_num, by rw [HAG2.out], HT.out.no HG.out HEK.out (by rw [← HTK.out]; simp), by rw [← HD.out, HAGm.out]; exact HM3b.out.below HBQ.out, own_below HRl3.out HBQ.out⟩
                case measure => simp [intOf]; omega
              | false =>
                by_cases hr : (t : Int) < room
                · refine wp_region_quiet_below (by kernel_rfl) (by kernel_rfl) ?_
                  repeat (go_big_quiet_step (first | with_reducible exact c1 _ _))
                  refine wpQuiet_nil ?_
                  intro _ hw'
                  obtain ⟨⟨dq, osq⟩, hw''⟩ := hw'
                  subst hw''
                  have hbq := below_regrown W3 dq osq
                  generalize grow (redrawn W3 dq) osq = wq at hbq ⊢
                  have hmq := HM3b.out.below hbq
                  have hkq := HKP3.out.below hbq HKP3.out.lt
                  have hrq := own_below HRl3.out hbq
                  have he := hmq.com.en g HGM.out
                  have s1 := st_bC (he.cell 1) (he.frozen 1) true
                  obtain ⟨W4, hW4⟩ : ∃ Z, Z = wq.setCell ⟨g.b, 1, none⟩ (.bool true) := ⟨_, rfl⟩
                  rw [← hW4] at s1
                  have m4 := hmq.com.set1 (w := wq) hmq.out (Below.refl _ _) HGM.out (i := 1) (u := .bool true) (x := { g.x with tk := true }) rfl rfl
                  rw [← hW4] at m4
                  have hk4 : Blk W4 wr.heap.size 36 (pfC g.x.p) := by
                    rw [hW4]
                    exact hkq.far (p := ⟨g.b, 1, none⟩) (hkq.ne_ he (by decide)) _
                  have lp4 := ld_pf hk4
                  have hol : (o1 ++ o2).length ≤ 900000 := by
                    have q1 := HTD.out.ol
                    have q2 := HT.out.ol
                    have q3 := HT.out.un
                    have q4 := untk_len (S.map (·.x))
                    have q5 := HLEN.out
                    have q6 := HN2.out
                    rw [List.length_map] at q4
                    rw [List.length_append]
                    omega
                  have hlk := look_any (B := B) m4.com HPC.out (g := ⟨{ g.x with tk := true }, g.b⟩) (mem_put HGM.out _) (take_ew HEK.out.toEW) m4.out (by have q1 := HB.out; have q2 := hmq.upd.size; have q3 := m4.upd.size; omega) hol
                  have HLK := Lib.hid (show Calls Try.prog 55 #[.pointer (some ⟨cb, 0, none⟩), .agg #[.int .u32 (g.x.p.1 : Int), .int .i64 g.x.p.2]] W4 (TellPost W4 cb mb B room c (putG (putG (P ++ g :: D) g.b { g.x with tk := true }) g.b (lookF c { g.x with tk := true }).1) (o1 ++ o2 ++ (lookF c { g.x with tk := true }).2) (LkU cb g.b ov2)) from hlk)
                  have HMQ := Lib.hid hmq
                  have HM4 := Lib.hid m4
                  have HRQ := Lib.hid hrq
                  clear b1 b0 c1 hbq hmq hkq hrq he hW4 m4 hk4 hol hlk
                  go_wp2_with (go_at_call 55; refine HLK.out.mono ?_; rintro e w5 ⟨rfl, ov3, hm⟩; have HM5 := Lib.hid hm; clear hm)
                  have hm45 := HM4.out.trans HM5.out fun k hk => .inl hk
                  have hrow := row_keepU HRQ.out hm45.upd fun i hi hU => by
                    have hge := (own_lt HRQ.out hi).1
                    rcases hU with hU | hU | hU
                    · have := HCB2.out; omega
                    · have := HGB2.out g HGS.out; omega
                    · obtain ⟨cs, hb⟩ := own_blkT HMQ.out.out hU
                      obtain ⟨cs2, hb2⟩ := own_blk HRQ.out hi
                      exact hb.ne_ hb2 (by decide) rfl
                  have hm6 := HMQ.out.trans hm45 fun i hi => by
                    rcases hi with hi | hi | hi
                    · rw [hi]; exact .inl HUC.out
                    · obtain ⟨a, ha, e⟩ := HTD.out.b g (HSS.out.subset HGS.out)
                      rw [hi, ← e]
                      exact .inl (HUG.out a ha)
                    · exact HMQ.out.own i hi
                  rw [putG_putG, putG_mid _ _ _ _ HMQ.out.com.nd, HD.out, List.append_assoc] at hm6
                  have HM6 := Lib.hid hm6
                  have HROW := Lib.hid hrow
                  clear hm45 hrow hm6
                  go_roundw
                  case rel => exact ⟨j + 1, P ++ [⟨(lookF c { g.x with tk := true }).1, g.b⟩], m + 1, o2 ++ (lookF c { g.x with tk := true }).2, ov3, hlt, by go_num, by simp, HT.out.yes HPC.out HG.out HEK.out ⟨HTK.out.symm, by rw [← HTT.out]; exact hr⟩, by rw [List.append_assoc]; exact HM6.out, HROW.out⟩
                  case measure => simp [intOf]; omega
                · refine wp_region_quiet_below (by kernel_rfl) (by kernel_rfl) ?_
                  repeat (go_big_quiet_step (first | with_reducible exact c1 _ _))
                  refine wpQuiet_nil ?_
                  intro _ hw'
                  obtain ⟨⟨dq, osq⟩, hw''⟩ := hw'
                  subst hw''
                  have hbq := below_regrown W3 dq osq
                  generalize grow (redrawn W3 dq) osq = wq at hbq ⊢
                  have HBQ := Lib.hid hbq
                  clear b1 b0 c1 hbq
                  go_wp2_with fail
                  go_roundw
                  case rel => exact ⟨j + 1, P ++ [g], m, o2, ov2, hlt, by go_num, by rw [HAG2.out], HT.out.no HG.out HEK.out (by rw [← HTT.out]; exact fun e => hr e.2), by rw [← HD.out, HAGm.out]; exact HM3b.out.below HBQ.out, own_below HRl3.out HBQ.out⟩
                  case measure => simp [intOf]; omega
            · obtain rfl : j = n2 := by omega
              have hml := hMl
              rw [HN2.out, List.drop_of_length_le (Nat.le_refl _), List.append_nil] at hml
              have HML := Lib.hid hml
              have eS : S = stK G G.length := by rw [HS.out, ← HN.out]
              have hstep := hT
              rw [HN2.out, eS] at hstep
              have hst := HTD.out.step hstep
              rw [← eS] at hst
              have HST := Lib.hid hst
              have hage : ag2 = (decide (S.length ≠ G.length) || decide (m ≠ 0)) := by rw [hag2, HAG1.out, ← HS.out, HN.out]
              have HAGE := Lib.hid hage
              clear hMl hRl hml eS hstep hst hage hT hag2
              go_wp2_with fail
              go_roundg (if ag2 = true then 1 + P.length + untk (P.map (·.x)) else 0)
              case rel =>
                obtain ⟨s1, _⟩ := HST.out
                rw [← HAGE.out] at s1
                exact ⟨ag2, P, o1 ++ o2, ov2, rfl, rfl, s1, HML.out⟩
              case measure =>
                obtain ⟨_, s2, s3, s4, s5⟩ := HST.out
                rw [HGK.out]
                by_cases ha : ag2 = true
                · rw [if_pos ha]
                  rw [HAGE.out] at ha
                  simp only [Bool.or_eq_true, decide_eq_true_eq] at ha
                  omega
                · rw [if_neg ha]
                  omega
end Go.Proofs.Ytahdjfegihnolaa
