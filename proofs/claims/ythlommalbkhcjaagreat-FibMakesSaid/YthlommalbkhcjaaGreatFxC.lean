/- The document's table as a row of entries: Make's walk. -/
import Derived.Test.YthlommalbkhcjaaGreatFxB
import Derived.Deep.CutRange
import Derived.Deep.CutBlock
import Derived.Deep.LoopGhost
namespace Go.Proofs.YthlommalbkhcjaaGreat
open Go.RowKit Go.Sort
attribute [local go_sem] comesV_value comesV_skip comesV_enter
variable {dc : Int → Array Value}
theorem rt_cellsP {D : Nat} {w : World} {J : Nat → Prop} {A : Option Addr} {n : Nat} {l : List Rt} (hr : Reads w J 6 A n (l.flatMap rtC)) (hJ : ∀ k, J k → k < D) {k : Nat} (hk : k < n) {r : Rt} (hrk : l[k]? = some r) :
    ∃ ad, A = some ad ∧ ∀ wx, Below D w wx → (Instr.loadAt 37 (.pointer (some (ad.add (k * 6))))).run Tryz.prog wx = .ok (pxV r.a r.m) wx := by
  obtain ⟨ad, e, hj, hadl, hc⟩ := hr.2 (by omega)
  refine ⟨ad, e, fun wx hx => ?_⟩
  have key : ∀ j v, (rtC r)[j]? = some v → j < 6 → wx.cell? ((ad.add (k * 6)).add j) = some v := fun j v hv hj6 => by
    rw [add_of_add]
    exact (hx.cell (by rw [block_of_add]; exact hJ _ hj)).trans (hc _ _ (by rw [rtC_get hrk hj6]; exact hv))
  have c0 := key 0 _ rfl (by decide)
  have c1 := key 1 _ rfl (by decide)
  simp only [Addr.add, if_true] at c0
  simp [Addr.add] at c1
  unfold pxV
  simp [go_sem, Addr.add, c0, c1]
set_option maxRecDepth 20000 in
set_option maxHeartbeats 8000000 in
attribute [-go_sem] Instr.storeAt Instr.loadAt Instr.alloc Instr.build Instr.buildSlice in
theorem rmake_any (hd : Dc dc) (vf : Nat → Int) (A : Option Addr) (n c : Nat) (l : List Rt) (w : World) (h : RtsM w (fun k => k < w.heap.size) A n l) (hn : n ≤ 1024) (hv : ∀ i r, l[i]? = some r → mayR r = true → dc (vf i) = wayC (wayR r)) :
    Calls Tryz.prog 12 #[.slice A n c] w (RMk dc w (mkL vf 0 l [])) := by
  have h1 : decide ((1024 : Int) < (n : Int)) = false := decide_eq_false (by omega)
  have h2 : (n : Int) ≤ 1024 := by omega
  have HRT := Lib.hid h
  have HV := Lib.hid hv
  have HD := Lib.hid hd
  obtain ⟨R, hR⟩ : ∃ R, R = mkL vf 0 l [] := ⟨_, rfl⟩
  rw [← hR]
  have HR := Lib.hid hR
  have HS0 := Lib.hid (show RMr dc vf w l 0 (.slice none 0 0) [] w from ⟨rfl, rfl, (by unfold SortedB; exact List.Pairwise.nil), fun e he => by simp at he, World.ownsRow_nil _ _ _ _, Below.refl _ _⟩)
  have HHN := Lib.hid hn
  clear h hv hd hR hn
  go_enter Tryz.func12, Tryz.ntmps12
  go_wp2_with fail
  go_loopw [4, 5] (fun t i wr => ∃ (k : Nat) (L : List (Bs × Int)), k ≤ n ∧ i = .int .i64 (k : Int) ∧ RMr dc vf w l k t L wr) (fun _ i _ => n - (intOf i).toNat)
  case atStart => exact ⟨0, [], Nat.zero_le _, rfl, HS0.out⟩
  case round =>
    obtain ⟨k, L, hk, rfl, hs⟩ := hrel
    obtain ⟨TA, cap, rfl, hcap⟩ := own_form hs.row
    have HS := Lib.hid hs
    clear hs HS0
    by_cases hlt : k < n
    · have hd0 : decide ((k : Int) < (n : Int)) = true := decide_eq_true (by omega)
      have hd1 : decide (k < n) = true := decide_eq_true hlt
      have i0 : (0 : Int) ≤ k := by omega
      have i1 : (k : Int) < n := by omega
      obtain ⟨r, hr⟩ : ∃ r, l[k]? = some r := ⟨_, List.getElem?_eq_getElem (by rw [HRT.out.len]; exact hlt)⟩
      have hrm : r ∈ l := List.mem_of_getElem? hr
      obtain ⟨ad, rfl, hcs⟩ := rt_cells HRT.out.row (fun _ hj => hj) hlt hr
      have ha32 := (HRT.out.each r hrm).a
      have hdrop : l.drop k = r :: l.drop (k + 1) := by
        obtain ⟨e1, e2⟩ := List.getElem?_eq_some_iff.1 hr
        rw [List.drop_eq_getElem_cons e1, e2]
      have HDR := Lib.hid hdrop
      have HA := Lib.hid ha32
      have HRK := Lib.hid hr
      have HCS := Lib.hid hcs
      obtain ⟨ad2, ead, hcp⟩ := rt_cellsP HRT.out.row (fun _ hj => hj) hlt hr
      injection ead with ead
      subst ead
      have HCP := Lib.hid hcp
      have HRO := Lib.hid (fun (wx : World) (hb : Below w.heap.size w wx) => ((HRT.out.each r hrm).keep (Same.ofBelow hb fun _ hk => hk)).mono fun _ hk => Nat.lt_of_lt_of_le hk hb.size)
      have hld := HCS.out wr HS.out.below
      have HMY := Lib.hid (rmay_any r wr (HRO.out wr HS.out.below))
      clear hcs hcp hdrop hr hrm ha32
      by_cases hmr : mayR r = true
      · rw [hmr] at HMY
        have hmr' := hmr
        have HMR := Lib.hid hmr'
        clear hmr hmr'
        go_upto_region 9 with (go_at_call 51; refine HMY.out.mono ?_; rintro e w2 ⟨rfl, hb2⟩; have HS2 := Lib.hid (HS.out.later hb2); clear hb2 HMY)
        clear hld
        have hw2 := HS2.out.below
        go_wp2_with fail
        go_loopw [6] (fun j wj => ∃ jn : Nat, j = .int .i64 (jn : Int) ∧ jn ≤ atB (rB r) L ∧ Below w2.heap.size w2 wj) (fun j _ => k - (intOf j).toNat)
        case atStart => exact ⟨0, rfl, Nat.zero_le _, Below.refl _ _⟩
        case round =>
          obtain ⟨jn, rfl, hj, hbj⟩ := hrel
          have HBJ := Lib.hid hbj
          have HJ := Lib.hid hj
          clear hbj hj
          obtain ⟨bb, hbb⟩ : ∃ z, z = decide (jn < atB (rB r) L) := ⟨_, rfl⟩
          have HBB := Lib.hid hbb
          clear hbb
          go_upto_region 10 with (fail)
          go_cut [39] from 22 to 41 (fun s39 wx => s39 = .bool bb ∧ Below w2.heap.size w2 wx)
          case first =>
            by_cases hjk : jn < k
            · have hdj : decide ((jn : Int) < k) = true := decide_eq_true (by omega)
              have hj1 : ¬ (jn : Int) < 0 ∧ (jn : Int) < k := ⟨by omega, by omega⟩
              obtain ⟨x, hx⟩ : ∃ x, L[jn]? = some x := ⟨_, List.getElem?_eq_getElem (by rw [HS.out.len]; exact hjk)⟩
              have hsj := HS2.out.later HBJ.out
              obtain ⟨tad, rfl, hwt⟩ := want_own HD.out hsj.row hsj.len jn x hx
              have HWT := Lib.hid hwt
              have hcb : decide (cmpP ⟨padB x.1, x.1.length⟩ ⟨r.a, r.m⟩ < 0) = bb := by
                rw [cmp_lt (HS.out.short x (List.mem_of_getElem? hx)) HA.out HMR.out, HBB.out, Bool.eq_iff_iff, decide_eq_true_iff]
                constructor
                · intro h
                  rcases Nat.lt_or_ge jn (atB (rB r) L) with h' | h'
                  · exact h'
                  · have e : jn = atB (rB r) L := Nat.le_antisymm HJ.out h'
                    rw [e] at hx
                    rw [atB_ge (rB r) L x hx] at h
                    cases h
                · intro h
                  exact atB_lt (rB r) L jn x h hx
              have hcc := fun wx => pcmp_any ⟨padB x.1, x.1.length⟩ ⟨r.a, r.m⟩ wx
              obtain ⟨z, hz⟩ : ∃ z, z = cmpP ⟨padB x.1, x.1.length⟩ ⟨r.a, r.m⟩ := ⟨_, rfl⟩
              rw [← hz] at hcb hcc
              have HCC := Lib.hid hcc
              have HSJ := Lib.hid hsj
              have ex1 := fun wz hz => (HWT.out wz hz).1
              obtain ⟨xa, hxa⟩ : ∃ z, z = padB x.1 := ⟨_, rfl⟩
              obtain ⟨xn, hxn⟩ : ∃ z, z = x.1.length := ⟨_, rfl⟩
              dsimp only at HCC
              rw [← hxa, ← hxn] at ex1 HCC
              have E1 := Lib.hid ex1
              clear hx hsj hwt hcc hz ex1 hxa hxn
              refine wp_region_stages [(true, 18)] (by kernel_rfl) (by kernel_rfl) fun wz hz hz2 => ?_
              have HZ := Lib.hid hz
              clear hz hz2
              have q0 := fun (dd : Nat) (os : Array Obj) => E1.out _ (HZ.out.trans ((below_regrown wz dd os).mono HZ.out.size))
              have q1 := fun (dd : Nat) (os : Array Obj) => HCP.out _ ((HSJ.out.later HZ.out).below.trans ((below_regrown wz dd os).mono (HSJ.out.later HZ.out).below.size))
              have q2 := fun (dd : Nat) (os : Array Obj) => Calls.regrown_of (HCC.out (grow (redrawn wz dd) os))
              refine wpSt_q ?_
              simp only [List.take_succ_cons, List.take_zero, List.drop_succ_cons, List.drop_zero]
              repeat (go_big_quiet_step (with_reducible exact q2 _ _))
              refine wpQuiet_nil ?_
              intro _ hw'
              obtain ⟨⟨dq, osq⟩, hw''⟩ := hw'
              subst hw''
              have HZQ := Lib.hid (HBJ.out.trans ((HZ.out.trans ((below_regrown wz dq osq).mono HZ.out.size)).mono HBJ.out.size))
              clear q0 q1 q2
              refine wpSt_end ?_
              go_wp2_with fail
              go_meet
              case rel => exact ⟨rfl, HZQ.out⟩
            · have hdj : decide ((jn : Int) < k) = false := decide_eq_false (by omega)
              have hb0 : bb = false := by
                rw [HBB.out]
                have := atB_le (rB r) L
                rw [HS.out.len] at this
                exact decide_eq_false (by omega)
              subst hb0
              refine wp_region_stages [(true, 18)] (by kernel_rfl) (by kernel_rfl) fun wz hz hz2 => ?_
              have HZ := Lib.hid hz
              clear hz hz2
              refine wpSt_q ?_
              simp only [List.take_succ_cons, List.take_zero, List.drop_succ_cons, List.drop_zero]
              repeat (go_big_quiet_step (fail))
              refine wpQuiet_nil ?_
              intro _ hw'
              obtain ⟨⟨dq, osq⟩, hw''⟩ := hw'
              subst hw''
              have HZQ := Lib.hid (HBJ.out.trans ((HZ.out.trans ((below_regrown wz dq osq).mono HZ.out.size)).mono HBJ.out.size))
              refine wpSt_end ?_
              go_wp2_with fail
              go_meet
              case rel => exact ⟨rfl, HZQ.out⟩
          case rest =>
            obtain ⟨rfl, hbc⟩ := hcut
            have HBC := Lib.hid hbc
            clear hbc
            cases bb with
            | true =>
              have hja : jn + 1 ≤ atB (rB r) L := by
                have := HBB.out
                exact of_decide_eq_true this.symm
              have hjk : jn < k := by
                have := atB_le (rB r) L
                rw [HS.out.len] at this
                omega
              go_wp2_with fail
              go_roundw
              case rel => exact ⟨jn + 1, by go_num, hja, HBC.out⟩
              case measure => simp [intOf]; omega
            | false =>
              have hja : jn = atB (rB r) L := by
                have h1 := HJ.out
                have h2 : ¬ jn < atB (rB r) L := fun h => by
                  have := HBB.out
                  rw [decide_eq_true h] at this
                  cases this
                omega
              have HJA := Lib.hid hja
              have hjk0 : jn ≤ k := by
                have := atB_le (rB r) L
                rw [HS.out.len] at this
                omega
              have hsc := HS2.out.later HBC.out
              have HSC := Lib.hid hsc
              obtain ⟨hb, hhb⟩ : ∃ z, z = hasB (rB r) L := ⟨_, rfl⟩
              have HHB := Lib.hid hhb
              clear hja hhb hsc
              go_upto_region 12 with (fail)
              go_cut [58] from 10 to 79 (fun s58 wx => s58 = .bool hb ∧ Below w2.heap.size w2 wx)
              case first =>
                by_cases hjk : jn < k
                · have hdj : decide ((jn : Int) < k) = true := decide_eq_true (by omega)
                  have hj1 : ¬ (jn : Int) < 0 ∧ (jn : Int) < k := ⟨by omega, by omega⟩
                  obtain ⟨x, hx⟩ : ∃ x, L[jn]? = some x := ⟨_, List.getElem?_eq_getElem (by rw [HS.out.len]; exact hjk)⟩
                  obtain ⟨tad, rfl, hwt⟩ := want_own HD.out HSC.out.row HSC.out.len jn x hx
                  have HWT := Lib.hid hwt
                  have hqq : ∀ wx, (binOp .eql 37 (pxV (padB x.1) (x.1.length : Int)) (pxV r.a r.m)).run Tryz.prog wx = .ok (.bool hb) wx := fun wx => by
                    rw [eql_px, rB_eq (HS.out.short x (List.mem_of_getElem? hx)) HA.out HMR.out, HHB.out]
                    unfold hasB
                    rw [← HJA.out, hx]
                  have ex1 := fun wz hz => (HWT.out wz hz).1
                  obtain ⟨xa, hxa⟩ : ∃ z, z = padB x.1 := ⟨_, rfl⟩
                  obtain ⟨xn, hxn⟩ : ∃ z, z = x.1.length := ⟨_, rfl⟩
                  rw [← hxa, ← hxn] at ex1 hqq
                  have E1 := Lib.hid ex1
                  clear hx hwt ex1 hxa hxn
                  refine wp_region_stages [(true, 17)] (by kernel_rfl) (by kernel_rfl) fun wz hz hz2 => ?_
                  have HZ := Lib.hid hz
                  clear hz hz2
                  have q0 := fun (dd : Nat) (os : Array Obj) => E1.out _ (HZ.out.trans ((below_regrown wz dd os).mono HZ.out.size))
                  have q1 := fun (dd : Nat) (os : Array Obj) => HCP.out _ ((HSC.out.later HZ.out).below.trans ((below_regrown wz dd os).mono (HSC.out.later HZ.out).below.size))
                  refine wpSt_q ?_
                  simp only [List.take_succ_cons, List.take_zero, List.drop_succ_cons, List.drop_zero]
                  repeat (go_big_quiet_step (fail))
                  refine wpQuiet_nil ?_
                  intro _ hw'
                  obtain ⟨⟨dq, osq⟩, hw''⟩ := hw'
                  subst hw''
                  have HZQ := Lib.hid (HBC.out.trans ((HZ.out.trans ((below_regrown wz dq osq).mono HZ.out.size)).mono HBC.out.size))
                  clear q0 q1 hqq
                  refine wpSt_end ?_
                  go_wp2_with fail
                  go_meet
                  case rel => exact ⟨rfl, HZQ.out⟩
                · have hdj : decide ((jn : Int) < k) = false := decide_eq_false (by omega)
                  have hb0 : hb = false := by
                    rw [HHB.out]
                    unfold hasB
                    rw [List.getElem?_eq_none (by rw [HS.out.len, ← HJA.out]; omega)]
                  subst hb0
                  refine wp_region_stages [(true, 17)] (by kernel_rfl) (by kernel_rfl) fun wz hz hz2 => ?_
                  have HZ := Lib.hid hz
                  clear hz hz2
                  refine wpSt_q ?_
                  simp only [List.take_succ_cons, List.take_zero, List.drop_succ_cons, List.drop_zero]
                  repeat (go_big_quiet_step (fail))
                  refine wpQuiet_nil ?_
                  intro _ hw'
                  obtain ⟨⟨dq, osq⟩, hw''⟩ := hw'
                  subst hw''
                  have HZQ := Lib.hid (HBC.out.trans ((HZ.out.trans ((below_regrown wz dq osq).mono HZ.out.size)).mono HBC.out.size))
                  refine wpSt_end ?_
                  go_wp2_with fail
                  go_meet
                  case rel => exact ⟨rfl, HZQ.out⟩
              case rest =>
                obtain ⟨rfl, hbd⟩ := hcut
                have HSD := Lib.hid (HS2.out.later hbd)
                clear hbd
                cases hb with
                | true =>
                  have HNO := Lib.hid (show R = none by
                    rw [HR.out, HS.out.eqn, HDR.out]
                    unfold mkL
                    rw [if_neg (fun h => by
                      have e1 := h.2
                      have e2 := HHB.out.symm
                      rw [hasB_mem HS.out.sorted, ← getS_mem, e1] at e2
                      cases e2)])
                  go_wp2_with fail
                  go_ret2
                  rw [HNO.out]
                  exact ⟨rfl, HSD.out.below⟩
                | false =>
                  have hget : getS (rB r) L = none := by rw [getS_eq HS.out.sorted, ← HHB.out]; rfl
                  obtain ⟨p1, p2, p3⟩ := rB_may HA.out HMR.out
                  obtain ⟨cs, hcs⟩ : ∃ z, z = dc (vf k) := ⟨_, rfl⟩
                  have hc1 : cs.size = 257 := by rw [hcs]; exact HD.out.sz _
                  have hc2 : cs.all (·.oneCell') = true := by rw [hcs]; exact HD.out.one _
                  have HWY := Lib.hid (fun (wx : World) (hx : Below w.heap.size w wx) => (show Calls Tryz.prog 53 #[rtV r] wx fun e w' => e = .returned (.agg cs) ∧ Below wx.heap.size wx w' by
                    rw [hcs, HV.out k r HRK.out HMR.out]
                    exact rway_any r wx (HRO.out wx hx) HMR.out))
                  have HCSE := Lib.hid hcs
                  have HP := Lib.hid (And.intro p1 (And.intro p2 p3))
                  have HGET := Lib.hid hget
                  clear hcs hget p1 p2 p3
                  go_upto_region 14 with (fail)
                  have qs1 := fun wx => sl_take TA k cap jn wx (by omega)
                  have qs2 := fun wx => sl_drop TA k cap jn wx hjk0
                  obtain ⟨A9, hA9⟩ : ∃ z, z = (if cap = jn then TA else TA.map (·.add (jn * 259))) := ⟨_, rfl⟩
                  obtain ⟨n9, hn9⟩ : ∃ z, z = k - jn := ⟨_, rfl⟩
                  obtain ⟨c9, hc9⟩ : ∃ z, z = cap - jn := ⟨_, rfl⟩
                  rw [← hA9, ← hn9, ← hc9] at qs2
                  have HREADS := Lib.hid (show ∀ wx, Below wc.heap.size wc wx → Reads wx (fun g => g < wx.heap.size) 259 TA jn ((flatN dc L).take (jn * 259)) ∧ Reads wx (fun g => g < wx.heap.size) 259 A9 n9 ((flatN dc L).drop (jn * 259)) from fun wx hx => by
                    have hr := (HSD.out.later hx).row
                    have hrd := Reads.of_own hr (I := fun g => g < wx.heap.size) fun g hg => (own_lt hr hg).2
                    refine ⟨hrd.take hjk0, ?_⟩
                    have := hrd.drop (k := jn) (cap := cap) hjk0 hcap
                    rwa [← hA9, ← hn9] at this)
                  have HN9 := Lib.hid hn9
                  clear hA9 hn9 hc9
                  refine wp_region_mix [(true, 3), (false, 1), (true, 9), (false, 4), (true, 3), (false, 2)] 6 (by kernel_rfl) (fun wx => Below wc.heap.size wc wx) (fun _ _ h k => h.trans (k.mono h.size)) (by kernel_rfl) (Below.refl _ _) (a' := ?_) (fun wz hz => ?_) fun wz hz => ?_
                  rotate_left
                  · have q0 := fun (dd : Nat) (os : Array Obj) => HCS.out _ ((HSD.out.later hz).below.trans ((below_regrown wz dd os).mono (HSD.out.later hz).below.size))
                    have q1 := fun (dd : Nat) (os : Array Obj) => HCP.out _ ((HSD.out.later hz).below.trans ((below_regrown wz dd os).mono (HSD.out.later hz).below.size))
                    clear hz
                    simp only [pick_nil, pick_tt, pick_ft, List.take_succ_cons, List.take_zero, List.drop_succ_cons, List.drop_zero, List.append_nil, List.cons_append, List.nil_append]
                    repeat (go_big_quiet_step (fail))
                    refine wpQuiet_nil ?_
                    rfl
                  simp only [pick_nil, pick_ff, pick_tf, List.take_succ_cons, List.take_zero, List.drop_succ_cons, List.drop_zero, List.append_nil, List.cons_append, List.nil_append]
                  have HZ := Lib.hid hz
                  clear hz qs1 qs2
                  obtain ⟨i0, hi, hz0, hz1, hz2⟩ := info_parts info_re
                  have hk1 : k ≤ 1024 := by omega
                  have hmx : 0 + jn ≤ maxLen := by unfold maxLen; omega
                  have hmb : (0 + jn) * 2072 ≤ 140737488355328 := by omega
                  have ho1 : ∀ u ∈ (flatN dc L).take (jn * 259), u.oneCell' = true := fun u hu => flatN_one HD.out L u (List.mem_of_mem_take hu)
                  have ho2 : ∀ u ∈ (flatN dc L).drop (jn * 259), u.oneCell' = true := fun u hu => flatN_one HD.out L u (List.mem_of_mem_drop hu)
                  refine wpMix_append HZ.out rfl (.const (.slice none 0 0)) (.tmp 61) _ rfl rfl wz.heap.size 123 i0 _ 259 2072 Tryz.underlying31 hi hz0 hz1 hz2 (by rw [Value.cells]; exact enX_size wy0_size) (by decide) (.slice none 0 0) 0 [] rfl (World.ownsRow_nil _ _ _ _) _ TA jn cap _ rfl (HREADS.out wz HZ.out).1 ho1 hmx hmb (Nat.le_refl _) fun v2 wy h2 hg2 _ => ?_
                  have hby : Below wc.heap.size wc wy := HZ.out.grown hg2 HZ.out.size fun j hj => by cases hj
                  have hsy := hg2.size
                  rw [List.nil_append] at h2
                  have H2 := Lib.hid h2
                  have HBY := Lib.hid hby
                  have hwz := HZ.out.size
                  clear h2 hg2 hby
                  refine wpMix_step HBY.out fun wa ha => ?_
                  have HBA := Lib.hid (HBY.out.trans (ha.mono HBY.out.size))
                  have HA2 := Lib.hid (own_below H2.out ha)
                  have hsa := ha.size
                  clear ha
                  go_wp2_with (go_at_call 53; refine (HWY.out wa (HSD.out.later HBA.out).below).mono ?_; rintro e wb ⟨rfl, hbb⟩; have HBB2 := Lib.hid (HBA.out.trans (hbb.mono HBA.out.size)); have HB2 := Lib.hid (own_below HA2.out hbb); have hsb := hbb.size; clear hbb)
                  have q2 := fun wx => bd_re wx (r.a : Int) r.m cs hc1
                  have hq2 : ∀ wx, (Instr.build 123 #[(0, pxV r.a r.m), (1, .agg cs)]).run Tryz.prog wx = .ok (.agg (enX (r.a : Int) r.m cs)) wx := q2
                  refine wpMix_step HBB2.out fun wd hd2 => ?_
                  have HBD := Lib.hid (HBB2.out.trans (hd2.mono HBB2.out.size))
                  have HD2 := Lib.hid (own_below HB2.out hd2)
                  have hsd := hd2.size
                  clear hd2
                  go_wp2_with fail
                  clear q2 hq2
                  have hmx1 : 0 + jn + 1 ≤ maxLen := by unfold maxLen; omega
                  have hmb1 : (0 + jn + 1) * 2072 ≤ 140737488355328 := by omega
                  refine wpMix_push (fun _ _ h k => h.trans (k.mono h.size)) HBD.out 123 (enX (r.a : Int) r.m cs).toList rfl (fun w' => bs_reop w' (r.a : Int) r.m cs hc1 _ _ rfl rfl) rfl (.tmp 62) (.tmp 74) _ rfl rfl wz.heap.size i0 _ 259 2072 Tryz.underlying31 hi hz0 hz1 hz2 (by rw [Value.cells]; exact enX_size wy0_size) (by decide) v2 (0 + jn) _ (fun _ => rfl) (fun _ => rfl) HD2.out (by rw [Array.length_toList]; exact enX_size hc1) (en_oneX hc2) hmx1 hmb1 (by omega) fun gq v3 we h3 hg3 _ => ?_
                  have hbe : Below wc.heap.size wc we := HBD.out.grown hg3 HBD.out.size fun j hj => Nat.le_trans HZ.out.size (own_lt HD2.out hj).1
                  have hse := hg3.size
                  have hmx2 : 0 + jn + 1 + n9 ≤ maxLen := by unfold maxLen; have := HN9.out; omega
                  have hmb2 : (0 + jn + 1 + n9) * 2072 ≤ 140737488355328 := by have := HN9.out; omega
                  refine wpMix_append hbe rfl (.tmp 75) (.tmp 78) _ rfl rfl wz.heap.size 123 i0 _ 259 2072 Tryz.underlying31 hi hz0 hz1 hz2 (by rw [Value.cells]; exact enX_size wy0_size) (by decide) v3 (0 + jn + 1) _ rfl h3 _ A9 n9 c9 _ rfl (HREADS.out we hbe).2 ho2 hmx2 hmb2 (by omega) fun v4 wf h4 hg4 _ => ?_
                  have hbf : Below wc.heap.size wc wf := hbe.grown hg4 hbe.size fun j hj => Nat.le_trans HZ.out.size (own_lt h3 hj).1
                  obtain ⟨hfl, hle⟩ := ins_flat HD.out (v := vf k) (p := rB r) (L := L) HHB.out.symm
                  have hrow : wf.ownsRow w.heap.size 123 259 v4 (k + 1) (flatN dc (insS (rB r) (vf k) L)) := by
                    have := own_base h4 (Nat.le_trans (HSD.out.below.size) HZ.out.size)
                    have e1 : 0 + jn + 1 + n9 = k + 1 := by rw [HN9.out]; omega
                    have e2 : (flatN dc L).take (jn * 259) ++ (enX (r.a : Int) r.m cs).toList ++ (flatN dc L).drop (jn * 259) = flatN dc (insS (rB r) (vf k) L) := by
                      rw [← hfl, HJA.out]
                      unfold enE
                      rw [← HP.out.2.1, ← HP.out.2.2, HCSE.out]
                    rwa [e1, e2] at this
                  have HROW := Lib.hid hrow
                  have HLE := Lib.hid hle
                  have HBF := Lib.hid hbf
                  clear hrow hfl hle h4 hg4 hbf h3 hg3 hbe hmx hmb hmx1 hmb1 hmx2 hmb2 hi hz0 hz1 hz2 ho1 ho2
                  refine wpMix_step HBF.out fun wg hg => ?_
                  have HBG := Lib.hid (HBF.out.trans (hg.mono HBF.out.size))
                  have HRG := Lib.hid (own_below HROW.out hg)
                  clear hg
                  go_wp2_with fail
                  refine wpMix_plain ?_
                  go_wp2_with fail
                  have HNEW := Lib.hid (show RMr dc vf w l (k + 1) v4 (insS (rB r) (vf k) L) wg from ⟨by
                    rw [HS.out.eqn, HDR.out, mkL, if_pos ⟨HMR.out, HGET.out⟩], by
                    rw [← HLE.out, ← HJA.out, HS.out.len]; omega, insS_sorted HS.out.sorted, fun e he => by
                    rcases insS_mem he with rfl | he
                    · exact HP.out.1
                    · exact HS.out.short e he, HRG.out, (HSD.out.later HBG.out).below⟩)
                  go_roundw
                  case rel => exact ⟨k + 1, _, by omega, by go_num, HNEW.out⟩
                  case measure => simp [intOf]; omega
      · have hmr' : mayR r = false := by simpa using hmr
        rw [hmr'] at HMY
        have HNO := Lib.hid (show R = none by
          rw [HR.out, HS.out.eqn, HDR.out]
          unfold mkL
          rw [if_neg (fun h => by rw [h.1] at hmr'; cases hmr')])
        clear hmr hmr'
        go_wp2_with (go_at_call 51; refine HMY.out.mono ?_; rintro e w2 ⟨rfl, hb2⟩; have HS2 := Lib.hid (HS.out.later hb2); clear hb2 HMY)
        go_ret2
        rw [HNO.out]
        exact ⟨rfl, HS2.out.below⟩
    · have hkn : k = n := by omega
      subst hkn
      have hd0 : decide ((k : Int) < (k : Int)) = false := decide_eq_false (by omega)
      have hd1 : decide (k < k) = false := decide_eq_false (by omega)
      clear hlt
      go_wp2_with fail
      go_ret2
      have e := HS.out.eqn
      rw [List.drop_of_length_le (by rw [HRT.out.len]; exact Nat.le_refl _)] at e
      have e2 : R = some L := HR.out.trans e
      rw [e2]
      have hl := HS.out.len
      subst hl
      exact ⟨_, _, rfl, HS.out.row, HS.out.below⟩
end Go.Proofs.YthlommalbkhcjaaGreat
