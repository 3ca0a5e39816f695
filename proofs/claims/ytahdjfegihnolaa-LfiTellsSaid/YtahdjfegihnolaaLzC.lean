/- Layer 12: stays, takenNow. -/
import Derived.Test.YtahdjfegihnolaaLzB
import Derived.Lib.QuietBelow
namespace Go.Proofs.Ytahdjfegihnolaa
open Go.RowKit Go.Sort
theorem ld_mC {w : World} {b o : Nat} {z : Nat} (hu : w.cell? ⟨b, o, none⟩ = some (.map (some z))) : (Instr.loadAt 79 (.pointer (some ⟨b, o, none⟩))).run Try.prog w = .ok (.map (some z)) w := by simp [go_sem, hu]
theorem calls_below {P : Program} {f : FuncId} {args : Array Value} {w : World} {v : Value} (h : Calls P f args w fun e w' => e = .returned v ∧ w = w') : Calls P f args w fun e w' => e = .returned v ∧ Below w.heap.size w w' := h.mono fun _ _ ⟨a, b⟩ => ⟨a, b ▸ Below.refl _ _⟩
set_option maxRecDepth 100000 in
set_option maxHeartbeats 2000000 in
attribute [-go_sem] Instr.storeAt Instr.loadAt in
theorem stays_any {w : World} {b : Nat} {x : Le} (h : Blk w b 87 (enC x)) : Calls Try.prog 53 #[.pointer (some ⟨b, 0, none⟩)] w fun e w' => e = .returned (.bool (staysF x)) ∧ Below w.heap.size w w' := by
  have hb := fun (dd : Nat) (os : Array Obj) => h.below (below_regrown w dd os) h.lt
  have x0 := fun (dd : Nat) (os : Array Obj) => ld_bC (b := b) (o := 0) (z := x.own) ((hb dd os).cell 0)
  have x1 := fun (dd : Nat) (os : Array Obj) => ld_iC (b := b) (o := 10) (z := x.told) ((hb dd os).cell 10)
  have x2 := fun (dd : Nat) (os : Array Obj) => ld_said (hb dd os)
  have c1 := fun (dd : Nat) (os : Array Obj) => Calls.regrown_of (calls_below (active_any (hb dd os)))
  have c2 := fun (dd : Nat) (os : Array Obj) => Calls.regrown_of (blank_any (grow (redrawn w dd) os))
  have n1 := fun wx => neq_ar x.said (fun _ => 255) wx
  have n2 := fun wx => eqIn_ar x.said (fun _ => 255) wx
  have n3 := fun y z wx => ng_ar y z x.said (fun _ => 255) wx
  have e8 : eq8 x.said (fun _ => 255) = blankF x.said := rfl
  rw [e8] at n1 n2
  unfold staysF
  obtain ⟨a, ha⟩ : ∃ a, a = actF x := ⟨_, rfl⟩
  obtain ⟨z, hz⟩ : ∃ z, z = blankF x.said := ⟨_, rfl⟩
  obtain ⟨o, ho⟩ : ∃ o, o = x.own := ⟨_, rfl⟩
  obtain ⟨t, ht⟩ : ∃ o, o = x.told := ⟨_, rfl⟩
  rw [← ha] at c1
  rw [← hz] at n1 n2
  rw [← ho] at x0
  rw [← ht] at x1
  rw [← ha, ← hz, ← ho, ← ht]
  have HX := Lib.hid (And.intro x0 (And.intro x1 (And.intro x2 (And.intro c1 (And.intro c2 (And.intro n1 (And.intro n2 n3)))))))
  clear h hb x0 x1 x2 c1 c2 n1 n2 n3 e8 ha hz ho ht
  go_enter Try.func53, Try.ntmps53
  go_upto_region 1 with (fail)
  obtain ⟨x0, x1, x2, c1, c2, n1, n2, n3⟩ := HX.out
  cases o with
  | true =>
    refine wp_region_quiet_below (by kernel_rfl) (by kernel_rfl) ?_
    repeat (go_big_quiet_step (first | with_reducible exact c1 _ _ | with_reducible exact c2 _ _))
    refine wpQuiet_nil ?_
    intro _ hw'
    obtain ⟨⟨dq, osq⟩, hw''⟩ := hw'
    subst hw''
    have hbq := below_regrown w dq osq
    generalize grow (redrawn w dq) osq = wq at hbq ⊢
    clear x0 x1 x2 c1 c2 n1 n2 n3
    go_wp2_with fail
    go_ret
    exact ⟨rfl, hbq⟩
  | false =>
    by_cases ht : t = 255
    · subst ht
      have b1 : ((255 : Int) != 255) = false := by decide
      cases a with
      | true =>
        refine wp_region_quiet_below (by kernel_rfl) (by kernel_rfl) ?_
        repeat (go_big_quiet_step (first | with_reducible exact c1 _ _ | with_reducible exact c2 _ _))
        refine wpQuiet_nil ?_
        intro _ hw'
        obtain ⟨⟨dq, osq⟩, hw''⟩ := hw'
        subst hw''
        have hbq := below_regrown w dq osq
        generalize grow (redrawn w dq) osq = wq at hbq ⊢
        clear x0 x1 x2 c1 c2 n1 n2 n3
        go_wp2_with fail
        go_ret
        exact ⟨rfl, hbq⟩
      | false =>
        cases z with
        | true =>
          refine wp_region_quiet_below (by kernel_rfl) (by kernel_rfl) ?_
          repeat (go_big_quiet_step (first | with_reducible exact c1 _ _ | with_reducible exact c2 _ _))
          refine wpQuiet_nil ?_
          intro _ hw'
          obtain ⟨⟨dq, osq⟩, hw''⟩ := hw'
          subst hw''
          have hbq := below_regrown w dq osq
          generalize grow (redrawn w dq) osq = wq at hbq ⊢
          clear x0 x1 x2 c1 c2 n1 n2 n3
          go_wp2_with fail
          go_ret
          exact ⟨rfl, hbq⟩
        | false =>
          refine wp_region_quiet_below (by kernel_rfl) (by kernel_rfl) ?_
          repeat (go_big_quiet_step (first | with_reducible exact c1 _ _ | with_reducible exact c2 _ _))
          refine wpQuiet_nil ?_
          intro _ hw'
          obtain ⟨⟨dq, osq⟩, hw''⟩ := hw'
          subst hw''
          have hbq := below_regrown w dq osq
          generalize grow (redrawn w dq) osq = wq at hbq ⊢
          clear x0 x1 x2 c1 c2 n1 n2 n3
          go_wp2_with fail
          go_ret
          exact ⟨rfl, hbq⟩
    · have b1 : ((t : Int) != 255) = true := by rw [bne_iff_ne]; exact ht
      have HTT := Lib.hid ht
      clear ht
      refine wp_region_quiet_below (by kernel_rfl) (by kernel_rfl) ?_
      repeat (go_big_quiet_step (first | with_reducible exact c1 _ _ | with_reducible exact c2 _ _))
      refine wpQuiet_nil ?_
      intro _ hw'
      obtain ⟨⟨dq, osq⟩, hw''⟩ := hw'
      subst hw''
      have hbq := below_regrown w dq osq
      generalize grow (redrawn w dq) osq = wq at hbq ⊢
      clear x0 x1 x2 c1 c2 n1 n2 n3
      go_wp2_with fail
      go_ret
      exact ⟨by have := HTT.out; simp [this], hbq⟩
def takB (x : Le) : Bool := x.tk && !x.own
noncomputable def cntL (G : List GE) (left : Lit → Bool) : Nat := G.countP fun g => left (pfL g.x.p) && takB g.x
set_option maxRecDepth 100000 in
theorem cntL_step {left : Lit → Bool} : ∀ {G : List GE}, (G.map (·.x.p)).Nodup → (∀ g ∈ G, pfOk g.x.p) → ∀ {g}, g ∈ G → left (pfL g.x.p) = true → cntL G (fun x => left x && !x.sameKey (pfL g.x.p)) + (if takB g.x = true then 1 else 0) = cntL G left
  | [], _, _, _, h, _ => by cases h
  | a :: G, hn, ok, g, hg, hl => by
    rw [List.map_cons, List.nodup_cons] at hn
    have ok2 : ∀ g ∈ G, pfOk g.x.p := fun g hg => ok g (List.mem_cons_of_mem _ hg)
    have oka := ok a (List.mem_cons_self ..)
    have okg := ok g hg
    unfold cntL
    rw [List.countP_cons, List.countP_cons]
    dsimp only
    by_cases he : a.x.p = g.x.p
    · have hga : g = a ∨ g ∈ G := List.mem_cons.1 hg
      have hgG : g ∉ G := fun h => hn.1 (by rw [he]; exact List.mem_map_of_mem h)
      obtain rfl : g = a := by
        rcases hga with h | h
        · exact h
        · exact absurd h hgG
      have hsame : (G.countP fun h => (left (pfL h.x.p) && !(pfL h.x.p).sameKey (pfL g.x.p)) && takB h.x) = G.countP fun h => left (pfL h.x.p) && takB h.x := by
        refine List.countP_congr fun h hh => ?_
        have hne : pfL h.x.p ≠ pfL g.x.p := fun e => hn.1 (by rw [← pfL_inj (ok2 h hh) okg e]; exact List.mem_map_of_mem hh)
        rw [Maps.sameKey_ne hne]
        simp
      rw [hsame]
      simp only [WideAt.sameKey_self (pfL_lit okg), hl]
      simp
    · have hgG : g ∈ G := by
        rcases List.mem_cons.1 hg with h | h
        · exact absurd (by rw [h]) he
        · exact h
      have ih := cntL_step (left := left) hn.2 ok2 hgG hl
      unfold cntL at ih
      dsimp only at ih
      have hne : pfL a.x.p ≠ pfL g.x.p := fun e => he (pfL_inj oka okg e)
      simp only [Maps.sameKey_ne hne, Bool.not_false, Bool.and_true]
      omega
theorem cntL_start {G : List GE} {left : Lit → Bool} (h : ∀ g ∈ G, left (pfL g.x.p) = true) : cntL G left = cntT (G.map (·.x)) := by
  unfold cntL cntT
  rw [List.countP_map]
  refine List.countP_congr fun g hg => ?_
  rw [h g hg]
  simp [takB]
theorem cntL_none {G : List GE} {left : Lit → Bool} (h : ∀ kl, left kl = false) : cntL G left = 0 := by
  unfold cntL
  rw [List.countP_eq_zero]
  intro g _
  simp [h]
set_option maxRecDepth 100000 in
set_option maxHeartbeats 2000000 in
attribute [-go_sem] Instr.storeAt Instr.loadAt in
theorem takenNow_any {w : World} {cb mb : Nat} {ov : Value} {room : Int} {c : Pc} {G : List GE} (h : CoM w cb mb ov room c G) :
    Calls Try.prog 54 #[.pointer (some ⟨cb, 0, none⟩)] w fun e w' => e = .returned (.int .i64 (cntT (G.map (·.x)) : Int)) ∧ Below w.heap.size w w' := by
  obtain ⟨F, m⟩ := h.map
  have hka := h.keysAre m
  obtain ⟨W1, lf, hr, hra, hl, hb1, hs1⟩ := m.map.range pfKeyed Try.underlying79
  have c17 := ld_mC (h.blk.cell 17)
  have hst : cntL G lf = cntT (G.map (·.x)) := cntL_start fun g hg => by rw [hl _ (pfL_lit (hka.ok _ (List.mem_map_of_mem hg))), m.at_ g hg]; rfl
  have HRA := Lib.hid hra
  have HM := Lib.hid m
  have HKA := Lib.hid hka
  have HST := Lib.hid hst
  have HB1 := Lib.hid hb1
  have HEN := Lib.hid (fun wx (hb : Below w.heap.size w wx) g (hg : g ∈ G) => (h.en g hg).below hb (h.en g hg).lt)
  have HLEN := Lib.hid h.len
  have HCL := Lib.hid (show cntT (G.map (·.x)) ≤ 1024 from by have := List.countP_le_length (p := fun x : Le => x.tk && !x.own) (l := G.map (·.x)); unfold cntT; rw [List.length_map] at this; have := h.len; omega)
  obtain ⟨T, hT⟩ : ∃ T, T = cntT (G.map (·.x)) := ⟨_, rfl⟩
  rw [← hT] at HST HCL ⊢
  clear h m hka hra hl hb1 hs1 hst hT
  go_enter Try.func54, Try.ntmps54
  go_wp2_with fail
  clear hr c17
  go_loopw [3] (fun s3 wr => ∃ (k : Nat) (left : Lit → Bool) (cnt : Nat), s3 = .int .i64 (k : Int) ∧ RangeV Try.prog 36 wr mb w.heap.size G.length F left cnt ∧ k + cntL G left = T ∧ Below w.heap.size w wr) (fun _ wr => wr.rangeLeft mb w.heap.size)
  case atStart => exact ⟨0, _, _, rfl, HRA.out, by rw [Nat.zero_add]; exact HST.out, HB1.out⟩
  case round =>
    obtain ⟨k, left, cnt, rfl, hR, hk, hB⟩ := hrel
    rcases hR.next pfKeyed 0 with ⟨_, hdone, hrun⟩ | ⟨key, v, kl, w2, cnt2, a1, a2, a3, a4, hrun, hR2, hlt, hg2, hs2, hent⟩
    · rw [cntL_none hdone, Nat.add_zero] at hk
      subst hk
      have HBR := Lib.hid hB
      clear hR hB hdone
      go_wp2_with fail
      go_ret
      exact ⟨rfl, HBR.out⟩
    · obtain ⟨g, hg, rfl⟩ := HM.out.keys kl v a4 a2
      have hv := HM.out.at_ g hg
      rw [a4] at hv
      injection hv with hv
      subst hv
      have hst := cntL_step HKA.out.nd (fun g hg => HKA.out.ok _ (List.mem_map_of_mem hg)) hg a3
      have hB2 : Below w.heap.size w w2 := hB.grown hg2 hB.size fun j e => by injection e with e; omega
      have hkk := HEN.out w2 hB2 g hg
      have c0 := ld_bC (b := g.b) (o := 0) (z := g.x.own) (hkk.cell 0)
      have c1 := ld_bC (b := g.b) (o := 1) (z := g.x.tk) (hkk.cell 1)
      have HR2 := Lib.hid hR2
      have HB2 := Lib.hid hB2
      have HLT := Lib.hid (show w2.rangeLeft mb w.heap.size < wr.rangeLeft mb w.heap.size by rw [hR2.left_eq, hR.left_eq]; exact hlt)
      unfold takB at hst
      unfold ptrE at hrun hent
      have hT9 := HCL.out
      clear hR hB a1 a2 a3 a4 hR2 hlt hg2 hs2 hB2 hkk
      cases ht : g.x.tk with
      | false =>
        rw [ht] at c1 hst
        rw [Bool.false_and, if_neg (by simp), Nat.add_zero] at hst
        have HK := Lib.hid (hst.symm ▸ hk)
        clear ht hst hk
        go_wp2_with fail
        go_roundw
        case rel => exact ⟨k, _, _, rfl, HR2.out, HK.out, HB2.out⟩
        case measure => exact HLT.out
      | true =>
        rw [ht] at c1 hst
        cases ho : g.x.own with
        | true =>
          rw [ho] at c0 hst
          simp at hst
          have HK := Lib.hid (hst.symm ▸ hk)
          clear ht ho hst hk
          go_wp2_with fail
          go_roundw
          case rel => exact ⟨k, _, _, rfl, HR2.out, HK.out, HB2.out⟩
          case measure => exact HLT.out
        | false =>
          rw [ho] at c0 hst
          simp at hst
          have HK := Lib.hid (show k + 1 + cntL G (fun x => left x && !x.sameKey (pfL g.x.p)) = T by omega)
          have hk9 : k ≤ 1024 := by omega
          clear ht ho hst hk
          go_wp2_with fail
          go_roundw
          case rel => exact ⟨k + 1, _, _, by go_num, HR2.out, HK.out, HB2.out⟩
          case measure => exact HLT.out
end Go.Proofs.Ytahdjfegihnolaa
