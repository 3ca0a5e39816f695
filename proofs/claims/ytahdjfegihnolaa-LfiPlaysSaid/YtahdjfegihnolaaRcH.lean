/- Layer 12: the document's tidy. -/
import Derived.Test.YtahdjfegihnolaaRcG
import Derived.Test.YtahdjfegihnolaaLzG
import Derived.Deep.LoopGhost
namespace Go.Proofs.Ytahdjfegihnolaa
open Go.RowKit Go.Sort
/-- Entries as if each had a block. -/
def glE (L : List Le) : List GE := L.map fun x => ⟨x, 0⟩
theorem glE_x (L : List Le) : (glE L).map (·.x) = L := by unfold glE; rw [List.map_map]; exact List.map_id _
theorem glE_len (L : List Le) : (glE L).length = L.length := by unfold glE; simp
theorem glE_get {L : List Le} {k : Nat} {x : Le} (h : L[k]? = some x) : (glE L)[k]? = some ⟨x, 0⟩ := by unfold glE; simp [h]
theorem glE_mem {L : List Le} {g : GE} (h : g ∈ glE L) : g.x ∈ L := by
  unfold glE at h
  obtain ⟨x, hx, rfl⟩ := List.mem_map.1 h
  exact hx
theorem glE_stK (L : List Le) : stK (glE L) (glE L).length = glE (L.filter staysF) := by
  unfold stK
  rw [List.take_of_length_le (Nat.le_refl _), List.drop_of_length_le (Nat.le_refl _), List.append_nil]
  unfold glE
  rw [List.filter_map]
  rfl
theorem glE_drop (L : List Le) (k : Nat) : (glE L).drop k = glE (L.drop k) := by unfold glE; rw [List.map_drop]
theorem glE_take (L : List Le) (k : Nat) : (glE L).take k = glE (L.take k) := by unfold glE; rw [List.map_take]
theorem takI_len {c : Pc} {room : Int} {S P : List GE} {n k m : Nat} {o : List Tl} (h : TakI c room S n k P m o) : P.length = min k S.length := by
  have := congrArg List.length h.b
  rw [List.length_map, List.length_map, List.length_take] at this
  exact this
/-- The entries while they are taken. -/
def tkL (P : List GE) (F : List Le) (k : Nat) : List Le := P.map (·.x) ++ F.drop k
theorem tkL_get {P : List GE} {F : List Le} {k : Nat} {x : Le} (hP : P.length = k) (h : F[k]? = some x) : (tkL P F k)[k]? = some x := by
  unfold tkL
  obtain ⟨hk, rfl⟩ := List.getElem?_eq_some_iff.1 h
  rw [List.getElem?_append_right (by rw [List.length_map]; omega)]
  simp [hP]
theorem tkL_no {P : List GE} {F : List Le} {k : Nat} {x : Le} (_hP : P.length = k) (h : F[k]? = some x) : tkL (P ++ [⟨x, 0⟩]) F (k + 1) = tkL P F k := by
  unfold tkL
  obtain ⟨hk, rfl⟩ := List.getElem?_eq_some_iff.1 h
  rw [List.map_append, List.drop_eq_getElem_cons hk]
  simp
theorem tkL_yes {P : List GE} {F : List Le} {k : Nat} {x y : Le} (hP : P.length = k) (h : F[k]? = some x) : (tkL P F k).set k y = tkL (P ++ [⟨y, 0⟩]) F (k + 1) := by
  unfold tkL
  obtain ⟨hk, rfl⟩ := List.getElem?_eq_some_iff.1 h
  have h0 : k - (P.map (·.x)).length = 0 := by rw [List.length_map]; omega
  have h1 : (F.drop k).set 0 y = y :: F.drop (k + 1) := by rw [List.drop_eq_getElem_cons hk]; rfl
  rw [List.set_append_right _ _ (by rw [List.length_map]; omega), h0, h1, List.map_append]
  simp
theorem glE_of : ∀ {P : List GE}, (∀ g ∈ P, g.b = 0) → glE (P.map (·.x)) = P
  | [], _ => rfl
  | ⟨x, b⟩ :: P, h => by
    have h0 : b = 0 := h ⟨x, b⟩ (List.mem_cons_self ..)
    have := glE_of (P := P) fun g hg => h g (List.mem_cons_of_mem _ hg)
    unfold glE at this ⊢
    rw [List.map_cons, List.map_cons, this, h0]
theorem takI_zero {c : Pc} {room : Int} {F : List Le} {P : List GE} {n k m : Nat} {o : List Tl} (h : TakI c room (glE F) n k P m o) : ∀ g ∈ P, g.b = 0 := fun g hg => by
  have h1 : g.b ∈ P.map (·.b) := List.mem_map_of_mem (f := fun g : GE => g.b) hg
  rw [h.b, glE_take] at h1
  obtain ⟨a, ha, e⟩ := List.mem_map.1 h1
  unfold glE at ha
  obtain ⟨x, _, rfl⟩ := List.mem_map.1 ha
  exact e.symm
theorem takI_list {c : Pc} {room : Int} {F : List Le} {P : List GE} {n k m : Nat} {o : List Tl} (_ : TakI c room (glE F) n k P m o) : (P ++ (glE F).drop k).map (·.x) = tkL P F k := by
  unfold tkL
  rw [List.map_append, glE_drop, glE_x]
theorem filt_yes {α : Type} {p : α → Bool} {L : List α} {k : Nat} {x : α} (h : L[k]? = some x) (hp : p x = true) : (L.take (k + 1)).filter p = (L.take k).filter p ++ [x] := by
  rw [List.take_add_one, h, List.filter_append]; simp [hp]
theorem filt_no {α : Type} {p : α → Bool} {L : List α} {k : Nat} {x : α} (h : L[k]? = some x) (hp : p x = false) : (L.take (k + 1)).filter p = (L.take k).filter p := by
  rw [List.take_add_one, h, List.filter_append]; simp [hp]
def Tidy12 (w : World) (rb B D : Nat) (room : Int) (c : Pc) (L : List Le) (o : List Tl) (U : Nat → Prop) (e : Ending) (w' : World) : Prop :=
  e = .returned (.tuple #[]) ∧ ∃ av ov, RlM w rb B D av room c (tidyW c room L).1 (o ++ (tidyW c room L).2) w' ov U ∧ ∀ j, av.ownBlock = some j → U j ∨ w.heap.size ≤ j
/-- At the head of the great loop. -/
def TdR (w : World) (rb B D : Nat) (room : Int) (c : Pc) (L0 : List Le) (o0 : List Tl) (U : Nat → Prop) (gk : Nat) (wr : World) : Prop :=
  ∃ (L : List Le) (o : List Tl) (av ov : Value), gk = L.length + untk L ∧ L.length ≤ L0.length ∧ TdI c room (glE L0) o0 true (glE L) o ∧ RlM w rb B D av room c L o wr ov U ∧ ∀ j, av.ownBlock = some j → U j ∨ w.heap.size ≤ j
set_option maxRecDepth 100000 in
set_option maxHeartbeats 8000000 in
attribute [-go_sem] Instr.storeAt Instr.loadAt Instr.buildSlice in
theorem tidy12_any {w : World} {rb B D : Nat} {av ov : Value} {room : Int} {c : Pc} {L0 : List Le} (h : RcM w D rb av ov room c L0) (hl : L0.length ≤ 1024) (hpc : PcOk c) (hok : ∀ x ∈ L0, EOk c x) {o0 : List Tl} (ho : OutM w B ov o0) (hB : B ≤ w.heap.size) (hD : D ≤ w.heap.size) (hlen : o0.length ≤ 800000) {U : Nat → Prop} (hU : ∀ k, RcU rb av ov k → U k) :
    Calls Try.prog 43 #[.pointer (some ⟨rb, 0, none⟩)] w (Tidy12 w rb B D room c L0 o0 U) := by
  have HM0 := Lib.hid (h.toRl (U := U) ho fun j hj => hU j (.inr (.inr hj)))
  have HAV0 := Lib.hid (fun j (hj : av.ownBlock = some j) => hU j (.inr (.inl hj)))
  have HUR := Lib.hid (hU rb (.inl rfl))
  have HTD0 := Lib.hid (TdI.start (c := c) (room := room) (G0 := glE L0) (o0 := o0) fun g hg => hok _ (glE_mem hg))
  have HPC := Lib.hid hpc
  have HL := Lib.hid hl
  have HBS := Lib.hid hB
  have HDS := Lib.hid hD
  have HLEN := Lib.hid hlen
  have HBF := Lib.hid (fun (y : Le) (wx : World) => bs_re y wx)
  obtain ⟨i0, hi, hz0, hz1, hz2⟩ := info_parts info_re
  clear h hl hpc hok ho hB hD hlen hU
  go_enter Try.func43, Try.ntmps43
  go_wp2_with fail
  go_loopg [2] (L0.length + untk L0) (fun gk s2 wr => TdR w rb B D room c L0 o0 U gk wr)
  case atStart => exact ⟨L0, o0, av, ov, rfl, Nat.le_refl _, HTD0.out, HM0.out, fun j hj => .inl (HAV0.out j hj)⟩
  case round =>
    obtain ⟨L, o, av1, ov1, hgk, hlL, hTD, hM, hav⟩ := hrel
    obtain ⟨wo, rfl⟩ : ∃ wo : World, wo = wr := ⟨_, rfl⟩
    obtain ⟨A, cap, hA, hcap⟩ := hM.com.len_le
    subst hA
    have HGK := Lib.hid hgk
    have HTD := Lib.hid hTD
    have HM := Lib.hid hM
    have HAV := Lib.hid hav
    obtain ⟨n, hn⟩ : ∃ n, n = L.length := ⟨_, rfl⟩
    have hn9 : n ≤ 1024 := by have := HL.out; omega
    have HN := Lib.hid hn
    have HN9 := Lib.hid hlL
    clear hgk hTD hM hav hn hcap hlL
    go_wp2_with fail
    go_loopw [2, 3] (fun s2 s3 wr => ∃ (k m : Nat) (v : Value), k ≤ n ∧ m ≤ k ∧ s3 = .int .i64 (k : Int) ∧ s2 = v ∧ m = ((L.take k).filter staysF).length ∧ wr.ownsRow wo.heap.size 98 22 v m (flatE ((L.take k).filter staysF)) ∧ Below wo.heap.size wo wr) (fun _ s3 _ => n - (intOf s3).toNat)
    case atStart => exact ⟨0, 0, _, Nat.zero_le _, Nat.le_refl _, rfl, rfl, rfl, World.ownsRow_nil _ _ _ _, Below.refl _ _⟩
    case round =>
      obtain ⟨k, m, v, hk, hmk, rfl, rfl, hm, hV, hB⟩ := hrel
      have HV := Lib.hid hV
      have HB := Lib.hid hB
      have HMM := Lib.hid hm
      have hM1 := HM.out.below hB
      have HM1 := Lib.hid hM1
      have l0 := ld_all (w := wr) (b := rb) (A := A) (n := n) (c := cap) (by rw [HN.out]; exact hM1.com.blk.cell 17)
      have hi0 : (0 : Int) ≤ k := by omega
      clear hV hB hm
      by_cases hlt : k < n
      · obtain ⟨y, hy⟩ : ∃ y, L[k]? = some y := ⟨_, List.getElem?_eq_getElem (by rw [← HN.out]; exact hlt)⟩
        obtain ⟨g, c2, e1, _⟩ := hM1.com.at_ (by rw [← HN.out]; omega)
        injection e1 with e1 _ e2
        subst e1
        subst e2
        have le := RcM.ld hM1.com hy
        have hi1 : (k : Int) < n := by omega
        have HST := Lib.hid (stays12_any y wr)
        have HY := Lib.hid hy
        clear hM1 hy
        cases hs : staysF y with
        | false =>
          have HF := Lib.hid (filt_no HY.out hs)
          rw [hs] at HST
          clear hs
          go_wp2_with (go_at_call 60; refine HST.out.mono ?_; rintro e w1 ⟨rfl, hb1⟩; have HB1 := Lib.hid hb1; clear hb1)
          go_roundw
          case rel => exact ⟨k + 1, m, _, by omega, by omega, by go_num, rfl, by rw [HF.out]; exact HMM.out, by rw [HF.out]; exact own_below HV.out HB1.out, HB.out.trans (HB1.out.mono HB.out.size)⟩
          case measure => simp [intOf]; omega
        | true =>
          have HF := Lib.hid (filt_yes HY.out hs)
          rw [hs] at HST
          have hmx : m + 1 ≤ maxLen := by unfold maxLen; omega
          have hmb : (m + 1) * 168 ≤ 140737488355328 := by omega
          clear hs
          go_wp2_with (first
            | (go_at_call 60; refine HST.out.mono ?_; rintro e w1 ⟨rfl, hb1⟩; have HB1 := Lib.hid (HB.out.trans (hb1.mono HB.out.size)); have hbs : wo.heap.size ≤ w1.heap.size := HB1.out.size; have l1 := ld_all (w := w1) (b := rb) (A := some ⟨g, 0, none⟩) (n := n) (c := cap) (by rw [HN.out]; exact (HM1.out.below hb1).com.blk.cell 17); have le1 := RcM.ld (HM1.out.below hb1).com HY.out; have bsx := HBF.out y w1; have HV1 := Lib.hid (own_below HV.out hb1); clear hb1)
            | (at_builtin; refine wpList_pushN _ rfl (.tmp 23) (.tmp 31) _ 98 rfl rfl i0 _ 22 168 Try.underlying75 hi hz0 hz1 hz2 rfl (by decide) wo.heap.size _ _ _ (reC y) rfl (reC_one y) rfl HV1.out rfl hmx hmb hbs ?_; intro v2 w2 h2 hg2 hat2; have H2 := Lib.hid h2; have HG2 := Lib.hid hg2; clear h2 hg2 hat2))
          go_roundw
          case rel => exact ⟨k + 1, m + 1, _, by omega, by omega, by go_num, rfl, by rw [HF.out, List.length_append, ← HMM.out]; rfl, by rw [HF.out, flatE_snoc]; exact H2.out, HB1.out.grown HG2.out HB1.out.size fun g hg => (own_lt HV1.out hg).1⟩
          case measure => simp [intOf]; omega
      · obtain rfl : k = n := by omega
        obtain ⟨F, hF⟩ : ∃ F, F = L.filter staysF := ⟨_, rfl⟩
        have hFk : (L.take k).filter staysF = F := by rw [List.take_of_length_le (by rw [HN.out]; exact Nat.le_refl _), hF]
        rw [hFk] at HV HMM
        obtain ⟨Av, cv, hvf, hcv⟩ := own_form HV.out
        subst hvf
        have s1 := st_all (hM1.com.blk.cell 17) (hM1.com.blk.frozen 17) Av m cv
        have hne := own_blk_ne HV.out hM1.com.blk (by decide)
        have hu2 := upd_set wr rb 17 (.slice Av m cv)
        obtain ⟨W2, hW2⟩ : ∃ Z, Z = wr.setCell ⟨rb, 17, none⟩ (.slice Av m cv) := ⟨_, rfl⟩
        have hM2 : RlM w rb B D (.slice Av m cv) room c F o W2 ov1 U := by
          rw [← hW2] at hu2
          refine ⟨⟨by rw [hW2]; exact hM1.com.blk.set_ 17 _, ?_⟩, ?_, hM1.upd.trans hu2 fun j (e : j = rb) => .inl (e ▸ HUR.out), hM1.own⟩
          · rw [hW2]
            have := own_base (b2 := D) (ownsRow_setCell_other (a := ⟨rb, 17, none⟩) HV.out hne (.slice Av m cv)) (Nat.le_trans HDS.out HM.out.upd.size)
            rw [HMM.out] at this
            rw [HMM.out]
            exact this
          · rw [hW2]
            exact ownsRow_setCell_other (a := ⟨rb, 17, none⟩) hM1.out ((hM1.com.neOut hM1.out).1) _
        have HAV2 := Lib.hid (show ∀ j, (Value.slice Av m cv).ownBlock = some j → w.heap.size ≤ j from fun j hj => Nat.le_trans HM.out.upd.size (own_lt HV.out hj).1)
        have HM2 := Lib.hid hM2
        have HF := Lib.hid hF
        have hW2' := hW2.symm
        have hstk := glE_stK L
        rw [← hF] at hstk
        have HSTK := Lib.hid hstk
        have HTK0 := Lib.hid (TakI.start (c := c) (room := room) (S := glE F))
        obtain ⟨b0, hb0⟩ : ∃ b, b = ((m : Int) != (k : Int)) := ⟨_, rfl⟩
        have HB0 := Lib.hid hb0
        have hb0' := hb0.symm
        clear hM1 hM2 hne hu2 hW2 hF hFk hstk hb0 hlt
        go_wp2_with fail
        clear s1 l0 hW2' hb0'
        go_loopw [4, 5] (fun s4 s5 wr => ∃ (q mm : Nat) (ag : Bool) (P : List GE) (o2 : List Tl) (ov2 : Value), q ≤ m ∧ mm ≤ q ∧ s5 = .int .i64 (q : Int) ∧ s4 = .bool ag ∧ ag = (b0 || decide (mm ≠ 0)) ∧ TakI c room (glE F) (cntT ((glE F).map (·.x))) q P mm o2 ∧ RlM w rb B D (.slice Av m cv) room c (tkL P F q) (o ++ o2) wr ov2 U) (fun _ s5 _ => m - (intOf s5).toNat)
        case atStart => exact ⟨0, 0, b0, [], [], ov1, Nat.zero_le _, Nat.le_refl _, rfl, rfl, by simp, HTK0.out, by rw [List.append_nil]; exact HM2.out⟩
        case round =>
          obtain ⟨q, mm, ag, P, o2, ov2, hq, hmq, rfl, rfl, hag, hT, hM3⟩ := hrel
          have hPl : P.length = q := by have := takI_len hT; rw [glE_len, ← HMM.out] at this; omega
          have hll : (tkL P F q).length = m := by unfold tkL; rw [List.length_append, List.length_map, List.length_drop, hPl, ← HMM.out]; omega
          have HT := Lib.hid hT
          have HM3 := Lib.hid hM3
          have HAG := Lib.hid hag
          have HPL := Lib.hid hPl
          have HLL := Lib.hid hll
          have hq0 : (0 : Int) ≤ q := by omega
          have l0 := fun (dd : Nat) (os : Array Obj) => ld_all (w := grow (redrawn wr dd) os) (b := rb) (A := Av) (n := m) (c := cv) ((hM3.com.below (below_regrown wr dd os)).blk.cell 17)
          have l00 := ld_all (w := wr) (b := rb) (A := Av) (n := m) (c := cv) (hM3.com.blk.cell 17)
          clear hag hT hPl
          by_cases hqm : q < m
          · obtain ⟨x, hx⟩ : ∃ x, F[q]? = some x := ⟨_, List.getElem?_eq_getElem (by rw [← HMM.out]; exact hqm)⟩
            have hxl := tkL_get HPL.out hx
            obtain ⟨g, c2, e1, _⟩ := hM3.com.at_ (by rw [hll]; omega)
            injection e1 with e1 em e2
            subst e1
            subst e2
            clear em
            have hM4 : RlM w rb B D (avL g (tkL P F q).length cv) room c (tkL P F q) (o ++ o2) wr ov2 U := by rw [hll]; exact HM3.out
            have HM4 := Lib.hid hM4
            have l1 := fun (dd : Nat) (os : Array Obj) => ld_bC (b := g) (o := q * 22 + 3) (z := x.tk) ((hM4.com.below (below_regrown wr dd os)).cell hxl (j := 3) rfl)
            have l2 := fun (dd : Nat) (os : Array Obj) => ld_iC (b := rb) (o := 0) (z := room) ((hM4.com.below (below_regrown wr dd os)).blk.cell 0)
            have cl := fun (dd : Nat) (os : Array Obj) => Calls.regrown_of (calls_below (taken12_any (hM4.com.below (below_regrown wr dd os)) (by rw [hll]; omega)))
            have HX := Lib.hid hx
            have HXL := Lib.hid hxl
            have hq1 : (q : Int) < m := by omega
            have hokx : EOk c x := by
              have : ∀ y ∈ F, EOk c y := fun y hy => by rw [HF.out] at hy; exact HTD.out.ok ⟨y, 0⟩ (List.mem_map.2 ⟨y, (List.mem_filter.1 hy).1, rfl⟩)
              exact this x (List.mem_of_getElem? hx)
            have HOK := Lib.hid hokx
            have hcnt := HT.out.cnt
            rw [takI_list HT.out] at hcnt
            obtain ⟨T, hT9⟩ : ∃ T, T = cntT (tkL P F q) := ⟨_, rfl⟩
            rw [← hT9] at cl hcnt
            have hT10 : T ≤ 1024 := by
              have := cntT_le (tkL P F q)
              rw [← hT9, hll] at this
              omega
            have HCNT := Lib.hid hcnt
            have HTT := Lib.hid hT9
            clear hM3 hM4 hx hxl hokx hcnt hT9 hll
            cases ht : x.tk with
            | true =>
              rw [ht] at l1
              have HTN := Lib.hid (HT.out.no (glE_get HX.out) HOK.out (by show ¬ (x.tk = false ∧ _); rw [ht]; simp))
              clear ht
              go_wp2_with fail
              refine wp_region_quiet_below (by kernel_rfl) (by kernel_rfl) ?_
              repeat (go_big_quiet_step (with_reducible exact cl _ _))
              refine wpQuiet_nil ?_
              intro _ hw'
              obtain ⟨⟨dq, osq⟩, hw''⟩ := hw'
              subst hw''
              have hbq := below_regrown wr dq osq
              generalize grow (redrawn wr dq) osq = wq at hbq
              have HBQ := Lib.hid (HM3.out.below hbq)
              clear l0 l00 l1 l2 cl hbq
              go_wp2_with fail
              go_roundw
              case rel => exact ⟨q + 1, mm, ag, _, o2, ov2, by omega, by omega, by go_num, rfl, HAG.out, HTN.out, by rw [tkL_no HPL.out HX.out]; exact HBQ.out⟩
              case measure => simp [intOf]; omega
            | false =>
              rw [ht] at l1
              by_cases hroom : (T : Int) < room
              · have d1 : decide ((T : Int) < room) = true := decide_eq_true hroom
                have HTY := Lib.hid (HT.out.yes HPC.out (glE_get HX.out) HOK.out ⟨ht, by rw [← HCNT.out]; exact hroom⟩)
                clear ht hroom
                go_wp2_with fail
                refine wp_region_quiet_below (by kernel_rfl) (by kernel_rfl) ?_
                repeat (go_big_quiet_step (with_reducible exact cl _ _))
                refine wpQuiet_nil ?_
                intro _ hw'
                obtain ⟨⟨dq, osq⟩, hw''⟩ := hw'
                subst hw''
                have hbq := below_regrown wr dq osq
                generalize grow (redrawn wr dq) osq = wq at hbq
                have m5 := HM4.out.below hbq
                have l0 := ld_all (w := wq) (b := rb) (A := some ⟨g, 0, none⟩) (n := m) (c := cv) (by rw [← HLL.out]; exact m5.com.blk.cell 17)
                have s2 := st_bC (m5.com.cell HXL.out (j := 3) rfl) (m5.com.frozen (q * 22 + 3)) true
                have hb9 : B ≤ w.heap.size := HBS.out
                have m6 : RlM wq rb B D (avL g (tkL P F q).length cv) room c ((tkL P F q).set q { x with tk := true }) (o ++ o2) (wq.setCell ⟨g, q * 22 + 3, none⟩ (.bool true)) ov2 (RkU rb g ov2) :=
                  (m5.com.toRl (U := RkU rb g ov2) m5.out fun j hj => .inr (.inr hj)).set1 (.inr (.inl rfl)) HXL.out (by omega) (reC_set_tk x true)
                obtain ⟨W6, hW6⟩ : ∃ Z, Z = wq.setCell ⟨g, q * 22 + 3, none⟩ (.bool true) := ⟨_, rfl⟩
                rw [← hW6] at m6
                have hl6 : ((tkL P F q).set q { x with tk := true }).length = (tkL P F q).length := List.length_set
                have hol : (o ++ o2).length ≤ 900000 := by
                  have h1 := HTD.out.ol
                  have h2 := HT.out.ol
                  have h3 := untk_len ((glE L0).map (·.x))
                  rw [List.length_map, glE_len] at h3
                  have := HL.out
                  have := HLEN.out
                  rw [List.length_append]
                  omega
                have hlk := look12_any (L := (tkL P F q).set q { x with tk := true }) (by rw [hl6]; exact m6.com) HPC.out (get_set HXL.out) (take_ew HOK.out.toEW) m6.out (Nat.le_trans hb9 (Nat.le_trans m5.upd.size m6.upd.size)) hol
                rw [List.set_set, hl6, tkL_yes HPL.out HX.out] at hlk
                have HLK := Lib.hid hlk
                have HM5 := Lib.hid m5
                have HM6 := Lib.hid m6
                have hW6' := hW6.symm
                have HGW := Lib.hid (show w.heap.size ≤ g from HAV2.out g rfl)
                clear l00 l1 l2 cl hbq m5 m6 hW6 hlk hb9 hol hl6
                go_wp2_with (go_at_call 41; refine HLK.out.mono ?_; rintro e w7 ⟨rfl, ov3, hm⟩; have HM7 := Lib.hid hm; clear hm)
                go_roundw
                case rel =>
                  refine ⟨q + 1, mm + 1, true, _, _, ov3, by omega, by omega, by go_num, rfl, by simp, HTY.out, ?_⟩
                  have m7 := HM5.out.trans (HM6.out.trans HM7.out fun j hj => ?_) fun j hj => ?_
                  · rw [List.append_assoc, HLL.out] at m7
                    exact m7
                  · rcases hj with hj | hj | hj
                    · exact .inl (.inl hj)
                    · exact .inl (.inr (.inl hj))
                    · exact HM6.out.own j hj
                  · rcases hj with hj | hj | hj
                    · exact .inl (hj ▸ HUR.out)
                    · exact .inr (hj ▸ HGW.out)
                    · exact HM5.out.own j hj
                case measure => simp [intOf]; omega
              · have d1 : decide ((T : Int) < room) = false := decide_eq_false hroom
                have HTN := Lib.hid (HT.out.no (glE_get HX.out) HOK.out (by rw [← HCNT.out]; exact fun h => hroom h.2))
                clear ht hroom
                go_wp2_with fail
                refine wp_region_quiet_below (by kernel_rfl) (by kernel_rfl) ?_
                repeat (go_big_quiet_step (with_reducible exact cl _ _))
                refine wpQuiet_nil ?_
                intro _ hw'
                obtain ⟨⟨dq, osq⟩, hw''⟩ := hw'
                subst hw''
                have hbq := below_regrown wr dq osq
                generalize grow (redrawn wr dq) osq = wq at hbq
                have HBQ := Lib.hid (HM3.out.below hbq)
                clear l0 l00 l1 l2 cl hbq
                go_wp2_with fail
                go_roundw
                case rel => exact ⟨q + 1, mm, ag, _, o2, ov2, by omega, by omega, by go_num, rfl, HAG.out, HTN.out, by rw [tkL_no HPL.out HX.out]; exact HBQ.out⟩
                case measure => simp [intOf]; omega
          · obtain rfl : q = m := by omega
            have hT := HT.out
            rw [show q = (glE F).length by rw [glE_len]; exact HMM.out, ← HSTK.out] at hT
            have hst := HTD.out.step hT
            rw [HSTK.out, glE_len, glE_len, ← HMM.out, ← HN.out, show (decide (q ≠ k) || decide (mm ≠ 0)) = ag by rw [HAG.out, HB0.out]; congr 1; rw [Bool.eq_iff_iff, bne_iff_ne, decide_eq_true_iff]; omega] at hst
            have HST := Lib.hid hst
            have HPx := Lib.hid (show tkL P F q = P.map (·.x) by unfold tkL; rw [List.drop_of_length_le (by rw [← HMM.out]; exact Nat.le_refl _), List.append_nil])
            have HP0 := Lib.hid (takI_zero HT.out)
            clear hT hM3 hst l0 hll
            cases ag with
            | false =>
              go_wp2_with fail
              refine bodyPost_ret (results_none rfl _ _ _) rfl ?_
              have e1 := HST.out.1.e1
              have e2 := HST.out.1.e2
              rw [if_neg (by simp), glE_x] at e1
              rw [if_neg (by simp), List.append_nil, glE_x] at e2
              refine ⟨rfl, _, ov2, ?_, fun j hj => .inr (HAV2.out j hj)⟩
              rw [e1, e2, ← HPx.out]
              exact HM3.out
            | true =>
              go_wp2_with fail
              go_roundg (P.length + untk (P.map (·.x)))
              case measure =>
                obtain ⟨_, h2, h3, h4, h5⟩ := HST.out
                have hag := HAG.out
                rw [HB0.out] at hag
                rw [HGK.out]
                rw [glE_x, glE_x] at h5
                rw [glE_x] at h3
                have : q ≠ k ∨ mm ≠ 0 := by
                  rcases Nat.decEq q k with h | h
                  · exact .inl h
                  · rcases Nat.decEq mm 0 with h' | h'
                    · exact .inr h'
                    · rw [h, h'] at hag; simp at hag
                have := HN.out
                omega
              case rel =>
                obtain ⟨h1, h2, h3, h4, h5⟩ := HST.out
                refine ⟨P.map (·.x), o ++ o2, _, ov2, by rw [List.length_map], by rw [List.length_map]; have := HN9.out; have := HN.out; omega, by rw [glE_of HP0.out]; exact h1, by rw [← HPx.out]; exact HM3.out, fun j hj => .inr (HAV2.out j hj)⟩
end Go.Proofs.Ytahdjfegihnolaa
