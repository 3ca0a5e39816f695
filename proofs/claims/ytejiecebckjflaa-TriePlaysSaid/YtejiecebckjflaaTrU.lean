/- Tries: Covers. -/
import Derived.Test.YtejiecebckjflaaTrV
namespace Go.Proofs.Ytejiecebckjflaa
open Go.RowKit Go.Sort Go.BigFrame

theorem ent_one (L : List (Bs × Int)) : ∀ u ∈ L.flatMap entC, u.oneCell' = true := by
  intro u hu
  obtain ⟨e, _, he⟩ := List.mem_flatMap.1 hu
  simp [entC] at he
  rcases he with rfl | rfl | rfl <;> rfl
theorem reads_ent (w : World) (a : Nat) (n v : Int) (fr : Nat × Nat) : Reads (w.alloc (.cells #[.int .u32 (a : Int), .int .i64 n, .int .i64 v] 87 fr)) (fun _ => True) 3 (some ⟨w.heap.size, 0, none⟩) 1 [.int .u32 (a : Int), .int .i64 n, .int .i64 v] :=
  (reads_lit w 87 #[.int .u32 (a : Int), .int .i64 n, .int .i64 v] 1 3 fr rfl).mono fun _ _ => trivial
def CovPost (w : World) (T : TT) (A : Bs) (e : Ending) (w' : World) : Prop := ∃ f, e = .returned f ∧ SeqOf w' (fun k => w.heap.size ≤ k) f (T.cov A) ∧ Below w.heap.size w w'
theorem cov_len (T : TT) (A : Bs) : (T.cov A).length ≤ T.list.length := by
  induction T with
  | nil => exact Nat.le_refl _
  | node q x h l r ihl ihr =>
    unfold TT.cov
    simp only [TT.list]
    split
    · rw [List.length_append, List.length_append, List.length_append]
      have : (if q.length = 32 then [] else if nth A q.length then r.cov A else l.cov A).length ≤ l.list.length + r.list.length := by
        split
        · exact Nat.zero_le _
        · split
          · omega
          · omega
      omega
    · exact Nat.zero_le _
theorem own_drewN {w : World} {base : Nat} {e : TypeId} {size n : Nat} {v : Value} {xs : List Value} (h : w.ownsRow base e size v n xs) (k : Nat) : (w.drewN k).ownsRow base e size v n xs := h
theorem cov_close {w w1 : World} {T : TT} {A : Bs} {acc : List (Bs × Int)} {n : Nat} {Al : Option Addr} {cl : Nat} (ho : w1.ownsRow w.heap.size 87 3 (.slice Al n cl) n (acc.flatMap entC)) (hb : Below w.heap.size w w1) (hc : T.cov A = acc) (hn : n = acc.length) :
    CovPost w T A (.returned (.func (.func 52) #[] #[.pointer (some ⟨w1.heap.size, 0, none⟩)])) (w1.alloc (.cells #[.slice Al n cl] 85)) := by
  subst hn
  subst hc
  obtain ⟨A2, c2, e2, hs⟩ := seq_new ho hb
  exact ⟨_, rfl, hs, hb.alloc hb.size _⟩
set_option maxRecDepth 20000 in
set_option maxHeartbeats 8000000 in
theorem covers_any (a tb : Nat) (M : Nat → Prop) (limit : Int) (T : TT) (w : World) (h : IsTr w M tb limit T) (ha : a < 2 ^ 32) (hsm : T.list.length ≤ 1000000) :
    Calls Try.prog 22 #[.pointer (some ⟨tb, 0, none⟩), .int .u32 (a : Int)] w (CovPost w T (bitsB a 32)) := by
  obtain ⟨pv, hk, ht⟩ := h.ex
  have t0 : w.cell? ⟨tb, 0, none⟩ = some pv := hk.cell 0
  have HT := Lib.hid (there_any tb _ _ _ w hk)
  have HT0 := Lib.hid ht
  have hcl := cov_len T (bitsB a 32)
  have HWF := Lib.hid h.wf
  have HCL := Lib.hid (Nat.le_trans hcl hsm)
  clear h hk ht hcl hsm
  go_enter Try.func22, Try.ntmps22
  go_wp2_with (go_at_call 33; refine (HT.out).mono ?_; rintro e w' ⟨rfl, rfl⟩)
  go_step3
  go_wp2_with fail
  go_step3
  go_wp2_with fail
  -- the loop
  go_loopg [5, 6] T.size (fun g s5 s6 wr => ∃ (acc : List (Bs × Int)) (S : TT) (pv : Value) (Ms : Nat → Prop) (lv : Value), s5 = lv ∧ s6 = pv ∧ S.size ≤ g ∧ Below w.heap.size w wr ∧ wr.ownsRow w.heap.size 87 3 lv acc.length (acc.flatMap entC) ∧ IsT w Ms pv S ∧ (∃ c, S.wf c) ∧ T.cov (bitsB a 32) = acc ++ S.cov (bitsB a 32))
  case atStart => exact ⟨[], T, pv, _, _, rfl, rfl, Nat.le_refl _, Below.refl _ _, World.ownsRow_nil _ _ _ _, HT0.out, ⟨[], HWF.out⟩, rfl⟩
  case round =>
    obtain ⟨acc, S, pv, Ms, lv, rfl, rfl, hg, hbl, hown, ht, ⟨c, hwf⟩, hcv⟩ := hrel
    obtain ⟨Al, cl, rfl, _⟩ := own_form hown
    have HOW := Lib.hid hown
    have HB := Lib.hid hbl
    have HG := Lib.hid hg
    have HCV := Lib.hid hcv
    clear hg hcv hown hbl
    cases S with
    | nil =>
      obtain rfl : u6 = .pointer none := ht
      have hcv : T.cov (bitsB a 32) = acc := by rw [HCV.out, TT.cov, List.append_nil]
      have HCC := Lib.hid hcv
      clear hcv
      go_wp2_with fail
      rw [Exit.noGoto_normal]
      go_wp2_with (go_at_call 44; refine (over_any _ Al _ cl rfl _).mono ?_; rintro e w' ⟨rfl, rfl⟩)
      go_ret
      exact cov_close (acc := acc) HOW.out HB.out HCC.out (by simp)
    | node q x g l r =>
      obtain ⟨b, pvl, pvr, Ml, Mr, h1, h2, h3, h4, h5, h6, h7, h8⟩ := ht
      obtain ⟨w1, w2, w3, w4, w5⟩ := hwf
      subst h1
      obtain ⟨pl, rfl, _⟩ := h7.ptr
      obtain ⟨pr, rfl, _⟩ := h8.ptr
      have hkb := h2.below HB.out h2.lt
      obtain ⟨qa, hqa⟩ : ∃ qa, qa = padB q := ⟨_, rfl⟩
      obtain ⟨qn, hqn⟩ : ∃ qn, qn = q.length := ⟨_, rfl⟩
      have y0 : wr.cell? ⟨b, 0, none⟩ = some (.int .u32 (qa : Int)) := by rw [hqa]; exact hkb.cell 0
      have y1 : wr.cell? ⟨b, 1, none⟩ = some (.int .i64 (qn : Int)) := by rw [hqn]; exact hkb.cell 1
      have y2 : wr.cell? ⟨b, 2, none⟩ = some (.int .i64 x) := hkb.cell 2
      have y3 : wr.cell? ⟨b, 3, none⟩ = some (.bool g) := hkb.cell 3
      have y4 : wr.cell? ⟨b, 4, none⟩ = some (.pointer pl) := hkb.cell 4
      have y5 : wr.cell? ⟨b, 5, none⟩ = some (.pointer pr) := hkb.cell 5
      have hbw := h2.lt
      have hq32 : qn ≤ 32 := by rw [hqn]; exact w2
      have hmk := fun (nd : Nat) => Calls.quiet_of_same ((mask_any qn (wr.drewN nd) hq32).mono fun _ _ ⟨h, hw⟩ => ⟨h, hw.symm⟩)
      have hand := and_maskN ha hq32
      have HQA := Lib.hid hqa
      have HQN := Lib.hid hqn
      have HTL := Lib.hid h7
      have HTR := Lib.hid h8
      have W4 := Lib.hid w4
      have W5 := Lib.hid w5
      have HKB := Lib.hid h2
      clear hqa hqn h2 h3 h4 h5 h6 h7 h8 w1 w2 w3 w4 w5 hkb
      by_cases hpre : q <+: bitsB a 32
      case neg =>
        obtain ⟨fa, hfa⟩ : ∃ fa, fa = firstB a qn := ⟨_, rfl⟩
        have hne : fa ≠ qa := fun e => hpre ((has_iff (by rw [← HQN.out]; exact hq32) ha).1 (by rw [← HQN.out, ← HQA.out, ← e, hfa]))
        rw [← hfa] at hand
        have hn1 : ((fa : Int) != (qa : Int)) = true := bne_iff_ne.2 (by omega)
        have hn2 : (fa != qa) = true := bne_iff_ne.2 hne
        have hcv : T.cov (bitsB a 32) = acc := by rw [HCV.out, TT.cov, if_neg hpre, List.append_nil]
        have HCC := Lib.hid hcv
        clear hcv hpre hfa hne
        go_wp2_with fail
        go_quiet (exact hmk _)
        go_wp2_with fail
        rw [Exit.noGoto_normal]
        go_wp2_with (go_at_call 44; refine (over_any _ Al _ cl rfl _).mono ?_; rintro e w' ⟨rfl, rfl⟩)
        go_ret
        exact cov_close (acc := acc) (own_drewN HOW.out _) (below_drewT HB.out _) HCC.out (by simp)
      case pos =>
        have hfa : firstB a qn = qa := by rw [HQN.out, HQA.out]; exact (has_iff (by rw [← HQN.out]; exact hq32) ha).2 hpre
        rw [hfa] at hand
        have HPRE := Lib.hid hpre
        clear hpre hfa
        go_wp2_with fail
        go_quiet (exact hmk _)
        have HOW1 := Lib.hid (own_drewN HOW.out nq)
        have hb1 := below_drewT HB.out nq
        generalize wr.drewN nq = wa at HOW1 hb1 ⊢
        have hkb := HKB.out.below hb1 hbw
        have y0 : wa.cell? ⟨b, 0, none⟩ = some (.int .u32 (qa : Int)) := by rw [HQA.out]; exact hkb.cell 0
        have y1 : wa.cell? ⟨b, 1, none⟩ = some (.int .i64 (qn : Int)) := by rw [HQN.out]; exact hkb.cell 1
        have y2 : wa.cell? ⟨b, 2, none⟩ = some (.int .i64 x) := hkb.cell 2
        have y3 : wa.cell? ⟨b, 3, none⟩ = some (.bool g) := hkb.cell 3
        have y4 : wa.cell? ⟨b, 4, none⟩ = some (.pointer pl) := hkb.cell 4
        have y5 : wa.cell? ⟨b, 5, none⟩ = some (.pointer pr) := hkb.cell 5
        have HB1 := Lib.hid hb1
        have haw := hkb.lt
        clear hb1 hkb nq
        cases g with
        | false =>
          by_cases h32 : q.length = 32
          · have hq32 : qn = 32 := by rw [HQN.out]; exact h32
            subst hq32
            have hcv : T.cov (bitsB a 32) = acc := by rw [HCV.out, TT.cov, if_pos HPRE.out, if_pos h32]; simp
            have HCC := Lib.hid hcv
            clear h32 hcv
            go_wp2_with fail
            rw [Exit.noGoto_normal]
            go_wp2_with (go_at_call 44; refine (over_any _ Al _ cl rfl _).mono ?_; rintro e w' ⟨rfl, rfl⟩)
            go_ret
            exact cov_close (acc := acc) HOW1.out HB1.out HCC.out (by simp)
          · have hq33 : qn ≠ 32 := by rw [HQN.out]; exact h32
            have hq31 : qn ≤ 31 := by omega
            have hq34 : ((qn : Int) == 32) = false := beq_eq_false_iff_ne.2 (by omega)
            have hcv : T.cov (bitsB a 32) = acc ++ (if nth (bitsB a 32) q.length then r else l).cov (bitsB a 32) := by
              rw [HCV.out, TT.cov, if_pos HPRE.out, if_neg h32]
              cases nth (bitsB a 32) q.length <;> simp
            have hbi : bitI a qn = if nth (bitsB a 32) q.length then 1 else 0 := by
              unfold bitI bitB nth
              rw [HQN.out, bitsB_get a 32 q.length (by rw [← HQN.out]; omega)]
            have hbc := fun (wx : World) => bit_any a qn wx hq31 ha
            clear h32
            cases hdir : nth (bitsB a 32) q.length with
            | false =>
              rw [hdir, if_neg (by decide)] at hbi hcv
              rw [hbi] at hbc
              have HCC := Lib.hid hcv
              have hbb := fun (nd : Nat) => Calls.quiet_of_same ((hbc (wa.drewN nd)).mono fun _ _ ⟨h, hw⟩ => ⟨h, hw.symm⟩)
              clear hbi hcv hdir
              go_wp2_with fail
              go_quiet (exact hbb _)
              go_wp2_with fail
              go_roundg (l.size)
              case measure => have := HG.out; simp only [TT.size] at this; omega
              case rel => exact ⟨acc, l, _, _, _, rfl, rfl, Nat.le_refl _, below_drewT (HB1.out) _, HOW1.out, HTL.out, ⟨_, W4.out⟩, HCC.out⟩
            | true =>
              rw [hdir, if_pos rfl] at hbi hcv
              rw [hbi] at hbc
              have HCC := Lib.hid hcv
              have hbb := fun (nd : Nat) => Calls.quiet_of_same ((hbc (wa.drewN nd)).mono fun _ _ ⟨h, hw⟩ => ⟨h, hw.symm⟩)
              clear hbi hcv hdir
              go_wp2_with fail
              go_quiet (exact hbb _)
              go_wp2_with fail
              go_roundg (r.size)
              case measure => have := HG.out; simp only [TT.size] at this; omega
              case rel => exact ⟨acc, r, _, _, _, rfl, rfl, Nat.le_refl _, below_drewT (HB1.out) _, HOW1.out, HTR.out, ⟨_, W5.out⟩, HCC.out⟩
        | true =>
          obtain ⟨z0, hin, hz0, hz1, hz2⟩ := info_parts info_ent
          have hal : acc.length ≤ 1000000 := by have := HCL.out; rw [HCV.out, List.length_append] at this; omega
          have hmx : acc.length + 1 ≤ maxLen := by unfold maxLen; omega
          have hmb : (acc.length + 1) * 24 ≤ 140737488355328 := by omega
          have hone : ∀ u ∈ [Value.int .u32 (qa : Int), .int .i64 (qn : Int), .int .i64 x], u.oneCell' = true := by simp [Value.oneCell']
          have hsz := HB1.out.size
          have hOA := HOW1.out.alloc (.cells #[.int .u32 (qa : Int), .int .i64 (qn : Int), .int .i64 x] 87)
          have hRA := reads_ent wa qa (qn : Int) x (0, 0)
          have hsz2 : w.heap.size ≤ (wa.alloc (.cells #[.int .u32 (qa : Int), .int .i64 (qn : Int), .int .i64 x] 87)).heap.size := by simp; omega
          have HSZ2 := Lib.hid hsz2
          clear hsz2
          have HOA := Lib.hid hOA
          have HRA := Lib.hid hRA
          clear hOA hRA
          go_wp2_with fail
          go_cut [5] (fun s5 wx => ∃ lv2, s5 = lv2 ∧ wx.ownsRow w.heap.size 87 3 lv2 (acc.length + 1) ((acc ++ [(q, x)]).flatMap entC) ∧ Below w.heap.size w wx)
          case first =>
            go_region_law (refine step_append_any _ (by rfl) (.tmp 45) (.tmp 55) 85 (by rfl) w.heap.size 87 z0 _ 3 24 Try.underlying85 hin hz0 hz1 hz2 rfl (Nat.succ_pos 2) (.slice Al acc.length cl) acc.length (acc.flatMap entC) (by rfl) HOA.out (fun _ => True) (some ⟨wa.heap.size, 0, none⟩) 1 1 [.int .u32 (qa : Int), .int .i64 (qn : Int), .int .i64 x] (by rfl) HRA.out hone hmx hmb HSZ2.out ?_; intro v4 w4 hown4 hg4 hat4; obtain ⟨A4, c4, rfl, _⟩ := own_form hown4)
            all_goals
              go_wp2_with fail
              go_meet
              have ee : (acc ++ [(q, x)]).flatMap entC = acc.flatMap entC ++ [.int .u32 (qa : Int), .int .i64 (qn : Int), .int .i64 x] := by rw [HQA.out, HQN.out]; simp [entC]
              refine ⟨_, rfl, ?_, ?_⟩
              · rw [ee]
                exact hown4
              · have hA := HB1.out.alloc hsz (.cells #[.int .u32 (qa : Int), .int .i64 (qn : Int), .int .i64 x] 87)
                have hD : Below w.heap.size w (wa.alloc (.cells #[.int .u32 (qa : Int), .int .i64 (qn : Int), .int .i64 x] 87)).drew := ⟨hA.os, hA.tape, hA.output, hA.size, hA.block⟩
                have hZ := hD.grown hg4 HSZ2.out fun k hk => (own_lt HOA.out hk).1
                exact ⟨hZ.os, hZ.tape, hZ.output, hZ.size, hZ.block⟩
          case rest =>
            obtain ⟨lv2, rfl, ho2, hb2⟩ := hcut
            obtain ⟨Al, cl, e2, _⟩ := own_form ho2
            subst e2
            have hkb := HKB.out.below hb2 hbw
            have y0 : wc.cell? ⟨b, 0, none⟩ = some (.int .u32 (qa : Int)) := by rw [HQA.out]; exact hkb.cell 0
            have y1 : wc.cell? ⟨b, 1, none⟩ = some (.int .i64 (qn : Int)) := by rw [HQN.out]; exact hkb.cell 1
            have y4 : wc.cell? ⟨b, 4, none⟩ = some (.pointer pl) := hkb.cell 4
            have y5 : wc.cell? ⟨b, 5, none⟩ = some (.pointer pr) := hkb.cell 5
            have HO2 := Lib.hid ho2
            have HB2 := Lib.hid hb2
            have haw := hkb.lt
            clear ho2 hb2 hkb
            by_cases h32 : q.length = 32
            · have hq32 : qn = 32 := by rw [HQN.out]; exact h32
              subst hq32
              have hcv : T.cov (bitsB a 32) = (acc ++ [(q, x)]) := by rw [HCV.out, TT.cov, if_pos HPRE.out, if_pos h32]; simp
              have HCC := Lib.hid hcv
              clear h32 hcv
              go_wp2_with fail
              rw [Exit.noGoto_normal]
              go_wp2_with (go_at_call 44; refine (over_any _ Al _ cl rfl _).mono ?_; rintro e w' ⟨rfl, rfl⟩)
              go_ret
              exact cov_close (acc := (acc ++ [(q, x)])) HO2.out HB2.out HCC.out (by simp)
            · have hq33 : qn ≠ 32 := by rw [HQN.out]; exact h32
              have hq31 : qn ≤ 31 := by omega
              have hq34 : ((qn : Int) == 32) = false := beq_eq_false_iff_ne.2 (by omega)
              have hcv : T.cov (bitsB a 32) = (acc ++ [(q, x)]) ++ (if nth (bitsB a 32) q.length then r else l).cov (bitsB a 32) := by
                rw [HCV.out, TT.cov, if_pos HPRE.out, if_neg h32]
                cases nth (bitsB a 32) q.length <;> simp
              have hbi : bitI a qn = if nth (bitsB a 32) q.length then 1 else 0 := by
                unfold bitI bitB nth
                rw [HQN.out, bitsB_get a 32 q.length (by rw [← HQN.out]; omega)]
              have hbc := fun (wx : World) => bit_any a qn wx hq31 ha
              clear h32
              cases hdir : nth (bitsB a 32) q.length with
              | false =>
                rw [hdir, if_neg (by decide)] at hbi hcv
                rw [hbi] at hbc
                have HCC := Lib.hid hcv
                have hbb := fun (nd : Nat) => Calls.quiet_of_same ((hbc (wc.drewN nd)).mono fun _ _ ⟨h, hw⟩ => ⟨h, hw.symm⟩)
                clear hbi hcv hdir
                go_wp2_with fail
                go_quiet (exact hbb _)
                go_wp2_with fail
                go_roundg (l.size)
                case measure => have := HG.out; simp only [TT.size] at this; omega
                case rel => exact ⟨(acc ++ [(q, x)]), l, _, _, _, rfl, rfl, Nat.le_refl _, below_drewT (HB2.out) _, (by rw [List.length_append]; exact HO2.out), HTL.out, ⟨_, W4.out⟩, HCC.out⟩
              | true =>
                rw [hdir, if_pos rfl] at hbi hcv
                rw [hbi] at hbc
                have HCC := Lib.hid hcv
                have hbb := fun (nd : Nat) => Calls.quiet_of_same ((hbc (wc.drewN nd)).mono fun _ _ ⟨h, hw⟩ => ⟨h, hw.symm⟩)
                clear hbi hcv hdir
                go_wp2_with fail
                go_quiet (exact hbb _)
                go_wp2_with fail
                go_roundg (r.size)
                case measure => have := HG.out; simp only [TT.size] at this; omega
                case rel => exact ⟨(acc ++ [(q, x)]), r, _, _, _, rfl, rfl, Nat.le_refl _, below_drewT (HB2.out) _, (by rw [List.length_append]; exact HO2.out), HTR.out, ⟨_, W5.out⟩, HCC.out⟩
end Go.Proofs.Ytejiecebckjflaa
