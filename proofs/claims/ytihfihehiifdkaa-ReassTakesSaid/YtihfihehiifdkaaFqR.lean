/- ref15.Fits. -/
import Derived.Test.YtihfihehiifdkaaFqP
import Derived.Test.YtihfihehiifdkaaIrD
namespace Go.Proofs.Ytihfihehiifdkaa
open Go.RowKit
attribute [-go_sem] Instr.storeAt Instr.loadAt in
set_option maxRecDepth 100000 in
set_option maxHeartbeats 4000000 in
/-- ref15.Fits. -/
theorem rffits_any (A : Option Addr) (n c : Nat) (x : By) (m : Int) (I : Nat → Prop) (w : World) (h : Reads w I 1 A n (bytesV x)) (hn : x.length = n) (hc : n ≤ c) (hsm : n ≤ 1000000) :
    Calls Try.prog 80 #[.slice A n c, .int .i64 m] w fun e w' => e = .returned (.tuple #[.bool (fitsF x m).1, .int .i64 ((fitsF x m).2 : Int)]) ∧ Below w.heap.size w w' := by
  have hpa := rparse_any A n c x I w h hn hc hsm
  have hpl := prs_len x
  obtain ⟨F, hF⟩ : ∃ F, F = fitsF x m := ⟨_, rfl⟩
  rw [← hF]
  unfold fitsF at hF
  obtain ⟨R, hR⟩ : ∃ R, R = prsF x := ⟨_, rfl⟩
  rw [← hR] at hpa hpl hF
  clear hR
  obtain ⟨g, p, f⟩ := R
  simp only at hpl hF
  have HPA := Lib.hid hpa
  have HF := Lib.hid hF
  have hp1 : p.length ≤ 1000000 := by omega
  have hg1 : g.opts.length ≤ 1000000 := by omega
  clear hpa hF hpl h hn hc hsm
  have pre : ∀ (b1 b2 : Bool), decide (m < 68) = b1 → decide ((65535 : Int) < m) = b2 → Calls Try.prog 80 #[.slice A n c, .int .i64 m] w fun e w' => e = .returned (.tuple #[.bool F.1, .int .i64 (F.2 : Int)]) ∧ Below w.heap.size w w' := by
    intro b1 b2 d1 d2
    cases b1 with
    | true =>
      have e1 := of_decide_eq_true d1
      go_enter Try.func80, Try.ntmps80
      go_wp2_with fail
      go_ret2
      refine ⟨?_, Below.refl _ _⟩
      rw [HF.out, if_pos (.inl e1)]
      rfl
    | false =>
      cases b2 with
      | true =>
        have e1 := of_decide_eq_true d2
        go_enter Try.func80, Try.ntmps80
        go_wp2_with fail
        go_ret2
        refine ⟨?_, Below.refl _ _⟩
        rw [HF.out, if_pos (.inr e1)]
        rfl
      | false =>
        have e1 := of_decide_eq_false d1
        have e2 := of_decide_eq_false d2
        go_enter Try.func80, Try.ntmps80
        go_wp2_with fail
        refine HPA.out.mono ?_
        rintro e w1 ⟨vo, vp, rfl, ho, hp, hb1⟩
        obtain ⟨Ao, co, rfl, _⟩ := ho
        obtain ⟨Ap, cp, rfl, _⟩ := hp
        obtain ⟨w2, hst, hb2, hb12, hk2⟩ := hd_var hb1 hb1.size g Ao g.opts.length co
        have HB2 := Lib.hid hb2
        have l10 := ld8s (hk2.cell 10)
        simp only
        clear hb1 hb2 hb12 hk2
        by_cases hf : f = 0
        · subst hf
          have hF2 := HF.out
          rw [if_neg (by omega), if_neg (by simp)] at hF2
          have HF2 := Lib.hid hF2
          clear hF2
          go_wp2_with fail
          go_ret2
          refine ⟨?_, HB2.out⟩
          rw [HF2.out]
          simp [Int.natCast_add]
        · have hf1 : ((f : Int) != 0) = true := by rw [bne_iff_ne]; omega
          have hf2 : (f != 0) = true := by rw [bne_iff_ne]; exact hf
          go_wp2_with fail
          go_ret2
          refine ⟨?_, HB2.out⟩
          rw [HF.out, if_neg (by omega), if_pos hf]
          rfl
  exact pre _ _ rfl rfl
end Go.Proofs.Ytihfihehiifdkaa
