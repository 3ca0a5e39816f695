/- Frag: what fits. -/
import Derived.Test.YtfddkehnhkfjeaaIlB
import Derived.Test.YtfddkehnhkfjeaaSpI
import Derived.Test.YtfddkehnhkfjeaaIpY
import Derived.Test.YtfddkehnhkfjeaaIrD
namespace Go.Proofs.Ytfddkehnhkfjeaa
open Go.RowKit

/-- A header that was read may be. -/
theorem prs_may {x : By} (h : (prsF x).2.2 = 0) : mayH (prsF x).1 = true ∧ wrongF x = 0 := by
  have h0 : wrongF x = 0 := by
    by_cases e : wrongF x = 0
    · exact e
    · unfold prsF at h
      rw [if_neg e] at h
      exact absurd h e
  refine ⟨?_, h0⟩
  obtain ⟨h1, h2, h3, h4, h5⟩ := wrong0 h0
  have hg : goodF (partF x 20 (sizeF x)) = true := by
    have := h0
    unfold wrongF at this
    repeat' split at this
    all_goals first | assumption | (cases this; done) | omega
  have e : (prsF x).1 = hdF x := by unfold prsF; rw [if_pos h0]
  rw [e]
  have hl : (partF x 20 (sizeF x)).length = sizeF x - 20 := part_len h3
  have hs : sizeF x ≤ 60 := by unfold sizeF; omega
  have hs4 : sizeF x % 4 = 0 := by unfold sizeF; omega
  unfold mayH hdF
  simp only [hg, Bool.true_and, Bool.and_eq_true, decide_eq_true_eq]
  refine ⟨⟨⟨?_, ?_⟩, ?_⟩, ?_⟩ <;> omega
/-- Does it fit, the error. -/
def fitsF (x : By) (m : Int) : Bool × Nat :=
  if m < 68 ∨ 65535 < m then (false, 2) else if (prsF x).2.2 ≠ 0 then (false, 4) else (decide (((20 + (prsF x).1.opts.length + (prsF x).2.1.length : Nat) : Int) ≤ m), 0)
theorem prs_size {x : By} (h : (prsF x).2.2 = 0) : sizeH (prsF x).1 = 20 + (prsF x).1.opts.length := by
  unfold sizeH
  rw [if_pos (prs_may h).1]

attribute [-go_sem] Instr.storeAt Instr.loadAt in
set_option maxRecDepth 100000 in
set_option maxHeartbeats 4000000 in
/-- frag.Fits. -/
theorem ffits_any (A : Option Addr) (n c : Nat) (x : By) (m : Int) (I : Nat → Prop) (w : World) (h : Reads w I 1 A n (bytesV x)) (hn : x.length = n) (hc : n ≤ c) (hsm : n ≤ 1000000) :
    Calls Try.prog 44 #[.slice A n c, .int .i64 m] w fun e w' => e = .returned (.tuple #[.bool (fitsF x m).1, .int .i64 ((fitsF x m).2 : Int)]) ∧ Below w.heap.size w w' := by
  have hpa := parse_any A n c x I w h hn hc hsm
  have hpl := prs_len x
  have hms : (prsF x).2.2 = 0 → sizeH (prsF x).1 = 20 + (prsF x).1.opts.length := prs_size
  obtain ⟨F, hF⟩ : ∃ F, F = fitsF x m := ⟨_, rfl⟩
  rw [← hF]
  unfold fitsF at hF
  obtain ⟨R, hR⟩ : ∃ R, R = prsF x := ⟨_, rfl⟩
  rw [← hR] at hpa hpl hms hF
  clear hR
  obtain ⟨g, p, f⟩ := R
  simp only at hpl hms hF
  have HPA := Lib.hid hpa
  have HF := Lib.hid hF
  have HMS := Lib.hid hms
  have hp1 : p.length ≤ 1000000 := by omega
  have hg1 : g.opts.length ≤ 1000000 := by omega
  clear hpa hms hF hpl h hn hc hsm
  have pre : ∀ (b1 b2 : Bool), decide (m < 68) = b1 → decide ((65535 : Int) < m) = b2 → Calls Try.prog 44 #[.slice A n c, .int .i64 m] w fun e w' => e = .returned (.tuple #[.bool F.1, .int .i64 (F.2 : Int)]) ∧ Below w.heap.size w w' := by
    intro b1 b2 d1 d2
    have D1 := Lib.hid d1
    have D2 := Lib.hid d2
    go_enter Try.func44, Try.ntmps44
    go_wp2_with fail
    refine HPA.out.mono ?_
    rintro e w1 ⟨vo, vp, rfl, ho, hp, hdj, hb1⟩
    obtain ⟨Ao, co, rfl, _⟩ := ho.form
    obtain ⟨Ap, cp, rfl, _⟩ := hp.form
    obtain ⟨w2, hst, hb2, hb12, hk2⟩ := hd_var hb1 hb1.size g Ao g.opts.length co
    have HB2 := Lib.hid hb2
    have hl2 := hd_load hk2 rfl
    have HSZ := Lib.hid (size_any g (.slice Ao g.opts.length co) _ w2 (row_sl (ho.below hb12)) hg1)
    simp only
    clear ho hp hdj hb1 hb2 hb12 hk2
    cases b1 with
    | true =>
      have e1 := of_decide_eq_true d1
      go_wp2_with fail
      go_ret2
      refine ⟨?_, HB2.out⟩
      rw [HF.out, if_pos (.inl e1)]
      rfl
    | false =>
      cases b2 with
      | true =>
        have e1 := of_decide_eq_true d2
        go_wp2_with fail
        go_ret2
        refine ⟨?_, HB2.out⟩
        rw [HF.out, if_pos (.inr e1)]
        rfl
      | false =>
        have e1 := of_decide_eq_false d1
        have e2 := of_decide_eq_false d2
        by_cases hf : f = 0
        · subst hf
          have hs := HMS.out rfl
          rw [hs] at HSZ
          have hF2 := HF.out
          rw [if_neg (by omega), if_neg (by simp)] at hF2
          have HF2 := Lib.hid hF2
          clear hs hF2
          go_wp2_with fail
          refine HSZ.out.mono ?_
          rintro e w3 ⟨rfl, hb3⟩
          have HB3 := Lib.hid (HB2.out.trans (hb3.mono HB2.out.size))
          clear hb3
          go_wp2_with fail
          go_ret2
          refine ⟨?_, HB3.out⟩
          rw [HF2.out]
          simp [Int.natCast_add]
        · have hf1 : ((f : Int) != 0) = true := by rw [bne_iff_ne]; omega
          have hf2 : (f != 0) = true := by rw [bne_iff_ne]; exact hf
          go_wp2_with fail
          go_ret2
          refine ⟨?_, HB2.out⟩
          rw [HF.out, if_neg (by omega), if_pos hf]
          rfl
  exact pre _ _ rfl rfl
end Go.Proofs.Ytfddkehnhkfjeaa
