/- Frag, plain and first walks: pieces, fits, lists of rows. -/
import Derived.Test.YtfddkehnhkfjeaaIpL
import Derived.Test.YtfddkehnhkfjeaaIlB
import Derived.Test.YtfddkehnhkfjeaaSpI
import Derived.Test.YtfddkehnhkfjeaaIpY
import Derived.Test.YtfddkehnhkfjeaaIrD
import Derived.Deep.QuietTactic
import Derived.BigQuiet
namespace Go.Proofs.Ytfddkehnhkfjeaa

theorem flat_steps_le : ∀ (n : Nat) (x : By), x.length ≤ n → (flatF (steps x)).length ≤ x.length
  | 0, x, h => by
    obtain rfl : x = [] := List.eq_nil_of_length_eq_zero (by omega)
    simp [steps_nil, flatF]
  | n + 1, [], _ => by simp [steps_nil, flatF]
  | n + 1, k :: r, h => by
    rw [steps_cons]
    by_cases h0 : k = 0
    · rw [if_pos h0]; simp [flatF]
    rw [if_neg h0]
    by_cases h1 : stepN (k :: r) = 0
    · rw [if_pos h1]; simp [flatF]
    rw [if_neg h1]
    have hle := stepN_le (k :: r)
    have ih := flat_steps_le n ((k :: r).drop (stepN (k :: r))) (by rw [List.length_drop]; simp at h ⊢; omega)
    rw [List.length_drop] at ih
    have e : flatF ((k, (k :: r).take (stepN (k :: r))) :: steps ((k :: r).drop (stepN (k :: r)))) = (k :: r).take (stepN (k :: r)) ++ flatF (steps ((k :: r).drop (stepN (k :: r)))) := rfl
    rw [e, List.length_append, List.length_take]
    omega
theorem flat_filter_le (p : UInt8 × By → Bool) : ∀ L : List (UInt8 × By), (flatF (L.filter p)).length ≤ (flatF L).length
  | [] => Nat.le_refl _
  | s :: L => by
    have ih := flat_filter_le p L
    have e : flatF (s :: L) = s.2 ++ flatF L := rfl
    rw [e, List.length_append]
    cases h : p s with
    | true =>
      rw [List.filter_cons_of_pos h]
      have e2 : flatF (s :: L.filter p) = s.2 ++ flatF (L.filter p) := rfl
      rw [e2, List.length_append]
      omega
    | false =>
      rw [List.filter_cons_of_neg (by simp [h])]
      omega
/-- The copied options are no more than the options. -/
theorem cop_le {x : By} (h4 : x.length % 4 = 0) : (copF x).length ≤ x.length ∧ (copF x).length % 4 = 0 := by
  unfold copF
  split
  · refine ⟨?_, padF_len _⟩
    have h1 := flat_filter_le (fun s => decide (128 ≤ s.1)) (steps x)
    have h2 := flat_steps_le x.length x (Nat.le_refl _)
    unfold padF highF
    simp only [List.length_append, List.length_replicate]
    omega
  · simp
/-- The piece at a place of a payload of L bytes: its header, how many bytes it has. -/
def pcF (h : Hd) (L m at_ : Nat) : Hd × Nat :=
  let o := if 0 < at_ then copF h.opts else h.opts
  let room := m - (20 + o.length)
  if room < L - at_ then ({ h with off := h.off + ((at_ / 8 : Nat) : Int), opts := o, mf := true }, room / 8 * 8) else ({ h with off := h.off + ((at_ / 8 : Nat) : Int), opts := o }, L - at_)
theorem may_opts {h : Hd} (hm : mayH h = true) : goodF h.opts = true ∧ h.opts.length ≤ 40 ∧ h.opts.length % 4 = 0 ∧ 0 ≤ h.off ∧ h.off ≤ 8191 := by
  unfold mayH at hm
  simp only [Bool.and_eq_true, decide_eq_true_eq] at hm
  exact ⟨hm.1.1.1.1, hm.1.1.1.2, hm.1.1.2, hm.1.2, hm.2⟩
theorem pc_opts (h : Hd) (L m at_ : Nat) : (pcF h L m at_).1.opts = if 0 < at_ then copF h.opts else h.opts := by
  unfold pcF
  generalize (if 0 < at_ then copF h.opts else h.opts) = o
  simp only
  split <;> rfl
theorem pc_off (h : Hd) (L m at_ : Nat) : (pcF h L m at_).1.off = h.off + ((at_ / 8 : Nat) : Int) := by
  unfold pcF
  generalize (if 0 < at_ then copF h.opts else h.opts) = o
  simp only
  split <;> rfl
/-- Each piece has something, if anything is left; all but the last are multiples of 8. -/
theorem pc_pos {h : Hd} (hm : mayH h = true) {L m at_ : Nat} (h68 : 68 ≤ m) (hlt : at_ < L) : 0 < (pcF h L m at_).2 ∧ (pcF h L m at_).2 ≤ L - at_ ∧ ((pcF h L m at_).2 % 8 = 0 ∨ (pcF h L m at_).2 = L - at_) ∧ 20 + (pcF h L m at_).1.opts.length + (pcF h L m at_).2 ≤ m := by
  obtain ⟨_, h40, h4, _⟩ := may_opts hm
  obtain ⟨hc, _⟩ := cop_le h4
  rw [pc_opts]
  unfold pcF
  simp only
  have ho : (if 0 < at_ then copF h.opts else h.opts).length ≤ 40 := by split <;> omega
  generalize (if 0 < at_ then copF h.opts else h.opts) = o at ho
  by_cases hr : m - (20 + o.length) < L - at_
  · rw [if_pos hr]
    simp only
    omega
  · rw [if_neg hr]
    exact ⟨by simp only; omega, by simp only; omega, .inr rfl, by simp only; omega⟩
/-- A piece's header may be, where its offset is not too far. -/
theorem pc_may {h : Hd} (hm : mayH h = true) {L m at_ : Nat} (ho : (pcF h L m at_).1.off ≤ 8191) : mayH (pcF h L m at_).1 = true := by
  obtain ⟨hg, h40, h4, h0, _⟩ := may_opts hm
  obtain ⟨hc, hc4⟩ := cop_le h4
  have hof := pc_off h L m at_
  have hop := pc_opts h L m at_
  unfold mayH
  simp only [Bool.and_eq_true, decide_eq_true_eq]
  rw [hop]
  refine ⟨⟨⟨⟨?_, ?_⟩, ?_⟩, ?_⟩, ho⟩
  · split
    · exact good_cop _
    · exact hg
  · split <;> omega
  · split <;> omega
  · rw [hof]; omega
end Go.Proofs.Ytfddkehnhkfjeaa
namespace Go.Proofs.Ytfddkehnhkfjeaa

/-- The pieces from a place on: place, header, how many bytes. -/
def pcsF (h : Hd) (L m : Nat) : Nat → Nat → List (Nat × Hd × Nat)
  | 0, _ => []
  | f + 1, at_ => if at_ < L then (at_, pcF h L m at_) :: pcsF h L m f (at_ + (pcF h L m at_).2) else []
theorem pcs_end (h : Hd) (L m f at_ : Nat) (hl : L ≤ at_) : pcsF h L m f at_ = [] := by
  cases f with
  | zero => rfl
  | succ f => unfold pcsF; rw [if_neg (by omega)]
theorem pcs_cons (h : Hd) (L m f at_ : Nat) (hl : at_ < L) : pcsF h L m (f + 1) at_ = (at_, pcF h L m at_) :: pcsF h L m f (at_ + (pcF h L m at_).2) := by
  rw [pcsF, if_pos hl]
/-- The fuel does not matter, as long as there is enough. -/
theorem pcs_fuel {h : Hd} (hm : mayH h = true) {L m : Nat} (h68 : 68 ≤ m) : ∀ f g at_, L - at_ ≤ f → L - at_ ≤ g → pcsF h L m f at_ = pcsF h L m g at_
  | 0, g, at_, h1, _ => by rw [pcs_end h L m 0 at_ (by omega), pcs_end h L m g at_ (by omega)]
  | f + 1, 0, at_, _, h2 => by rw [pcs_end h L m (f + 1) at_ (by omega), pcs_end h L m 0 at_ (by omega)]
  | f + 1, g + 1, at_, h1, h2 => by
    by_cases hl : at_ < L
    · obtain ⟨hp, _⟩ := pc_pos hm h68 hl
      rw [pcs_cons _ _ _ _ _ hl, pcs_cons _ _ _ _ _ hl, pcs_fuel hm h68 f g _ (by omega) (by omega)]
    · rw [pcs_end _ _ _ _ _ (by omega), pcs_end _ _ _ _ _ (by omega)]
/-- Each piece lies in the payload, at a multiple of 8. -/
theorem pcs_mem {h : Hd} (hm : mayH h = true) {L m : Nat} (h68 : 68 ≤ m) : ∀ f at_, at_ % 8 = 0 → ∀ x ∈ pcsF h L m f at_, x.1 % 8 = 0 ∧ at_ ≤ x.1 ∧ x.1 < L ∧ x.2 = pcF h L m x.1
  | 0, _, _, x, hx => by cases hx
  | f + 1, at_, h8, x, hx => by
    by_cases hl : at_ < L
    · obtain ⟨hp, hle, h88, _⟩ := pc_pos hm h68 hl
      rw [pcs_cons _ _ _ _ _ hl] at hx
      rcases List.mem_cons.1 hx with rfl | hx
      · exact ⟨h8, Nat.le_refl _, hl, rfl⟩
      · rcases h88 with h88 | h88
        · obtain ⟨a, b, c, d⟩ := pcs_mem hm h68 f _ (by omega) x hx
          exact ⟨a, by omega, c, d⟩
        · rw [pcs_end _ _ _ _ _ (by omega)] at hx
          cases hx
    · rw [pcs_end _ _ _ _ _ (by omega)] at hx
      cases hx
/-- The pieces' payloads, one behind the other, are the payload. -/
theorem pcs_flat {h : Hd} (hm : mayH h = true) {m : Nat} (h68 : 68 ≤ m) (p : By) : ∀ f at_, p.length - at_ ≤ f → ((pcsF h p.length m f at_).flatMap fun x => partF p x.1 (x.1 + x.2.2)) = p.drop at_
  | 0, at_, h1 => by
    rw [pcs_end _ _ _ _ _ (by omega), List.drop_eq_nil_of_le (by omega)]
    rfl
  | f + 1, at_, h1 => by
    by_cases hl : at_ < p.length
    · obtain ⟨hp, hle, _⟩ := pc_pos hm h68 hl
      rw [pcs_cons _ _ _ _ _ hl, List.flatMap_cons, pcs_flat hm h68 p f _ (by omega)]
      simp only
      unfold partF
      rw [List.drop_take, show at_ + (pcF h p.length m at_).2 - at_ = (pcF h p.length m at_).2 from by omega, ← List.drop_drop, List.take_append_drop]
    · rw [pcs_end _ _ _ _ _ (by omega), List.drop_eq_nil_of_le (by omega)]
      rfl
/-- For a greater MTU no more pieces. -/
theorem pcs_mono {h : Hd} (hm : mayH h = true) {L m m2 : Nat} (h68 : 68 ≤ m) (hle : m ≤ m2) : ∀ f a b, a ≤ b → (a = 0 ↔ b = 0) → (pcsF h L m2 f b).length ≤ (pcsF h L m f a).length
  | 0, _, _, _, _ => Nat.le_refl _
  | f + 1, a, b, hab, h0 => by
    by_cases hb : b < L
    · have ha : a < L := by omega
      obtain ⟨p1, q1, _⟩ := pc_pos hm h68 ha
      obtain ⟨p2, q2, _⟩ := pc_pos hm (Nat.le_trans h68 hle) hb
      rw [pcs_cons _ _ _ _ _ hb, pcs_cons _ _ _ _ _ ha, List.length_cons, List.length_cons]
      refine Nat.succ_le_succ (pcs_mono hm h68 hle f _ _ ?_ (by omega))
      have ho : (if 0 < b then copF h.opts else h.opts) = (if 0 < a then copF h.opts else h.opts) := by
        by_cases e : a = 0
        · rw [if_neg (by omega), if_neg (by omega)]
        · rw [if_pos (by omega), if_pos (by omega)]
      have e1 : (pcF h L m2 b).2 = if m2 - (20 + (if 0 < a then copF h.opts else h.opts).length) < L - b then (m2 - (20 + (if 0 < a then copF h.opts else h.opts).length)) / 8 * 8 else L - b := by
        unfold pcF
        rw [ho]
        generalize (if 0 < a then copF h.opts else h.opts) = o
        simp only
        split <;> rfl
      have e2 : (pcF h L m a).2 = if m - (20 + (if 0 < a then copF h.opts else h.opts).length) < L - a then (m - (20 + (if 0 < a then copF h.opts else h.opts).length)) / 8 * 8 else L - a := by
        unfold pcF
        generalize (if 0 < a then copF h.opts else h.opts) = o
        simp only
        split <;> rfl
      rw [e1, e2]
      generalize (if 0 < a then copF h.opts else h.opts).length = o
      split <;> split <;> omega
    · rw [pcs_end _ _ _ _ _ (by omega)]
      exact Nat.zero_le _
/-- The document's way: as many as there is room for; fewer, to a multiple of 8, where more is left. -/
theorem pc_ref (h : Hd) {L m at_ : Nat} (hl : at_ < L) : pcF h L m at_ =
    (let o := if 0 < at_ then copF h.opts else h.opts
     let n0 := min (m - (20 + o.length)) (L - at_)
     if at_ + n0 < L then ({ h with off := h.off + ((at_ / 8 : Nat) : Int), opts := o, mf := true }, n0 - n0 % 8) else ({ h with off := h.off + ((at_ / 8 : Nat) : Int), opts := o }, n0)) := by
  unfold pcF
  generalize (if 0 < at_ then copF h.opts else h.opts) = o
  simp only
  by_cases hr : m - (20 + o.length) < L - at_
  · rw [if_pos hr, if_pos (by omega), show min (m - (20 + o.length)) (L - at_) = m - (20 + o.length) from by omega]
    congr 1
    omega
  · rw [if_neg hr, if_neg (by omega), show min (m - (20 + o.length)) (L - at_) = L - at_ from by omega]
end Go.Proofs.Ytfddkehnhkfjeaa
namespace Go.Proofs.Ytfddkehnhkfjeaa
open Go.RowKit

/-- A header that was read may be. -/
theorem prs_may {x : By} (h : (prsF x).2.2 = 0) : mayH (prsF x).1 = true ∧ wrongF x = 0 := by
  have h0 : wrongF x = 0 := by
    by_cases e : wrongF x = 0
    · exact e
    · unfold prsF at h
      rw [if_neg e] at h
      exact absurd h e
  refine ⟨?_, h0⟩
  obtain ⟨h1, h2, h3, h4, h5⟩ := wrong0 h0
  have hg : goodF (partF x 20 (sizeF x)) = true := by
    have := h0
    unfold wrongF at this
    repeat' split at this
    all_goals first | assumption | (cases this; done) | omega
  have e : (prsF x).1 = hdF x := by unfold prsF; rw [if_pos h0]
  rw [e]
  have hl : (partF x 20 (sizeF x)).length = sizeF x - 20 := part_len h3
  have hs : sizeF x ≤ 60 := by unfold sizeF; omega
  have hs4 : sizeF x % 4 = 0 := by unfold sizeF; omega
  unfold mayH hdF
  simp only [hg, Bool.true_and, Bool.and_eq_true, decide_eq_true_eq]
  refine ⟨⟨⟨?_, ?_⟩, ?_⟩, ?_⟩ <;> omega
/-- Does it fit, the error. -/
def fitsF (x : By) (m : Int) : Bool × Nat :=
  if m < 68 ∨ 65535 < m then (false, 2) else if (prsF x).2.2 ≠ 0 then (false, 4) else (decide (((20 + (prsF x).1.opts.length + (prsF x).2.1.length : Nat) : Int) ≤ m), 0)
theorem prs_size {x : By} (h : (prsF x).2.2 = 0) : sizeH (prsF x).1 = 20 + (prsF x).1.opts.length := by
  unfold sizeH
  rw [if_pos (prs_may h).1]

attribute [-go_sem] Instr.storeAt Instr.loadAt in
set_option maxRecDepth 100000 in
set_option maxHeartbeats 4000000 in
/-- frag.Fits. -/
theorem ffits_any (A : Option Addr) (n c : Nat) (x : By) (m : Int) (I : Nat → Prop) (w : World) (h : Reads w I 1 A n (bytesV x)) (hn : x.length = n) (hc : n ≤ c) (hsm : n ≤ 1000000) :
    Calls Try.prog 44 #[.slice A n c, .int .i64 m] w fun e w' => e = .returned (.tuple #[.bool (fitsF x m).1, .int .i64 ((fitsF x m).2 : Int)]) ∧ Below w.heap.size w w' := by
  have hpa := parse_any A n c x I w h hn hc hsm
  have hpl := prs_len x
  have hms : (prsF x).2.2 = 0 → sizeH (prsF x).1 = 20 + (prsF x).1.opts.length := prs_size
  obtain ⟨F, hF⟩ : ∃ F, F = fitsF x m := ⟨_, rfl⟩
  rw [← hF]
  unfold fitsF at hF
  obtain ⟨R, hR⟩ : ∃ R, R = prsF x := ⟨_, rfl⟩
  rw [← hR] at hpa hpl hms hF
  clear hR
  obtain ⟨g, p, f⟩ := R
  simp only at hpl hms hF
  have HPA := Lib.hid hpa
  have HF := Lib.hid hF
  have HMS := Lib.hid hms
  have hp1 : p.length ≤ 1000000 := by omega
  have hg1 : g.opts.length ≤ 1000000 := by omega
  clear hpa hms hF hpl h hn hc hsm
  have pre : ∀ (b1 b2 : Bool), decide (m < 68) = b1 → decide ((65535 : Int) < m) = b2 → Calls Try.prog 44 #[.slice A n c, .int .i64 m] w fun e w' => e = .returned (.tuple #[.bool F.1, .int .i64 (F.2 : Int)]) ∧ Below w.heap.size w w' := by
    intro b1 b2 d1 d2
    have D1 := Lib.hid d1
    have D2 := Lib.hid d2
    go_enter Try.func44, Try.ntmps44
    go_wp2_with fail
    refine HPA.out.mono ?_
    rintro e w1 ⟨vo, vp, rfl, ho, hp, hdj, hb1⟩
    obtain ⟨Ao, co, rfl, _⟩ := ho.form
    obtain ⟨Ap, cp, rfl, _⟩ := hp.form
    obtain ⟨w2, hst, hb2, hb12, hk2⟩ := hd_var hb1 hb1.size g Ao g.opts.length co
    have HB2 := Lib.hid hb2
    have hl2 := hd_load hk2 rfl
    have HSZ := Lib.hid (size_any g (.slice Ao g.opts.length co) _ w2 (row_sl (ho.below hb12)) hg1)
    simp only
    clear ho hp hdj hb1 hb2 hb12 hk2
    cases b1 with
    | true =>
      have e1 := of_decide_eq_true d1
      go_wp2_with fail
      go_ret2
      refine ⟨?_, HB2.out⟩
      rw [HF.out, if_pos (.inl e1)]
      rfl
    | false =>
      cases b2 with
      | true =>
        have e1 := of_decide_eq_true d2
        go_wp2_with fail
        go_ret2
        refine ⟨?_, HB2.out⟩
        rw [HF.out, if_pos (.inr e1)]
        rfl
      | false =>
        have e1 := of_decide_eq_false d1
        have e2 := of_decide_eq_false d2
        by_cases hf : f = 0
        · subst hf
          have hs := HMS.out rfl
          rw [hs] at HSZ
          have hF2 := HF.out
          rw [if_neg (by omega), if_neg (by simp)] at hF2
          have HF2 := Lib.hid hF2
          clear hs hF2
          go_wp2_with fail
          refine HSZ.out.mono ?_
          rintro e w3 ⟨rfl, hb3⟩
          have HB3 := Lib.hid (HB2.out.trans (hb3.mono HB2.out.size))
          clear hb3
          go_wp2_with fail
          go_ret2
          refine ⟨?_, HB3.out⟩
          rw [HF2.out]
          simp [Int.natCast_add]
        · have hf1 : ((f : Int) != 0) = true := by rw [bne_iff_ne]; omega
          have hf2 : (f != 0) = true := by rw [bne_iff_ne]; exact hf
          go_wp2_with fail
          go_ret2
          refine ⟨?_, HB2.out⟩
          rw [HF.out, if_neg (by omega), if_pos hf]
          rfl
  exact pre _ _ rfl rfl
end Go.Proofs.Ytfddkehnhkfjeaa
namespace Go.Proofs.Ytfddkehnhkfjeaa
open Go.RowKit Go.Sort Go.BigFrame
theorem num15_any (n : Int) (w : World) : Calls Try.prog 43 #[.int .i64 n] w fun e w' => e = .returned (.int .i64 n) ∧ w = w' := by
  go_enter Try.func43, Try.ntmps43
  go_wp2_with fail
  go_ret
  exact ⟨rfl, rfl⟩
/-- The row us of slices reads as the rows xs. -/
def Lst8 (w : World) (I : Nat → Prop) (A : Option Addr) (n : Nat) (us : List Value) (xs : List By) : Prop :=
  Reads w I 1 A n us ∧ xs.length = n ∧ ∀ (k : Nat) (x : By), xs[k]? = some x → ∃ A' c', us[k]? = some (.slice A' x.length c') ∧ x.length ≤ c' ∧ Reads w I 1 A' x.length (bytesV x)
theorem Lst8.keep {w w2 : World} {I : Nat → Prop} {A : Option Addr} {n : Nat} {us : List Value} {xs : List By} (h : Lst8 w I A n us xs) (hs : Same I w w2) : Lst8 w2 I A n us xs :=
  ⟨h.1.keep hs, h.2.1, fun k x hx => by obtain ⟨A', c', h1, h2, h3⟩ := h.2.2 k x hx; exact ⟨A', c', h1, h2, h3.keep hs⟩⟩
theorem Lst8.mono {w : World} {I J : Nat → Prop} {A : Option Addr} {n : Nat} {us : List Value} {xs : List By} (h : Lst8 w I A n us xs) (hs : ∀ k, I k → J k) : Lst8 w J A n us xs :=
  ⟨h.1.mono hs, h.2.1, fun k x hx => by obtain ⟨A', c', h1, h2, h3⟩ := h.2.2 k x hx; exact ⟨A', c', h1, h2, h3.mono hs⟩⟩
theorem Lst8.lt {w : World} {I : Nat → Prop} {A : Option Addr} {n : Nat} {us : List Value} {xs : List By} (h : Lst8 w I A n us xs) : Lst8 w (fun k => I k ∧ k < w.heap.size) A n us xs :=
  ⟨h.1.lt, h.2.1, fun k x hx => by obtain ⟨A', c', h1, h2, h3⟩ := h.2.2 k x hx; exact ⟨A', c', h1, h2, h3.lt⟩⟩

set_option maxRecDepth 100000 in
set_option maxHeartbeats 4000000 in
theorem samelists_any (A B : Option Addr) (n c1 c2 : Nat) (us vs : List Value) (xs : List By) (I J : Nat → Prop) (w : World) (ha : Lst8 w I A n us xs) (hb : Lst8 w J B n vs xs) (hn : n ≤ 1000000) :
    Calls Try.prog 48 #[.slice A n c1, .slice B n c2] w fun e w' => e = .returned (.bool true) ∧ Below w.heap.size w w' := by
  have HA := Lib.hid ha.lt
  have HB := Lib.hid hb.lt
  clear ha hb
  go_enter Try.func48, Try.ntmps48
  go_wp2_with fail
  go_loopw [5] (fun i wr => ∃ k : Nat, k ≤ n ∧ i = .int .i64 (k : Int) ∧ Below w.heap.size w wr) (fun i _ => n - (intOf i).toNat)
  case atStart => exact ⟨0, Nat.zero_le _, rfl, Below.refl _ _⟩
  case round =>
    obtain ⟨k, hk, rfl, hbr⟩ := hrel
    by_cases hlt : k < n
    · have a1 := HA.out.keep (Same.ofBelow hbr fun k hk => hk.2)
      have b1 := HB.out.keep (Same.ofBelow hbr fun k hk => hk.2)
      obtain ⟨x, hx⟩ : ∃ x, xs[k]? = some x := ⟨_, List.getElem?_eq_getElem (by rw [a1.2.1]; exact hlt)⟩
      obtain ⟨A1, d1, e1, _, r1⟩ := a1.2.2 k x hx
      obtain ⟨B1, d2, e2, _, r2⟩ := b1.2.2 k x hx
      obtain ⟨ad, rfl, _, _, q1⟩ := a1.1.2 (by omega)
      obtain ⟨bd, rfl, _, _, q2⟩ := b1.1.2 (by omega)
      have hc1 : wr.cell? (ad.add k) = some (.slice A1 x.length d1) := by have := q1 _ _ e1; simpa using this
      have hc2 : wr.cell? (bd.add k) = some (.slice B1 x.length d2) := by have := q2 _ _ e2; simpa using this
      have s1 := fun wx (e : wx.heap = wr.heap) => run_str wx _ A1 x d1 (r1.keep (Same.ofHeap _ e))
      have s2 := fun wx (e : wx.heap = wr.heap) => run_str wx _ B1 x d2 (r2.keep (Same.ofHeap _ e))
      have hi0 : (0 : Int) ≤ k := by omega
      have hi1 : (k : Int) < n := by omega
      have HBR := Lib.hid hbr
      clear a1 b1 hx e1 e2 r1 r2 q1 q2 hbr
      go_upto_region 6 with fail
      go_quiet (first | (rw [s1 (wr.drewN _) rfl]; exact ⟨rfl, rfl⟩) | (rw [s2 (wr.drewN _) rfl]; exact ⟨rfl, rfl⟩))
      go_wp2_with fail
      go_roundw
      case rel => exact ⟨k + 1, by omega, by simp, HBR.out.trans ⟨rfl, rfl, rfl, Nat.le_refl _, fun _ _ => rfl⟩⟩
      case measure => simp [intOf]; omega
    · obtain rfl : k = n := by omega
      have HBR := Lib.hid hbr
      clear hbr
      go_wp2_with fail
      go_ret
      exact ⟨rfl, HBR.out⟩
end Go.Proofs.Ytfddkehnhkfjeaa
namespace Go.Proofs.Ytfddkehnhkfjeaa
open Go.RowKit

attribute [-go_sem] Instr.storeAt Instr.loadAt in
set_option maxRecDepth 100000 in
set_option maxHeartbeats 4000000 in
/-- ref15.Fits. -/
theorem rffits_any (A : Option Addr) (n c : Nat) (x : By) (m : Int) (I : Nat → Prop) (w : World) (h : Reads w I 1 A n (bytesV x)) (hn : x.length = n) (hc : n ≤ c) (hsm : n ≤ 1000000) :
    Calls Try.prog 45 #[.slice A n c, .int .i64 m] w fun e w' => e = .returned (.tuple #[.bool (fitsF x m).1, .int .i64 ((fitsF x m).2 : Int)]) ∧ Below w.heap.size w w' := by
  have hpa := rparse_any A n c x I w h hn hc hsm
  have hpl := prs_len x
  obtain ⟨F, hF⟩ : ∃ F, F = fitsF x m := ⟨_, rfl⟩
  rw [← hF]
  unfold fitsF at hF
  obtain ⟨R, hR⟩ : ∃ R, R = prsF x := ⟨_, rfl⟩
  rw [← hR] at hpa hpl hF
  clear hR
  obtain ⟨g, p, f⟩ := R
  simp only at hpl hF
  have HPA := Lib.hid hpa
  have HF := Lib.hid hF
  have hp1 : p.length ≤ 1000000 := by omega
  have hg1 : g.opts.length ≤ 1000000 := by omega
  clear hpa hF hpl h hn hc hsm
  have pre : ∀ (b1 b2 : Bool), decide (m < 68) = b1 → decide ((65535 : Int) < m) = b2 → Calls Try.prog 45 #[.slice A n c, .int .i64 m] w fun e w' => e = .returned (.tuple #[.bool F.1, .int .i64 (F.2 : Int)]) ∧ Below w.heap.size w w' := by
    intro b1 b2 d1 d2
    cases b1 with
    | true =>
      have e1 := of_decide_eq_true d1
      go_enter Try.func45, Try.ntmps45
      go_wp2_with fail
      go_ret2
      refine ⟨?_, Below.refl _ _⟩
      rw [HF.out, if_pos (.inl e1)]
      rfl
    | false =>
      cases b2 with
      | true =>
        have e1 := of_decide_eq_true d2
        go_enter Try.func45, Try.ntmps45
        go_wp2_with fail
        go_ret2
        refine ⟨?_, Below.refl _ _⟩
        rw [HF.out, if_pos (.inr e1)]
        rfl
      | false =>
        have e1 := of_decide_eq_false d1
        have e2 := of_decide_eq_false d2
        go_enter Try.func45, Try.ntmps45
        go_wp2_with fail
        refine HPA.out.mono ?_
        rintro e w1 ⟨vo, vp, rfl, ho, hp, hb1⟩
        obtain ⟨Ao, co, rfl, _⟩ := ho
        obtain ⟨Ap, cp, rfl, _⟩ := hp
        obtain ⟨w2, hst, hb2, hb12, hk2⟩ := hd_var hb1 hb1.size g Ao g.opts.length co
        have HB2 := Lib.hid hb2
        have l10 := ld8s (hk2.cell 10)
        simp only
        clear hb1 hb2 hb12 hk2
        by_cases hf : f = 0
        · subst hf
          have hF2 := HF.out
          rw [if_neg (by omega), if_neg (by simp)] at hF2
          have HF2 := Lib.hid hF2
          clear hF2
          go_wp2_with fail
          go_ret2
          refine ⟨?_, HB2.out⟩
          rw [HF2.out]
          simp [Int.natCast_add]
        · have hf1 : ((f : Int) != 0) = true := by rw [bne_iff_ne]; omega
          have hf2 : (f != 0) = true := by rw [bne_iff_ne]; exact hf
          go_wp2_with fail
          go_ret2
          refine ⟨?_, HB2.out⟩
          rw [HF.out, if_neg (by omega), if_pos hf]
          rfl
  exact pre _ _ rfl rfl
end Go.Proofs.Ytfddkehnhkfjeaa
namespace Go.Proofs.Ytfddkehnhkfjeaa

/-- A piece's bytes. -/
def pbF (p : By) (q : Nat × Hd × Nat) : By := bytesF q.2.1 (partF p q.1 (q.1 + q.2.2))
/-- What Cut answers: the pieces' bytes, the error. -/
def cutF (x : By) (m : Int) : List By × Nat :=
  if (fitsF x m).2 ≠ 0 then ([], (fitsF x m).2)
  else if (fitsF x m).1 = true then ([x.take (20 + (prsF x).1.opts.length + (prsF x).2.1.length)], 0)
  else if (prsF x).1.df = true then ([], 7)
  else if ∃ q ∈ pcsF (prsF x).1 (prsF x).2.1.length m.toNat (prsF x).2.1.length 0, 8191 < q.2.1.off then ([], 3)
  else ((pcsF (prsF x).1 (prsF x).2.1.length m.toNat (prsF x).2.1.length 0).map (pbF (prsF x).2.1), 0)
/-- The pieces where there is no error. -/
def cutP (h : Hd) (L m : Nat) : List (Nat × Hd × Nat) := if 20 + h.opts.length + L ≤ m then [(0, h, L)] else pcsF h L m L 0
/-- Where a piece begins. -/
def posF (Q : List (Nat × Hd × Nat)) (i : Nat) : Nat := ((Q.take i).map (·.2.2)).sum
theorem posF_succ {Q : List (Nat × Hd × Nat)} {i : Nat} {q : Nat × Hd × Nat} (h : Q[i]? = some q) : posF Q (i + 1) = posF Q i + q.2.2 := by
  unfold posF
  rw [List.take_add_one, h]
  simp
theorem pcs_at {h : Hd} (hm : mayH h = true) {L m : Nat} (h68 : 68 ≤ m) : ∀ f a i q, L - a ≤ f → a % 8 = 0 → (pcsF h L m f a)[i]? = some q →
    q.1 % 8 = 0 ∧ a ≤ q.1 ∧ q.1 < L ∧ q.2 = pcF h L m q.1 ∧ posF (pcsF h L m f a) i + a = q.1 ∧ (i = 0 ↔ q.1 = a) ∧ (i + 1 < (pcsF h L m f a).length ↔ q.1 + q.2.2 < L)
  | 0, a, i, q, _, _, hq => by simp [pcsF] at hq
  | f + 1, a, i, q, hf, h8, hq => by
    by_cases hl : a < L
    · obtain ⟨hp, hle, h88, _⟩ := pc_pos hm h68 hl
      rw [pcs_cons _ _ _ _ _ hl] at hq ⊢
      cases i with
      | zero =>
        obtain rfl : (a, pcF h L m a) = q := by simpa using hq
        refine ⟨h8, Nat.le_refl _, hl, rfl, by simp [posF], by simp, ?_⟩
        simp only [List.length_cons]
        by_cases ht : a + (pcF h L m a).2 < L
        · obtain ⟨g, rfl⟩ : ∃ g, f = g + 1 := ⟨f - 1, by omega⟩
          rw [pcs_cons _ _ _ _ _ ht]
          simp [ht]
        · rw [pcs_end _ _ _ _ _ (by omega)]
          simp; omega
      | succ i =>
        rw [List.getElem?_cons_succ] at hq
        rcases h88 with h88 | h88
        · obtain ⟨b1, b2, b3, b4, b5, b6, b7⟩ := pcs_at hm h68 f _ i q (by omega) (by omega) hq
          refine ⟨b1, by omega, b3, b4, ?_, ⟨fun e => by omega, fun e => by omega⟩, ?_⟩
          · rw [← b5]
            unfold posF
            simp only [List.take_succ_cons, List.map_cons, List.sum_cons]
            omega
          · rw [List.length_cons, ← b7]; omega
        · rw [pcs_end _ _ _ _ _ (by omega)] at hq
          simp at hq
    · rw [pcs_end _ _ _ _ _ (by omega)] at hq
      simp at hq
theorem pc_mf (h : Hd) (L m a : Nat) (hl : a < L) (_ : 68 ≤ m) : (pcF h L m a).1 = { h with off := h.off + ((a / 8 : Nat) : Int), opts := if 0 < a then copF h.opts else h.opts, mf := h.mf || decide (a + (pcF h L m a).2 < L) } := by
  unfold pcF
  generalize (if 0 < a then copF h.opts else h.opts) = o
  simp only
  by_cases hr : m - (20 + o.length) < L - a
  · rw [if_pos hr]
    simp only
    rw [show decide (a + (m - (20 + o.length)) / 8 * 8 < L) = true from by simp; omega]
    simp
  · rw [if_neg hr]
    simp only
    rw [show decide (a + (L - a) < L) = false from by simp; omega]
    simp
/-- How the pieces stand. -/
structure PcAt (h : Hd) (L m : Nat) (i : Nat) (q : Nat × Hd × Nat) (n : Nat) : Prop where
  m8 : q.1 % 8 = 0
  le : q.1 + q.2.2 ≤ L
  hd : q.2.1 = { h with off := h.off + ((q.1 / 8 : Nat) : Int), opts := if 0 < i then copF h.opts else h.opts, mf := h.mf || decide (i + 1 < n) }
  n8 : i + 1 < n → q.2.2 % 8 = 0
  size : 20 + q.2.1.opts.length + q.2.2 ≤ m
  last : i + 1 = n → q.1 + q.2.2 = L
  pos : 1 < n → 0 < q.2.2
theorem cut_at {h : Hd} (hm : mayH h = true) {L m : Nat} (h68 : 68 ≤ m) {i : Nat} {q : Nat × Hd × Nat} (hq : (cutP h L m)[i]? = some q) : posF (cutP h L m) i = q.1 ∧ PcAt h L m i q (cutP h L m).length := by
  unfold cutP at hq ⊢
  by_cases hf : 20 + h.opts.length + L ≤ m
  · rw [if_pos hf] at hq ⊢
    cases i with
    | zero =>
      obtain rfl : (0, h, L) = q := by simpa using hq
      exact ⟨rfl, rfl, by simp, by simp, by simp, hf, by simp, by simp⟩
    | succ i => simp at hq
  · rw [if_neg hf] at hq ⊢
    obtain ⟨b1, b2, b3, b4, b5, b6, b7⟩ := pcs_at hm h68 L 0 i q (by omega) rfl hq
    obtain ⟨c1, c2, c3, c4⟩ := pc_pos hm h68 b3
    have e := pc_mf h L m q.1 b3 h68
    rw [← b4] at c1 c2 c3 c4 e
    have hi : i + 1 ≤ (pcsF h L m L 0).length := (List.getElem?_eq_some_iff.1 hq).1
    refine ⟨by omega, b1, by omega, ?_, fun hh => ?_, c4, fun hh => ?_, fun _ => c1⟩
    · rw [e]
      have e1 : (0 < q.1) = (0 < i) := by
        apply propext
        constructor
        · intro hh; rcases Nat.eq_zero_or_pos i with h0 | h0
          · have := b6.1 h0; omega
          · exact h0
        · intro hh; rcases Nat.eq_zero_or_pos q.1 with h0 | h0
          · have := b6.2 h0; omega
          · exact h0
      have e2 : (q.1 + q.2.2 < L) = (i + 1 < (pcsF h L m L 0).length) := propext b7.symm
      simp only [e1, e2]
    · have := b7.1 hh; omega
    · have : ¬ q.1 + q.2.2 < L := fun hc => by have := b7.2 hc; omega
      omega
theorem cut_ne {h : Hd} {L m : Nat} (h68 : 68 ≤ m) (hm : mayH h = true) : 0 < (cutP h L m).length := by
  unfold cutP
  obtain ⟨_, h40, _⟩ := may_opts hm
  split
  · simp
  · rename_i hf
    obtain ⟨g, rfl⟩ : ∃ g, L = g + 1 := ⟨L - 1, by omega⟩
    rw [pcs_cons _ _ _ _ _ (by omega)]
    simp
theorem cut_end {h : Hd} (hm : mayH h = true) {L m : Nat} (h68 : 68 ≤ m) : posF (cutP h L m) (cutP h L m).length = L := by
  have hn := cut_ne (L := L) h68 hm
  obtain ⟨n, hn⟩ : ∃ n, (cutP h L m).length = n + 1 := ⟨(cutP h L m).length - 1, by omega⟩
  obtain ⟨q, hq⟩ : ∃ q, (cutP h L m)[n]? = some q := ⟨_, List.getElem?_eq_getElem (by omega)⟩
  obtain ⟨e, k⟩ := cut_at hm h68 hq
  rw [hn, posF_succ hq, e]
  exact k.last hn.symm
theorem pc_ok {h : Hd} (ok : h.ok) {i n : Nat} {L m : Nat} {q : Nat × Hd × Nat} (k : PcAt h L m i q n) : q.2.1.ok := by rw [k.hd]; exact ok
theorem pc_fits {h : Hd} (hm : mayH h = true) {i n : Nat} {L m : Nat} {q : Nat × Hd × Nat} (k : PcAt h L m i q n) (hm2 : m ≤ 65535) (ho : q.2.1.off ≤ 8191) (p : By) (hp : p.length = q.2.2) : fitsH q.2.1 p = true := by
  obtain ⟨hg, h40, h4, h0, _⟩ := may_opts hm
  obtain ⟨hc, hc4⟩ := cop_le h4
  have hs := k.size
  unfold fitsH mayH
  simp only [Bool.and_eq_true, decide_eq_true_eq]
  have e := k.hd
  have e1 : q.2.1.opts = if 0 < i then copF h.opts else h.opts := by rw [e]
  have e2 : q.2.1.off = h.off + ((q.1 / 8 : Nat) : Int) := by rw [e]
  rw [e1] at hs ⊢
  refine ⟨⟨⟨⟨⟨?_, ?_⟩, ?_⟩, ?_⟩, ho⟩, ?_⟩
  · split
    · exact good_cop _
    · exact hg
  · split <;> omega
  · split <;> omega
  · rw [e2]; omega
  · rw [hp]; omega
theorem part_len2 {p : By} {a n : Nat} (h : a + n ≤ p.length) : (partF p a (a + n)).length = n := by
  unfold partF
  rw [List.length_drop, List.length_take]
  omega
theorem take_part {p : By} {a n : Nat} : p.take a ++ partF p a (a + n) = p.take (a + n) := by
  unfold partF
  rw [List.drop_take, show a + n - a = n from by omega, ← List.take_add]
/-- Cut of a packet that is one. -/
theorem cut_bytes {h : Hd} (ok : h.ok) {p : By} (hf : fitsH h p = true) (m : Int) :
    (cutF (bytesF h p) m).2 = 0 ∧ 68 ≤ m ∧ m ≤ 65535 ∧ (cutF (bytesF h p) m).1 = (cutP h p.length m.toNat).map (pbF p) ∧ (∀ q ∈ cutP h p.length m.toNat, q.2.1.off ≤ 8191) ∨
    (cutF (bytesF h p) m).1 = [] ∧ ((cutF (bytesF h p) m).2 = 2 ∨ (cutF (bytesF h p) m).2 = 3 ∨ (cutF (bytesF h p) m).2 = 7 ∧ h.df = true) := by
  have hr : prsF (bytesF h p) = (h, p, 0) := by have := read_back ok hf []; rwa [List.append_nil] at this
  unfold cutF
  rw [hr]
  simp only
  have hf2 : fitsF (bytesF h p) m = if m < 68 ∨ 65535 < m then (false, 2) else (decide (((20 + h.opts.length + p.length : Nat) : Int) ≤ m), 0) := by
    unfold fitsF
    rw [hr]
    simp
  have hmy : mayH h = true := by unfold fitsH at hf; simp only [Bool.and_eq_true] at hf; exact hf.1
  rw [hf2]
  by_cases hm : m < 68 ∨ 65535 < m
  · rw [if_pos hm]
    exact .inr ⟨rfl, .inl rfl⟩
  rw [if_neg hm]
  simp only [ne_eq, not_true_eq_false, if_false, decide_eq_true_eq]
  have e : cutP h p.length m.toNat = if ((20 + h.opts.length + p.length : Nat) : Int) ≤ m then [(0, h, p.length)] else pcsF h p.length m.toNat p.length 0 := by
    unfold cutP
    by_cases hfm : ((20 + h.opts.length + p.length : Nat) : Int) ≤ m
    · rw [if_pos hfm, if_pos (by omega)]
    · rw [if_neg hfm, if_neg (by omega)]
  rw [e]
  by_cases hfm : ((20 + h.opts.length + p.length : Nat) : Int) ≤ m
  · rw [if_pos hfm, if_pos hfm]
    refine .inl ⟨rfl, by omega, by omega, ?_, fun q hq => ?_⟩
    · simp only [List.map_cons, List.map_nil, pbF, partF]
      rw [List.take_of_length_le (by rw [bytesF_len]; omega)]
      simp
    · obtain rfl : q = (0, h, p.length) := by simpa using hq
      exact (may_opts hmy).2.2.2.2
  · rw [if_neg hfm, if_neg hfm]
    by_cases hd : h.df = true
    · rw [if_pos hd]
      exact .inr ⟨rfl, .inr (.inr ⟨rfl, hd⟩)⟩
    rw [if_neg hd]
    by_cases hx : ∃ q ∈ pcsF h p.length m.toNat p.length 0, 8191 < q.2.1.off
    · rw [if_pos hx]
      exact .inr ⟨rfl, .inr (.inl rfl)⟩
    · rw [if_neg hx]
      exact .inl ⟨rfl, by omega, by omega, rfl, fun q hq => by
        by_cases hh : q.2.1.off ≤ 8191
        · exact hh
        · exact (hx ⟨q, hq, by omega⟩).elim⟩
end Go.Proofs.Ytfddkehnhkfjeaa
