/- Frag, plain: a packet cut into pieces. -/
import Derived.Test.YtfddkehnhkfjeaaFrB
namespace Go.Proofs.Ytfddkehnhkfjeaa

/-- The pieces from a place on: place, header, how many bytes. -/
def pcsF (h : Hd) (L m : Nat) : Nat → Nat → List (Nat × Hd × Nat)
  | 0, _ => []
  | f + 1, at_ => if at_ < L then (at_, pcF h L m at_) :: pcsF h L m f (at_ + (pcF h L m at_).2) else []
theorem pcs_end (h : Hd) (L m f at_ : Nat) (hl : L ≤ at_) : pcsF h L m f at_ = [] := by
  cases f with
  | zero => rfl
  | succ f => unfold pcsF; rw [if_neg (by omega)]
theorem pcs_cons (h : Hd) (L m f at_ : Nat) (hl : at_ < L) : pcsF h L m (f + 1) at_ = (at_, pcF h L m at_) :: pcsF h L m f (at_ + (pcF h L m at_).2) := by
  rw [pcsF, if_pos hl]
/-- The fuel does not matter, as long as there is enough. -/
theorem pcs_fuel {h : Hd} (hm : mayH h = true) {L m : Nat} (h68 : 68 ≤ m) : ∀ f g at_, L - at_ ≤ f → L - at_ ≤ g → pcsF h L m f at_ = pcsF h L m g at_
  | 0, g, at_, h1, _ => by rw [pcs_end h L m 0 at_ (by omega), pcs_end h L m g at_ (by omega)]
  | f + 1, 0, at_, _, h2 => by rw [pcs_end h L m (f + 1) at_ (by omega), pcs_end h L m 0 at_ (by omega)]
  | f + 1, g + 1, at_, h1, h2 => by
    by_cases hl : at_ < L
    · obtain ⟨hp, _⟩ := pc_pos hm h68 hl
      rw [pcs_cons _ _ _ _ _ hl, pcs_cons _ _ _ _ _ hl, pcs_fuel hm h68 f g _ (by omega) (by omega)]
    · rw [pcs_end _ _ _ _ _ (by omega), pcs_end _ _ _ _ _ (by omega)]
/-- Each piece lies in the payload, at a multiple of 8. -/
theorem pcs_mem {h : Hd} (hm : mayH h = true) {L m : Nat} (h68 : 68 ≤ m) : ∀ f at_, at_ % 8 = 0 → ∀ x ∈ pcsF h L m f at_, x.1 % 8 = 0 ∧ at_ ≤ x.1 ∧ x.1 < L ∧ x.2 = pcF h L m x.1
  | 0, _, _, x, hx => by cases hx
  | f + 1, at_, h8, x, hx => by
    by_cases hl : at_ < L
    · obtain ⟨hp, hle, h88, _⟩ := pc_pos hm h68 hl
      rw [pcs_cons _ _ _ _ _ hl] at hx
      rcases List.mem_cons.1 hx with rfl | hx
      · exact ⟨h8, Nat.le_refl _, hl, rfl⟩
      · rcases h88 with h88 | h88
        · obtain ⟨a, b, c, d⟩ := pcs_mem hm h68 f _ (by omega) x hx
          exact ⟨a, by omega, c, d⟩
        · rw [pcs_end _ _ _ _ _ (by omega)] at hx
          cases hx
    · rw [pcs_end _ _ _ _ _ (by omega)] at hx
      cases hx
/-- The pieces' payloads, one behind the other, are the payload. -/
theorem pcs_flat {h : Hd} (hm : mayH h = true) {m : Nat} (h68 : 68 ≤ m) (p : By) : ∀ f at_, p.length - at_ ≤ f → ((pcsF h p.length m f at_).flatMap fun x => partF p x.1 (x.1 + x.2.2)) = p.drop at_
  | 0, at_, h1 => by
    rw [pcs_end _ _ _ _ _ (by omega), List.drop_eq_nil_of_le (by omega)]
    rfl
  | f + 1, at_, h1 => by
    by_cases hl : at_ < p.length
    · obtain ⟨hp, hle, _⟩ := pc_pos hm h68 hl
      rw [pcs_cons _ _ _ _ _ hl, List.flatMap_cons, pcs_flat hm h68 p f _ (by omega)]
      simp only
      unfold partF
      rw [List.drop_take, show at_ + (pcF h p.length m at_).2 - at_ = (pcF h p.length m at_).2 from by omega, ← List.drop_drop, List.take_append_drop]
    · rw [pcs_end _ _ _ _ _ (by omega), List.drop_eq_nil_of_le (by omega)]
      rfl
/-- For a greater MTU no more pieces. -/
theorem pcs_mono {h : Hd} (hm : mayH h = true) {L m m2 : Nat} (h68 : 68 ≤ m) (hle : m ≤ m2) : ∀ f a b, a ≤ b → (a = 0 ↔ b = 0) → (pcsF h L m2 f b).length ≤ (pcsF h L m f a).length
  | 0, _, _, _, _ => Nat.le_refl _
  | f + 1, a, b, hab, h0 => by
    by_cases hb : b < L
    · have ha : a < L := by omega
      obtain ⟨p1, q1, _⟩ := pc_pos hm h68 ha
      obtain ⟨p2, q2, _⟩ := pc_pos hm (Nat.le_trans h68 hle) hb
      rw [pcs_cons _ _ _ _ _ hb, pcs_cons _ _ _ _ _ ha, List.length_cons, List.length_cons]
      refine Nat.succ_le_succ (pcs_mono hm h68 hle f _ _ ?_ (by omega))
      have ho : (if 0 < b then copF h.opts else h.opts) = (if 0 < a then copF h.opts else h.opts) := by
        by_cases e : a = 0
        · rw [if_neg (by omega), if_neg (by omega)]
        · rw [if_pos (by omega), if_pos (by omega)]
      have e1 : (pcF h L m2 b).2 = if m2 - (20 + (if 0 < a then copF h.opts else h.opts).length) < L - b then (m2 - (20 + (if 0 < a then copF h.opts else h.opts).length)) / 8 * 8 else L - b := by
        unfold pcF
        rw [ho]
        generalize (if 0 < a then copF h.opts else h.opts) = o
        simp only
        split <;> rfl
      have e2 : (pcF h L m a).2 = if m - (20 + (if 0 < a then copF h.opts else h.opts).length) < L - a then (m - (20 + (if 0 < a then copF h.opts else h.opts).length)) / 8 * 8 else L - a := by
        unfold pcF
        generalize (if 0 < a then copF h.opts else h.opts) = o
        simp only
        split <;> rfl
      rw [e1, e2]
      generalize (if 0 < a then copF h.opts else h.opts).length = o
      split <;> split <;> omega
    · rw [pcs_end _ _ _ _ _ (by omega)]
      exact Nat.zero_le _
/-- The document's way: as many as there is room for; fewer, to a multiple of 8, where more is left. -/
theorem pc_ref (h : Hd) {L m at_ : Nat} (hl : at_ < L) : pcF h L m at_ =
    (let o := if 0 < at_ then copF h.opts else h.opts
     let n0 := min (m - (20 + o.length)) (L - at_)
     if at_ + n0 < L then ({ h with off := h.off + ((at_ / 8 : Nat) : Int), opts := o, mf := true }, n0 - n0 % 8) else ({ h with off := h.off + ((at_ / 8 : Nat) : Int), opts := o }, n0)) := by
  unfold pcF
  generalize (if 0 < at_ then copF h.opts else h.opts) = o
  simp only
  by_cases hr : m - (20 + o.length) < L - at_
  · rw [if_pos hr, if_pos (by omega), show min (m - (20 + o.length)) (L - at_) = m - (20 + o.length) from by omega]
    congr 1
    omega
  · rw [if_neg hr, if_neg (by omega), show min (m - (20 + o.length)) (L - at_) = L - at_ from by omega]
end Go.Proofs.Ytfddkehnhkfjeaa
