/- Layer 12: kinds: a map of functions. -/
import Derived.Test.YtahdjfegihnolaaLzQ
namespace Go.Proofs.Ytahdjfegihnolaa
open Go.RowKit Go.Sort
theorem ckKeyed : Maps.Keyed Try.prog 32 := Maps.int_keyed Try.underlying32
def fnV (n : Nat) : Value := .func (.func n) #[] #[]
/-- The map of kinds. -/
structure KindsM (w : World) (b : Nat) : Prop where
  map : ∃ F s, MapV Try.prog 32 w b 5 F s ∧ F (.int .i64 1) = some (fnV 48) ∧ F (.int .i64 2) = some (fnV 49) ∧ F (.int .i64 3) = some (fnV 50) ∧ F (.int .i64 4) = some (fnV 51) ∧ F (.int .i64 5) = some (fnV 52)
theorem KindsM.below {w w' : World} {b : Nat} (h : KindsM w b) (hb : Below w.heap.size w w') : KindsM w' b := by
  obtain ⟨F, s, m, h1⟩ := h.map
  exact ⟨F, s, m.below hb, h1⟩
theorem ck_key (a : Int) (h : (Lit.int .i64 a).wf = true) : keyOf Try.prog 32 (.int .i64 a) = some (.int .i64 a) := Maps.keyOf_int_mk Try.underlying32 h
theorem upd_below' {w w' W : World} {b : Nat} (h : Below w.heap.size w W) (hu : Upd (only b) W w') (hb : w.heap.size ≤ b) : Below w.heap.size w w' := upd_below (w := w) (W := W) h hu hb h.size
set_option maxRecDepth 20000 in
theorem kinds_any (w : World) : Calls Try.prog 29 #[] w fun e w' => ∃ b, e = .returned (.map (some b)) ∧ KindsM w' b ∧ Below w.heap.size w w' := by
  have hm0 := mapv_new w Try.prog 32
  obtain ⟨mb, hmb⟩ : ∃ mb, mb = w.heap.size := ⟨_, rfl⟩
  obtain ⟨W1, hW1⟩ : ∃ W1, W1 = w.alloc (.map #[] 0) := ⟨_, rfl⟩
  rw [← hmb, ← hW1] at hm0
  have hb1 : Below w.heap.size w W1 := by rw [hW1]; exact (Below.refl _ _).alloc (Nat.le_refl _) _
  obtain ⟨W2, hr2, hm2, hu2, _⟩ := hm0.store ckKeyed Try.underlying90 (by omega) (ck_key 1 (by decide)) (fnV 48)
  obtain ⟨W3, hr3, hm3, hu3, _⟩ := hm2.store ckKeyed Try.underlying90 (by omega) (ck_key 2 (by decide)) (fnV 49)
  obtain ⟨W4, hr4, hm4, hu4, _⟩ := hm3.store ckKeyed Try.underlying90 (by omega) (ck_key 3 (by decide)) (fnV 50)
  obtain ⟨W5, hr5, hm5, hu5, _⟩ := hm4.store ckKeyed Try.underlying90 (by omega) (ck_key 4 (by decide)) (fnV 51)
  obtain ⟨W6, hr6, hm6, hu6, _⟩ := hm5.store ckKeyed Try.underlying90 (by omega) (ck_key 5 (by decide)) (fnV 52)
  have hb6 : Below w.heap.size w W6 := by
    have hu := (((hu2.trans_ (hu3.mono fun _ e => .inl e)).trans_ (hu4.mono fun _ e => .inl e)).trans_ (hu5.mono fun _ e => .inl e)).trans_ (hu6.mono fun _ e => .inl e)
    exact upd_below' hb1 hu (Nat.le_of_eq hmb.symm)
  have hmm : (Instr.makeMap 90 none).run Try.prog w = .ok (.map (some mb)) W1 := by rw [hW1, hmb]; exact run_makeMap _ _
  have HK := Lib.hid (show KindsM W6 mb from ⟨_, _, hm6, by simp [setK_other, setK_same], by simp [setK_other, setK_same], by simp [setK_other, setK_same], by simp [setK_other, setK_same], setK_same _ _ _⟩)
  have HB6 := Lib.hid hb6
  unfold fnV at hr2 hr3 hr4 hr5 hr6
  clear hm0 hm2 hm3 hm4 hm5 hm6 hu2 hu3 hu4 hu5 hu6 hb1 hb6 hW1 hmb
  go_enter Try.func29, Try.ntmps29
  go_wp2_with fail
  go_ret
  exact ⟨mb, rfl, HK.out, HB6.out⟩
end Go.Proofs.Ytahdjfegihnolaa
