/- Icmp: kinds. -/
import Derived.Test.YtihfihehiifdkaaIcH
import Derived.Maps.RangeWalk
import Derived.Maps.OwnSet
import Derived.Maps.Views
namespace Go.Proofs.Ytihfihehiifdkaa
open Go.RowKit Go.Sort Go.BigFrame
def kdV (a b : Int) : Value := .agg #[.int .u8 a, .int .u8 b, .int .u8 0, .int .u8 0, .int .u8 0, .int .u8 0, .slice none 0 0]
theorem kdV_inj {a b c d : Int} (h : kdV a b = kdV c d) : a = c ∧ b = d := by
  unfold kdV at h
  simp at h
  exact h
open Classical in
noncomputable def kdE (v : Value) : Option (DataW Unit × List MemPlace) :=
  if v = kdV 0 0 then some (.lit (.int .i64 0), []) else if v = kdV 3 0 then some (.lit (.int .i64 1), []) else if v = kdV 3 4 then some (.lit (.int .i64 2), []) else if v = kdV 11 0 then some (.lit (.int .i64 3), []) else none
theorem kdE0 : kdE (kdV 0 0) = some (.lit (.int .i64 0), []) := by unfold kdE; rw [if_pos rfl]
theorem kdE1 : kdE (kdV 3 0) = some (.lit (.int .i64 1), []) := by
  unfold kdE
  rw [if_neg (fun h => by have := (kdV_inj h).1; omega), if_pos rfl]
theorem kdE2 : kdE (kdV 3 4) = some (.lit (.int .i64 2), []) := by
  unfold kdE
  rw [if_neg (fun h => by have := (kdV_inj h).1; omega), if_neg (fun h => by have := (kdV_inj h).2; omega), if_pos rfl]
theorem kdE3 : kdE (kdV 11 0) = some (.lit (.int .i64 3), []) := by
  unfold kdE
  rw [if_neg (fun h => by have := (kdV_inj h).1; omega), if_neg (fun h => by have := (kdV_inj h).1; omega), if_neg (fun h => by have := (kdV_inj h).1; omega), if_pos rfl]
theorem kdE_inv {v : Value} {z : Int} {ps : List MemPlace} (h : kdE v = some (.lit (.int .i64 z), ps)) : (z = 0 → v = kdV 0 0) ∧ (z = 1 → v = kdV 3 0) ∧ (z = 2 → v = kdV 3 4) ∧ (z = 3 → v = kdV 11 0) := by
  unfold kdE at h
  split at h
  · simp at h
    refine ⟨fun _ => by assumption, fun e => ?_, fun e => ?_, fun e => ?_⟩ <;> omega
  split at h
  · simp at h
    refine ⟨fun e => ?_, fun _ => by assumption, fun e => ?_, fun e => ?_⟩ <;> omega
  split at h
  · simp at h
    refine ⟨fun e => ?_, fun e => ?_, fun _ => by assumption, fun e => ?_⟩ <;> omega
  split at h
  · simp at h
    refine ⟨fun e => ?_, fun e => ?_, fun e => ?_, fun _ => by assumption⟩ <;> omega
  · cases h
theorem iceKeyed : Maps.Keyed Try.prog 37 := Maps.int_keyed Try.underlying37
def ikK (k : Int) : Lit := .int .i64 k
def kdD : DataW Unit := (((DataW.map []).put (ikK 1) (.lit (.int .i64 1))).put (ikK 2) (.lit (.int .i64 2))).put (ikK 3) (.lit (.int .i64 3))
/-- What is found in kinds. -/
def kdA (k : Int) : Value := if k = 1 then kdV 3 0 else if k = 2 then kdV 3 4 else if k = 3 then kdV 11 0 else kdV 0 0
def kdB (k : Int) : Bool := decide (k = 1) || decide (k = 2) || decide (k = 3)
theorem kd_zero (w : World) : (zeroValue 45).run Try.prog w = .ok (kdV 0 0) w := by kernel_rfl
/-- A map that is kinds'. -/
def KindsM (w : World) (b : Nat) : Prop := w.ownsMap Try.prog 37 kdE b 3 kdD
theorem ikK_ne {a b : Int} (h : a ≠ b) : ikK a ≠ ikK b := fun e => by
  unfold ikK at e
  injection e with _ e
  exact h e
theorem ikK_lit (k : Int) : WideAt.IsKeyLit (ikK k) := trivial
theorem kdD_at (k : Int) : Maps.has kdD (ikK k) = kdB k ∧ ∃ z : Int, kdD.atKey (ikK k) (.lit (.int .i64 0)) = .lit (.int .i64 z) ∧ (k = 1 → z = 1) ∧ (k = 2 → z = 2) ∧ (k = 3 → z = 3) ∧ (k ≠ 1 → k ≠ 2 → k ≠ 3 → z = 0) := by
  have m0 : Maps.IsMap (DataW.map [] : DataW Unit) := ⟨_, rfl⟩
  have m1 := m0.put (k := ikK 1) (d := .lit (.int .i64 1))
  have m2 := m1.put (k := ikK 2) (d := .lit (.int .i64 2))
  unfold kdD kdB
  by_cases h3 : k = 3
  · subst h3
    rw [Maps.has_put_same m2 (ikK_lit 3), Maps.atKey_put_same m2 (ikK_lit 3)]
    exact ⟨by decide, 3, rfl, by omega, by omega, fun _ => rfl, by omega⟩
  rw [Maps.has_put_other (ikK_ne h3), Maps.atKey_put_other (ikK_ne h3)]
  by_cases h2 : k = 2
  · subst h2
    rw [Maps.has_put_same m1 (ikK_lit 2), Maps.atKey_put_same m1 (ikK_lit 2)]
    exact ⟨by decide, 2, rfl, by omega, fun _ => rfl, by omega, by omega⟩
  rw [Maps.has_put_other (ikK_ne h2), Maps.atKey_put_other (ikK_ne h2)]
  by_cases h1 : k = 1
  · subst h1
    rw [Maps.has_put_same m0 (ikK_lit 1), Maps.atKey_put_same m0 (ikK_lit 1)]
    exact ⟨by decide, 1, rfl, fun _ => rfl, by omega, by omega, by omega⟩
  rw [Maps.has_put_other (ikK_ne h1), Maps.atKey_put_other (ikK_ne h1), decide_eq_false h1, decide_eq_false h2, decide_eq_false h3]
  exact ⟨rfl, 0, rfl, by omega, by omega, by omega, fun _ _ _ => rfl⟩
theorem KindsM.look {w : World} {b : Nat} (h : KindsM w b) (k : Int) (hk : (Lit.int .i64 k).wf = true) : (Instr.lookup 96 (.map (some b)) (.int .i64 k) true).run Try.prog w = .ok (.tuple #[kdA k, .bool (kdB k)]) w := by
  obtain ⟨v, ps, hr, hv⟩ := World.ownsMap.look_ok h iceKeyed Try.underlying96 (kd_zero w) kdE0 (Maps.keyOf_int_mk (a := k) Try.underlying37 hk)
  obtain ⟨e1, z, e2, z1, z2, z3, z0⟩ := kdD_at k
  have hv2 : kdE v = some (.lit (.int .i64 z), ps) := by rw [← e2]; exact hv
  obtain ⟨v0, v1, v2, v3⟩ := kdE_inv hv2
  have e3 : v = kdA k := by
    unfold kdA
    split
    · exact v1 (z1 (by assumption))
    split
    · exact v2 (z2 (by assumption))
    split
    · exact v3 (z3 (by assumption))
    · exact v0 (z0 (by assumption) (by assumption) (by assumption))
  rw [← e3, ← e1]
  exact hr
set_option maxRecDepth 20000 in
theorem kinds_any (w : World) :
    Calls Try.prog 63 #[] w fun e w' => ∃ b, e = .returned (.map (some b)) ∧ KindsM w' b ∧ Below w.heap.size w w' := by
  have hm0 := World.ownsMap_made w Try.prog 37 kdE
  obtain ⟨mb, hmb⟩ : ∃ mb, mb = w.heap.size := ⟨_, rfl⟩
  obtain ⟨W1, hW1⟩ : ∃ W1, W1 = w.alloc (.map #[] 0) := ⟨_, rfl⟩
  rw [← hmb, ← hW1] at hm0
  have hb1 : Below w.heap.size w W1 := by rw [hW1]; exact (Below.refl _ _).alloc (Nat.le_refl _) _
  obtain ⟨W2, hr2, hm2, hg2⟩ := hm0.update iceKeyed Try.underlying96 (by decide) (Maps.keyOf_int_mk (a := 1) Try.underlying37 (by decide)) kdE1
  obtain ⟨W3, hr3, hm3, hg3⟩ := hm2.update iceKeyed Try.underlying96 (by decide) (Maps.keyOf_int_mk (a := 2) Try.underlying37 (by decide)) kdE2
  obtain ⟨W4, hr4, hm4, hg4⟩ := hm3.update iceKeyed Try.underlying96 (by decide) (Maps.keyOf_int_mk (a := 3) Try.underlying37 (by decide)) kdE3
  have hb4 : Below w.heap.size w W4 := ((hb1.grown hg2 hb1.size fun k e => by injection e with e; omega).grown hg3 (by have := hb1.size; have := hg2.size; omega) fun k e => by injection e with e; omega).grown hg4 (by have := hb1.size; have := hg2.size; have := hg3.size; omega) fun k e => by injection e with e; omega
  have hmm : (Instr.makeMap 96 none).run Try.prog w = .ok (.map (some mb)) W1 := by rw [hW1, hmb]; exact run_makeMap _ _
  have HOWN := Lib.hid (show KindsM W4 mb from hm4)
  have HB4 := Lib.hid hb4
  unfold kdV at hr2 hr3 hr4
  clear hm0 hm2 hm3 hm4 hg2 hg3 hg4 hb1 hb4 hW1 hmb
  go_enter Try.func63, Try.ntmps63
  have b1 := fun wx : World => (show (Instr.build 45 #[(0, .int .u8 3)]).run Try.prog wx = .ok (.agg #[.int .u8 3, .int .u8 0, .int .u8 0, .int .u8 0, .int .u8 0, .int .u8 0, .slice none 0 0]) wx by kernel_rfl)
  have b2 := fun wx : World => (show (Instr.build 45 #[(0, .int .u8 3), (1, .int .u8 4)]).run Try.prog wx = .ok (.agg #[.int .u8 3, .int .u8 4, .int .u8 0, .int .u8 0, .int .u8 0, .int .u8 0, .slice none 0 0]) wx by kernel_rfl)
  have b3 := fun wx : World => (show (Instr.build 45 #[(0, .int .u8 11)]).run Try.prog wx = .ok (.agg #[.int .u8 11, .int .u8 0, .int .u8 0, .int .u8 0, .int .u8 0, .int .u8 0, .slice none 0 0]) wx by kernel_rfl)
  go_wp2_with fail
  go_ret
  exact ⟨mb, rfl, HOWN.out, HB4.out⟩
end Go.Proofs.Ytihfihehiifdkaa
