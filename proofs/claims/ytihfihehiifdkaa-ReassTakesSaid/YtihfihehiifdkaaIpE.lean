/- Options as views; guidepostref03.Options. -/
import Derived.Test.YtihfihehiifdkaaIpA
import Derived.Test.YtihfihehiifdkaaRgA
namespace Go.Proofs.Ytihfihehiifdkaa
open Go.RowKit Go.Sort
/-! ### The plain law -/
theorem flatF_app (L M : List (UInt8 × By)) : flatF (L ++ M) = flatF L ++ flatF M := by simp [flatF]
theorem steps_prefix : ∀ (n : Nat) (x : By), x.length ≤ n → ∃ z, x = flatF (steps x) ++ z
  | _, [], _ => ⟨[], rfl⟩
  | 0, _ :: _, h => by simp at h
  | n + 1, k :: r, h => by
    rw [steps_cons]
    split
    · exact ⟨_, rfl⟩
    · split
      · exact ⟨k :: r, by simp [flatF]⟩
      · rename_i h0
        have hl := stepN_le (k :: r)
        obtain ⟨z, hz⟩ := steps_prefix n ((k :: r).drop (stepN (k :: r))) (by rw [List.length_drop]; simp only [List.length_cons] at h ⊢; omega)
        refine ⟨z, ?_⟩
        have e : flatF ((k, (k :: r).take (stepN (k :: r))) :: steps ((k :: r).drop (stepN (k :: r)))) = (k :: r).take (stepN (k :: r)) ++ flatF (steps ((k :: r).drop (stepN (k :: r)))) := by simp [flatF]
        rw [e, List.append_assoc, ← hz, List.take_append_drop]
theorem partsAt_get : ∀ (L : List (UInt8 × By)) (q i : Nat) (s : UInt8 × By), L[i]? = some s → (partsAt q L)[i]? = some (q + (flatF (L.take i)).length, s.2.length)
  | [], _, _, _, h => by cases h
  | t :: r, q, 0, s, h => by
    obtain rfl : t = s := by simpa using h
    simp [partsAt, flatF]
  | t :: r, q, i + 1, s, h => by
    have := partsAt_get r (q + t.2.length) i s (by simpa using h)
    simp only [partsAt, List.getElem?_cons_succ, this, List.take_succ_cons]
    have e : flatF (t :: r.take i) = t.2 ++ flatF (r.take i) := by simp [flatF]
    rw [e, List.length_append, Nat.add_assoc]
theorem part_at {x : By} {i : Nat} {s : UInt8 × By} (h : (steps x)[i]? = some s) : ∃ p, (partsAt 0 (steps x))[i]? = some (p, s.2.length) ∧ p + s.2.length ≤ x.length ∧ ∀ a b, a ≤ b → b ≤ s.2.length → partF x (p + a) (p + b) = (s.2.take b).drop a := by
  refine ⟨(flatF ((steps x).take i)).length, by rw [partsAt_get _ _ _ _ h, Nat.zero_add], ?_⟩
  obtain ⟨z, hz⟩ := steps_prefix _ x (Nat.le_refl _)
  have hi := (List.getElem?_eq_some_iff.1 h).1
  have hs := (List.getElem?_eq_some_iff.1 h).2
  have e : steps x = (steps x).take i ++ s :: (steps x).drop (i + 1) := by
    rw [← hs, ← List.drop_eq_getElem_cons hi, List.take_append_drop]
  obtain ⟨u, hu⟩ : ∃ u, flatF (steps x) = flatF ((steps x).take i) ++ (s.2 ++ u) := ⟨flatF ((steps x).drop (i + 1)), by
    have : flatF (s :: (steps x).drop (i + 1)) = s.2 ++ flatF ((steps x).drop (i + 1)) := by simp [flatF]
    rw [← this, ← flatF_app, ← e]⟩
  rw [hu] at hz
  obtain ⟨f, hf⟩ : ∃ f, f = flatF ((steps x).take i) := ⟨_, rfl⟩
  rw [← hf] at hz ⊢
  rw [List.append_assoc, List.append_assoc] at hz
  refine ⟨by rw [hz]; simp only [List.length_append]; omega, fun a b hab hb => ?_⟩
  unfold partF
  rw [hz, List.take_append, List.take_of_length_le (by omega), List.drop_append, List.drop_eq_nil_of_le (by omega), List.nil_append, Nat.add_sub_cancel_left, Nat.add_sub_cancel_left, List.take_append, show b - s.2.length = 0 by omega, List.take_zero, List.append_nil]
theorem part_head {x : By} {p : Nat} {s : By} (hp : ∀ a b, a ≤ b → b ≤ s.length → partF x (p + a) (p + b) = (s.take b).drop a) {k : UInt8} {r : By} (hs : s = k :: r) : x[p]? = some k := by
  have h1 := hp 0 1 (by omega) (by rw [hs]; simp)
  rw [hs] at h1
  unfold partF at h1
  have h2 : ((x.take (p + 1)).drop (p + 0))[0]? = some k := by rw [h1]; rfl
  rw [List.getElem?_drop, List.getElem?_take_of_lt (by omega)] at h2
  simpa using h2
/-! ### Options whose bytes lie in J -/
def OptE (J : Nat → Prop) (W : World) : List (UInt8 × Value) → List (UInt8 × By) → Prop
  | [], [] => True
  | p :: us, q :: L => (p.1 = q.1 ∧ Sl8 W J p.2 q.2) ∧ OptE J W us L
  | _, _ => False
section
variable {J : Nat → Prop} {W W' : World}
theorem OptE.len : ∀ {us : List (UInt8 × Value)} {L : List (UInt8 × By)}, OptE J W us L → us.length = L.length
  | [], [], _ => rfl
  | _ :: _, _ :: _, h => by simp [OptE.len h.2]
  | [], _ :: _, h => h.elim
  | _ :: _, [], h => h.elim
theorem OptE.keep (hs : Same J W W') : ∀ {us : List (UInt8 × Value)} {L : List (UInt8 × By)}, OptE J W us L → OptE J W' us L
  | [], [], _ => trivial
  | _ :: _, _ :: _, h => ⟨⟨h.1.1, h.1.2.keep hs⟩, OptE.keep hs h.2⟩
  | [], _ :: _, h => h.elim
  | _ :: _, [], h => h.elim
theorem OptE.mono {J2 : Nat → Prop} (hj : ∀ k, J k → J2 k) : ∀ {us : List (UInt8 × Value)} {L : List (UInt8 × By)}, OptE J W us L → OptE J2 W us L
  | [], [], _ => trivial
  | _ :: _, _ :: _, h => ⟨⟨h.1.1, h.1.2.mono hj⟩, OptE.mono hj h.2⟩
  | [], _ :: _, h => h.elim
  | _ :: _, [], h => h.elim
theorem OptE.snoc {p : UInt8 × Value} {q : UInt8 × By} (h1 : p.1 = q.1) (h2 : Sl8 W J p.2 q.2) : ∀ {us : List (UInt8 × Value)} {L : List (UInt8 × By)}, OptE J W us L → OptE J W (us ++ [p]) (L ++ [q])
  | [], [], _ => ⟨⟨h1, h2⟩, trivial⟩
  | _ :: _, _ :: _, h => ⟨h.1, OptE.snoc h1 h2 h.2⟩
  | [], _ :: _, h => h.elim
  | _ :: _, [], h => h.elim
theorem OptE.get : ∀ {us : List (UInt8 × Value)} {L : List (UInt8 × By)} {i : Nat} {q : UInt8 × By}, OptE J W us L → L[i]? = some q → ∃ u, us[i]? = some (q.1, u) ∧ Sl8 W J u q.2
  | p :: _, t :: _, 0, q, h, e => by
    obtain rfl : t = q := by simpa using e
    obtain ⟨⟨h1, h2⟩, _⟩ := h
    exact ⟨p.2, by rw [← h1]; rfl, h2⟩
  | _ :: us, _ :: L, i + 1, q, h, e => by
    have := OptE.get (i := i) h.2 (by simpa using e)
    simpa using this
  | [], [], _, _, _, e => by cases e
  | [], _ :: _, _, _, h, _ => h.elim
  | _ :: _, [], _, _, h, _ => h.elim
end
/-- v reads as the options L, all in J. -/
def OptV (W : World) (J : Nat → Prop) (v : Value) (L : List (UInt8 × By)) : Prop := ∃ A c us, v = .slice A L.length c ∧ Reads W J 2 A L.length (us.flatMap optC) ∧ OptE J W us L
theorem OptV.keep {W W' : World} {J : Nat → Prop} {v : Value} {L : List (UInt8 × By)} (h : OptV W J v L) (hs : Same J W W') : OptV W' J v L := by
  obtain ⟨A, c, us, rfl, h1, h2⟩ := h
  exact ⟨A, c, us, rfl, h1.keep hs, h2.keep hs⟩
theorem partC_get {L : List (Nat × Nat)} {i : Nat} {p : Nat × Nat} (h : L[i]? = some p) : (L.flatMap partC)[i * 2]? = some (.int .i64 (p.1 : Int)) ∧ (L.flatMap partC)[i * 2 + 1]? = some (.int .i64 (p.2 : Int)) := by
  induction L generalizing i with
  | nil => cases h
  | cons q us ih =>
    cases i with
    | zero =>
      obtain rfl : q = p := by simpa using h
      exact ⟨rfl, rfl⟩
    | succ i =>
      have := ih (i := i) (by simpa using h)
      rw [List.flatMap_cons, show (i + 1) * 2 = (i * 2) + 2 by omega]
      exact this
/-- The cells of part i, in every world that is as W below D. -/
theorem part_cells {B D : Nat} {W : World} {gp cp n : Nat} {L : List (Nat × Nat)} (h : PartR B W (.slice (some ⟨gp, 0, none⟩) n cp) L) {i : Nat} {p : Nat × Nat} (hp : L[i]? = some p) (hD : W.heap.size ≤ D) {wx : World} (hx : Below D W wx) :
    wx.cell? ⟨gp, i * 2, none⟩ = some (.int .i64 (p.1 : Int)) ∧ wx.cell? ⟨gp, i * 2 + 1, none⟩ = some (.int .i64 (p.2 : Int)) := by
  obtain ⟨h0, h1⟩ := partC_get hp
  have hc := h.cells (g := gp) rfl
  have hlt := (own_lt h (g := gp) rfl).2
  have e : ∀ j, (⟨gp, 0, none⟩ : Addr).add j = ⟨gp, j, none⟩ := fun j => by rw [add_off, Nat.zero_add]
  refine ⟨(hx.cell (p := ⟨gp, i * 2, none⟩) (by show gp < D; omega)).trans ?_, (hx.cell (p := ⟨gp, i * 2 + 1, none⟩) (by show gp < D; omega)).trans ?_⟩
  · rw [← e]; exact hc _ _ h0
  · rw [← e]; exact hc _ _ h1

/-! ### The walk -/
end Go.Proofs.Ytihfihehiifdkaa
