/- The line's contracts beside blocks X of the caller's own, and rows of strings. -/
import Derived.Test.YtfckagokeimkmaaLnPut
import Derived.Test.YtfckagokeimkmaaLnGet
import Derived.Test.YtfckagokeimkmaaLnS
namespace Go.Proofs.Ytfckagokeimkmaa
open Go.RowKit

/-- Block b is a line; what it has lies from B on, outside X. -/
def LineX (X : Nat → Prop) (B : Nat) (w : World) (b : Nat) (most dropped : Int) (xs : List (List UInt8)) : Prop :=
  ∃ M I, IsLine w M I b most dropped xs ∧ ∀ k, M k ∨ I k → B ≤ k ∧ ¬ X k

section
variable {X Y : Nat → Prop} {B : Nat} {w w2 : World} {b : Nat} {most dropped : Int} {xs : List (List UInt8)}
theorem LineX.s (h : LineX X B w b most dropped xs) : LineS B w b most dropped xs := by
  obtain ⟨M, I, hl, hB⟩ := h
  exact ⟨M, I, hl, fun k hk => (hB k hk).1⟩
theorem LineX.upd (h : LineX X B w b most dropped xs) (hu : Upd X w w2) : LineX X B w2 b most dropped xs := by
  obtain ⟨M, I, hl, hB⟩ := h
  exact ⟨M, I, hl.keep (hu.same fun k hx hk => (hB k hk).2 hx), hB⟩
theorem LineX.later (h : LineX X B w b most dropped xs) (hb : Below w.heap.size w w2) : LineX X B w2 b most dropped xs := h.upd (Upd.ofBelow hb X)
theorem LineX.swap (h : LineX X B w b most dropped xs) (hY : ∀ k, Y k → X k ∨ w.heap.size ≤ k) : LineX Y B w b most dropped xs := by
  obtain ⟨M, I, hl, hB⟩ := h
  refine ⟨M, I, hl, fun k hk => ⟨(hB k hk).1, fun hy => ?_⟩⟩
  rcases hY k hy with hx | hx
  · exact (hB k hk).2 hx
  · have := hk.elim (hl.ltM k) (hl.ltI k)
    omega
theorem LineX.weaken (h : LineX X B w b most dropped xs) (hY : ∀ k, Y k → X k) : LineX Y B w b most dropped xs := by
  obtain ⟨M, I, hl, hB⟩ := h
  exact ⟨M, I, hl, fun k hk => ⟨(hB k hk).1, fun hy => (hB k hk).2 (hY k hy)⟩⟩
theorem LineS.x (h : LineS B w b most dropped xs) (hX : ∀ k, X k → w.heap.size ≤ k) : LineX X B w b most dropped xs := by
  obtain ⟨M, I, hl, hB⟩ := h
  refine ⟨M, I, hl, fun k hk => ⟨hB k hk, fun hy => ?_⟩⟩
  have := hk.elim (hl.ltM k) (hl.ltI k)
  have := hX k hy
  omega

theorem put_x (h : LineX X B w b most dropped xs) (hX : ∀ k, X k → k < w.heap.size) (J : Nat → Prop) (A : Option Addr) (x : List UInt8) (c : Nat) (hx : Reads w J 1 A x.length (bytesV x)) (hm : most ≤ 64) (hl : xs.length ≤ 64) (hd : 0 ≤ dropped) (hd2 : dropped < 1000000) (hB : B ≤ w.heap.size) :
    Calls Try.prog 10 #[.pointer (some ⟨b, 0, none⟩), .slice A x.length c] w fun e w' => e = .returned (.int .i64 (putE most xs x)) ∧ LineX X B w' b most (putD most dropped xs x) (putX most xs x) ∧ Below B w w' ∧ Same X w w' := by
  obtain ⟨M, I, hl0, hMI⟩ := id h
  by_cases h1 : 2048 < x.length
  · obtain ⟨A1, c1, hk⟩ := h.s.blk
    refine (put_long b _ _ _ A x.length c w hk h1).mono fun e w' ⟨he, hw⟩ => ?_
    subst hw
    have e1 : putE most xs x = 3 := by simp [putE, h1]
    have e2 : putX most xs x = xs := by simp [putX, e1]
    have e3 : putD most dropped xs x = dropped := by simp [putD, e1]
    rw [e1, e2, e3]
    exact ⟨he, h, Below.refl _ _, Same.refl _ _⟩
  · by_cases h2 : most ≤ xs.length
    · refine (put_full M I b most dropped xs A x.length c w hl0 (by omega) h2 hd hd2 (by omega)).mono fun e w' ⟨he, hw, hu⟩ => ?_
      have e1 : putE most xs x = 5 := by simp [putE, h1, h2]
      have e2 : putX most xs x = xs := by simp [putX, e1]
      have e3 : putD most dropped xs x = dropped + 1 := by simp [putD, e1]
      rw [e1, e2, e3]
      exact ⟨he, ⟨M, I, hw, hMI⟩, hu.below (fun k (hk : k = b) => hk ▸ (hMI b (.inl hl0.mb)).1) hB, hu.same fun k (hk : k = b) hx => (hMI b (.inl hl0.mb)).2 (hk ▸ hx)⟩
    · refine (put_yes M I b most dropped xs J A x c w hl0 hx (by omega) (by omega) hm).mono fun e w' ⟨he, M2, I2, hw, hu⟩ => ?_
      have e1 : putE most xs x = 0 := by simp [putE, h1, h2]
      have e2 : putX most xs x = xs ++ [x] := by simp [putX, e1]
      have e3 : putD most dropped xs x = dropped := by simp [putD, e1]
      rw [e1, e2, e3]
      refine ⟨he, ⟨M2, I2, hw, ?_⟩, hu.upd.below (fun k hk => (hMI k (.inl hk)).1) hB, hu.upd.same fun k hk hx => (hMI k (.inl hk)).2 hx⟩
      rintro k (hk | hk)
      · rcases hu.m k hk with hk | hk
        · exact hMI k (.inl hk)
        · exact ⟨by omega, fun hx => by have := hX k hx; omega⟩
      · rcases hu.i k hk with hk | hk
        · exact hMI k (.inr hk)
        · exact ⟨by omega, fun hx => by have := hX k hx; omega⟩

theorem get_x_yes {x : List UInt8} (h : LineX X B w b most dropped (x :: xs)) (hX : ∀ k, X k → k < w.heap.size) (hl : xs.length ≤ 64) (hB : B ≤ w.heap.size) :
    Calls Try.prog 11 #[.pointer (some ⟨b, 0, none⟩)] w fun e w' => ∃ A c, e = .returned (.tuple #[.slice A x.length c, .bool true]) ∧ w'.ownsRow 0 5 1 (.slice A x.length c) x.length (bytesV x) ∧ LineX X B w' b most dropped xs ∧ Below B w w' ∧ Same X w w' := by
  obtain ⟨M, I, hl0, hMI⟩ := h
  refine (get_yes M I b most dropped x xs w hl0 (by omega)).mono fun e w' ⟨u, M2, he, hu, hw, hup⟩ => ?_
  obtain ⟨A, c, rfl, _⟩ := own_form hu.1
  refine ⟨A, c, he, hu.1, ⟨M2, I, hw, ?_⟩, hup.upd.below (fun k hk => (hMI k (.inl hk)).1) hB, hup.upd.same fun k hk hx => (hMI k (.inl hk)).2 hx⟩
  rintro k (hk | hk)
  · rcases hup.m k hk with hk | hk
    · exact hMI k (.inl hk)
    · exact ⟨by omega, fun hx => by have := hX k hx; omega⟩
  · exact hMI k (.inr hk)
end

/-- A string as a value. -/
def strV (x : List UInt8) : Value := .string ⟨x.toArray⟩
theorem info_str : (Try.prog.info? 9).map (fun i => (i.zero, i.size, i.bytes)) = some (some (.string ByteArray.empty), 1, 16) := by kernel_rfl
/-- v is a slice of strings of the call's own. -/
def StrRow (B : Nat) (w : World) (v : Value) (ss : List (List UInt8)) : Prop := w.ownsRow B 9 1 v ss.length (ss.map strV)
theorem StrRow.lt {B : Nat} {w : World} {v : Value} {ss : List (List UInt8)} (h : StrRow B w v ss) {k : Nat} (hk : v.ownBlock = some k) : B ≤ k ∧ k < w.heap.size := own_lt h hk
theorem StrRow.keep {B : Nat} {w w2 : World} {v : Value} {ss : List (List UInt8)} {X : Nat → Prop} (h : StrRow B w v ss) (hs : Same X w w2) (hX : ∀ k, v.ownBlock = some k → X k) : StrRow B w2 v ss := own_keep h hs hX

end Go.Proofs.Ytfckagokeimkmaa
