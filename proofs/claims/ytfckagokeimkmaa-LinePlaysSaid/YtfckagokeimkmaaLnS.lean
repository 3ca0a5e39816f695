/- The line's contracts, as the laws use them: what lies from block B on. -/
import Derived.Test.YtfckagokeimkmaaLnPut
import Derived.Test.YtfckagokeimkmaaLnGet
namespace Go.Proofs.Ytfckagokeimkmaa
open Go.RowKit

/-- Block b is a line; all that it has lies from block B on. -/
def LineS (B : Nat) (w : World) (b : Nat) (most dropped : Int) (xs : List (List UInt8)) : Prop :=
  ∃ M I, IsLine w M I b most dropped xs ∧ ∀ k, M k ∨ I k → B ≤ k

theorem LineS.later {B : Nat} {w w2 : World} {b : Nat} {most dropped : Int} {xs : List (List UInt8)} (h : LineS B w b most dropped xs) (hb : Below w.heap.size w w2) : LineS B w2 b most dropped xs := by
  obtain ⟨M, I, hl, hB⟩ := h
  exact ⟨M, I, hl.keep (Same.ofBelow hb fun k hk => hk.elim (hl.ltM k) (hl.ltI k)), hB⟩
theorem LineS.heap {B : Nat} {w w2 : World} {b : Nat} {most dropped : Int} {xs : List (List UInt8)} (h : LineS B w b most dropped xs) (e : w2.heap = w.heap) : LineS B w2 b most dropped xs := by
  obtain ⟨M, I, hl, hB⟩ := h
  exact ⟨M, I, hl.keep (Same.ofHeap _ e), hB⟩
theorem LineS.blk {B : Nat} {w : World} {b : Nat} {most dropped : Int} {xs : List (List UInt8)} (h : LineS B w b most dropped xs) : ∃ A c, Blk w b 52 #[.int .i64 most, .slice A xs.length c, .int .i64 dropped, .bool true] := by
  obtain ⟨M, I, hl, _⟩ := h
  obtain ⟨v, us, h1, h2, h3, _⟩ := hl.ex
  obtain ⟨A, c, rfl, _⟩ := own_form h2
  rw [h3.len] at h1
  exact ⟨A, c, h1⟩
theorem line_new {w : World} (most : Int) : LineS w.heap.size (w.alloc (.cells #[.int .i64 most, .slice none 0 0, .int .i64 0, .bool true] 52)) w.heap.size most 0 [] :=
  ⟨only w.heap.size, fun _ => False, ⟨⟨.slice none 0 0, [], Blk.new _ _ _, World.ownsRow_nil _ _ _ _, trivial, fun g hg => by cases hg⟩, rfl, fun _ _ h => h, fun k (hk : k = _) => by simp [hk], fun _ h => h.elim⟩,
    fun k hk => by rcases hk with hk | hk
                   · exact Nat.le_of_eq (Eq.symm hk)
                   · exact hk.elim⟩

section
variable {B : Nat} {w : World} {b : Nat} {most dropped : Int} {xs : List (List UInt8)}
theorem newln_s (most : Int) (w : World) (o1 : 0 ≤ most) (o2 : most ≤ 64) :
    Calls Try.prog 9 #[.int .i64 most] w fun e w' => e = .returned (.tuple #[.pointer (some ⟨w.heap.size, 0, none⟩), .int .i64 0]) ∧ LineS w.heap.size w' w.heap.size most 0 [] ∧ Below w.heap.size w w' :=
  (newln_yes most w o1 o2).mono fun e w' ⟨he, hw⟩ => ⟨he, by rw [hw]; exact line_new most, by rw [hw]; exact (Below.refl _ _).alloc (Nat.le_refl _) _⟩

theorem len_s (h : LineS B w b most dropped xs) :
    Calls Try.prog 19 #[.pointer (some ⟨b, 0, none⟩)] w fun e w' => e = .returned (.int .i64 xs.length) ∧ w = w' := by
  obtain ⟨A, c, h1⟩ := h.blk
  exact len_any b A xs.length c _ _ w h1

theorem dropped_s (h : LineS B w b most dropped xs) :
    Calls Try.prog 12 #[.pointer (some ⟨b, 0, none⟩)] w fun e w' => e = .returned (.int .i64 dropped) ∧ w = w' := by
  obtain ⟨A, c, h1⟩ := h.blk
  exact dropped_any b dropped _ _ w h1

/-- What Put answers. -/
def putE (most : Int) (xs : List (List UInt8)) (x : List UInt8) : Int := if 2048 < x.length then 3 else if most ≤ xs.length then 5 else 0
def putX (most : Int) (xs : List (List UInt8)) (x : List UInt8) : List (List UInt8) := if putE most xs x = 0 then xs ++ [x] else xs
def putD (most dropped : Int) (xs : List (List UInt8)) (x : List UInt8) : Int := if putE most xs x = 5 then dropped + 1 else dropped

theorem put_s (h : LineS B w b most dropped xs) (J : Nat → Prop) (A : Option Addr) (x : List UInt8) (c : Nat) (hx : Reads w J 1 A x.length (bytesV x)) (hm : most ≤ 64) (hl : xs.length ≤ 64) (hd : 0 ≤ dropped) (hd2 : dropped < 1000000) (hB : B ≤ w.heap.size) :
    Calls Try.prog 10 #[.pointer (some ⟨b, 0, none⟩), .slice A x.length c] w fun e w' => e = .returned (.int .i64 (putE most xs x)) ∧ LineS B w' b most (putD most dropped xs x) (putX most xs x) ∧ Below B w w' := by
  obtain ⟨M, I, hl0, hMI⟩ := id h
  by_cases h1 : 2048 < x.length
  · obtain ⟨A1, c1, hk⟩ := h.blk
    refine (put_long b _ _ _ A x.length c w hk h1).mono fun e w' ⟨he, hw⟩ => ?_
    subst hw
    have e1 : putE most xs x = 3 := by simp [putE, h1]
    have e2 : putX most xs x = xs := by simp [putX, e1]
    have e3 : putD most dropped xs x = dropped := by simp [putD, e1]
    rw [e1, e2, e3]
    exact ⟨he, h, Below.refl _ _⟩
  · by_cases h2 : most ≤ xs.length
    · refine (put_full M I b most dropped xs A x.length c w hl0 (by omega) h2 hd hd2 (by omega)).mono fun e w' ⟨he, hw, hu⟩ => ?_
      have e1 : putE most xs x = 5 := by simp [putE, h1, h2]
      have e2 : putX most xs x = xs := by simp [putX, e1]
      have e3 : putD most dropped xs x = dropped + 1 := by simp [putD, e1]
      rw [e1, e2, e3]
      exact ⟨he, ⟨M, I, hw, hMI⟩, hu.below (fun k (hk : k = b) => hk ▸ hMI b (.inl hl0.mb)) hB⟩
    · refine (put_yes M I b most dropped xs J A x c w hl0 hx (by omega) (by omega) hm).mono fun e w' ⟨he, M2, I2, hw, hu⟩ => ?_
      have e1 : putE most xs x = 0 := by simp [putE, h1, h2]
      have e2 : putX most xs x = xs ++ [x] := by simp [putX, e1]
      have e3 : putD most dropped xs x = dropped := by simp [putD, e1]
      rw [e1, e2, e3]
      refine ⟨he, ⟨M2, I2, hw, ?_⟩, hu.upd.below (fun k hk => hMI k (.inl hk)) hB⟩
      rintro k (hk | hk)
      · rcases hu.m k hk with hk | hk
        · exact hMI k (.inl hk)
        · omega
      · rcases hu.i k hk with hk | hk
        · exact hMI k (.inr hk)
        · omega

theorem get_s_no (h : LineS B w b most dropped []) :
    Calls Try.prog 11 #[.pointer (some ⟨b, 0, none⟩)] w fun e w' => e = .returned (.tuple #[.slice none 0 0, .bool false]) ∧ w = w' := by
  obtain ⟨M, I, hl, _⟩ := h
  exact get_no M I b most dropped w hl

theorem get_s_yes {x : List UInt8} (h : LineS B w b most dropped (x :: xs)) (hl : xs.length ≤ 64) (hB : B ≤ w.heap.size) :
    Calls Try.prog 11 #[.pointer (some ⟨b, 0, none⟩)] w fun e w' => ∃ A c, e = .returned (.tuple #[.slice A x.length c, .bool true]) ∧ w'.ownsRow 0 5 1 (.slice A x.length c) x.length (bytesV x) ∧ LineS B w' b most dropped xs ∧ Below B w w' := by
  obtain ⟨M, I, hl0, hMI⟩ := h
  refine (get_yes M I b most dropped x xs w hl0 (by omega)).mono fun e w' ⟨u, M2, he, hu, hw, hup⟩ => ?_
  obtain ⟨A, c, rfl, _⟩ := own_form hu.1
  refine ⟨A, c, he, hu.1, ⟨M2, I, hw, ?_⟩, hup.upd.below (fun k hk => hMI k (.inl hk)) hB⟩
  rintro k (hk | hk)
  · rcases hup.m k hk with hk | hk
    · exact hMI k (.inl hk)
    · omega
  · exact hMI k (.inr hk)
end
end Go.Proofs.Ytfckagokeimkmaa
