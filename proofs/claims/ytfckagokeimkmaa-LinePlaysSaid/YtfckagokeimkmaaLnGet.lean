/- Contracts of (*Line).Get, Copy. -/
import Derived.Test.YtfckagokeimkmaaLn
namespace Go.Proofs.Ytfckagokeimkmaa
open Go.RowKit

theorem IsLine.xs_cons {w : World} {I : Nat → Prop} : ∀ {us : List Value} {x : List UInt8} {xs : List (List UInt8)}, Items w I us (x :: xs) → ∃ u vs, us = u :: vs ∧ (w.ownsRow 0 5 1 u x.length (bytesV x) ∧ ∀ g, u.ownBlock = some g → I g) ∧ Items w I vs xs
  | u :: us, _, _, h => ⟨u, us, rfl, h.1, h.2⟩
  | [], _, _, h => h.elim

set_option maxHeartbeats 1000000 in
theorem get_no (M I : Nat → Prop) (b : Nat) (most dropped : Int) (w : World) (h : IsLine w M I b most dropped []) :
    Calls Try.prog 11 #[.pointer (some ⟨b, 0, none⟩)] w fun e w' => e = .returned (.tuple #[.slice none 0 0, .bool false]) ∧ w = w' := by
  obtain ⟨v, us, h1, h2, h3, h4⟩ := h.ex
  have hlen := h3.len
  obtain rfl : us = [] := List.eq_nil_of_length_eq_zero hlen
  obtain ⟨A1, c1, rfl, _⟩ := own_form h2
  have hT := there_any b _ _ _ w h1
  have HT := Lib.hid hT
  have hc1 : w.cell? ⟨b, 1, none⟩ = some (.slice A1 0 c1) := h1.cell 1
  clear hT h h1 h2 h3 h4 hlen
  go_enter Try.func11, Try.ntmps11
  go_wp2_with (go_at_call 21; refine (HT.out).mono ?_; rintro e w' ⟨rfl, rfl⟩)
  go_ret2
  exact ⟨rfl, rfl⟩

theorem get_close {M I : Nat → Prop} {b : Nat} {most dropped : Int} {x : List UInt8} {xs : List (List UInt8)} {w w1 : World} {u v A2v : Value} {vs : List Value} (h : IsLine w M I b most dropped (x :: xs))
    (hu : w.ownsRow 0 5 1 u x.length (bytesV x) ∧ ∀ g, u.ownBlock = some g → I g) (h5 : Items w I vs xs)
    (hk1 : Blk w1 b 52 #[.int .i64 most, v, .int .i64 dropped, .bool true]) (hown1 : w1.ownsRow w.heap.size 30 1 A2v vs.length vs) (hb1 : Below w.heap.size w w1) :
    ∃ u2 M2, Ending.returned (.tuple #[u, .bool true]) = .returned (.tuple #[u2, .bool true]) ∧ ((w1.setCell ⟨b, 1, none⟩ A2v).ownsRow 0 5 1 u2 x.length (bytesV x) ∧ ∀ g, u2.ownBlock = some g → I g) ∧ IsLine (w1.setCell ⟨b, 1, none⟩ A2v) M2 I b most dropped xs ∧ LineUpd w (w1.setCell ⟨b, 1, none⟩ A2v) M M2 I I := by
  have hlt : b < w.heap.size := h.ltM b h.mb
  have u1 : Upd M w w1 := Upd.ofBelow hb1 M
  have u2 : Upd M w (w1.setCell ⟨b, 1, none⟩ A2v) := u1.setCell (p := ⟨b, 1, none⟩) (.inl h.mb) _
  have hI := u2.same h.dis
  refine ⟨u, fun k => k = b ∨ A2v.ownBlock = some k, rfl, ⟨own_keep hu.1 hI hu.2, hu.2⟩, ⟨⟨A2v, vs, by simpa using hk1.set_ 1 A2v, ?_, h5.keep hI, fun g hg => .inr hg⟩, .inl rfl, ?_, ?_, fun k hk => Nat.lt_of_lt_of_le (h.ltI k hk) u2.size⟩, u2, ?_, fun k => .inl⟩
  · exact own_keep (I := fun k => k ≠ b) (own_base hown1 (Nat.zero_le _)) ((upd_set w1 b 1 _).same fun k (hk : k = b) hn => hn hk) fun g hg e => by have := own_lt hown1 hg; omega
  · rintro k (rfl | hk) hi
    · exact h.dis _ h.mb hi
    · have := own_lt hown1 hk
      have := h.ltI _ hi
      omega
  · rintro k (rfl | hk)
    · exact Nat.lt_of_lt_of_le hlt u2.size
    · have := (own_lt hown1 hk).2
      simpa [World.setCell] using this
  · rintro k (rfl | hk)
    · exact .inl h.mb
    · exact .inr (own_lt hown1 hk).1

set_option maxHeartbeats 2000000 in
theorem get_yes (M I : Nat → Prop) (b : Nat) (most dropped : Int) (x : List UInt8) (xs : List (List UInt8)) (w : World) (h : IsLine w M I b most dropped (x :: xs)) (hl : xs.length < 1000000) :
    Calls Try.prog 11 #[.pointer (some ⟨b, 0, none⟩)] w fun e w' => ∃ u M2, e = .returned (.tuple #[u, .bool true]) ∧ (w'.ownsRow 0 5 1 u x.length (bytesV x) ∧ ∀ g, u.ownBlock = some g → I g) ∧ IsLine w' M2 I b most dropped xs ∧ LineUpd w w' M M2 I I := by
  obtain ⟨v, us, h1, h2, h3, h4⟩ := h.ex
  have hlen := h3.len
  obtain ⟨u, vs, rfl, hu, h5⟩ := IsLine.xs_cons h3
  obtain ⟨g1, c1, rfl, hA1⟩ := own_form1 h2 (by simp)
  obtain ⟨Au, cu, rfl, _⟩ := own_form hu.1
  have hT := there_any b _ _ _ w h1
  have HT := Lib.hid hT
  have hvl : vs.length < 1000000 := by simp at hlen; omega
  have hrd : Reads w M 1 (some ⟨g1, 0, none⟩) (vs.length + 1) (.slice Au x.length cu :: vs) := Reads.of_own h2 h4
  have hcells := h2.cells (g := g1) rfl
  have hc1 : w.cell? ⟨b, 1, none⟩ = some (.slice (some ⟨g1, 0, none⟩) (vs.length + 1) c1) := h1.cell 1
  have hf1 : w.frozen? ⟨b, 1, none⟩ = false := h1.frozen 1
  have hc0 : w.cell? ⟨g1, 0, none⟩ = some (.slice Au x.length cu) := by have := hcells 0 _ rfl; simpa [Addr.add] using this
  have hcut1 : Reads w M 1 (some ⟨g1, 1, none⟩) vs.length vs := by
    refine ⟨by simp, fun hn => ⟨_, rfl, h4 g1 rfl, (own_lt h2 rfl).2, fun j u hu => ?_⟩⟩
    have := hcells (j + 1) u (by simpa using hu)
    rw [← this, add_off, add_off]
    congr 2
    omega
  have hcut0 : c1 = 1 → Reads w M 1 (some ⟨g1, 0, none⟩) vs.length vs := fun e => by
    have h0 : vs.length = 0 := by simp at hA1; omega
    exact ⟨by simp, fun hn => by omega⟩
  have hC := fun c => cloneS_any _ vs.length c vs M w hcut1 (h5.one) (by omega)
  have hC0 := fun e c => cloneS_any _ vs.length c vs M w (hcut0 e) (h5.one) (by omega)
  have HC0 := Lib.hid hC0
  have HC := Lib.hid hC
  have H := Lib.hid h
  have H1 := Lib.hid h1
  have H2 := Lib.hid h2
  have hA1' : vs.length + 1 ≤ c1 := by simpa using hA1
  have hb0 : (((vs.length : Nat) : Int) + 1 == 0) = false := by simp; omega
  have HU := Lib.hid hu
  have H5 := Lib.hid h5
  clear hC hC0 hcut0 hcut1 hT h h1 h2 h3 h4 hlen hrd hcells hu h5 hA1
  go_enter Try.func11, Try.ntmps11
  go_wp2_with (go_at_call 21; refine (HT.out).mono ?_; rintro e w' ⟨rfl, rfl⟩)
  case inl =>
    refine (HC0.out (by assumption) _).mono ?_
    rintro e w1 ⟨v1, rfl, hown1, hb1⟩
    have hk1 := Blk.later H1.out hb1 rfl
    have hcc1 : w1.cell? ⟨b, 1, none⟩ = some (.slice (some ⟨g1, 0, none⟩) (vs.length + 1) c1) := hk1.cell 1
    have hff1 : w1.frozen? ⟨b, 1, none⟩ = false := hk1.frozen 1
    obtain ⟨A2, c2, rfl, _⟩ := own_form hown1
    go_wp2
    go_ret2
    exact get_close H.out HU.out H5.out hk1 hown1 hb1
  case inr =>
    refine (HC.out _).mono ?_
    rintro e w1 ⟨v1, rfl, hown1, hb1⟩
    have hk1 := Blk.later H1.out hb1 rfl
    have hcc1 : w1.cell? ⟨b, 1, none⟩ = some (.slice (some ⟨g1, 0, none⟩) (vs.length + 1) c1) := hk1.cell 1
    have hff1 : w1.frozen? ⟨b, 1, none⟩ = false := hk1.frozen 1
    obtain ⟨A2, c2, rfl, _⟩ := own_form hown1
    go_wp2
    go_ret2
    exact get_close H.out HU.out H5.out hk1 hown1 hb1
end Go.Proofs.Ytfckagokeimkmaa
