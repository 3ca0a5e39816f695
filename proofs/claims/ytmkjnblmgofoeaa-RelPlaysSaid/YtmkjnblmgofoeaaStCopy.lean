/- Contract of (*Stream).Copy. -/
import Derived.Test.YtmkjnblmgofoeaaSt
namespace Go.Proofs.Ytmkjnblmgofoeaa
open Go.RowKit

set_option maxHeartbeats 2000000 in
theorem copy_any (M I : Nat → Prop) (b : Nat) (s : SS) (w : World) (h : IsStr w M I b s) (ok : s.ok) :
    Calls Try.prog 18 #[.pointer (some ⟨b, 0, none⟩)] w fun e w' => e = .returned (.pointer (some ⟨w.heap.size, 0, none⟩)) ∧ Below w.heap.size w w' ∧ ∃ M2, IsStr w' M2 I w.heap.size s ∧ ∀ i, M2 i → w.heap.size ≤ i := by
  obtain ⟨o1, o2, o3, o4, o5, o6, o7, o8⟩ := ok
  obtain ⟨v, us, h1, h2, h3, h4⟩ := h.ex
  have hlen := h3.len
  obtain ⟨A1, c1, rfl, _⟩ := own_form h2
  have HT := Lib.hid (there_any b s _ w h1 o1)
  have hc0 : w.cell? ⟨b, 0, none⟩ = some (.int .i64 s.again) := h1.cell 0
  have hc1 : w.cell? ⟨b, 1, none⟩ = some (.int .u64 s.acked) := h1.cell 1
  have hc2 : w.cell? ⟨b, 2, none⟩ = some (.slice A1 us.length c1) := h1.cell 2
  have hc3 : w.cell? ⟨b, 3, none⟩ = some (.int .i64 s.sent) := h1.cell 3
  have hc4 : w.cell? ⟨b, 4, none⟩ = some (.int .u64 s.taken) := h1.cell 4
  have hc5 : w.cell? ⟨b, 5, none⟩ = some (.bool s.owed) := h1.cell 5
  have hc6 : w.cell? ⟨b, 6, none⟩ = some (.int .i64 s.silent) := h1.cell 6
  have hbl := h1.lt
  have H := Lib.hid h
  have H2 := Lib.hid h2
  have H3 := Lib.hid h3
  have HL := Lib.hid hlen
  clear h h1 h2 h3 h4 hlen
  go_enter Try.func18, Try.ntmps18
  go_wp2_with (go_at_call 24; refine (HT.out).mono ?_; rintro e w' ⟨rfl, rfl⟩)
  obtain ⟨w1, hw1⟩ : ∃ w1, w1 = w.alloc (.cells #[.int .i64 s.again, .int .u64 s.acked, .slice A1 us.length c1, .int .i64 s.sent, .int .u64 s.taken, .bool s.owed, .int .i64 s.silent] 63) := ⟨_, rfl⟩
  have hb1 : Below w.heap.size w w1 := by rw [hw1]; exact (Below.refl _ _).alloc (Nat.le_refl _) _
  have hk1 : Blk w1 w.heap.size 63 (strC s (.slice A1 us.length c1)) := by rw [hw1]; exact Blk.new _ _ _
  have hz1 : w1.heap.size = w.heap.size + 1 := by rw [hw1]; simp
  have hrd : Reads w1 (fun _ => True) 1 A1 us.length us := (Reads.of_own (I := fun k => k < w.heap.size) H2.out fun g hg => (own_lt H2.out hg).2).keep (Same.ofBelow hb1 fun _ h => h) |>.mono fun _ _ => trivial
  rw [← hw1]
  clear hw1
  refine (cloneS_any A1 us.length c1 us (fun _ => True) w1 hrd H3.out.one (by have := HL.out; omega)).mono ?_
  rintro e w2 ⟨v2, rfl, hown2, hb2⟩
  obtain ⟨A2, c2, rfl, _⟩ := own_form hown2
  have hk2 : Blk w2 w.heap.size 63 (strC s (.slice A1 us.length c1)) := hk1.later hb2 (by trivial)
  have hcc2 : w2.cell? ⟨w.heap.size, 2, none⟩ = some (.slice A1 us.length c1) := hk2.cell 2
  have hff2 : w2.frozen? ⟨w.heap.size, 2, none⟩ = false := hk2.frozen 2
  have hz2 := hb2.size
  have hu3 : Upd (only w.heap.size) w2 (w2.setCell ⟨w.heap.size, 2, none⟩ (.slice A2 us.length c2)) := upd_set _ _ _ _
  have hb3 : Below w.heap.size w (w2.setCell ⟨w.heap.size, 2, none⟩ (.slice A2 us.length c2)) := (hb1.trans (hb2.mono (by omega))).setCell (p := ⟨w.heap.size, 2, none⟩) (Nat.le_refl _) _
  have hA : ∀ g, (Value.slice A2 us.length c2).ownBlock = some g → w.heap.size < g ∧ g < w2.heap.size := fun g hg => by have := own_lt hown2 hg; omega
  have hs : IsStr (w2.setCell ⟨w.heap.size, 2, none⟩ (.slice A2 us.length c2)) (fun i => i = w.heap.size ∨ (Value.slice A2 us.length c2).ownBlock = some i) I w.heap.size s := by
    refine ⟨⟨_, us, ?_, ?_, H3.out.keep (Same.ofBelow hb3 H.out.ltI), fun g hg => .inr hg⟩, .inl rfl, ?_, ?_, fun k hk => Nat.lt_of_lt_of_le (H.out.ltI k hk) hb3.size⟩
    · have := hk2.set_ 2 (.slice A2 us.length c2)
      simpa [strC] using this
    · exact own_keep (I := fun i => w.heap.size < i) (own_base hown2 (Nat.zero_le _)) (hu3.same fun i (hi : i = w.heap.size) hn => by omega) fun g hg => (hA g hg).1
    · rintro i (rfl | hi) hn
      · exact absurd (H.out.ltI _ hn) (Nat.lt_irrefl _)
      · have := hA i hi
        have := H.out.ltI i hn
        omega
    · rintro i (rfl | hi)
      · exact Nat.lt_of_lt_of_le (by omega) hu3.size
      · exact Nat.lt_of_lt_of_le (hA i hi).2 hu3.size
  have HF := Lib.hid (And.intro hb3 hs)
  clear hb1 hk1 hz1 hrd hown2 hb2 hk2 hu3 hb3 hs
  go_wp2_with fail
  go_ret
  exact ⟨rfl, HF.out.1, _, HF.out.2, fun i hi => hi.elim (fun e => by omega) fun e => by have := hA i e; omega⟩
end Go.Proofs.Ytmkjnblmgofoeaa
