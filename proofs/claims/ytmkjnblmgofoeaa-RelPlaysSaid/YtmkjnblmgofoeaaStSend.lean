/- Contract of (*Stream).Send. -/
import Derived.Test.YtmkjnblmgofoeaaSt
namespace Go.Proofs.Ytmkjnblmgofoeaa
open Go.RowKit

/-- What an act leaves: the stream's blocks, and the world. -/
structure StrUpd (w w2 : World) (M M2 I I2 : Nat → Prop) : Prop where
  upd : Upd M w w2
  m : ∀ k, M2 k → M k ∨ w.heap.size ≤ k
  i : ∀ k, I2 k → I k ∨ w.heap.size ≤ k

theorem send_close {M I : Nat → Prop} {b : Nat} {s : SS} {x : List UInt8} {w wq w1 w2 : World} {us : List Value} {A1 Av A2 : Option Addr} {c1 cv c2 : Nat} (h : IsStr w M I b s)
    (h1 : Blk w b 63 (strC s (.slice A1 us.length c1))) (h2 : w.ownsRow 0 29 1 (.slice A1 us.length c1) us.length us) (h3 : Items w I us s.xs) (h4 : ∀ g, (Value.slice A1 us.length c1).ownBlock = some g → M g)
    (he : wq.heap = w.heap) (ht : wq.tape = w.tape ∧ wq.os = w.os ∧ wq.output = w.output) (hb1 : Below wq.heap.size wq w1) (hown1 : w1.ownsRow wq.heap.size 5 1 (.slice Av x.length cv) x.length (bytesV x))
    (hk2 : Blk w2 b 63 (strC s (.slice A1 us.length c1)))
    (hg2 : (w1.alloc (.cells #[.slice Av x.length cv] 29)).grownBy w2 (Value.slice A1 us.length c1).ownBlock)
    (hown2 : w2.ownsRow 0 29 1 (.slice A2 (us.length + 1) c2) (us.length + 1) (us ++ [.slice Av x.length cv]))
    (hat2 : (Value.slice A2 (us.length + 1) c2).ownBlock = (Value.slice A1 us.length c1).ownBlock ∨ (Value.slice A2 (us.length + 1) c2).ownBlock = some (w1.alloc (.cells #[.slice Av x.length cv] 29)).heap.size) :
    ∃ M2 I2, IsStr (w2.setCell ⟨b, 2, none⟩ (.slice A2 (us.length + 1) c2)) M2 I2 b { s with xs := s.xs ++ [x] } ∧ StrUpd w (w2.setCell ⟨b, 2, none⟩ (.slice A2 (us.length + 1) c2)) M M2 I I2 := by
  have hlt := h1.lt
  have hsz : w.heap.size ≤ w1.heap.size := by rw [← he]; exact hb1.size
  have hsa : (w1.alloc (.cells #[.slice Av x.length cv] 29)).heap.size = w1.heap.size + 1 := by simp
  have hsz2 : w1.heap.size + 1 ≤ w2.heap.size := by rw [← hsa]; exact hg2.size
  have hA1 : ∀ g, (Value.slice A1 us.length c1).ownBlock = some g → g < w.heap.size := fun g hg => (own_lt h2 hg).2
  have hAv : ∀ g, (Value.slice Av x.length cv).ownBlock = some g → w.heap.size ≤ g ∧ g < w1.heap.size := fun g hg => by have := own_lt hown1 hg; rw [he] at this; exact this
  have hA2 : ∀ g, (Value.slice A2 (us.length + 1) c2).ownBlock = some g → (M g ∧ g < w.heap.size) ∨ g = w1.heap.size + 1 := fun g hg => by
    rcases hat2 with e | e
    · rw [e] at hg; exact .inl ⟨h4 g hg, hA1 g hg⟩
    · rw [e, hsa] at hg; injection hg with hg; exact .inr hg.symm
  have hne2 : (Value.slice A2 (us.length + 1) c2).ownBlock ≠ some b := own_blk_ne hown2 hk2 (by decide)
  have u1 : Upd M w w1 := ⟨hb1.os.trans ht.2.1, hb1.tape.trans ht.1, hb1.output.trans ht.2.2, hsz, fun k hk _ => by rw [hb1.block k (by rw [he]; exact hk), he]⟩
  have u2 : Upd M w w2 := (u1.alloc _).grown hg2 fun k hk => .inl (h4 k hk)
  have u3 : Upd M w (w2.setCell ⟨b, 2, none⟩ (.slice A2 (us.length + 1) c2)) := u2.setCell (p := ⟨b, 2, none⟩) (.inl h.mb) _
  refine ⟨fun k => k = b ∨ (Value.slice A2 (us.length + 1) c2).ownBlock = some k, fun k => I k ∨ (Value.slice Av x.length cv).ownBlock = some k, ⟨⟨.slice A2 (us.length + 1) c2, us ++ [.slice Av x.length cv], ?_, ?_, ?_, fun g hg => .inr hg⟩, .inl rfl, ?_, ?_, ?_⟩, u3, ?_, ?_⟩
  · have := hk2.set_ 2 (.slice A2 (us.length + 1) c2)
    simpa [strC] using this
  · rw [List.length_append, List.length_singleton]
    exact own_keep (I := fun k => k ≠ b) hown2 ((upd_set w2 b 2 _).same fun k (hk : k = b) hn => hn hk) fun g hg e => hne2 (e ▸ hg)
  · refine Items.snoc ?_ (fun g hg => .inr hg) ((h3.keep (u3.same h.dis)).mono fun k => .inl)
    refine own_keep (I := fun k => w.heap.size ≤ k ∧ k < w1.heap.size) (own_base hown1 (Nat.zero_le _)) ?_ (fun g hg => hAv g hg)
    refine ⟨by simp only [World.setCell, Array.size_modify]; omega, fun k hk hk1 => ?_⟩
    rw [Below.heap_setCell _ _ _ _ (by show k ≠ b; omega), hg2.block k (by omega) (fun e => by have := hA1 k e.symm; omega)]
    exact Below.heap_alloc _ _ _ hk1
  · rintro k (rfl | hk) (hi | hi)
    · exact h.dis _ h.mb hi
    · have := hAv _ hi; omega
    · rcases hA2 k hk with e | e
      · exact h.dis _ e.1 hi
      · have := h.ltI _ hi; omega
    · have := hAv _ hi
      rcases hA2 k hk with e | e <;> omega
  · rintro k (rfl | hk)
    · exact Nat.lt_of_lt_of_le hlt u3.size
    · have := (own_lt hown2 hk).2
      simpa [World.setCell] using this
  · rintro k (hk | hk)
    · exact Nat.lt_of_lt_of_le (h.ltI k hk) u3.size
    · have := hAv k hk
      simp only [World.setCell, Array.size_modify]
      omega
  · rintro k (rfl | hk)
    · exact .inl h.mb
    · rcases hA2 k hk with e | e
      · exact .inl e.1
      · exact .inr (by omega)
  · rintro k (hk | hk)
    · exact .inl hk
    · exact .inr (hAv k hk).1

theorem send_long (b : Nat) (s : SS) (v : Value) (A : Option Addr) (n c : Nat) (w : World) (h : Blk w b 63 (strC s v)) (ha : 1 ≤ s.again) (hn : 1024 < n) :
    Calls Try.prog 13 #[.pointer (some ⟨b, 0, none⟩), .slice A n c] w fun e w' => e = .returned (.tuple #[.int .u64 0, .int .i64 3]) ∧ w = w' := by
  have HT := Lib.hid (there_any b s _ w h ha)
  clear h
  go_enter Try.func13, Try.ntmps13
  go_wp2_with (go_at_call 24; refine (HT.out).mono ?_; rintro e w' ⟨rfl, rfl⟩)
  go_ret2
  exact ⟨rfl, rfl⟩

set_option maxHeartbeats 2000000 in
theorem send_yes (M I : Nat → Prop) (b : Nat) (s : SS) (J : Nat → Prop) (A : Option Addr) (x : List UInt8) (c : Nat) (w : World) (h : IsStr w M I b s) (ok : s.ok)
    (hx : Reads w J 1 A x.length (bytesV x)) (hn : x.length ≤ 1024) :
    Calls Try.prog 13 #[.pointer (some ⟨b, 0, none⟩), .slice A x.length c] w fun e w' => e = .returned (.tuple #[.int .u64 ((s.acked + (s.xs.length + 1) : Nat) : Int), .int .i64 0]) ∧
      ∃ M2 I2, IsStr w' M2 I2 b { s with xs := s.xs ++ [x] } ∧ StrUpd w w' M M2 I I2 := by
  obtain ⟨o1, o2, o3, o4, o5, o6, o7, o8⟩ := ok
  obtain ⟨v, us, h1, h2, h3, h4⟩ := h.ex
  have hlen := h3.len
  obtain ⟨A1, c1, rfl, _⟩ := own_form h2
  have HT := Lib.hid (there_any b s _ w h1 o1)
  have hc1 : w.cell? ⟨b, 1, none⟩ = some (.int .u64 s.acked) := h1.cell 1
  have hc2 : w.cell? ⟨b, 2, none⟩ = some (.slice A1 us.length c1) := h1.cell 2
  have hf2 : w.frozen? ⟨b, 2, none⟩ = false := h1.frozen 2
  have hul : us.length ≤ 60000 := by omega
  have hD : decide ((65536 : Int) ≤ ((us.length : Nat) : Int)) = false := decide_eq_false (by omega)
  obtain ⟨i0, hi, hz0, hz1, hz2⟩ := info_parts info_sl8
  have hxq := fun (wq : World) (e : wq.heap = w.heap) => clone8_any A x.length c (bytesV x) J wq (hx.keep (Same.ofHeap J e)) (bytesV_one x) (by omega)
  have HC := Lib.hid hxq
  have H := Lib.hid h
  have H1 := Lib.hid h1
  have H2 := Lib.hid h2
  have HL := Lib.hid hlen
  have H4 := Lib.hid h4
  have hne : 29 ≠ 63 := by decide
  have hmx : us.length + 1 ≤ maxLen := by unfold maxLen; omega
  have hmb : (us.length + 1) * 24 ≤ 140737488355328 := by omega
  clear hxq h h1 h2 h4 hlen hx
  go_enter Try.func13, Try.ntmps13
  go_wp2_with (go_at_call 24; refine (HT.out).mono ?_; rintro e w' ⟨rfl, rfl⟩)
  go_region_law (first
    | (go_simp; go_at_call 26; refine (HC.out _ (by rfl)).mono ?_; rintro e w1 ⟨v1, rfl, hown1, hb1⟩; have ho1 := own_later H2.out hb1 (by rfl); have hk1 := Blk.later H1.out hb1 (by rfl); have hcc1 : w1.cell? ⟨b, 2, none⟩ = some (.slice A1 us.length c1) := hk1.cell 2; have hcc3 : ∀ o, (w1.alloc o).cell? ⟨b, 2, none⟩ = some (.slice A1 us.length c1) := (fun o => (hk1.alloc o).cell 2); obtain ⟨Av, cv, rfl, _⟩ := own_form hown1; have hv1 : ∀ u ∈ [Value.slice Av x.length cv], u.oneCell' = true := (by simp [Value.oneCell']))
    | (refine step_append_any _ (by rfl) (.tmp 25) (.tmp 28) 53 (by rfl) 0 29 i0 _ 1 24 Try.underlying53 hi hz0 hz1 hz2 rfl Nat.one_pos (.slice A1 us.length c1) us.length us (by rfl) (ho1.alloc _) (fun _ => True) (some ⟨w1.heap.size, 0, none⟩) 1 1 [.slice Av x.length cv] (by rfl) (reads_new _ _ _) hv1 hmx hmb (Nat.zero_le _) ?_; intro v2 w2 hown2 hg2 hat2; have hk2 := blk_append hk1 ho1 hg2 hne; have hcc2 : w2.cell? ⟨b, 2, none⟩ = some (.slice A1 us.length c1) := hk2.cell 2; have hca2 : w2.cell? ⟨b, 1, none⟩ = some (.int .u64 s.acked) := hk2.cell 1; have hff2 : w2.frozen? ⟨b, 2, none⟩ = false := hk2.frozen 2; obtain ⟨A2, c2, rfl, _⟩ := own_form hown2))
  all_goals
    go_wp2
    go_quiet (fail)
    go_wp2
    go_ret2
    obtain ⟨M2, I2, hs2, hu2⟩ := send_close H.out H1.out H2.out h3 H4.out (wq := w.drewN 1) rfl ⟨rfl, rfl, rfl⟩ hb1 hown1 hk2 hg2 hown2 hat2
    refine ⟨?_, M2, I2, hs2.keep (Same.ofHeap _ rfl), hu2.upd.drewN _, hu2.m, hu2.i⟩
    rw [show ((s.acked + (s.xs.length + 1) : Nat) : Int) = (s.acked : Int) + ((us.length : Int) + 1) from by have := HL.out; omega]
    rfl
end Go.Proofs.Ytmkjnblmgofoeaa
