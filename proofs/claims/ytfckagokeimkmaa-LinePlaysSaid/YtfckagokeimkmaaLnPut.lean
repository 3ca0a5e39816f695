/- Contracts of (*Line).Put. -/
import Derived.Test.YtfckagokeimkmaaLn
namespace Go.Proofs.Ytfckagokeimkmaa
open Go.RowKit

theorem put_long (b : Nat) (a1 a2 a3 : Value) (A : Option Addr) (n c : Nat) (w : World) (h : Blk w b 52 #[a1, a2, a3, .bool true]) (hn : 2048 < n) :
    Calls Try.prog 10 #[.pointer (some ⟨b, 0, none⟩), .slice A n c] w fun e w' => e = .returned (.int .i64 3) ∧ w = w' := by
  have hT := there_any b _ _ _ w h
  have HT := Lib.hid hT
  clear h hT
  go_enter Try.func10, Try.ntmps10
  go_wp2_with (go_at_call 21; refine (HT.out).mono ?_; rintro e w' ⟨rfl, rfl⟩)
  go_ret
  exact ⟨rfl, rfl⟩

theorem IsLine.drop_ {w : World} {M I : Nat → Prop} {b : Nat} {most dropped : Int} {xs : List (List UInt8)} (h : IsLine w M I b most dropped xs) (nq : Nat) (d2 : Int) :
    IsLine ((w.drewN nq).setCell ⟨b, 2, none⟩ (.int .i64 d2)) M I b most d2 xs := by
  obtain ⟨v, us, h1, h2, h3, h4⟩ := h.ex
  have hu : Upd (only b) w ((w.drewN nq).setCell ⟨b, 2, none⟩ (.int .i64 d2)) := (((Upd.refl _ _).drewN nq).set_ 2 _)
  have hI : Same I w ((w.drewN nq).setCell ⟨b, 2, none⟩ (.int .i64 d2)) := hu.same fun k (hk : k = b) hi => h.dis k (hk ▸ h.mb) hi
  have hb := (h1.drewN nq).set_ 2 (.int .i64 d2)
  refine ⟨⟨v, us, by simpa using hb, ?_, h3.keep hI, h4⟩, h.mb, h.dis, fun k hm => Nat.lt_of_lt_of_le (h.ltM k hm) hu.size, fun k hm => Nat.lt_of_lt_of_le (h.ltI k hm) hu.size⟩
  refine own_keep (I := fun k => k ≠ b) h2 (hu.same fun k (hk : k = b) hn => hn hk) fun g hg => ?_
  obtain ⟨A, c, rfl, _⟩ := own_form h2
  rcases h2.2 with ⟨e, _⟩ | ⟨g', cap, cur, e, _, hh, _⟩
  · rw [e] at hg; cases hg
  · rw [e] at hg
    injection hg with hg
    rw [← hg]
    exact (Blk.ne_ (t := 30) hh h1 (by decide))

set_option maxHeartbeats 1000000 in
theorem put_full (M I : Nat → Prop) (b : Nat) (most dropped : Int) (xs : List (List UInt8)) (A : Option Addr) (n c : Nat) (w : World) (h : IsLine w M I b most dropped xs) (hn : n ≤ 2048) (hf : most ≤ xs.length) (hd : 0 ≤ dropped) (hd2 : dropped < 1000000) (hl : xs.length < 1000000) :
    Calls Try.prog 10 #[.pointer (some ⟨b, 0, none⟩), .slice A n c] w fun e w' => e = .returned (.int .i64 5) ∧ IsLine w' M I b most (dropped + 1) xs ∧ Upd (only b) w w' := by
  obtain ⟨v, us, h1, h2, h3, h4⟩ := h.ex
  have hlen := h3.len
  obtain ⟨A1, c1, rfl, _⟩ := own_form h2
  have hT := there_any b _ _ _ w h1
  have HT := Lib.hid hT
  have hc0 : w.cell? ⟨b, 0, none⟩ = some (.int .i64 most) := h1.cell 0
  have hc1 : w.cell? ⟨b, 1, none⟩ = some (.slice A1 us.length c1) := h1.cell 1
  have hc2 : w.cell? ⟨b, 2, none⟩ = some (.int .i64 dropped) := h1.cell 2
  have hf2 : w.frozen? ⟨b, 2, none⟩ = false := h1.frozen 2
  have hge : most ≤ (us.length : Int) := by omega
  have hul : us.length < 1000000 := by omega
  have H := Lib.hid h
  clear h hT h1 h2 h3 h4 hlen
  go_enter Try.func10, Try.ntmps10
  go_wp2_with (go_at_call 21; refine (HT.out).mono ?_; rintro e w' ⟨rfl, rfl⟩)
  go_quiet (fail)
  go_wp2
  go_ret
  exact ⟨rfl, H.out.drop_ nq _, (((Upd.refl _ _).drewN nq).set_ 2 _)⟩

/-- What stands behind Put. -/
theorem put_close {M I : Nat → Prop} {b : Nat} {most dropped : Int} {xs : List (List UInt8)} {x : List UInt8} {w wq w1 w2 : World} {us : List Value} {A1 Av A2 : Option Addr} {c1 cv c2 : Nat} (h : IsLine w M I b most dropped xs)
    (h1 : Blk w b 52 #[.int .i64 most, .slice A1 us.length c1, .int .i64 dropped, .bool true]) (h2 : w.ownsRow 0 30 1 (.slice A1 us.length c1) us.length us) (h3 : Items w I us xs) (h4 : ∀ g, (Value.slice A1 us.length c1).ownBlock = some g → M g)
    (he : wq.heap = w.heap) (ht : wq.tape = w.tape ∧ wq.os = w.os ∧ wq.output = w.output) (hb1 : Below wq.heap.size wq w1) (hown1 : w1.ownsRow wq.heap.size 5 1 (.slice Av x.length cv) x.length (bytesV x))
    (hk2 : Blk w2 b 52 #[.int .i64 most, .slice A1 us.length c1, .int .i64 dropped, .bool true])
    (hg2 : (w1.alloc (.cells #[.slice Av x.length cv] 30)).grownBy w2 (Value.slice A1 us.length c1).ownBlock)
    (hown2 : w2.ownsRow 0 30 1 (.slice A2 (us.length + 1) c2) (us.length + 1) (us ++ [.slice Av x.length cv]))
    (hat2 : (Value.slice A2 (us.length + 1) c2).ownBlock = (Value.slice A1 us.length c1).ownBlock ∨ (Value.slice A2 (us.length + 1) c2).ownBlock = some (w1.alloc (.cells #[.slice Av x.length cv] 30)).heap.size) :
    ∃ M2 I2, IsLine (w2.setCell ⟨b, 1, none⟩ (.slice A2 (us.length + 1) c2)) M2 I2 b most dropped (xs ++ [x]) ∧ LineUpd w (w2.setCell ⟨b, 1, none⟩ (.slice A2 (us.length + 1) c2)) M M2 I I2 := by
  have hlt := h1.lt
  have hsz : w.heap.size ≤ w1.heap.size := by rw [← he]; exact hb1.size
  have hsa : (w1.alloc (.cells #[.slice Av x.length cv] 30)).heap.size = w1.heap.size + 1 := by simp
  have hsz2 : w1.heap.size + 1 ≤ w2.heap.size := by rw [← hsa]; exact hg2.size
  have hA1 : ∀ g, (Value.slice A1 us.length c1).ownBlock = some g → g < w.heap.size := fun g hg => (own_lt h2 hg).2
  have hAv : ∀ g, (Value.slice Av x.length cv).ownBlock = some g → w.heap.size ≤ g ∧ g < w1.heap.size := fun g hg => by have := own_lt hown1 hg; rw [he] at this; exact this
  have hA2 : ∀ g, (Value.slice A2 (us.length + 1) c2).ownBlock = some g → (M g ∧ g < w.heap.size) ∨ g = w1.heap.size + 1 := fun g hg => by
    rcases hat2 with e | e
    · rw [e] at hg; exact .inl ⟨h4 g hg, hA1 g hg⟩
    · rw [e, hsa] at hg; injection hg with hg; exact .inr hg.symm
  have hne2 : (Value.slice A2 (us.length + 1) c2).ownBlock ≠ some b := own_blk_ne hown2 hk2 (by decide)
  have u1 : Upd M w w1 := ⟨hb1.os.trans ht.2.1, hb1.tape.trans ht.1, hb1.output.trans ht.2.2, hsz, fun k hk _ => by rw [hb1.block k (by rw [he]; exact hk), he]⟩
  have u2 : Upd M w w2 := (u1.alloc _).grown hg2 fun k hk => .inl (h4 k hk)
  have u3 : Upd M w (w2.setCell ⟨b, 1, none⟩ (.slice A2 (us.length + 1) c2)) := u2.setCell (p := ⟨b, 1, none⟩) (.inl h.mb) _
  refine ⟨fun k => k = b ∨ (Value.slice A2 (us.length + 1) c2).ownBlock = some k, fun k => I k ∨ (Value.slice Av x.length cv).ownBlock = some k, ⟨⟨.slice A2 (us.length + 1) c2, us ++ [.slice Av x.length cv], ?_, ?_, ?_, fun g hg => .inr hg⟩, .inl rfl, ?_, ?_, ?_⟩, u3, ?_, ?_⟩
  · simpa using hk2.set_ 1 (.slice A2 (us.length + 1) c2)
  · rw [List.length_append, List.length_singleton]
    exact own_keep (I := fun k => k ≠ b) hown2 ((upd_set w2 b 1 _).same fun k (hk : k = b) hn => hn hk) fun g hg e => hne2 (e ▸ hg)
  · refine Items.snoc ?_ (fun g hg => .inr hg) ((h3.keep (u3.same h.dis)).mono fun k => .inl)
    refine own_keep (I := fun k => w.heap.size ≤ k ∧ k < w1.heap.size) (own_base hown1 (Nat.zero_le _)) ?_ (fun g hg => hAv g hg)
    refine ⟨by simp only [World.setCell, Array.size_modify]; omega, fun k hk hk1 => ?_⟩
    rw [Below.heap_setCell _ _ _ _ (by show k ≠ b; omega), hg2.block k (by omega) (fun e => by have := hA1 k e.symm; omega)]
    exact Below.heap_alloc _ _ _ hk1
  · rintro k (rfl | hk) (hi | hi)
    · exact h.dis _ h.mb hi
    · have := hAv _ hi; omega
    · rcases hA2 k hk with e | e
      · exact h.dis _ e.1 hi
      · have := h.ltI _ hi; omega
    · have := hAv _ hi
      rcases hA2 k hk with e | e <;> omega
  · rintro k (rfl | hk)
    · exact Nat.lt_of_lt_of_le hlt u3.size
    · have := (own_lt hown2 hk).2
      simpa [World.setCell] using this
  · rintro k (hk | hk)
    · exact Nat.lt_of_lt_of_le (h.ltI k hk) u3.size
    · have := hAv k hk
      simp only [World.setCell, Array.size_modify]
      omega
  · rintro k (rfl | hk)
    · exact .inl h.mb
    · rcases hA2 k hk with e | e
      · exact .inl e.1
      · exact .inr (by omega)
  · rintro k (hk | hk)
    · exact .inl hk
    · exact .inr (hAv k hk).1

set_option maxHeartbeats 2000000 in
theorem put_yes (M I : Nat → Prop) (b : Nat) (most dropped : Int) (xs : List (List UInt8)) (J : Nat → Prop) (A : Option Addr) (x : List UInt8) (c : Nat) (w : World) (h : IsLine w M I b most dropped xs)
    (hx : Reads w J 1 A x.length (bytesV x)) (hn : x.length ≤ 2048) (hf : xs.length < most) (hm : most ≤ 64) :
    Calls Try.prog 10 #[.pointer (some ⟨b, 0, none⟩), .slice A x.length c] w fun e w' => e = .returned (.int .i64 0) ∧ ∃ M2 I2, IsLine w' M2 I2 b most dropped (xs ++ [x]) ∧ LineUpd w w' M M2 I I2 := by
  obtain ⟨v, us, h1, h2, h3, h4⟩ := h.ex
  have hlen := h3.len
  obtain ⟨A1, c1, rfl, _⟩ := own_form h2
  have hT := there_any b _ _ _ w h1
  have HT := Lib.hid hT
  have hc0 : w.cell? ⟨b, 0, none⟩ = some (.int .i64 most) := h1.cell 0
  have hc1 : w.cell? ⟨b, 1, none⟩ = some (.slice A1 us.length c1) := h1.cell 1
  have hf1 : w.frozen? ⟨b, 1, none⟩ = false := h1.frozen 1
  have hge : (us.length : Int) < most := by omega
  have hul : us.length < 1000000 := by omega
  obtain ⟨i0, hi, hz0, hz1, hz2⟩ := info_parts info_sl8
  have hxq := fun (wq : World) (e : wq.heap = w.heap) => clone8_any A x.length c (bytesV x) J wq (hx.keep (Same.ofHeap J e)) (bytesV_one x) (by omega)
  have HC := Lib.hid hxq
  have H := Lib.hid h
  have H1 := Lib.hid h1
  have H2 := Lib.hid h2
  have HL := Lib.hid hlen
  have H4 := Lib.hid h4
  have hne : 30 ≠ 52 := by decide
  have hmx : us.length + 1 ≤ maxLen := by unfold maxLen; omega
  have hmb : (us.length + 1) * 24 ≤ 140737488355328 := by omega
  clear hxq hT h h1 h2 h4 hlen
  go_enter Try.func10, Try.ntmps10
  go_wp2_with (go_at_call 21; refine (HT.out).mono ?_; rintro e w' ⟨rfl, rfl⟩)
  go_quiet (fail)
  go_wp2
  go_region_law (first
    | (go_simp; go_at_call 22; refine (HC.out _ (by rfl)).mono ?_; rintro e w1 ⟨v1, rfl, hown1, hb1⟩; have ho1 := own_later H2.out hb1 (by rfl); have hk1 := Blk.later H1.out hb1 (by rfl); have hcc1 : w1.cell? ⟨b, 1, none⟩ = some (.slice A1 us.length c1) := hk1.cell 1; have hcc3 : ∀ o, (w1.alloc o).cell? ⟨b, 1, none⟩ = some (.slice A1 us.length c1) := (fun o => (hk1.alloc o).cell 1); obtain ⟨Av, cv, rfl, _⟩ := own_form hown1; have hv1 : ∀ u ∈ [Value.slice Av x.length cv], u.oneCell' = true := (by simp [Value.oneCell']))
    | (refine step_append_any _ (by rfl) (.tmp 35) (.tmp 38) 22 (by rfl) 0 30 i0 _ 1 24 Try.underlying22 hi hz0 hz1 hz2 rfl Nat.one_pos (.slice A1 us.length c1) us.length us (by rfl) (ho1.alloc _) (fun _ => True) (some ⟨w1.heap.size, 0, none⟩) 1 1 [.slice Av x.length cv] (by rfl) (reads_new _ _ _) hv1 hmx hmb (Nat.zero_le _) ?_; intro v2 w2 hown2 hg2 hat2; have hk2 := blk_append hk1 ho1 hg2 hne; have hcc2 : w2.cell? ⟨b, 1, none⟩ = some (.slice A1 us.length c1) := hk2.cell 1; have hff2 : w2.frozen? ⟨b, 1, none⟩ = false := hk2.frozen 1; obtain ⟨A2, c2, rfl, _⟩ := own_form hown2))
  all_goals go_wp2
  all_goals go_ret
  all_goals exact ⟨rfl, put_close H.out H1.out H2.out h3 H4.out (wq := w.drewN (nq + 1)) rfl ⟨rfl, rfl, rfl⟩ hb1 hown1 hk2 hg2 hown2 hat2⟩
end Go.Proofs.Ytfckagokeimkmaa
