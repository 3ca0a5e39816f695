/- Tries: New, copied, Copy. -/
import Derived.Test.YtejiecebckjflaaTrW
import Derived.Outline
namespace Go.Proofs.Ytejiecebckjflaa
open Go.RowKit Go.Sort Go.BigFrame

theorem new_any (limit : Int) (w : World) : Calls Try.prog 10 #[.int .i64 limit] w fun e w' => e = .returned (.pointer (some ⟨w.heap.size, 0, none⟩)) ∧ w' = w.alloc (.cells #[.pointer none, .int .i64 (max 0 limit), .int .i64 0, .bool true] 71) := by
  go_enter Try.func10, Try.ntmps10
  go_wp2
  go_ret
  exact ⟨rfl, rfl⟩

def CpPost (w : World) (T : TT) (e : Ending) (w' : World) : Prop := ∃ a2 M2, e = .returned (.pointer a2) ∧ IsT w' M2 (.pointer a2) T ∧ Below w.heap.size w w' ∧ ∀ k, M2 k → w.heap.size ≤ k
/-- The cells that the copy of a node reads and writes. -/
def CpF (w1 : World) (b c : Nat) (pl pr : Option Addr) : Prop := (w1.cell? ⟨b, 4, none⟩ = some (.pointer pl) ∧ w1.cell? ⟨b, 5, none⟩ = some (.pointer pr)) ∧ (w1.cell? ⟨c, 4, none⟩ = some (.pointer pl) ∧ w1.cell? ⟨c, 5, none⟩ = some (.pointer pr)) ∧ (w1.frozen? ⟨c, 4, none⟩ = false ∧ w1.frozen? ⟨c, 5, none⟩ = false)
def SameW (wz w : World) : Prop := wz.heap = w.heap ∧ wz.os = w.os ∧ wz.tape = w.tape ∧ wz.output = w.output
theorem SameW.below {wz w w1 : World} (h : SameW wz w) (hb : Below wz.heap.size wz w1) : Below w.heap.size w w1 := by
  obtain ⟨e1, e2, e3, e4⟩ := h
  exact ⟨hb.os.trans e2, hb.tape.trans e3, hb.output.trans e4, by rw [← e1]; exact hb.size, fun k hk => by rw [← e1]; exact hb.block k (by rw [e1]; exact hk)⟩
theorem SameW.isT {wz w : World} (h : SameW wz w) {M : Nat → Prop} {pv : Value} {T : TT} (ht : IsT w M pv T) : IsT wz M pv T := ht.keep (Same.ofHeap _ h.1)
theorem cpF {w1 : World} {b c : Nat} {q : Bs} {x : Int} {g : Bool} {pl pr : Option Addr} (hb : Blk w1 b 78 (ndC q x g (.pointer pl) (.pointer pr))) (hc : Blk w1 c 78 (ndC q x g (.pointer pl) (.pointer pr))) : CpF w1 b c pl pr :=
  ⟨⟨hb.cell 4, hb.cell 5⟩, ⟨hc.cell 4, hc.cell 5⟩, hc.frozen 4, hc.frozen 5⟩
theorem cp_close {w W1 w1 w2 wz : World} {q : Bs} {x : Int} {g : Bool} {l r : TT} {pl pr a2 a3 : Option Addr} {M2 M3 : Nat → Prop} (hB1 : Below w.heap.size w W1) (hz1 : W1.heap.size = w.heap.size + 1) (hkc : Blk W1 w.heap.size 78 (ndC q x g (.pointer pl) (.pointer pr)))
    (hb1 : Below W1.heap.size W1 w1) (hb2 : Below w1.heap.size w1 w2) (t2 : IsT w1 M2 (.pointer a2) l) (m2 : ∀ k, M2 k → W1.heap.size ≤ k) (t3 : IsT w2 M3 (.pointer a3) r) (m3 : ∀ k, M3 k → w1.heap.size ≤ k)
    (hz : SameW wz ((w2.setCell ⟨w.heap.size, 4, none⟩ (.pointer a2)).setCell ⟨w.heap.size, 5, none⟩ (.pointer a3))) : CpPost w (.node q x g l r) (.returned (.pointer (some ⟨w.heap.size, 0, none⟩))) wz := by
  have s1 := hb1.size
  have s2 := hb2.size
  have hk2 := (hkc.below hb1 (by omega)).below hb2 (by omega)
  have hk3 := (hk2.set_ 4 (.pointer a2)).set_ 5 (.pointer a3)
  have e : (((ndC q x g (.pointer pl) (.pointer pr)).setIfInBounds 4 (.pointer a2)).setIfInBounds 5 (.pointer a3)) = ndC q x g (.pointer a2) (.pointer a3) := by simp [ndC]
  rw [e] at hk3
  have hu : Upd (only w.heap.size) w2 ((w2.setCell ⟨w.heap.size, 4, none⟩ (.pointer a2)).setCell ⟨w.heap.size, 5, none⟩ (.pointer a3)) := ((Upd.refl _ w2).set_ 4 _).set_ 5 _
  have sz : ∀ I : Nat → Prop, (∀ k, I k → k ≠ w.heap.size) → Same I w2 wz := fun I hI => (hu.same fun k (e : k = w.heap.size) hk => hI k hk e).trans (Same.ofHeap _ hz.1)
  have hB2 : Below w.heap.size w w2 := (hB1.trans (hb1.mono (by omega))).trans (hb2.mono (by omega))
  have hB3 := (hB2.setCell (p := ⟨w.heap.size, 4, none⟩) (Nat.le_refl _) (.pointer a2)).setCell (p := ⟨w.heap.size, 5, none⟩) (Nat.le_refl _) (.pointer a3)
  obtain ⟨z1, z2, z3, z4⟩ := hz
  refine ⟨_, fun k => k = w.heap.size ∨ (M2 k ∧ k < w1.heap.size) ∨ M3 k, rfl, ⟨w.heap.size, .pointer a2, .pointer a3, fun k => M2 k ∧ k < w1.heap.size, M3, rfl, ?_, .inl rfl, fun k hk => ⟨.inr (.inl hk), fun e => by have := m2 k hk.1; omega⟩, fun k hk => ⟨.inr (.inr hk), fun e => by have := m3 k hk; omega⟩, fun k hk hk3 => by have := m3 k hk3; omega, ?_, ?_⟩, ⟨z2.trans hB3.os, z3.trans hB3.tape, z4.trans hB3.output, by rw [z1]; exact hB3.size, fun k hk => by rw [z1]; exact hB3.block k hk⟩, fun k hk => ?_⟩
  · unfold Blk at hk3 ⊢
    rw [z1]; exact hk3
  · exact (t2.lt.keep (Same.ofBelow hb2 fun _ h => h.2)).keep (sz _ fun k hk => by have := m2 k hk.1; omega)
  · exact t3.keep (sz _ fun k hk => by have := m3 k hk; omega)
  · rcases hk with hk | hk | hk
    · omega
    · have := m2 k hk.1; omega
    · have := m3 k hk; omega
set_option maxRecDepth 20000 in
set_option maxHeartbeats 4000000 in
theorem copied_any : ∀ (T : TT) (M : Nat → Prop) (pv : Value) (w : World), IsT w M pv T → Calls Try.prog 46 #[pv] w (CpPost w T) := by
  intro T
  induction T with
  | nil =>
    intro M pv w ht
    obtain rfl : pv = .pointer none := ht
    go_enter Try.func46, Try.ntmps46
    go_wp2
    go_ret
    exact ⟨none, fun _ => False, rfl, rfl, Below.refl _ _, fun _ h => h.elim⟩
  | node q x g l r ihl ihr =>
    intro M pv w ht
    obtain ⟨b, pvl, pvr, Ml, Mr, rfl, hk, _, _, _, _, tl, tr⟩ := ht
    obtain ⟨pl, rfl, _⟩ := tl.ptr
    obtain ⟨pr, rfl, _⟩ := tr.ptr
    obtain ⟨W1, hW1⟩ : ∃ W1, W1 = w.alloc (.cells (ndC q x g (.pointer pl) (.pointer pr)) 78) := ⟨_, rfl⟩
    have hB1 : Below w.heap.size w W1 := by rw [hW1]; exact (Below.refl _ _).alloc (Nat.le_refl _) _
    have hz1 : W1.heap.size = w.heap.size + 1 := by rw [hW1]; simp
    have hkc : Blk W1 w.heap.size 78 (ndC q x g (.pointer pl) (.pointer pr)) := by rw [hW1]; exact Blk.new _ _ _
    have hbl := hk.lt
    have hc1 : ∀ wz, SameW wz W1 → Calls Try.prog 46 #[.pointer pl] wz fun e w1 => ∃ a2, e = .returned (.pointer a2) ∧ CpF w1 b w.heap.size pl pr ∧ Below W1.heap.size W1 w1 ∧ ∃ M2, IsT w1 M2 (.pointer a2) l ∧ ∀ k, M2 k → W1.heap.size ≤ k := fun wz hz =>
      (ihl _ (.pointer pl) wz (hz.isT (tl.lt.keep (Same.ofBelow hB1 fun _ h => h.2)))).mono fun e w1 ⟨a2, M2, he, ht2, hb2, hm2⟩ => by
        have hb3 := hz.below hb2
        exact ⟨a2, he, cpF ((hk.below hB1 hbl).below hb3 (by omega)) (hkc.below hb3 (by omega)), hb3, M2, ht2, fun k hk => by rw [← hz.1]; exact hm2 k hk⟩
    have hc2 : ∀ w1 wz, Below W1.heap.size W1 w1 → SameW wz w1 → Calls Try.prog 46 #[.pointer pr] wz fun e w2 => ∃ a3, e = .returned (.pointer a3) ∧ CpF w2 b w.heap.size pl pr ∧ Below w1.heap.size w1 w2 ∧ ∃ M3, IsT w2 M3 (.pointer a3) r ∧ ∀ k, M3 k → w1.heap.size ≤ k := fun w1 wz hb1 hz =>
      (ihr _ (.pointer pr) wz (hz.isT ((tr.lt.keep (Same.ofBelow hB1 fun _ h => h.2)).keep (Same.ofBelow hb1 fun k h => by omega)))).mono fun e w2 ⟨a3, M3, he, ht3, hb2, hm3⟩ => by
        have hb3 := hz.below hb2
        have := hb1.size
        exact ⟨a3, he, cpF (((hk.below hB1 hbl).below hb1 (by omega)).below hb3 (by omega)) ((hkc.below hb1 (by omega)).below hb3 (by omega)), hb3, M3, ht3, fun k hk => by rw [← hz.1]; exact hm3 k hk⟩
    have HC1 := Lib.hid hc1
    have HC2 := Lib.hid hc2
    have HB1 := Lib.hid hB1
    have HKC := Lib.hid hkc
    have HZ1 := Lib.hid hz1
    obtain ⟨qa, hqa⟩ : ∃ qa, qa = padB q := ⟨_, rfl⟩
    obtain ⟨qn, hqn⟩ : ∃ qn, qn = q.length := ⟨_, rfl⟩
    have y0 : w.cell? ⟨b, 0, none⟩ = some (.int .u32 (qa : Int)) := by rw [hqa]; exact hk.cell 0
    have y1 : w.cell? ⟨b, 1, none⟩ = some (.int .i64 (qn : Int)) := by rw [hqn]; exact hk.cell 1
    have y2 : w.cell? ⟨b, 2, none⟩ = some (.int .i64 x) := hk.cell 2
    have y3 : w.cell? ⟨b, 3, none⟩ = some (.bool g) := hk.cell 3
    have y4 : w.cell? ⟨b, 4, none⟩ = some (.pointer pl) := hk.cell 4
    have y5 : w.cell? ⟨b, 5, none⟩ = some (.pointer pr) := hk.cell 5
    unfold ndC at hW1
    rw [← hqa, ← hqn] at hW1
    have HQA := Lib.hid hqa
    have HQN := Lib.hid hqn
    have HW1 := Lib.hid hW1
    have k1 : CpF W1 b w.heap.size pl pr := cpF (hk.below hB1 hbl) hkc
    clear hk tl tr ihl ihr hc1 hc2 hB1 hkc hz1 hqa hqn hW1
    go_enter Try.func46, Try.ntmps46
    go_wp2_with fail
    rw [← HW1.out]
    obtain ⟨⟨k4, k5⟩, ⟨c4, c5⟩, f4, f5⟩ := k1
    clear y0 y1 y2 y3 y4 y5
    go_region_law (first
      | (go_simp; go_at_call_of 46 (Value.pointer pl); refine Calls.mono (HC1.out _ ?_) ?_; exact ⟨rfl, rfl, rfl, rfl⟩; rintro e w1 ⟨a2, rfl, ⟨⟨m4, m5⟩, ⟨n4, n5⟩, j4, j5⟩, hb1, ht1⟩; have HB1' := Lib.hid hb1; have HT1 := Lib.hid ht1; clear hb1 ht1)
      | (go_simp; go_at_call_of 46 (Value.pointer pr); refine Calls.mono (HC2.out w1 _ HB1'.out ?_) ?_; exact ⟨rfl, rfl, rfl, rfl⟩; rintro e w2 ⟨a3, rfl, ⟨⟨o4, o5⟩, ⟨p4, p5⟩, i4, i5⟩, hb2, ht2⟩; have HB2' := Lib.hid hb2; have HT2 := Lib.hid ht2; clear hb2 ht2))
    all_goals
      go_wp2_with fail
      go_ret
      obtain ⟨M2, t2, m2⟩ := HT1.out
      obtain ⟨M3, t3, m3⟩ := HT2.out
      exact cp_close HB1.out HZ1.out HKC.out HB1'.out HB2'.out t2 m2 t3 m3 ⟨rfl, rfl, rfl, rfl⟩

def TrCp (w : World) (limit : Int) (T : TT) (e : Ending) (w' : World) : Prop := ∃ tb M, e = .returned (.pointer (some ⟨tb, 0, none⟩)) ∧ IsTr w' M tb limit T ∧ Below w.heap.size w w' ∧ ∀ k, M k → w.heap.size ≤ k
set_option maxHeartbeats 2000000 in
theorem copy_any (tb : Nat) (M : Nat → Prop) (limit : Int) (T : TT) (w : World) (h : IsTr w M tb limit T) : Calls Try.prog 27 #[.pointer (some ⟨tb, 0, none⟩)] w (TrCp w limit T) := by
  obtain ⟨pv, hk, ht⟩ := h.ex
  obtain ⟨pa, rfl, _⟩ := ht.ptr
  obtain ⟨N, hN⟩ : ∃ N, N = T.list.length := ⟨_, rfl⟩
  rw [← hN] at hk
  have t0 : w.cell? ⟨tb, 0, none⟩ = some (.pointer pa) := hk.cell 0
  have t1 : w.cell? ⟨tb, 1, none⟩ = some (.int .i64 limit) := hk.cell 1
  have t2 : w.cell? ⟨tb, 2, none⟩ = some (.int .i64 (N : Int)) := hk.cell 2
  have t3 : w.cell? ⟨tb, 3, none⟩ = some (.bool true) := hk.cell 3
  have HT := Lib.hid (there_any tb _ _ _ w hk)
  obtain ⟨W1, hW1⟩ : ∃ W1, W1 = w.alloc (.cells #[.pointer pa, .int .i64 limit, .int .i64 (N : Int), .bool true] 71) := ⟨_, rfl⟩
  have hB1 : Below w.heap.size w W1 := by rw [hW1]; exact (Below.refl _ _).alloc (Nat.le_refl _) _
  have hz1 : W1.heap.size = w.heap.size + 1 := by rw [hW1]; simp
  have hkc : Blk W1 w.heap.size 71 #[.pointer pa, .int .i64 limit, .int .i64 (N : Int), .bool true] := by rw [hW1]; exact Blk.new _ _ _
  have htl := hk.lt
  have HC := Lib.hid (copied_any T _ _ W1 (ht.lt.keep (Same.ofBelow hB1 fun _ h => h.2)))
  have HB1 := Lib.hid hB1
  have HKC := Lib.hid hkc
  have HZ1 := Lib.hid hz1
  have HW1 := Lib.hid hW1
  have HWF := Lib.hid h.wf
  have HN := Lib.hid hN
  clear h hk ht hB1 hkc hz1 hW1 hN
  go_enter Try.func27, Try.ntmps27
  go_wp2_with (go_at_call 33; refine (HT.out).mono ?_; rintro e w' ⟨rfl, rfl⟩)
  rw [← HW1.out]
  go_wp2_with fail
  refine (HC.out).mono ?_
  rintro e w2 ⟨a2, M2, rfl, ht2, hb2, hm2⟩
  have hk2 := HKC.out.below hb2 HKC.out.lt
  have c0 : w2.cell? ⟨w.heap.size, 0, none⟩ = some (.pointer pa) := hk2.cell 0
  have f0 : w2.frozen? ⟨w.heap.size, 0, none⟩ = false := hk2.frozen 0
  have HK2 := Lib.hid hk2
  have HT2 := Lib.hid ht2
  have HB2 := Lib.hid hb2
  clear hk2 ht2 hb2
  go_wp2_with fail
  go_ret
  have hk3 := HK2.out.set_ 0 (.pointer a2)
  have e : ((#[.pointer pa, .int .i64 limit, .int .i64 (N : Int), .bool true] : Array Value).setIfInBounds 0 (.pointer a2)) = #[.pointer a2, .int .i64 limit, .int .i64 (N : Int), .bool true] := by simp
  rw [e] at hk3
  have hs := HZ1.out
  have hs2 := HB2.out.size
  have hsz : (w2.setCell ⟨w.heap.size, 0, none⟩ (.pointer a2)).heap.size = w2.heap.size := by simp [World.setCell]
  refine ⟨w.heap.size, fun k => w.heap.size ≤ k ∧ k < w2.heap.size, rfl, ⟨⟨.pointer a2, by rw [← HN.out]; exact hk3, ?_⟩, ⟨Nat.le_refl _, by omega⟩, HWF.out, fun k hk => by rw [hsz]; exact hk.2⟩, (HB1.out.trans (HB2.out.mono (by omega))).setCell (p := ⟨w.heap.size, 0, none⟩) (Nat.le_refl _) _, fun k hk => hk.1⟩
  exact (HT2.out.lt.keep ((upd_set w2 w.heap.size 0 (.pointer a2)).same fun k (e : k = w.heap.size) hk => by have := hm2 k hk.1; omega)).mono fun k hk => by
    have := hm2 k hk.1
    exact ⟨⟨by omega, hk.2⟩, by omega⟩
end Go.Proofs.Ytejiecebckjflaa
