/- The document's stream: Take. -/
import Derived.Test.YtmkjnblmgofoeaaRf
namespace Go.Proofs.Ytmkjnblmgofoeaa
open Go.RowKit

theorem IsRf.ack {s : SS} {al : List (List UInt8)} {a : Nat} (hl : al.length = s.acked + s.xs.length) (hx : al.drop s.acked = s.xs) (ok : s.sent ≤ s.xs.length) : al.length = (ackS s a).acked + (ackS s a).xs.length ∧ al.drop (ackS s a).acked = (ackS s a).xs := by
  unfold ackS
  split
  · rename_i h
    refine ⟨?_, ?_⟩
    · show al.length = a + (s.xs.drop (a - s.acked)).length
      rw [List.length_drop]; omega
    · show al.drop a = s.xs.drop (a - s.acked)
      rw [← hx, List.drop_drop]; congr 1; omega
  · exact ⟨hl, hx⟩
theorem blkH {w w2 : World} {b : Nat} {t : TypeId} {cs : Array Value} (h : Blk w b t cs) (e : w2.heap = w.heap) : Blk w2 b t cs := by unfold Blk at *; rw [e]; exact h
theorem blkC {w w2 : World} {b : Nat} {t : TypeId} {cs cs2 : Array Value} (h : Blk w b t cs) (e : w2.heap = w.heap) (c : cs = cs2) : Blk w2 b t cs2 := c ▸ blkH h e
theorem keepU {F : Nat → Prop} {a w w2 : World} (h : Upd F a w) (e : w2.heap = w.heap) (ht : w2.tape = w.tape ∧ w2.os = w.os ∧ w2.output = w.output) : Upd F a w2 :=
  ⟨ht.2.1.trans h.os, ht.1.trans h.tape, ht.2.2.trans h.output, by rw [e]; exact h.size, fun k hk hn => by rw [e]; exact h.block k hk hn⟩
theorem seq_xs (s : SS) (q : Nat) : (seqS s q).acked = s.acked ∧ (seqS s q).xs = s.xs := by
  unfold seqS
  split
  · exact ⟨rfl, rfl⟩
  · split <;> exact ⟨rfl, rfl⟩
theorem rtake_close {J : Nat → Prop} {b : Nat} {s s2 : SS} {v : Value} {al : List (List UInt8)} {w w2 : World} (h : IsRf w J b s v al) (hJ : ∀ k, J k → k < w.heap.size ∧ k ≠ b ∧ v.ownBlock ≠ some k) (hu : Upd (only b) w w2) (hb : Blk w2 b 55 (rfC s2 v))
    (hl : al.length = s2.acked + s2.xs.length) (hx : al.drop s2.acked = s2.xs) : IsRf w2 J b s2 v al ∧ Upd (only b) w w2 := by
  obtain ⟨us, ho, hit⟩ := h.row
  refine ⟨⟨hb, ⟨us, own_keep (I := fun k => k ≠ b) ho (hu.same fun k (hk : k = b) hn => hn hk) fun g hg e => own_blk_ne ho h.blk (by decide) (e ▸ hg), hit.keep (hu.same fun k (hk : k = b) hj => (hJ k hj).2.1 hk)⟩, hl, hx⟩, hu⟩

def RTk (s : SS) (q : Nat) (A : Option Addr) (n c : Nat) (e : Ending) : Prop := e = .returned (.tuple #[if seqI s q = true then .slice A n c else .slice none 0 0, .bool (seqI s q)])
def RTs (w2 : World) (J : Nat → Prop) (b : Nat) (s : SS) (a q : Nat) (v : Value) (al : List (List UInt8)) (w : World) : Prop := IsRf w2 J b (seqS (ackS s a) q) v al ∧ Upd (only b) w w2

set_option maxHeartbeats 4000000 in
theorem rtake_any (J : Nat → Prop) (b : Nat) (s : SS) (v : Value) (al : List (List UInt8)) (q a : Nat) (A : Option Addr) (n c : Nat) (w : World) (h : IsRf w J b s v al) (ok : s.ok) (hJb : ∀ k, J k → k < w.heap.size ∧ k ≠ b ∧ v.ownBlock ≠ some k) :
    Calls Try.prog 20 #[.pointer (some ⟨b, 0, none⟩), segP q a A n c] w fun e w' => RTk s q A n c e ∧ RTs w' J b s a q v al w := by
  obtain ⟨o1, o2, o3, o4, o5, o6, o7, o8⟩ := ok
  obtain ⟨wz, hwz⟩ : ∃ wz, wz = w.alloc (.cells #[.int .u64 q, .int .u64 a, .slice A n c] 33) := ⟨_, rfl⟩
  have hB : Blk wz b 55 (rfC s v) := by rw [hwz]; exact h.blk.alloc _
  have hG : Blk wz w.heap.size 33 #[.int .u64 q, .int .u64 a, .slice A n c] := by rw [hwz]; exact Blk.new _ _ _
  have hU : Upd (only b) w wz := by rw [hwz]; exact (Upd.refl _ _).alloc _
  have hne : w.heap.size ≠ b := fun e => by have := h.blk.lt; omega
  have c0 : wz.cell? ⟨w.heap.size, 0, none⟩ = some (.int .u64 q) := hG.cell 0
  have c1 : wz.cell? ⟨w.heap.size, 1, none⟩ = some (.int .u64 a) := hG.cell 1
  have c2 : wz.cell? ⟨w.heap.size, 2, none⟩ = some (.slice A n c) := hG.cell 2
  have d2 : wz.cell? ⟨b, 2, none⟩ = some (.int .i64 s.acked) := hB.cell 2
  have d3 : wz.cell? ⟨b, 3, none⟩ = some (.int .i64 ((s.acked + s.sent : Nat) : Int)) := hB.cell 3
  have d4 : wz.cell? ⟨b, 4, none⟩ = some (.int .u64 s.taken) := hB.cell 4
  have d5 : wz.cell? ⟨b, 5, none⟩ = some (.bool s.owed) := hB.cell 5
  have d6 : wz.cell? ⟨b, 6, none⟩ = some (.int .i64 s.silent) := hB.cell 6
  have f2 : wz.frozen? ⟨b, 2, none⟩ = false := hB.frozen 2
  have f4 : wz.frozen? ⟨b, 4, none⟩ = false := hB.frozen 4
  have f5 : wz.frozen? ⟨b, 5, none⟩ = false := hB.frozen 5
  have f6 : wz.frozen? ⟨b, 6, none⟩ = false := hB.frozen 6
  have HWZ := Lib.hid hwz
  have H := Lib.hid h
  have HJ := Lib.hid hJb
  have HB := Lib.hid hB
  have HU := Lib.hid hU
  have hk := IsRf.ack (a := a) h.len h.xs o5
  have HK := Lib.hid hk
  clear hwz h hJb hB hG hU hk
  by_cases hk : s.acked < a ∧ a ≤ s.acked + s.sent
  · obtain ⟨h1, h2⟩ := hk
    have b1 : decide ((s.acked : Int) < (a : Int)) = true := decide_eq_true (by omega)
    have b1' : decide (s.acked < a) = true := decide_eq_true h1
    have b2 : decide ((a : Int) ≤ (s.acked : Int) + (s.sent : Int)) = true := decide_eq_true (by omega)
    have b2' : decide (a ≤ s.acked + s.sent) = true := decide_eq_true h2
    have eA : ackS s a = { s with xs := s.xs.drop (a - s.acked), sent := s.sent - (a - s.acked), acked := a, silent := 0 } := by unfold ackS; rw [if_pos ⟨h1, h2⟩]
    have hsum : ((a + (s.sent - (a - s.acked)) : Nat) : Int) = (s.acked : Int) + s.sent := by omega
    have ha31 : (a : Int) ≤ 2000000 := by omega
    by_cases h0 : q = 0
    · have HSI := Lib.hid (show seqI s q = false from by simp [seqI, h0])
      have HSS := Lib.hid (show seqS (ackS s a) q = { s with xs := s.xs.drop (a - s.acked), sent := s.sent - (a - s.acked), acked := a, silent := 0 } from by rw [eA]; simp [seqS, h0])
      have hq0 : ((q : Int) == 0) = true := beq_iff_eq.2 (by omega)
      clear eA h0
      go_enter Try.func20, Try.ntmps20
      go_wp2_with fail
      rw [← HWZ.out]
      go_quiet (fail)
      go_wp2_with fail
      go_ret2
      obtain ⟨k1, k2⟩ := HK.out
      obtain ⟨x1, x2⟩ := seq_xs (ackS s a) q
      refine ⟨by unfold RTk; rw [HSI.out]; rfl, rtake_close (s2 := seqS (ackS s a) q) H.out HJ.out ?_ ?_ (by rw [x1, x2]; exact k1) (by rw [x1, x2]; exact k2)⟩
      · first | exact ((HU.out.set_ 2 (.int .i64 a)).set_ 6 (.int .i64 0)) | exact (((HU.out.set_ 2 (.int .i64 a)).set_ 6 (.int .i64 0))).drewN _ | exact ((((HU.out.set_ 2 (.int .i64 a)).set_ 6 (.int .i64 0))).drewN _).drewN _ | exact keepU ((HU.out.set_ 2 (.int .i64 a)).set_ 6 (.int .i64 0)) rfl ⟨rfl, rfl, rfl⟩
      · have := ((HB.out.set_ 2 (.int .i64 a)).set_ 6 (.int .i64 0))
        rw [HSS.out]
        exact blkC this rfl (by simp [rfC] <;> omega)
    have hq0 : ((q : Int) == 0) = false := beq_eq_false_iff_ne.2 (by omega)
    by_cases ht : q = s.taken + 1
    · have HSI := Lib.hid (show seqI s q = true from by simp [seqI, ht])
      have HSS := Lib.hid (show seqS (ackS s a) q = { s with xs := s.xs.drop (a - s.acked), sent := s.sent - (a - s.acked), acked := a, silent := 0, owed := true, taken := s.taken + 1 } from by rw [eA]; simp [seqS, ht])
      have hq1 : ((q : Int) != (s.taken : Int) + 1) = false := by simp; omega
      clear eA h0 ht
      go_enter Try.func20, Try.ntmps20
      go_wp2_with fail
      rw [← HWZ.out]
      go_quiet (fail)
      go_wp2_with fail
      go_quiet (fail)
      go_wp2_with fail
      go_ret2
      obtain ⟨k1, k2⟩ := HK.out
      obtain ⟨x1, x2⟩ := seq_xs (ackS s a) q
      refine ⟨by unfold RTk; rw [HSI.out]; rfl, rtake_close (s2 := seqS (ackS s a) q) H.out HJ.out ?_ ?_ (by rw [x1, x2]; exact k1) (by rw [x1, x2]; exact k2)⟩
      · first | exact ((((HU.out.set_ 2 (.int .i64 a)).set_ 6 (.int .i64 0)).set_ 5 (.bool true)).set_ 4 (.int .u64 ((s.taken : Int) + 1))) | exact (((((HU.out.set_ 2 (.int .i64 a)).set_ 6 (.int .i64 0)).set_ 5 (.bool true)).set_ 4 (.int .u64 ((s.taken : Int) + 1)))).drewN _ | exact ((((((HU.out.set_ 2 (.int .i64 a)).set_ 6 (.int .i64 0)).set_ 5 (.bool true)).set_ 4 (.int .u64 ((s.taken : Int) + 1)))).drewN _).drewN _ | exact keepU ((((HU.out.set_ 2 (.int .i64 a)).set_ 6 (.int .i64 0)).set_ 5 (.bool true)).set_ 4 (.int .u64 ((s.taken : Int) + 1))) rfl ⟨rfl, rfl, rfl⟩
      · have := ((((HB.out.set_ 2 (.int .i64 a)).set_ 6 (.int .i64 0)).set_ 5 (.bool true)).set_ 4 (.int .u64 ((s.taken : Int) + 1)))
        rw [HSS.out]
        exact blkC this rfl (by simp [rfC] <;> omega)
    · have hq1 : ((q : Int) != (s.taken : Int) + 1) = true := bne_iff_ne.2 (by omega)
      have HSI := Lib.hid (show seqI s q = false from by simp [seqI, ht])
      have HSS := Lib.hid (show seqS (ackS s a) q = { s with xs := s.xs.drop (a - s.acked), sent := s.sent - (a - s.acked), acked := a, silent := 0, owed := true } from by rw [eA]; simp [seqS, h0, ht])
      clear eA h0 ht
      go_enter Try.func20, Try.ntmps20
      go_wp2_with fail
      rw [← HWZ.out]
      go_quiet (fail)
      go_wp2_with fail
      go_quiet (fail)
      go_wp2_with fail
      go_ret2
      obtain ⟨k1, k2⟩ := HK.out
      obtain ⟨x1, x2⟩ := seq_xs (ackS s a) q
      refine ⟨by unfold RTk; rw [HSI.out]; rfl, rtake_close (s2 := seqS (ackS s a) q) H.out HJ.out ?_ ?_ (by rw [x1, x2]; exact k1) (by rw [x1, x2]; exact k2)⟩
      · first | exact (((HU.out.set_ 2 (.int .i64 a)).set_ 6 (.int .i64 0)).set_ 5 (.bool true)) | exact ((((HU.out.set_ 2 (.int .i64 a)).set_ 6 (.int .i64 0)).set_ 5 (.bool true))).drewN _ | exact (((((HU.out.set_ 2 (.int .i64 a)).set_ 6 (.int .i64 0)).set_ 5 (.bool true))).drewN _).drewN _ | exact keepU (((HU.out.set_ 2 (.int .i64 a)).set_ 6 (.int .i64 0)).set_ 5 (.bool true)) rfl ⟨rfl, rfl, rfl⟩
      · have := (((HB.out.set_ 2 (.int .i64 a)).set_ 6 (.int .i64 0)).set_ 5 (.bool true))
        rw [HSS.out]
        exact blkC this rfl (by simp [rfC] <;> omega)
  · have eA : ackS s a = s := by unfold ackS; rw [if_neg hk]
    by_cases h1 : s.acked < a
    · have h2 : ¬ a ≤ s.acked + s.sent := fun h => hk ⟨h1, h⟩
      have b1 : decide ((s.acked : Int) < (a : Int)) = true := decide_eq_true (by omega)
      have b1' : decide (s.acked < a) = true := decide_eq_true h1
      have b2 : decide ((a : Int) ≤ (s.acked : Int) + (s.sent : Int)) = false := decide_eq_false (by omega)
      have b2' : decide (a ≤ s.acked + s.sent) = false := decide_eq_false h2
      clear hk
      by_cases h0 : q = 0
      · have HSI := Lib.hid (show seqI s q = false from by simp [seqI, h0])
        have HSS := Lib.hid (show seqS (ackS s a) q = s from by rw [eA]; simp [seqS, h0])
        have hq0 : ((q : Int) == 0) = true := beq_iff_eq.2 (by omega)
        clear eA h0
        go_enter Try.func20, Try.ntmps20
        go_wp2_with fail
        rw [← HWZ.out]
        go_quiet (fail)
        go_wp2_with fail
        go_ret2
        obtain ⟨k1, k2⟩ := HK.out
        obtain ⟨x1, x2⟩ := seq_xs (ackS s a) q
        refine ⟨by unfold RTk; rw [HSI.out]; rfl, rtake_close (s2 := seqS (ackS s a) q) H.out HJ.out ?_ ?_ (by rw [x1, x2]; exact k1) (by rw [x1, x2]; exact k2)⟩
        · first | exact HU.out | exact (HU.out).drewN _ | exact ((HU.out).drewN _).drewN _ | exact keepU HU.out rfl ⟨rfl, rfl, rfl⟩
        · have := HB.out
          rw [HSS.out]
          exact blkC this rfl (by simp [rfC] <;> omega)
      have hq0 : ((q : Int) == 0) = false := beq_eq_false_iff_ne.2 (by omega)
      by_cases ht : q = s.taken + 1
      · have HSI := Lib.hid (show seqI s q = true from by simp [seqI, ht])
        have HSS := Lib.hid (show seqS (ackS s a) q = { s with owed := true, taken := s.taken + 1 } from by rw [eA]; simp [seqS, ht])
        have hq1 : ((q : Int) != (s.taken : Int) + 1) = false := by simp; omega
        clear eA h0 ht
        go_enter Try.func20, Try.ntmps20
        go_wp2_with fail
        rw [← HWZ.out]
        go_quiet (fail)
        go_wp2_with fail
        go_quiet (fail)
        go_wp2_with fail
        go_ret2
        obtain ⟨k1, k2⟩ := HK.out
        obtain ⟨x1, x2⟩ := seq_xs (ackS s a) q
        refine ⟨by unfold RTk; rw [HSI.out]; rfl, rtake_close (s2 := seqS (ackS s a) q) H.out HJ.out ?_ ?_ (by rw [x1, x2]; exact k1) (by rw [x1, x2]; exact k2)⟩
        · first | exact ((HU.out.set_ 5 (.bool true)).set_ 4 (.int .u64 ((s.taken : Int) + 1))) | exact (((HU.out.set_ 5 (.bool true)).set_ 4 (.int .u64 ((s.taken : Int) + 1)))).drewN _ | exact ((((HU.out.set_ 5 (.bool true)).set_ 4 (.int .u64 ((s.taken : Int) + 1)))).drewN _).drewN _ | exact keepU ((HU.out.set_ 5 (.bool true)).set_ 4 (.int .u64 ((s.taken : Int) + 1))) rfl ⟨rfl, rfl, rfl⟩
        · have := ((HB.out.set_ 5 (.bool true)).set_ 4 (.int .u64 ((s.taken : Int) + 1)))
          rw [HSS.out]
          exact blkC this rfl (by simp [rfC] <;> omega)
      · have hq1 : ((q : Int) != (s.taken : Int) + 1) = true := bne_iff_ne.2 (by omega)
        have HSI := Lib.hid (show seqI s q = false from by simp [seqI, ht])
        have HSS := Lib.hid (show seqS (ackS s a) q = { s with owed := true } from by rw [eA]; simp [seqS, h0, ht])
        clear eA h0 ht
        go_enter Try.func20, Try.ntmps20
        go_wp2_with fail
        rw [← HWZ.out]
        go_quiet (fail)
        go_wp2_with fail
        go_quiet (fail)
        go_wp2_with fail
        go_ret2
        obtain ⟨k1, k2⟩ := HK.out
        obtain ⟨x1, x2⟩ := seq_xs (ackS s a) q
        refine ⟨by unfold RTk; rw [HSI.out]; rfl, rtake_close (s2 := seqS (ackS s a) q) H.out HJ.out ?_ ?_ (by rw [x1, x2]; exact k1) (by rw [x1, x2]; exact k2)⟩
        · first | exact (HU.out.set_ 5 (.bool true)) | exact ((HU.out.set_ 5 (.bool true))).drewN _ | exact (((HU.out.set_ 5 (.bool true))).drewN _).drewN _ | exact keepU (HU.out.set_ 5 (.bool true)) rfl ⟨rfl, rfl, rfl⟩
        · have := (HB.out.set_ 5 (.bool true))
          rw [HSS.out]
          exact blkC this rfl (by simp [rfC] <;> omega)
    · have b1 : decide ((s.acked : Int) < (a : Int)) = false := decide_eq_false (by omega)
      have b1' : decide (s.acked < a) = false := decide_eq_false h1
      clear hk
      by_cases h0 : q = 0
      · have HSI := Lib.hid (show seqI s q = false from by simp [seqI, h0])
        have HSS := Lib.hid (show seqS (ackS s a) q = s from by rw [eA]; simp [seqS, h0])
        have hq0 : ((q : Int) == 0) = true := beq_iff_eq.2 (by omega)
        clear eA h0
        go_enter Try.func20, Try.ntmps20
        go_wp2_with fail
        rw [← HWZ.out]
        go_quiet (fail)
        go_wp2_with fail
        go_ret2
        obtain ⟨k1, k2⟩ := HK.out
        obtain ⟨x1, x2⟩ := seq_xs (ackS s a) q
        refine ⟨by unfold RTk; rw [HSI.out]; rfl, rtake_close (s2 := seqS (ackS s a) q) H.out HJ.out ?_ ?_ (by rw [x1, x2]; exact k1) (by rw [x1, x2]; exact k2)⟩
        · first | exact HU.out | exact (HU.out).drewN _ | exact ((HU.out).drewN _).drewN _ | exact keepU HU.out rfl ⟨rfl, rfl, rfl⟩
        · have := HB.out
          rw [HSS.out]
          exact blkC this rfl (by simp [rfC] <;> omega)
      have hq0 : ((q : Int) == 0) = false := beq_eq_false_iff_ne.2 (by omega)
      by_cases ht : q = s.taken + 1
      · have HSI := Lib.hid (show seqI s q = true from by simp [seqI, ht])
        have HSS := Lib.hid (show seqS (ackS s a) q = { s with owed := true, taken := s.taken + 1 } from by rw [eA]; simp [seqS, ht])
        have hq1 : ((q : Int) != (s.taken : Int) + 1) = false := by simp; omega
        clear eA h0 ht
        go_enter Try.func20, Try.ntmps20
        go_wp2_with fail
        rw [← HWZ.out]
        go_quiet (fail)
        go_wp2_with fail
        go_quiet (fail)
        go_wp2_with fail
        go_ret2
        obtain ⟨k1, k2⟩ := HK.out
        obtain ⟨x1, x2⟩ := seq_xs (ackS s a) q
        refine ⟨by unfold RTk; rw [HSI.out]; rfl, rtake_close (s2 := seqS (ackS s a) q) H.out HJ.out ?_ ?_ (by rw [x1, x2]; exact k1) (by rw [x1, x2]; exact k2)⟩
        · first | exact ((HU.out.set_ 5 (.bool true)).set_ 4 (.int .u64 ((s.taken : Int) + 1))) | exact (((HU.out.set_ 5 (.bool true)).set_ 4 (.int .u64 ((s.taken : Int) + 1)))).drewN _ | exact ((((HU.out.set_ 5 (.bool true)).set_ 4 (.int .u64 ((s.taken : Int) + 1)))).drewN _).drewN _ | exact keepU ((HU.out.set_ 5 (.bool true)).set_ 4 (.int .u64 ((s.taken : Int) + 1))) rfl ⟨rfl, rfl, rfl⟩
        · have := ((HB.out.set_ 5 (.bool true)).set_ 4 (.int .u64 ((s.taken : Int) + 1)))
          rw [HSS.out]
          exact blkC this rfl (by simp [rfC] <;> omega)
      · have hq1 : ((q : Int) != (s.taken : Int) + 1) = true := bne_iff_ne.2 (by omega)
        have HSI := Lib.hid (show seqI s q = false from by simp [seqI, ht])
        have HSS := Lib.hid (show seqS (ackS s a) q = { s with owed := true } from by rw [eA]; simp [seqS, h0, ht])
        clear eA h0 ht
        go_enter Try.func20, Try.ntmps20
        go_wp2_with fail
        rw [← HWZ.out]
        go_quiet (fail)
        go_wp2_with fail
        go_quiet (fail)
        go_wp2_with fail
        go_ret2
        obtain ⟨k1, k2⟩ := HK.out
        obtain ⟨x1, x2⟩ := seq_xs (ackS s a) q
        refine ⟨by unfold RTk; rw [HSI.out]; rfl, rtake_close (s2 := seqS (ackS s a) q) H.out HJ.out ?_ ?_ (by rw [x1, x2]; exact k1) (by rw [x1, x2]; exact k2)⟩
        · first | exact (HU.out.set_ 5 (.bool true)) | exact ((HU.out.set_ 5 (.bool true))).drewN _ | exact (((HU.out.set_ 5 (.bool true))).drewN _).drewN _ | exact keepU (HU.out.set_ 5 (.bool true)) rfl ⟨rfl, rfl, rfl⟩
        · have := (HB.out.set_ 5 (.bool true))
          rw [HSS.out]
          exact blkC this rfl (by simp [rfC] <;> omega)
end Go.Proofs.Ytmkjnblmgofoeaa
