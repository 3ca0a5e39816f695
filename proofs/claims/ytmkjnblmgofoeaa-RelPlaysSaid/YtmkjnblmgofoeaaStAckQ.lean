/- Contract of (*Stream).Take where messages are acknowledged, whatever it brings. -/
import Derived.Test.YtmkjnblmgofoeaaStAckC
namespace Go.Proofs.Ytmkjnblmgofoeaa
open Go.RowKit

set_option maxHeartbeats 4000000 in
theorem take_ackq2 (M I : Nat → Prop) (b : Nat) (s : SS) (J : Nat → Prop) (q k : Nat) (A : Option Addr) (x : List UInt8) (c : Nat) (w : World) (h : IsStr w M I b s) (ok : s.ok)
    (hx : Reads w J 1 A x.length (bytesV x)) (hJ : ¬ J b) (hn : x.length ≤ 1024) (hk0 : 1 ≤ k) (hk1 : k ≤ s.sent) :
    Calls Try.prog 10 #[.pointer (some ⟨b, 0, none⟩), segP q (s.acked + k) A x.length c] w fun e w' => ∃ v, e = .returned (takeR v (s.acked + k) (seqI s q)) ∧
      ((seqI s q = true → w'.ownsRow w.heap.size 5 1 v x.length (bytesV x)) ∧ (seqI s q = false → v = .slice none 0 0)) ∧ ∃ M2, IsStr w' M2 I b (seqS (ackd s k) q) ∧ StrUpd w w' M M2 I I := by
  obtain ⟨o1, o2, o3, o4, o5, o6, o7, o8⟩ := ok
  obtain ⟨v, us, h1, h2, h3, h4⟩ := h.ex
  have hlen := h3.len
  obtain ⟨g1, c1, rfl, hlc⟩ := own_form1 h2 (by omega)
  obtain ⟨w0, hw0⟩ : ∃ w0, w0 = w.alloc (.cells #[.int .u64 q, .int .u64 (s.acked + k), .slice A x.length c] 33) := ⟨_, rfl⟩
  have hb0 : Blk w0 b 63 (strC s (.slice (some ⟨g1, 0, none⟩) us.length c1)) := by rw [hw0]; exact h1.alloc _
  have hT := there_any b s _ w0 hb0 o1
  have hG : Blk w0 w.heap.size 33 #[.int .u64 q, .int .u64 (s.acked + k), .slice A x.length c] := by rw [hw0]; exact Blk.new _ _ _
  have u0 : Upd (fun _ => False) w w0 := by rw [hw0]; exact (Upd.refl _ _).alloc _
  obtain ⟨A2, hA2⟩ : ∃ A2 : Option Addr, A2 = (if c1 = k then some ⟨g1, 0, none⟩ else (some (⟨g1, 0, none⟩ : Addr)).map (·.add (k * 1))) := ⟨_, rfl⟩
  have hRd : Reads w0 (fun _ => True) 1 A2 (us.length - k) (us.drop k) := by
    have := ((Reads.of_own (I := fun _ => True) h2 fun _ _ => trivial).keep (u0.same fun _ hF => hF.elim)).cut (k := k) (cap := c1) (by omega) hlc
    rw [hA2]
    simpa using this
  have hsl : ∀ wx, (Instr.slice 53 (.slice (some ⟨g1, 0, none⟩) us.length c1) (some (.int .i64 (k : Int))) none none).run Try.prog wx = .ok (.slice A2 (us.length - k) (c1 - k)) wx := by
    intro wx
    have ht' : (Try.prog).underlying 53 = some (.slice ((Try.prog).elem 53)) := by simp [Program.elem, Try.underlying53]
    have he : (Try.prog).elem 53 = 29 := by simp [Program.elem, Try.underlying53]
    have hz : (Go.sizeOf 29).run Try.prog wx = .ok 1 wx := by go_simp
    rw [run_slice_l wx _ _ _ _ ht' .i64 _ (by omega) (by omega), he, hz, hA2]
    by_cases h0 : c1 = k
    · simp [Result.andThen, sliced, h0]
    · simp [Result.andThen, sliced, h0]
  have ho : ∀ u ∈ us.drop k, u.oneCell' = true := fun u hu => (h3.one u (List.mem_of_mem_drop hu))
  have hC : ∀ (wq : World), wq.heap = w0.heap →
      Calls Try.prog 25 #[.slice A2 (us.length - k) (c1 - k)] wq fun e w' => ∃ Av cv, e = .returned (.slice Av (us.length - k) cv) ∧ w'.ownsRow wq.heap.size 29 1 (.slice Av (us.length - k) cv) (us.length - k) (us.drop k) ∧ Below wq.heap.size wq w' ∧
        Blk w' b 63 (strC s (.slice (some ⟨g1, 0, none⟩) us.length c1)) ∧ w'.cell? ⟨b, 3, none⟩ = some (.int .i64 s.sent) ∧ w'.cell? ⟨w.heap.size, 1, none⟩ = some (.int .u64 ((s.acked : Int) + k)) ∧
        w'.frozen? ⟨b, 1, none⟩ = false ∧ w'.frozen? ⟨b, 2, none⟩ = false ∧ w'.frozen? ⟨b, 3, none⟩ = false ∧ w'.frozen? ⟨b, 6, none⟩ = false ∧
        w'.cell? ⟨b, 1, none⟩ = some (.int .u64 s.acked) ∧ w'.cell? ⟨b, 2, none⟩ = some (.slice (some ⟨g1, 0, none⟩) us.length c1) ∧ w'.cell? ⟨b, 6, none⟩ = some (.int .i64 s.silent) ∧ w'.cell? ⟨w.heap.size, 0, none⟩ = some (.int .u64 q) ∧ w'.cell? ⟨w.heap.size, 2, none⟩ = some (.slice A x.length c) := by
    intro wq e
    refine (cloneS_any A2 (us.length - k) (c1 - k) (us.drop k) (fun _ => True) wq (hRd.keep (Same.ofHeap _ e)) ho (by omega)).mono ?_
    rintro e1 w1 ⟨v1, rfl, ho, hb⟩
    obtain ⟨Av, cv, rfl, _⟩ := own_form ho
    have hk1 : Blk w1 b 63 (strC s (.slice (some ⟨g1, 0, none⟩) us.length c1)) := by
      have : Blk wq b 63 (strC s (.slice (some ⟨g1, 0, none⟩) us.length c1)) := by unfold Blk at hb0 ⊢; rw [e]; exact hb0
      exact this.later hb (by rfl)
    have hg1 : Blk w1 w.heap.size 33 #[.int .u64 q, .int .u64 (s.acked + k), .slice A x.length c] := by
      have : Blk wq w.heap.size 33 #[.int .u64 q, .int .u64 (s.acked + k), .slice A x.length c] := by unfold Blk at hG ⊢; rw [e]; exact hG
      exact this.later hb (by rfl)
    exact ⟨Av, cv, rfl, ho, hb, hk1, hk1.cell 3, hg1.cell 1, hk1.frozen 1, hk1.frozen 2, hk1.frozen 3, hk1.frozen 6, hk1.cell 1, hk1.cell 2, hk1.cell 6, hg1.cell 0, hg1.cell 2⟩
  rw [hw0] at hT hC u0
  have HT := Lib.hid hT
  have HC := Lib.hid hC
  have U0 := Lib.hid u0
  have hc1 : w.cell? ⟨b, 1, none⟩ = some (.int .u64 s.acked) := h1.cell 1
  have hc2 : w.cell? ⟨b, 2, none⟩ = some (.slice (some ⟨g1, 0, none⟩) us.length c1) := h1.cell 2
  have hc3 : w.cell? ⟨b, 3, none⟩ = some (.int .i64 s.sent) := h1.cell 3
  have hbl := h1.lt
  have H := Lib.hid h
  have HX := Lib.hid hx
  have H1 := Lib.hid h1
  have H3 := Lib.hid h3
  have hd0 : decide ((s.acked : Int) < (s.acked : Int) + (k : Int)) = true := decide_eq_true (by omega)
  have hd1 : decide ((s.acked : Int) + (k : Int) ≤ (s.acked : Int) + (s.sent : Int)) = true := decide_eq_true (by omega)
  have hwr : IntKind.i64.wrap ((s.sent : Int) - (k : Int)) = ((s.sent - k : Nat) : Int) := by simp [IntKind.wrap, IntKind.bits, IntKind.signed]; omega
  have hsub : (s.acked : Int) + (k : Int) - (s.acked : Int) = k := by omega
  clear hx h h1 h2 h3 h4 hT hC hw0 hG hb0 u0 hRd ho hA2 hlen
  go_enter Try.func10, Try.ntmps10
  go_wp2_with (go_at_call 24; refine (HT.out).mono ?_; rintro e w' ⟨rfl, rfl⟩)
  go_quiet (fail)
  go_wp2_with fail
  go_quiet (fail)
  go_wp2_with fail
  apply cut_
  case h1 =>
    intro key
    go_region_law (first
      | (go_simp; go_at_call 25; refine (HC.out _ (by rfl)).mono ?_; rintro e w1 ⟨Av, cv, rfl, hown1, hb1, hk1, hcc3, hcg1, hff1, hff2, hff3, hff6, hcc1, hcc2, hcc6, hcg0, hcg2⟩))
    all_goals
      have hb1' : Below w.heap.size w w1 := ⟨hb1.os.trans U0.out.os, hb1.tape.trans U0.out.tape, hb1.output.trans U0.out.output, Nat.le_trans U0.out.size hb1.size, fun k hk => (hb1.block k (Nat.lt_of_lt_of_le hk U0.out.size)).trans (U0.out.block k hk (fun h => h))⟩
      have hown' := own_base (b2 := w.heap.size) hown1 U0.out.size
      clear hown1 hb1 hcc3 hcg1 hff1 hff2 hff3 hff6 hcc1 hcc2 hcc6
      revert hb1' hown' hk1 hcg0 hcg2
      revert Av cv
      revert w1
      exact key
  case h2 =>
    intro w1 Av cv hkb hcg0 hcg2 hb1 hown1
    have h2 := ((((hkb.set_ 2 (.slice Av (us.length - k) cv)).set_ 3 (.int .i64 ((s.sent - k : Nat) : Int))).set_ 1 (.int .u64 ((s.acked : Int) + k))).set_ 6 (.int .i64 0))
    have hu2 := (((upd_set w1 b 2 (.slice Av (us.length - k) cv)).set_ 3 (.int .i64 ((s.sent - k : Nat) : Int))).set_ 1 (.int .u64 ((s.acked : Int) + k))).set_ 6 (.int .i64 0)
    obtain ⟨w2, hw2⟩ : ∃ w2, w2 = ((((w1.setCell ⟨b, 2, none⟩ (.slice Av (us.length - k) cv)).setCell ⟨b, 3, none⟩ (.int .i64 ((s.sent - k : Nat) : Int))).setCell ⟨b, 1, none⟩ (.int .u64 ((s.acked : Int) + k))).setCell ⟨b, 6, none⟩ (.int .i64 0)) := ⟨_, rfl⟩
    rw [← hw2] at h2 hu2 ⊢
    have hk2 : Blk w2 b 63 (strC (ackd s k) (.slice Av (us.length - k) cv)) := by simpa [strC, ackd] using h2
    obtain ⟨M2, t0, hst⟩ := ack_close H.out ⟨_, H1.out⟩ H3.out hb1 (Upd.refl _ _) hown1 hu2 hk2
    have hsz : w.heap.size < w1.heap.size := World.block_lt_of_cell? w1 _ hcg0
    have hsm : Same (fun i => i = w.heap.size) w1 w2 := hu2.same fun i (hi : i = b) (hj : i = w.heap.size) => by omega
    have hG0 : w2.cell? ⟨w.heap.size, 0, none⟩ = some (.int .u64 q) := (World.cell?_of_block (w := w1) (hsm.2 _ rfl hsz)).trans hcg0
    have hG2 : w2.cell? ⟨w.heap.size, 2, none⟩ = some (.slice A x.length c) := (World.cell?_of_block (w := w1) (hsm.2 _ rfl hsz)).trans hcg2
    have hz2 : w.heap.size ≤ w2.heap.size := by have := hu2.size; omega
    have hbl2 : b ≠ w.heap.size := by omega
    have hx2 : Reads w2 (fun i => J i ∧ i < w.heap.size) 1 A x.length (bytesV x) := (HX.out.lt.keep (Same.ofBelow hb1 fun _ h => h.2)).keep (hu2.same fun i (hi : i = b) hj => hJ (hi ▸ hj.1))
    have u1 : Upd (only b) w2 (w2.setCell ⟨b, 5, none⟩ (.bool true)) := upd_set _ _ _ _
    have t1 : IsStr (w2.setCell ⟨b, 5, none⟩ (.bool true)) M2 I b { ackd s k with owed := true } := t0.cells (upd_set _ _ _ _) rfl fun v hv => by
      have := hv.set_ 5 (.bool true)
      simpa [strC] using this
    have u2 := u1.set_ 4 (.int .u64 ((s.taken : Int) + 1))
    have t2 : IsStr ((w2.setCell ⟨b, 5, none⟩ (.bool true)).setCell ⟨b, 4, none⟩ (.int .u64 ((s.taken : Int) + 1))) M2 I b { ackd s k with owed := true, taken := s.taken + 1 } := t1.cells (upd_set _ _ _ _) rfl fun v hv => by
      have := hv.set_ 4 (.int .u64 ((s.taken : Int) + 1))
      simpa [strC] using this
    have hd1 : ((w2.setCell ⟨b, 5, none⟩ (.bool true)).setCell ⟨b, 4, none⟩ (.int .u64 ((s.taken : Int) + 1))).cell? ⟨b, 1, none⟩ = some (.int .u64 ((s.acked : Int) + k)) := by
      obtain ⟨v', us', k1, _⟩ := t2.ex
      exact k1.cell 1
    have hCC : ∀ (wq : World), wq.heap = ((w2.setCell ⟨b, 5, none⟩ (.bool true)).setCell ⟨b, 4, none⟩ (.int .u64 ((s.taken : Int) + 1))).heap →
        Calls Try.prog 26 #[.slice A x.length c] wq fun e w' => ∃ v, e = .returned v ∧ w'.ownsRow wq.heap.size 5 1 v x.length (bytesV x) ∧ Below wq.heap.size wq w' ∧ w'.cell? ⟨b, 1, none⟩ = some (.int .u64 ((s.acked : Int) + k)) := by
      intro wq e
      refine (clone8_any A x.length c (bytesV x) _ wq (hx2.keep ((u2.same fun i (hi : i = b) hj => hJ (hi ▸ hj.1)).trans (Same.ofHeap _ e))) (bytesV_one x) (by omega)).mono ?_
      rintro e1 w1 ⟨v1, he, ho, hb⟩
      refine ⟨v1, he, ho, hb, ?_⟩
      have hcq : wq.cell? ⟨b, 1, none⟩ = some (.int .u64 ((s.acked : Int) + k)) := by rw [← hd1]; unfold World.cell?; rw [e]
      exact (hb.cell (World.block_lt_of_cell? wq _ hcq)).trans hcq
    have S0 := Lib.hid t0
    have U1 := Lib.hid u1
    have S1 := Lib.hid t1
    have U2 := Lib.hid u2
    have S2 := Lib.hid t2
    have HCC := Lib.hid hCC
    have HST := Lib.hid hst
    have hp1 : w2.cell? ⟨b, 1, none⟩ = some (.int .u64 ((s.acked : Int) + k)) := hk2.cell 1
    have hp4 : w2.cell? ⟨b, 4, none⟩ = some (.int .u64 s.taken) := hk2.cell 4
    have hp5 : w2.cell? ⟨b, 5, none⟩ = some (.bool s.owed) := hk2.cell 5
    have hf4 : w2.frozen? ⟨b, 4, none⟩ = false := hk2.frozen 4
    have hf5 : w2.frozen? ⟨b, 5, none⟩ = false := hk2.frozen 5
    clear hw2 h2 hu2 hk2 t0 hst hsm hx2 u1 t1 u2 t2 hd1 hCC hcg0 hcg2 hb1 hown1 hkb hc1 hc2 hc3 hsl HC HT hd0
    by_cases hq0 : q = 0
    · have hi : seqI s q = false := by simp [seqI, hq0]
      have hs : seqS (ackd s k) q = ackd s k := by simp [seqS, hq0]
      have hq1 : (((q : Nat) : Int) == 0) = true := by simp [hq0]
      have HI := Lib.hid hi
      have HS := Lib.hid hs
      clear hi hs hq0
      go_wp2_with fail
      go_quiet (fail)
      go_wp2_with fail
      refine bodyPost_ret (results_tmp4 rfl _ _ _) rfl ?_
      exact ⟨.slice none 0 0, by rw [HI.out]; rfl, ⟨fun h => by rw [HI.out] at h; exact absurd h (by decide), fun _ => rfl⟩, M2, by rw [HS.out]; exact S0.out.keep (Same.ofHeap _ rfl), ⟨HST.out.upd.drewN _, HST.out.m, HST.out.i⟩⟩
    by_cases ht : q = s.taken + 1
    · have hi : seqI s q = true := by simp [seqI, ht]
      have hs : seqS (ackd s k) q = { ackd s k with owed := true, taken := s.taken + 1 } := by simp [seqS, ackd, ht]
      have hq1 : (((q : Nat) : Int) == 0) = false := by simp [hq0]
      have hq2 : (((q : Nat) : Int) != (s.taken : Int) + 1) = false := by rw [ht]; exact bne_self_eq_false _
      have HI := Lib.hid hi
      have HS := Lib.hid hs
      clear hi hs hq0 ht
      go_wp2_with fail
      go_quiet (fail)
      go_wp2_with fail
      go_region_law (go_simp; go_at_call 26; refine (HCC.out _ (by rfl)).mono ?_; rintro e w3 ⟨v1, rfl, hown3, hb3, hcc3⟩)
      all_goals
        go_wp2
        refine bodyPost_ret (results_tmp4 rfl _ _ _) rfl ?_
        obtain ⟨f1, f2, f3⟩ := take_close U2.out S2.out (by rfl) ⟨by rfl, by rfl, by rfl⟩ hb3 (by rw [bytesV_len]; exact hown3)
        have hfin := HST.out.upd.trans f3 fun i (hi : i = b) => .inl (hi ▸ H.out.mb)
        exact ⟨v1, by rw [HI.out]; rfl, ⟨fun _ => by rw [bytesV_len] at f1; exact own_base f1 hz2, fun h => by rw [HI.out] at h; exact absurd h (by decide)⟩, M2, by rw [HS.out]; exact f2.keep (Same.ofHeap _ rfl), ⟨⟨hfin.os, hfin.tape, hfin.output, hfin.size, hfin.block⟩, HST.out.m, HST.out.i⟩⟩
    · have hi : seqI s q = false := by simp [seqI, ht]
      have hs : seqS (ackd s k) q = { ackd s k with owed := true } := by simp [seqS, ackd, hq0, ht]
      have hq1 : (((q : Nat) : Int) == 0) = false := by simp [hq0]
      have hq2 : (((q : Nat) : Int) != (s.taken : Int) + 1) = true := bne_iff_ne.2 (by omega)
      have HI := Lib.hid hi
      have HS := Lib.hid hs
      clear hi hs hq0 ht
      go_wp2_with fail
      go_quiet (fail)
      go_wp2_with fail
      go_quiet (fail)
      go_wp2_with fail
      refine bodyPost_ret (results_tmp4 rfl _ _ _) rfl ?_
      have hfin := HST.out.upd.trans U1.out fun i (hi : i = b) => .inl (hi ▸ H.out.mb)
      exact ⟨.slice none 0 0, by rw [HI.out]; rfl, ⟨fun h => by rw [HI.out] at h; exact absurd h (by decide), fun _ => rfl⟩, M2, by rw [HS.out]; exact S1.out.keep (Same.ofHeap _ rfl), ⟨⟨hfin.os, hfin.tape, hfin.output, hfin.size, hfin.block⟩, HST.out.m, HST.out.i⟩⟩
theorem take_ackq (M I : Nat → Prop) (b : Nat) (s : SS) (J : Nat → Prop) (q k : Nat) (A : Option Addr) (x : List UInt8) (c : Nat) (w : World) (h : IsStr w M I b s) (ok : s.ok)
    (hx : Reads w J 1 A x.length (bytesV x)) (hJ : ¬ J b) (hn : x.length ≤ 1024) (hk0 : 1 ≤ k) (hk1 : k ≤ s.sent) :
    Calls Try.prog 10 #[.pointer (some ⟨b, 0, none⟩), segP q (s.acked + k) A x.length c] w fun e w' => ∃ v, e = .returned (takeR v (s.acked + k) (seqI s q)) ∧
      (seqI s q = true → w'.ownsRow w.heap.size 5 1 v x.length (bytesV x)) ∧ ∃ M2, IsStr w' M2 I b (seqS (ackd s k) q) ∧ StrUpd w w' M M2 I I :=
  (take_ackq2 M I b s J q k A x c w h ok hx hJ hn hk0 hk1).mono fun _ _ ⟨v, he, hv, hr⟩ => ⟨v, he, hv.1, hr⟩
end Go.Proofs.Ytmkjnblmgofoeaa
