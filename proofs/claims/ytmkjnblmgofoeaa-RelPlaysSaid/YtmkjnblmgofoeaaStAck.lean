/- Contract of (*Stream).Take where messages are acknowledged. -/
import Derived.Test.YtmkjnblmgofoeaaStTake
namespace Go.Proofs.Ytmkjnblmgofoeaa
open Go.RowKit

def ackd (s : SS) (k : Nat) : SS := { s with xs := s.xs.drop k, sent := s.sent - k, acked := s.acked + k, silent := 0 }

theorem Items.drop_ {w : World} {I : Nat → Prop} : ∀ {us : List Value} {xs : List (List UInt8)}, Items w I us xs → ∀ k, Items w I (us.drop k) (xs.drop k)
  | _, _, h, 0 => by simpa using h
  | [], [], h, k + 1 => by simpa using h
  | _ :: us, _ :: xs, h, k + 1 => by simpa using h.2.drop_ k

theorem ack_close {w wq w1 w2 : World} {M I : Nat → Prop} {b k : Nat} {s : SS} {us : List Value} {Av : Option Addr} {cv : Nat} (h : IsStr w M I b s) (h1 : ∃ v, Blk w b 63 (strC s v)) (h3 : Items w I us s.xs)
    (hb : Below wq.heap.size wq w1) (hq : Upd (fun _ => False) w wq) (ho : w1.ownsRow wq.heap.size 29 1 (.slice Av (us.length - k) cv) (us.length - k) (us.drop k))
    (hu : Upd (only b) w1 w2) (hk : Blk w2 b 63 (strC (ackd s k) (.slice Av (us.length - k) cv))) :
    ∃ M2, IsStr w2 M2 I b (ackd s k) ∧ StrUpd w w2 M M2 I I := by
  obtain ⟨v0, h1⟩ := h1
  have hbl := h1.lt
  have hs := hq.size
  have hs1 := hb.size
  have hA : ∀ g, (Value.slice Av (us.length - k) cv).ownBlock = some g → w.heap.size ≤ g ∧ g < w1.heap.size := fun g hg => by have := own_lt ho hg; omega
  have u2 : Upd (only b) w w2 := ((hq.mono fun _ hF => hF.elim).trans_ (Upd.ofBelow hb _)).trans_ hu
  refine ⟨fun i => i = b ∨ (Value.slice Av (us.length - k) cv).ownBlock = some i, ⟨⟨_, us.drop k, hk, ?_, ?_, fun g hg => .inr hg⟩, .inl rfl, ?_, ?_, ?_⟩, ⟨u2.mono fun i (hi : i = b) => .inl (hi ▸ h.mb), ?_, fun i hi => .inl hi⟩⟩
  · rw [List.length_drop]
    exact own_keep (I := fun i => w.heap.size ≤ i ∧ i < w1.heap.size) (own_base ho (Nat.zero_le _)) (hu.same fun i (hi : i = b) hn => by omega) (fun g hg => hA g hg)
  · exact (h3.drop_ k).keep (u2.same fun i (hi : i = b) hn => h.dis i (hi ▸ h.mb) hn)
  · rintro i (rfl | hi) hn
    · exact h.dis _ h.mb hn
    · have := hA i hi
      have := h.ltI i hn
      omega
  · rintro i (rfl | hi)
    · exact Nat.lt_of_lt_of_le hbl u2.size
    · have := hA i hi
      have := hu.size
      omega
  · exact fun i hi => Nat.lt_of_lt_of_le (h.ltI i hi) u2.size
  · rintro i (rfl | hi)
    · exact .inl h.mb
    · exact .inr (hA i hi).1

set_option maxHeartbeats 4000000 in
theorem take_ack0 (M I : Nat → Prop) (b : Nat) (s : SS) (k : Nat) (A : Option Addr) (n c : Nat) (w : World) (h : IsStr w M I b s) (ok : s.ok)
    (hn : n ≤ 1024) (hk0 : 1 ≤ k) (hk1 : k ≤ s.sent) :
    Calls Try.prog 10 #[.pointer (some ⟨b, 0, none⟩), segP 0 (s.acked + k) A n c] w fun e w' => e = .returned (takeR (.slice none 0 0) (s.acked + k) false) ∧
      ∃ M2, IsStr w' M2 I b (ackd s k) ∧ StrUpd w w' M M2 I I := by
  obtain ⟨o1, o2, o3, o4, o5, o6, o7, o8⟩ := ok
  obtain ⟨v, us, h1, h2, h3, h4⟩ := h.ex
  have hlen := h3.len
  obtain ⟨g1, c1, rfl, hlc⟩ := own_form1 h2 (by omega)
  obtain ⟨w0, hw0⟩ : ∃ w0, w0 = w.alloc (.cells #[.int .u64 0, .int .u64 (s.acked + k), .slice A n c] 33) := ⟨_, rfl⟩
  have hb0 : Blk w0 b 63 (strC s (.slice (some ⟨g1, 0, none⟩) us.length c1)) := by rw [hw0]; exact h1.alloc _
  have hT := there_any b s _ w0 hb0 o1
  have hG : Blk w0 w.heap.size 33 #[.int .u64 0, .int .u64 (s.acked + k), .slice A n c] := by rw [hw0]; exact Blk.new _ _ _
  have u0 : Upd (fun _ => False) w w0 := by rw [hw0]; exact (Upd.refl _ _).alloc _
  obtain ⟨A2, hA2⟩ : ∃ A2 : Option Addr, A2 = (if c1 = k then some ⟨g1, 0, none⟩ else (some (⟨g1, 0, none⟩ : Addr)).map (·.add (k * 1))) := ⟨_, rfl⟩
  have hRd : Reads w0 (fun _ => True) 1 A2 (us.length - k) (us.drop k) := by
    have := ((Reads.of_own (I := fun _ => True) h2 fun _ _ => trivial).keep (u0.same fun _ hF => hF.elim)).cut (k := k) (cap := c1) (by omega) hlc
    rw [hA2]
    simpa using this
  have hsl : ∀ wx, (Instr.slice 53 (.slice (some ⟨g1, 0, none⟩) us.length c1) (some (.int .i64 (k : Int))) none none).run Try.prog wx = .ok (.slice A2 (us.length - k) (c1 - k)) wx := by
    intro wx
    have ht' : (Try.prog).underlying 53 = some (.slice ((Try.prog).elem 53)) := by simp [Program.elem, Try.underlying53]
    have he : (Try.prog).elem 53 = 29 := by simp [Program.elem, Try.underlying53]
    have hz : (Go.sizeOf 29).run Try.prog wx = .ok 1 wx := by go_simp
    rw [run_slice_l wx _ _ _ _ ht' .i64 _ (by omega) (by omega), he, hz, hA2]
    by_cases h0 : c1 = k
    · simp [Result.andThen, sliced, h0]
    · simp [Result.andThen, sliced, h0]
  have ho : ∀ u ∈ us.drop k, u.oneCell' = true := fun u hu => (h3.one u (List.mem_of_mem_drop hu))
  have hC : ∀ (wq : World), wq.heap = w0.heap →
      Calls Try.prog 25 #[.slice A2 (us.length - k) (c1 - k)] wq fun e w' => ∃ Av cv, e = .returned (.slice Av (us.length - k) cv) ∧ w'.ownsRow wq.heap.size 29 1 (.slice Av (us.length - k) cv) (us.length - k) (us.drop k) ∧ Below wq.heap.size wq w' ∧
        Blk w' b 63 (strC s (.slice (some ⟨g1, 0, none⟩) us.length c1)) ∧ w'.cell? ⟨b, 3, none⟩ = some (.int .i64 s.sent) ∧ w'.cell? ⟨w.heap.size, 1, none⟩ = some (.int .u64 ((s.acked : Int) + k)) ∧
        w'.frozen? ⟨b, 1, none⟩ = false ∧ w'.frozen? ⟨b, 2, none⟩ = false ∧ w'.frozen? ⟨b, 3, none⟩ = false ∧ w'.frozen? ⟨b, 6, none⟩ = false ∧
        w'.cell? ⟨b, 1, none⟩ = some (.int .u64 s.acked) ∧ w'.cell? ⟨b, 2, none⟩ = some (.slice (some ⟨g1, 0, none⟩) us.length c1) ∧ w'.cell? ⟨b, 6, none⟩ = some (.int .i64 s.silent) ∧ w'.cell? ⟨w.heap.size, 0, none⟩ = some (.int .u64 0) := by
    intro wq e
    refine (cloneS_any A2 (us.length - k) (c1 - k) (us.drop k) (fun _ => True) wq (hRd.keep (Same.ofHeap _ e)) ho (by omega)).mono ?_
    rintro e1 w1 ⟨v1, rfl, ho, hb⟩
    obtain ⟨Av, cv, rfl, _⟩ := own_form ho
    have hk1 : Blk w1 b 63 (strC s (.slice (some ⟨g1, 0, none⟩) us.length c1)) := by
      have : Blk wq b 63 (strC s (.slice (some ⟨g1, 0, none⟩) us.length c1)) := by unfold Blk at hb0 ⊢; rw [e]; exact hb0
      exact this.later hb (by rfl)
    have hg1 : Blk w1 w.heap.size 33 #[.int .u64 0, .int .u64 (s.acked + k), .slice A n c] := by
      have : Blk wq w.heap.size 33 #[.int .u64 0, .int .u64 (s.acked + k), .slice A n c] := by unfold Blk at hG ⊢; rw [e]; exact hG
      exact this.later hb (by rfl)
    exact ⟨Av, cv, rfl, ho, hb, hk1, hk1.cell 3, hg1.cell 1, hk1.frozen 1, hk1.frozen 2, hk1.frozen 3, hk1.frozen 6, hk1.cell 1, hk1.cell 2, hk1.cell 6, hg1.cell 0⟩
  rw [hw0] at hT hC u0
  have HT := Lib.hid hT
  have HC := Lib.hid hC
  have U0 := Lib.hid u0
  have hc1 : w.cell? ⟨b, 1, none⟩ = some (.int .u64 s.acked) := h1.cell 1
  have hc2 : w.cell? ⟨b, 2, none⟩ = some (.slice (some ⟨g1, 0, none⟩) us.length c1) := h1.cell 2
  have hc3 : w.cell? ⟨b, 3, none⟩ = some (.int .i64 s.sent) := h1.cell 3
  have hbl := h1.lt
  have H := Lib.hid h
  have H1 := Lib.hid h1
  have H3 := Lib.hid h3
  have hd0 : decide ((s.acked : Int) < (s.acked : Int) + (k : Int)) = true := decide_eq_true (by omega)
  have hd1 : decide ((s.acked : Int) + (k : Int) ≤ (s.acked : Int) + (s.sent : Int)) = true := decide_eq_true (by omega)
  have hwr : IntKind.i64.wrap ((s.sent : Int) - (k : Int)) = ((s.sent - k : Nat) : Int) := by simp [IntKind.wrap, IntKind.bits, IntKind.signed]; omega
  have hsub : (s.acked : Int) + (k : Int) - (s.acked : Int) = k := by omega
  clear h h1 h2 h3 h4 hT hC hw0 hG hb0 u0 hRd ho hA2 hlen
  go_enter Try.func10, Try.ntmps10
  go_wp2_with (go_at_call 24; refine (HT.out).mono ?_; rintro e w' ⟨rfl, rfl⟩)
  go_quiet (fail)
  go_wp2_with fail
  go_quiet (fail)
  go_wp2_with fail
  go_region_law (first
    | (go_simp; go_at_call 25; refine (HC.out _ (by rfl)).mono ?_; rintro e w1 ⟨Av, cv, rfl, hown1, hb1, hk1, hcc3, hcg1, hff1, hff2, hff3, hff6, hcc1, hcc2, hcc6, hcg0⟩))
  all_goals
    have h2 := ((((hk1.set_ 2 (.slice Av (us.length - k) cv)).set_ 3 (.int .i64 ((s.sent - k : Nat) : Int))).set_ 1 (.int .u64 ((s.acked : Int) + k))).set_ 6 (.int .i64 0))
    have hu2 := (((upd_set w1 b 2 (.slice Av (us.length - k) cv)).set_ 3 (.int .i64 ((s.sent - k : Nat) : Int))).set_ 1 (.int .u64 ((s.acked : Int) + k))).set_ 6 (.int .i64 0)
    have hf := ack_close H.out ⟨_, H1.out⟩ H3.out hb1 ⟨U0.out.os, U0.out.tape, U0.out.output, U0.out.size, U0.out.block⟩ hown1 hu2 (by simpa [strC, ackd] using h2)
    have HF := Lib.hid hf
    clear hf h2 hu2 hk1 hb1 hown1
    go_wp2
    go_quiet (fail)
    go_wp2
    refine bodyPost_ret (results_tmp4 rfl _ _ _) rfl ?_
    obtain ⟨M2, hs2, hu2⟩ := HF.out
    exact ⟨rfl, M2, hs2.keep (Same.ofHeap _ rfl), ⟨hu2.upd.drewN _, hu2.m, hu2.i⟩⟩
end Go.Proofs.Ytmkjnblmgofoeaa
