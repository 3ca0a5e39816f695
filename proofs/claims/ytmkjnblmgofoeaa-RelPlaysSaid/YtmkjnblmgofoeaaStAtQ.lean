/- Take and Copy behind a base, whatever comes. -/
import Derived.Test.YtmkjnblmgofoeaaStAt
import Derived.Test.YtmkjnblmgofoeaaStAckQ
import Derived.Test.YtmkjnblmgofoeaaStCopy
namespace Go.Proofs.Ytmkjnblmgofoeaa
open Go.RowKit
section
variable {B b : Nat} {w wr w2 : World} {s s2 : SS}

theorem ackS_ackd (s : SS) (a : Nat) (h : s.acked < a ∧ a ≤ s.acked + s.sent) : ackS s a = ackd s (a - s.acked) := by
  unfold ackS ackd
  rw [if_pos h, show s.acked + (a - s.acked) = a from by omega]

theorem takeq_at (h : At B w wr b s) (ok : s.ok) {J : Nat → Prop} {q a : Nat} {A : Option Addr} {x : List UInt8} {c : Nat} (hx : Reads wr J 1 A x.length (bytesV x)) (hJ : ¬ J b) (hn : x.length ≤ 1024) :
    Calls Try.prog 10 #[.pointer (some ⟨b, 0, none⟩), segP q a A x.length c] wr fun e w' => ∃ v, e = .returned (takeR v (ackS s a).acked (seqI s q)) ∧
      (seqI s q = true → w'.ownsRow wr.heap.size 5 1 v x.length (bytesV x)) ∧ At B w w' b (seqS (ackS s a) q) := by
  by_cases hk : s.acked < a ∧ a ≤ s.acked + s.sent
  · obtain ⟨M, I, hs, hm, hi⟩ := h.ex
    rw [ackS_ackd s a hk]
    obtain ⟨k, rfl⟩ : ∃ k, a = s.acked + k := ⟨a - s.acked, by omega⟩
    rw [show s.acked + k - s.acked = k from by omega]
    refine (take_ackq M I b s J q k A x c wr hs ok hx hJ hn (by omega) (by omega)).mono ?_
    rintro e w' ⟨v, rfl, hv, M2, hs2, hu⟩
    exact ⟨v, rfl, hv, h.step hs2 hu hm hi⟩
  · have e : ackS s a = s := by unfold ackS; rw [if_neg hk]
    rw [e]
    exact take_at h ok hx hJ hn hk

/-- A copy: the stream is as it was, and one of its own lies behind all. -/
theorem copy_at (h : At B w wr b s) (ok : s.ok) :
    Calls Try.prog 18 #[.pointer (some ⟨b, 0, none⟩)] wr fun e w' => e = .returned (.pointer (some ⟨wr.heap.size, 0, none⟩)) ∧ Below wr.heap.size wr w' ∧ At B w w' b s ∧ ∃ M2 I, IsStr w' M2 I wr.heap.size s ∧ ∀ i, M2 i → wr.heap.size ≤ i := by
  obtain ⟨M, I, hs, hm, hi⟩ := h.ex
  refine (copy_any M I b s wr hs ok).mono ?_
  rintro e w' ⟨rfl, hb, M2, h2, hm2⟩
  exact ⟨rfl, hb, h.later hb, M2, I, h2, hm2⟩

theorem acked_at (h : At B w wr b s) (ha : 1 ≤ s.again) :
    Calls Try.prog 15 #[.pointer (some ⟨b, 0, none⟩)] wr fun e w' => e = .returned (.int .u64 s.acked) ∧ wr = w' := by
  obtain ⟨v, hk⟩ := h.blk
  exact acked_any b s v wr hk ha
theorem taken_at (h : At B w wr b s) (ha : 1 ≤ s.again) :
    Calls Try.prog 16 #[.pointer (some ⟨b, 0, none⟩)] wr fun e w' => e = .returned (.int .u64 s.taken) ∧ wr = w' := by
  obtain ⟨v, hk⟩ := h.blk
  exact taken_any b s v wr hk ha
theorem sendlong_at (h : At B w wr b s) (ha : 1 ≤ s.again) {A : Option Addr} {n c : Nat} (hn : 1024 < n) :
    Calls Try.prog 13 #[.pointer (some ⟨b, 0, none⟩), .slice A n c] wr fun e w' => e = .returned (.tuple #[.int .u64 0, .int .i64 3]) ∧ wr = w' := by
  obtain ⟨v, hk⟩ := h.blk
  exact send_long b s v A n c wr hk ha hn
end
end Go.Proofs.Ytmkjnblmgofoeaa
