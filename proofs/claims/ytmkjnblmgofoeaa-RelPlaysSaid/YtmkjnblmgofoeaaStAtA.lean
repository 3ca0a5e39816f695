/- Take that acknowledges, behind a base. -/
import Derived.Test.YtmkjnblmgofoeaaStAt
import Derived.Test.YtmkjnblmgofoeaaStAck
namespace Go.Proofs.Ytmkjnblmgofoeaa
open Go.RowKit
section
variable {B b : Nat} {w wr w2 : World} {s s2 : SS}
theorem ack_at (h : At B w wr b s) (ok : s.ok) {k : Nat} {A : Option Addr} {n c : Nat} (hn : n ≤ 1024) (hk0 : 1 ≤ k) (hk1 : k ≤ s.sent) :
    Calls Try.prog 10 #[.pointer (some ⟨b, 0, none⟩), segP 0 (s.acked + k) A n c] wr fun e w' => e = .returned (takeR (.slice none 0 0) (s.acked + k) false) ∧ At B w w' b (ackd s k) := by
  obtain ⟨M, I, hs, hm, hi⟩ := h.ex
  refine (take_ack0 M I b s k A n c wr hs ok hn hk0 hk1).mono ?_
  rintro e w' ⟨rfl, M2, hs2, hu⟩
  exact ⟨rfl, h.step hs2 hu hm hi⟩

end
end Go.Proofs.Ytmkjnblmgofoeaa
