/- What a stream is between the acts of RelPlays. -/
import Derived.Test.YtmkjnblmgofoeaaStAtQ
namespace Go.Proofs.Ytmkjnblmgofoeaa
open Go.RowKit

/-- After k acts. -/
structure PlOk (s : SS) (k : Nat) : Prop where
  again : 1 ≤ s.again
  again2 : s.again ≤ 100
  sum : s.acked + s.xs.length ≤ k
  short : ∀ x ∈ s.xs, x.length ≤ 1024
  sent : s.sent ≤ s.xs.length
  sent8 : s.sent ≤ 8
  taken : s.taken ≤ k
  silent : s.silent ≤ k

theorem PlOk.ok {s : SS} {k : Nat} (h : PlOk s k) (hk : k ≤ 1000) : s.ok := by
  obtain ⟨h1, h1b, h2, _, h4, h5, h6, h7⟩ := h
  exact ⟨by omega, by omega, by omega, by omega, h4, h5, by omega, by omega⟩
theorem PlOk.next {s : SS} {k : Nat} (h : PlOk s k) : PlOk s (k + 1) := by
  obtain ⟨h1, h1b, h2, h3, h4, h5, h6, h7⟩ := h
  exact ⟨h1, h1b, by omega, h3, h4, h5, by omega, by omega⟩
theorem PlOk.send {s : SS} {k : Nat} (h : PlOk s k) {x : List UInt8} (hx : x.length ≤ 1024) : PlOk { s with xs := s.xs ++ [x] } (k + 1) := by
  obtain ⟨h1, h1b, h2, h3, h4, h5, h6, h7⟩ := h
  refine ⟨h1, h1b, ?_, ?_, ?_, h5, ?_, ?_⟩
  · show s.acked + (s.xs ++ [x]).length ≤ k + 1
    simp; omega
  · intro y hy
    rcases List.mem_append.1 hy with hy | hy
    · exact h3 y hy
    · rw [List.mem_singleton.1 hy]; exact hx
  · show s.sent ≤ (s.xs ++ [x]).length
    simp; omega
  · show s.taken ≤ k + 1; omega
  · show s.silent ≤ k + 1; omega
theorem PlOk.ack {s : SS} {k : Nat} (h : PlOk s k) (a : Nat) : PlOk (ackS s a) k ∧ (ackS s a).acked + (ackS s a).sent = s.acked + s.sent := by
  unfold ackS
  split
  · rename_i ha
    obtain ⟨h1, h1b, h2, h3, h4, h5, h6, h7⟩ := h
    refine ⟨⟨h1, h1b, ?_, fun y hy => h3 y (List.mem_of_mem_drop hy), ?_, ?_, h6, ?_⟩, ?_⟩
    · show a + (s.xs.drop (a - s.acked)).length ≤ k
      rw [List.length_drop]; omega
    · show s.sent - (a - s.acked) ≤ (s.xs.drop (a - s.acked)).length
      rw [List.length_drop]; omega
    · show s.sent - (a - s.acked) ≤ 8; omega
    · show 0 ≤ k; omega
    · show a + (s.sent - (a - s.acked)) = s.acked + s.sent; omega
  · exact ⟨h, rfl⟩
theorem PlOk.seq {s : SS} {k : Nat} (h : PlOk s k) (q : Nat) : PlOk (seqS s q) (k + 1) ∧ (seqS s q).acked = s.acked ∧ (seqS s q).sent = s.sent := by
  obtain ⟨h1, h1b, h2, h3, h4, h5, h6, h7⟩ := h
  unfold seqS
  split
  · exact ⟨⟨h1, h1b, by omega, h3, h4, h5, by omega, by omega⟩, rfl, rfl⟩
  · split
    · exact ⟨⟨h1, h1b, by show s.acked + s.xs.length ≤ k + 1; omega, h3, h4, h5, by show s.taken + 1 ≤ k + 1; omega, by show s.silent ≤ k + 1; omega⟩, rfl, rfl⟩
    · exact ⟨⟨h1, h1b, by show s.acked + s.xs.length ≤ k + 1; omega, h3, h4, h5, by show s.taken ≤ k + 1; omega, by show s.silent ≤ k + 1; omega⟩, rfl, rfl⟩
theorem PlOk.due {s : SS} {k : Nat} (h : PlOk s k) : PlOk (dueS s) (k + 1) ∧ (dueS s).acked = s.acked ∧ (dueS s).taken = s.taken ∧ (dueS s).sent = (if s.sent < dueTo s then dueTo s else s.sent) := by
  obtain ⟨h1, h1b, h2, h3, h4, h5, h6, h7⟩ := h
  have hd : dueTo s ≤ s.xs.length ∧ dueTo s ≤ 8 := by unfold dueTo; omega
  unfold dueS
  split
  · exact ⟨⟨h1, h1b, by show s.acked + s.xs.length ≤ k + 1; omega, h3, hd.1, hd.2, by show s.taken ≤ k + 1; omega, by show 0 ≤ k + 1; omega⟩, rfl, rfl, rfl⟩
  · exact ⟨⟨h1, h1b, by show s.acked + s.xs.length ≤ k + 1; omega, h3, h4, h5, by show s.taken ≤ k + 1; omega, by show s.silent ≤ k + 1; omega⟩, rfl, rfl, rfl⟩
theorem PlOk.tick {s : SS} {k : Nat} (h : PlOk s k) : PlOk (tickS s) (k + 1) ∧ (tickS s).acked = s.acked ∧ (tickS s).taken = s.taken ∧ (tickS s).sent = s.sent := by
  obtain ⟨h1, h1b, h2, h3, h4, h5, h6, h7⟩ := h
  unfold tickS
  split
  · exact ⟨⟨h1, h1b, by show s.acked + s.xs.length ≤ k + 1; omega, h3, h4, h5, by show s.taken ≤ k + 1; omega, by show 0 ≤ k + 1; omega⟩, rfl, rfl, rfl⟩
  · split
    · exact ⟨⟨h1, h1b, by show s.acked + s.xs.length ≤ k + 1; omega, h3, h4, h5, by show s.taken ≤ k + 1; omega, by show s.silent + 1 ≤ k + 1; omega⟩, rfl, rfl, rfl⟩
    · exact ⟨⟨h1, h1b, by show s.acked + s.xs.length ≤ k + 1; omega, h3, h4, h5, by show s.taken ≤ k + 1; omega, by show 0 ≤ k + 1; omega⟩, rfl, rfl, rfl⟩
end Go.Proofs.Ytmkjnblmgofoeaa
