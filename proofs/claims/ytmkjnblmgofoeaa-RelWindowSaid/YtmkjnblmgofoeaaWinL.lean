/- What a stream is between the acts of RelWindow. -/
import Derived.Test.YtmkjnblmgofoeaaStAtQ
namespace Go.Proofs.Ytmkjnblmgofoeaa
open Go.RowKit

/-- After k acts. -/
structure WinOk (s : SS) (k : Nat) : Prop where
  again : s.again = 3
  sum : s.acked + s.xs.length ≤ k
  short : ∀ x ∈ s.xs, x.length ≤ 1024
  sent : s.sent ≤ s.xs.length
  sent8 : s.sent ≤ 8
  taken : s.taken ≤ k
  silent : s.silent ≤ k

theorem WinOk.ok {s : SS} {k : Nat} (h : WinOk s k) (hk : k ≤ 1000) : s.ok := by
  obtain ⟨h1, h2, _, h4, h5, h6, h7⟩ := h
  exact ⟨by omega, by omega, by omega, by omega, h4, h5, by omega, by omega⟩
theorem WinOk.next {s : SS} {k : Nat} (h : WinOk s k) : WinOk s (k + 1) := by
  obtain ⟨h1, h2, h3, h4, h5, h6, h7⟩ := h
  exact ⟨h1, by omega, h3, h4, h5, by omega, by omega⟩
theorem WinOk.send {s : SS} {k : Nat} (h : WinOk s k) {x : List UInt8} (hx : x.length ≤ 1024) : WinOk { s with xs := s.xs ++ [x] } (k + 1) := by
  obtain ⟨h1, h2, h3, h4, h5, h6, h7⟩ := h
  refine ⟨h1, ?_, ?_, ?_, h5, ?_, ?_⟩
  · show s.acked + (s.xs ++ [x]).length ≤ k + 1
    simp; omega
  · intro y hy
    rcases List.mem_append.1 hy with hy | hy
    · exact h3 y hy
    · rw [List.mem_singleton.1 hy]; exact hx
  · show s.sent ≤ (s.xs ++ [x]).length
    simp; omega
  · show s.taken ≤ k + 1; omega
  · show s.silent ≤ k + 1; omega
theorem WinOk.ack {s : SS} {k : Nat} (h : WinOk s k) (a : Nat) : WinOk (ackS s a) k ∧ (ackS s a).acked + (ackS s a).sent = s.acked + s.sent := by
  unfold ackS
  split
  · rename_i ha
    obtain ⟨h1, h2, h3, h4, h5, h6, h7⟩ := h
    refine ⟨⟨h1, ?_, fun y hy => h3 y (List.mem_of_mem_drop hy), ?_, ?_, h6, ?_⟩, ?_⟩
    · show a + (s.xs.drop (a - s.acked)).length ≤ k
      rw [List.length_drop]; omega
    · show s.sent - (a - s.acked) ≤ (s.xs.drop (a - s.acked)).length
      rw [List.length_drop]; omega
    · show s.sent - (a - s.acked) ≤ 8; omega
    · show 0 ≤ k; omega
    · show a + (s.sent - (a - s.acked)) = s.acked + s.sent; omega
  · exact ⟨h, rfl⟩
theorem WinOk.seq {s : SS} {k : Nat} (h : WinOk s k) (q : Nat) : WinOk (seqS s q) (k + 1) ∧ (seqS s q).acked = s.acked ∧ (seqS s q).sent = s.sent := by
  obtain ⟨h1, h2, h3, h4, h5, h6, h7⟩ := h
  unfold seqS
  split
  · exact ⟨⟨h1, by omega, h3, h4, h5, by omega, by omega⟩, rfl, rfl⟩
  · split
    · exact ⟨⟨h1, by show s.acked + s.xs.length ≤ k + 1; omega, h3, h4, h5, by show s.taken + 1 ≤ k + 1; omega, by show s.silent ≤ k + 1; omega⟩, rfl, rfl⟩
    · exact ⟨⟨h1, by show s.acked + s.xs.length ≤ k + 1; omega, h3, h4, h5, by show s.taken ≤ k + 1; omega, by show s.silent ≤ k + 1; omega⟩, rfl, rfl⟩
theorem WinOk.due {s : SS} {k : Nat} (h : WinOk s k) : WinOk (dueS s) (k + 1) ∧ (dueS s).acked = s.acked ∧ (dueS s).taken = s.taken ∧ (dueS s).sent = (if s.sent < dueTo s then dueTo s else s.sent) := by
  obtain ⟨h1, h2, h3, h4, h5, h6, h7⟩ := h
  have hd : dueTo s ≤ s.xs.length ∧ dueTo s ≤ 8 := by unfold dueTo; omega
  unfold dueS
  split
  · exact ⟨⟨h1, by show s.acked + s.xs.length ≤ k + 1; omega, h3, hd.1, hd.2, by show s.taken ≤ k + 1; omega, by show 0 ≤ k + 1; omega⟩, rfl, rfl, rfl⟩
  · exact ⟨⟨h1, by show s.acked + s.xs.length ≤ k + 1; omega, h3, h4, h5, by show s.taken ≤ k + 1; omega, by show s.silent ≤ k + 1; omega⟩, rfl, rfl, rfl⟩
theorem WinOk.tick {s : SS} {k : Nat} (h : WinOk s k) : WinOk (tickS s) (k + 1) ∧ (tickS s).acked = s.acked ∧ (tickS s).taken = s.taken ∧ (tickS s).sent = s.sent := by
  obtain ⟨h1, h2, h3, h4, h5, h6, h7⟩ := h
  unfold tickS
  split
  · exact ⟨⟨h1, by show s.acked + s.xs.length ≤ k + 1; omega, h3, h4, h5, by show s.taken ≤ k + 1; omega, by show 0 ≤ k + 1; omega⟩, rfl, rfl, rfl⟩
  · split
    · exact ⟨⟨h1, by show s.acked + s.xs.length ≤ k + 1; omega, h3, h4, h5, by show s.taken ≤ k + 1; omega, by show s.silent + 1 ≤ k + 1; omega⟩, rfl, rfl, rfl⟩
    · exact ⟨⟨h1, by show s.acked + s.xs.length ≤ k + 1; omega, h3, h4, h5, by show s.taken ≤ k + 1; omega, by show 0 ≤ k + 1; omega⟩, rfl, rfl, rfl⟩
end Go.Proofs.Ytmkjnblmgofoeaa
