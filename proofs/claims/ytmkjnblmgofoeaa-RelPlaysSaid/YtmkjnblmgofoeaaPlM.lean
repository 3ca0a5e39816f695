/- RelPlays: the memory between acts. -/
import Derived.Test.YtmkjnblmgofoeaaWhoC
import Derived.Test.YtmkjnblmgofoeaaRfS
import Derived.Test.YtmkjnblmgofoeaaStCopy
namespace Go.Proofs.Ytmkjnblmgofoeaa
open Go.RowKit

/-- The stream (label 0, its bodies 2), the document's stream and its row (3). -/
structure PlS (w wr : World) (lab : Nat → Nat) (s t : SS) (b rb : Nat) (v : Value) (al : List (List UInt8)) : Prop where
  low : ∀ k, k < w.heap.size → lab k = 9
  below : Below w.heap.size w wr
  st : PSt lab wr 0 b s
  rf : IsRf wr (fun k => k < w.heap.size) rb t v al
  rl : lab rb = 3
  vl : ∀ k, v.ownBlock = some k → lab k = 3

/-- Two rows with the same segments. -/
def SameP (w : World) (u r : Value) : Prop := ∃ A1 c1 g1 A2 c2 g2, u = .slice A1 g1.length c1 ∧ r = .slice A2 g2.length c2 ∧ w.ownsRow 0 33 3 (.slice A1 g1.length c1) g1.length (sgCells g1) ∧ w.ownsRow 0 33 3 (.slice A2 g2.length c2) g2.length (sgCells g2) ∧
  RSeg w (fun _ => True) g1 ∧ RSeg w (fun _ => True) g2 ∧ g1.map Sg.t = g2.map Sg.t ∧ g1.length ≤ 1000
theorem same_p {w : World} {u r : Value} (h : SameP w u r) : Calls Try.prog 21 #[u, r] w fun e w' => e = .returned (.bool true) ∧ ∃ m, w' = w.drewN m := by
  obtain ⟨A1, c1, g1, A2, c2, g2, rfl, rfl, h1, h2, h3, h4, h5, h6⟩ := h
  exact same_any h1 h2 h3 h4 h5 h6

section
variable {c d : Nat} {w wr w2 : World} {lab lab2 : Nat → Nat} {s t s2 : SS} {b rb : Nat} {v : Value} {al : List (List UInt8)}
theorem left_st (h : PSt lab wr c b s) (ha : 1 ≤ s.again) : Calls Try.prog 17 #[.pointer (some ⟨b, 0, none⟩)] wr fun e w' => e = .returned (.int .i64 s.xs.length) ∧ wr = w' := by
  obtain ⟨M, I, hs, hm, hi⟩ := h
  obtain ⟨v, us, h1, h2, h3, h4⟩ := hs.ex
  obtain ⟨A, c, rfl, _⟩ := own_form h2
  rw [← h3.len]
  exact left_any b s A us.length c wr h1 ha
theorem acked_st (h : PSt lab wr c b s) (ha : 1 ≤ s.again) : Calls Try.prog 15 #[.pointer (some ⟨b, 0, none⟩)] wr fun e w' => e = .returned (.int .u64 s.acked) ∧ wr = w' := by
  obtain ⟨M, I, hs, _⟩ := h
  obtain ⟨v, us, h1, _⟩ := hs.ex
  exact acked_any b s v wr h1 ha
theorem taken_st (h : PSt lab wr c b s) (ha : 1 ≤ s.again) : Calls Try.prog 16 #[.pointer (some ⟨b, 0, none⟩)] wr fun e w' => e = .returned (.int .u64 s.taken) ∧ wr = w' := by
  obtain ⟨M, I, hs, _⟩ := h
  obtain ⟨v, us, h1, _⟩ := hs.ex
  exact taken_any b s v wr h1 ha
theorem sendlong_st (h : PSt lab wr c b s) (ha : 1 ≤ s.again) {A : Option Addr} {n k : Nat} (hn : 1024 < n) : Calls Try.prog 13 #[.pointer (some ⟨b, 0, none⟩), .slice A n k] wr fun e w' => e = .returned (.tuple #[.int .u64 0, .int .i64 3]) ∧ wr = w' := by
  obtain ⟨M, I, hs, _⟩ := h
  obtain ⟨v, us, h1, _⟩ := hs.ex
  exact send_long b s v A n k wr h1 ha hn

theorem PlS.j (h : PlS w wr lab s t b rb v al) : ∀ k, k < w.heap.size → k < wr.heap.size ∧ k ≠ rb ∧ v.ownBlock ≠ some k := fun k hk => by
  have hl := h.low k hk
  refine ⟨Nat.lt_of_lt_of_le hk h.below.size, fun e => ?_, fun e => ?_⟩
  · rw [e, h.rl] at hl; omega
  · rw [h.vl k e] at hl; omega
theorem rf_keep {J : Nat → Prop} (h : IsRf wr J rb t v al) (hs : Step c lab lab2 wr w2) (h1 : lab rb ≠ c) (h2 : ∀ k, v.ownBlock = some k → lab k ≠ c) (h3 : ∀ k, J k → lab k ≠ c) : IsRf w2 J rb t v al := by
  obtain ⟨us, ho, hit⟩ := h.row
  exact ⟨h.blk.upd hs.upd h1, ⟨us, own_keep ho (hs.same (I := fun k => v.ownBlock = some k) fun k hk => h2 k hk) fun g hg => hg, hit.keep (hs.same h3)⟩, h.len, h.xs⟩
theorem PlS.low2 (h : PlS w wr lab s t b rb v al) (hs : Step c lab lab2 wr w2) : ∀ k, k < w.heap.size → lab2 k = 9 := fun k hk => by
  rw [hs.lab k (Nat.lt_of_lt_of_le hk h.below.size)]; exact h.low k hk
theorem PlS.below2 (h : PlS w wr lab s t b rb v al) (hc : c ≠ 9) (hs : Step c lab lab2 wr w2) : Below w.heap.size w w2 :=
  h.below.trans (hs.upd.below (fun k (hk : lab k = c) => by
    rcases Nat.lt_or_ge k w.heap.size with hl | hl
    · exact absurd ((h.low k hl).symm.trans hk) (fun e => hc e.symm)
    · exact hl) h.below.size)
/-- A step of another label (neither 0, 2, 3 nor 9). -/
theorem PlS.other (h : PlS w wr lab s t b rb v al) (hs : Step c lab lab2 wr w2) (hc : c = 1 ∨ 10 ≤ c) : PlS w w2 lab2 s t b rb v al := by
  refine ⟨h.low2 hs, h.below2 (by omega) hs, h.st.keep hs (by omega) (by omega), rf_keep h.rf hs (by rw [h.rl]; omega) (fun k hk => by rw [h.vl k hk]; omega) (fun k hk => by rw [h.low k hk]; omega), ?_, fun k hk => ?_⟩
  · rw [hs.lab rb h.rf.blk.lt]; exact h.rl
  · obtain ⟨us, ho, _⟩ := h.rf.row
    rw [hs.lab k (own_lt ho hk).2]; exact h.vl k hk
theorem PlS.ofHeap (h : PlS w wr lab s t b rb v al) (e : w2.heap = wr.heap) (ht : w2.tape = wr.tape ∧ w2.os = wr.os ∧ w2.output = wr.output) : PlS w w2 lab s t b rb v al := h.other (Step.ofHeap 10 e ht) (.inr (Nat.le_refl _))
/-- The stream alone has turned. -/
theorem PlS.setS (h : PlS w wr lab s t b rb v al) (hs : Step 0 lab lab2 wr w2) (hp : PSt lab2 w2 0 b s2) : PlS w w2 lab2 s2 t b rb v al := by
  refine ⟨h.low2 hs, h.below2 (by omega) hs, hp, rf_keep h.rf hs (by rw [h.rl]; omega) (fun k hk => by rw [h.vl k hk]; omega) (fun k hk => by rw [h.low k hk]; omega), ?_, fun k hk => ?_⟩
  · rw [hs.lab rb h.rf.blk.lt]; exact h.rl
  · obtain ⟨us, ho, _⟩ := h.rf.row
    rw [hs.lab k (own_lt ho hk).2]; exact h.vl k hk
/-- The document's stream alone has turned. -/
theorem PlS.setR (h : PlS w wr lab s t b rb v al) {t2 : SS} {v2 : Value} {al2 : List (List UInt8)} (hs : Step 3 lab lab2 wr w2) (hr : IsRf w2 (fun k => k < w.heap.size) rb t2 v2 al2) (hv : ∀ k, v2.ownBlock = some k → lab2 k = 3) : PlS w w2 lab2 s t2 b rb v2 al2 :=
  ⟨h.low2 hs, h.below2 (by omega) hs, h.st.keep hs (by omega) (by omega), hr, by rw [hs.lab rb h.rf.blk.lt]; exact h.rl, hv⟩
theorem PlS.setR1 (h : PlS w wr lab s t b rb v al) {t2 : SS} (hu : Upd (only rb) wr w2) (hn : ∀ k, k < wr.heap.size → lab2 k = lab k) (hr : IsRf w2 (fun k => k < w.heap.size) rb t2 v al) : Step 3 lab lab2 wr w2 ∧ PlS w w2 lab2 s t2 b rb v al := by
  have st : Step 3 lab lab2 wr w2 := step_only h.rl hu hn
  refine ⟨st, h.setR st hr fun k hk => ?_⟩
  obtain ⟨us, ho, _⟩ := h.rf.row
  rw [hn k (own_lt ho hk).2]; exact h.vl k hk

theorem send_p (h : PlS w wr lab s t b rb v al) (ok : s.ok) {J : Nat → Prop} {A : Option Addr} {x : List UInt8} {c : Nat} (hx : Reads wr J 1 A x.length (bytesV x)) (hn : x.length ≤ 1024) :
    Calls Try.prog 13 #[.pointer (some ⟨b, 0, none⟩), .slice A x.length c] wr fun e w' => ∃ lab2, e = .returned (.tuple #[.int .u64 ((s.acked + (s.xs.length + 1) : Nat) : Int), .int .i64 0]) ∧ Step 0 lab lab2 wr w' ∧ PlS w w' lab2 { s with xs := s.xs ++ [x] } t b rb v al := by
  obtain ⟨M, I, hs, hm, hi⟩ := h.st
  refine (send_yes M I _ s J A x c wr hs ok hx hn).mono ?_
  rintro e w2 ⟨rfl, M2, I2, hs2, hu⟩
  obtain ⟨lab2, l1, l2, l3⟩ := relab wr.heap.size lab M2 0 2
  have st : Step 0 lab lab2 wr w2 := ⟨hu.upd.mono fun k hk => .inl (hm k hk), l1⟩
  refine ⟨lab2, rfl, st, h.setS st ⟨M2, I2, hs2, fun k hk => ?_, fun k hk => ?_⟩⟩
  · rcases hu.m k hk with hk2 | hk2
    · rw [l1 k (hs.ltM k hk2)]; exact hm k hk2
    · exact l2 k hk2 hk
  · rcases hu.i k hk with hk2 | hk2
    · rw [l1 k (hs.ltI k hk2)]; exact hi k hk2
    · exact l3 k hk2 fun hM => hs2.dis k hM hk
theorem rsend_p (h : PlS w wr lab s t b rb v al) (ok : t.ok) {A : Option Addr} {x : List UInt8} {c : Nat} (hx : Reads wr (fun k => k < w.heap.size) 1 A x.length (bytesV x)) :
    Calls Try.prog 19 #[.pointer (some ⟨rb, 0, none⟩), .slice A x.length c] wr fun e w' => ∃ lab2 v2, e = .returned (.int .u64 ((t.acked + (t.xs.length + 1) : Nat) : Int)) ∧ Step 3 lab lab2 wr w' ∧ PlS w w' lab2 s { t with xs := t.xs ++ [x] } b rb v2 (al ++ [x]) := by
  refine (rsend_any _ rb t v al A x c wr h.rf ok hx h.j).mono ?_
  rintro e w2 ⟨rfl, v2, hr, hu, hv⟩
  obtain ⟨lab2, l1, l2, l3⟩ := relab wr.heap.size lab (fun _ => True) 3 2
  have st : Step 3 lab lab2 wr w2 := ⟨hu.mono fun k hk => .inl (hk.elim (fun e => e ▸ h.rl) (h.vl k)), l1⟩
  refine ⟨lab2, v2, rfl, st, h.setR st hr fun k hk => ?_⟩
  rcases hv with hv | hv
  · rw [hv] at hk
    obtain ⟨us, ho, _⟩ := h.rf.row
    rw [l1 k (own_lt ho hk).2]; exact h.vl k hk
  · exact l2 k (hv k hk) trivial
theorem take_p (h : PlS w wr lab s t b rb v al) (ok : s.ok) {sq a : Nat} {A : Option Addr} {x : List UInt8} {c : Nat} (hx : Reads wr (fun k => k < w.heap.size) 1 A x.length (bytesV x)) (hn : x.length ≤ 1024) :
    Calls Try.prog 10 #[.pointer (some ⟨b, 0, none⟩), segP sq a A x.length c] wr fun e w' => ∃ u lab2, e = .returned (takeR u (ackS s a).acked (seqI s sq)) ∧
      ((seqI s sq = true → w'.ownsRow wr.heap.size 5 1 u x.length (bytesV x)) ∧ (seqI s sq = false → u = .slice none 0 0)) ∧ (∀ k, wr.heap.size ≤ k → lab2 k ≠ 3) ∧ Step 0 lab lab2 wr w' ∧ PlS w w' lab2 (seqS (ackS s a) sq) t b rb v al := by
  classical
  obtain ⟨M, I, hs, hm, hi⟩ := h.st
  have hJ : ¬ (fun k => k < w.heap.size) b := fun (e : b < w.heap.size) => by
    have := h.low b e
    rw [hm _ hs.mb] at this
    omega
  by_cases hk : s.acked < a ∧ a ≤ s.acked + s.sent
  · have e1 : ackS s a = ackd s (a - s.acked) := by unfold ackS ackd; rw [if_pos hk, show s.acked + (a - s.acked) = a from by omega]
    rw [e1]
    obtain ⟨k, rfl⟩ : ∃ k, a = s.acked + k := ⟨a - s.acked, by omega⟩
    rw [show s.acked + k - s.acked = k from by omega]
    refine (take_ackq2 M I _ s (fun k => k < w.heap.size) sq k A x c wr hs ok hx hJ hn (by omega) (by omega)).mono ?_
    rintro e w2 ⟨u, rfl, hv, M2, hs2, hu⟩
    obtain ⟨lab2, l1, l2, l3⟩ := relab wr.heap.size lab M2 0 2
    have st : Step 0 lab lab2 wr w2 := ⟨hu.upd.mono fun k hk => .inl (hm k hk), l1⟩
    refine ⟨u, lab2, rfl, hv, fun k hk => (by by_cases hM : M2 k; (rw [l2 k hk hM]; omega); (rw [l3 k hk hM]; omega)), st, h.setS st ⟨M2, I, hs2, fun k hk => ?_, fun k hk => by rw [l1 k (hs.ltI k hk)]; exact hi k hk⟩⟩
    rcases hu.m k hk with hk2 | hk2
    · rw [l1 k (hs.ltM k hk2)]; exact hm k hk2
    · exact l2 k hk2 hk
  · have e1 : ackS s a = s := by unfold ackS; rw [if_neg hk]
    rw [e1]
    refine (take_noack2 M I _ s (fun k => k < w.heap.size) sq a A x c wr hs ok hx hJ hn hk).mono ?_
    rintro e w2 ⟨u, rfl, hv, hs2, hu⟩
    obtain ⟨lab2, l1, l2, l3⟩ := relab wr.heap.size lab M 0 2
    have st : Step 0 lab lab2 wr w2 := step_only (hm _ hs.mb) hu l1
    exact ⟨u, lab2, rfl, hv, fun k hk => (by by_cases hM : M k; (rw [l2 k hk hM]; omega); (rw [l3 k hk hM]; omega)), st, h.setS st ⟨M, I, hs2, fun k hk => by rw [l1 k (hs.ltM k hk)]; exact hm k hk, fun k hk => by rw [l1 k (hs.ltI k hk)]; exact hi k hk⟩⟩
theorem takelong_p (h : PlS w wr lab s t b rb v al) (ha : 1 ≤ s.again) {sq a : Nat} {A : Option Addr} {n c : Nat} (hn : 1024 < n) :
    Calls Try.prog 10 #[.pointer (some ⟨b, 0, none⟩), segP sq a A n c] wr fun e w' => e = .returned (.tuple #[.slice none 0 0, .int .u64 0, .bool false, .int .i64 3]) ∧ ∃ lab2, Step 20 lab lab2 wr w' ∧ PlS w w' lab2 s t b rb v al := by
  obtain ⟨M, I, hs, _⟩ := h.st
  obtain ⟨v, us, h1, _⟩ := hs.ex
  refine (take_long b s v sq a A n c wr h1 ha hn).mono ?_
  rintro e w' ⟨rfl, hu⟩
  have st : Step 20 lab lab wr w' := ⟨hu.mono fun _ h => h.elim, fun _ _ => rfl⟩
  exact ⟨rfl, lab, st, h.other st (.inr (by omega))⟩
theorem rtake_p (h : PlS w wr lab s t b rb v al) (ok : t.ok) {sq a : Nat} {A : Option Addr} {n c : Nat} :
    Calls Try.prog 20 #[.pointer (some ⟨rb, 0, none⟩), segP sq a A n c] wr fun e w' => ∃ lab2, e = .returned (.tuple #[if seqI t sq = true then .slice A n c else .slice none 0 0, .bool (seqI t sq)]) ∧
      Step 3 lab lab2 wr w' ∧ PlS w w' lab2 s (seqS (ackS t a) sq) b rb v al := by
  refine (rtake_any _ rb t v al sq a A n c wr h.rf ok h.j).mono ?_
  rintro e w2 ⟨he, hr, hu⟩
  obtain ⟨h1, h2⟩ := h.setR1 (lab2 := lab) hu (fun _ _ => rfl) hr
  exact ⟨lab, he, h1, h2⟩

theorem take_pt (h : PlS w wr lab s t b rb v al) (ok : s.ok) {sq a : Nat} {A : Option Addr} {x : List UInt8} {c : Nat} (hx : Reads wr (fun k => k < w.heap.size) 1 A x.length (bytesV x)) (hn : x.length ≤ 1024) (hi : seqI s sq = true) :
    Calls Try.prog 10 #[.pointer (some ⟨b, 0, none⟩), segP sq a A x.length c] wr fun e w' => ∃ Au cu lab2, e = .returned (takeR (.slice Au x.length cu) (ackS s a).acked true) ∧
      Reads w' (fun k => lab2 k ≠ 3) 1 Au x.length (bytesV x) ∧ Step 0 lab lab2 wr w' ∧ PlS w w' lab2 (seqS (ackS s a) sq) t b rb v al := by
  refine (take_p h ok (sq := sq) (a := a) (c := c) hx hn).mono ?_
  rintro e w' ⟨u, lab2, rfl, ⟨ht, _⟩, hl, st, hp⟩
  rw [hi]
  have ho := ht hi
  obtain ⟨Au, cu, rfl, _⟩ := own_form ho
  exact ⟨Au, cu, lab2, rfl, Reads.of_own ho fun g hg => hl g (own_lt ho hg).1, st, hp⟩
theorem take_pf (h : PlS w wr lab s t b rb v al) (ok : s.ok) {sq a : Nat} {A : Option Addr} {x : List UInt8} {c : Nat} (hx : Reads wr (fun k => k < w.heap.size) 1 A x.length (bytesV x)) (hn : x.length ≤ 1024) (hi : seqI s sq = false) :
    Calls Try.prog 10 #[.pointer (some ⟨b, 0, none⟩), segP sq a A x.length c] wr fun e w' => ∃ lab2, e = .returned (takeR (.slice none 0 0) (ackS s a).acked false) ∧
      Step 0 lab lab2 wr w' ∧ PlS w w' lab2 (seqS (ackS s a) sq) t b rb v al := by
  refine (take_p h ok (sq := sq) (a := a) (c := c) hx hn).mono ?_
  rintro e w' ⟨u, lab2, rfl, ⟨_, ht⟩, _, st, hp⟩
  rw [hi, ht hi]
  exact ⟨lab2, rfl, st, hp⟩
theorem rtake_pt (h : PlS w wr lab s t b rb v al) (ok : t.ok) {sq a : Nat} {A : Option Addr} {n c : Nat} (hi : seqI t sq = true) :
    Calls Try.prog 20 #[.pointer (some ⟨rb, 0, none⟩), segP sq a A n c] wr fun e w' => ∃ lab2, e = .returned (.tuple #[.slice A n c, .bool true]) ∧
      Step 3 lab lab2 wr w' ∧ PlS w w' lab2 s (seqS (ackS t a) sq) b rb v al := by
  refine (rtake_p h ok (sq := sq) (a := a) (A := A) (n := n) (c := c)).mono ?_
  rintro e w' ⟨lab2, rfl, st, hp⟩
  rw [hi, if_pos rfl]
  exact ⟨lab2, rfl, st, hp⟩
theorem rtake_pf (h : PlS w wr lab s t b rb v al) (ok : t.ok) {sq a : Nat} {A : Option Addr} {n c : Nat} (hi : seqI t sq = false) :
    Calls Try.prog 20 #[.pointer (some ⟨rb, 0, none⟩), segP sq a A n c] wr fun e w' => ∃ lab2, e = .returned (.tuple #[.slice none 0 0, .bool false]) ∧
      Step 3 lab lab2 wr w' ∧ PlS w w' lab2 s (seqS (ackS t a) sq) b rb v al := by
  refine (rtake_p h ok (sq := sq) (a := a) (A := A) (n := n) (c := c)).mono ?_
  rintro e w' ⟨lab2, rfl, st, hp⟩
  rw [hi, if_neg (by decide)]
  exact ⟨lab2, rfl, st, hp⟩

theorem due_p (h : PlS w wr lab s t b rb v al) (ok : s.ok) (hx : ∀ x ∈ s.xs, x.length ≤ 1024) :
    Calls Try.prog 11 #[.pointer (some ⟨b, 0, none⟩)] wr fun e w' => ∃ u lab2, e = .returned u ∧ PFl lab2 w' 14 u (dueL s) ∧ Step 0 lab lab2 wr w' ∧ PlS w w' lab2 (dueS s) t b rb v al := by
  obtain ⟨M, I, hs, hm, hi⟩ := h.st
  refine (due_any M I _ s wr hs ok hx).mono ?_
  rintro e w2 ⟨u, rfl, ⟨gs, hg, ho, hk⟩, hs2, hu⟩
  obtain ⟨lab2, l1, l2, l3⟩ := relab wr.heap.size lab (fun k => u.ownBlock = some k) 14 2
  have st : Step 0 lab lab2 wr w2 := step_only (hm _ hs.mb) hu l1
  exact ⟨u, lab2, rfl, ⟨gs, hg, own_base ho (Nat.zero_le _), fun g hgm => ⟨(hk g hgm).1, fun k hk2 => l3 k ((hk g hgm).2 k hk2) (own_own_ne (hk g hgm).1 ho (by decide) hk2)⟩, fun k hk2 => l2 k (own_lt ho hk2).1 hk2⟩, st, h.setS st ⟨M, I, hs2, fun k hk => by rw [l1 k (hs.ltM k hk)]; exact hm k hk, fun k hk => by rw [l1 k (hs.ltI k hk)]; exact hi k hk⟩⟩
theorem tick_p (h : PlS w wr lab s t b rb v al) (ok : s.ok) (hq : s.silent ≤ 1000) (hx : ∀ x ∈ s.xs, x.length ≤ 1024) :
    Calls Try.prog 14 #[.pointer (some ⟨b, 0, none⟩)] wr fun e w' => ∃ u lab2, e = .returned u ∧ PFl lab2 w' 14 u (tickL s) ∧ Step 0 lab lab2 wr w' ∧ PlS w w' lab2 (tickS s) t b rb v al := by
  obtain ⟨M, I, hs, hm, hi⟩ := h.st
  refine (tick_any M I _ s wr hs ok hq hx).mono ?_
  rintro e w2 ⟨u, rfl, ⟨gs, hg, ho, hk⟩, hs2, hu⟩
  obtain ⟨lab2, l1, l2, l3⟩ := relab wr.heap.size lab (fun k => u.ownBlock = some k) 14 2
  have st : Step 0 lab lab2 wr w2 := step_only (hm _ hs.mb) hu l1
  exact ⟨u, lab2, rfl, ⟨gs, hg, own_base ho (Nat.zero_le _), fun g hgm => ⟨(hk g hgm).1, fun k hk2 => l3 k ((hk g hgm).2 k hk2) (own_own_ne (hk g hgm).1 ho (by decide) hk2)⟩, fun k hk2 => l2 k (own_lt ho hk2).1 hk2⟩, st, h.setS st ⟨M, I, hs2, fun k hk => by rw [l1 k (hs.ltM k hk)]; exact hm k hk, fun k hk => by rw [l1 k (hs.ltI k hk)]; exact hi k hk⟩⟩

theorem fl_seg {u : Value} {l : List Seg} (h : PFl lab wr c u l) (hl : l.length ≤ 1000) : ∃ A k gs, u = .slice A gs.length k ∧ wr.ownsRow 0 33 3 (.slice A gs.length k) gs.length (sgCells gs) ∧ RSeg wr (fun _ => True) gs ∧ gs.map Sg.t = l ∧ gs.length ≤ 1000 := by
  obtain ⟨gs, rfl, ho, hk, _⟩ := h
  obtain ⟨A, k, rfl, _⟩ := own_form ho
  refine ⟨A, k, gs, rfl, ho, fun g hg => ?_, rfl, by rw [List.length_map] at hl; exact hl⟩
  obtain ⟨g1, _⟩ := hk g hg
  obtain ⟨A2, k2, e, _⟩ := own_form g1
  refine ⟨A2, k2, e, ?_⟩
  rw [e] at g1
  exact (Reads.of_own (I := fun _ => True) g1 fun _ _ => trivial)
theorem rd_close {u : Value} {l : List Seg} (h : PlS w wr lab s t b rb v al) (hu : PFl lab wr 14 u l) (hl : l.length ≤ 1000) {t2 : SS} {e : Ending} (hp : RdPost wr w2 (fun k => k < w.heap.size) rb t2 v al l e) :
    ∃ r lab2, e = .returned r ∧ SameP w2 u r ∧ Step 3 lab lab2 wr w2 ∧ PlS w w2 lab2 s t2 b rb v al := by
  obtain ⟨r, gs, rfl, hg, ho, hs, hr, hup⟩ := hp
  obtain ⟨h1, h2⟩ := h.setR1 (lab2 := lab) hup (fun _ _ => rfl) hr
  obtain ⟨A1, c1, g1, rfl, o1, s1, m1, n1⟩ := fl_seg (hu.keep h1 (by omega) (by omega)) hl
  obtain ⟨A2, c2, rfl, _⟩ := own_form ho
  refine ⟨_, lab, rfl, ⟨A1, c1, g1, A2, c2, gs, rfl, rfl, o1, own_base ho (Nat.zero_le _), s1, fun g hgm => ?_, m1.trans hg.symm, n1⟩, h1, h2⟩
  obtain ⟨A3, c3, e3, hr3⟩ := hs g hgm
  exact ⟨A3, c3, e3, hr3.mono fun _ _ => trivial⟩
theorem rdue_p {u : Value} (h : PlS w wr lab s t b rb v al) (ok : t.ok) (hu : PFl lab wr 14 u (dueL t)) (hl : (dueL t).length ≤ 1000) :
    Calls Try.prog 23 #[.pointer (some ⟨rb, 0, none⟩)] wr fun e w' => ∃ r lab2, e = .returned r ∧ SameP w' u r ∧ Step 3 lab lab2 wr w' ∧ PlS w w' lab2 s (dueS t) b rb v al :=
  (rdue_any _ rb t v al wr h.rf ok h.j).mono fun _ _ hp => rd_close h hu hl hp
theorem rtick_p {u : Value} (h : PlS w wr lab s t b rb v al) (ok : t.ok) (hq : t.silent ≤ 1000) (hu : PFl lab wr 14 u (tickL t)) (hl : (tickL t).length ≤ 1000) :
    Calls Try.prog 22 #[.pointer (some ⟨rb, 0, none⟩)] wr fun e w' => ∃ r lab2, e = .returned r ∧ SameP w' u r ∧ Step 3 lab lab2 wr w' ∧ PlS w w' lab2 s (tickS t) b rb v al :=
  (rtick_any _ rb t v al wr h.rf ok hq h.j).mono fun _ _ hp => rd_close h hu hl hp

/-- A copy: label 1. -/
theorem copy_p (h : PlS w wr lab s t b rb v al) (ok : s.ok) :
    Calls Try.prog 18 #[.pointer (some ⟨b, 0, none⟩)] wr fun e w' => ∃ lab2, e = .returned (.pointer (some ⟨wr.heap.size, 0, none⟩)) ∧ PSt lab2 w' 1 wr.heap.size s ∧ Step 1 lab lab2 wr w' ∧ PlS w w' lab2 s t b rb v al := by
  obtain ⟨M, I, hs, hm, hi⟩ := h.st
  refine (copy_any M I b s wr hs ok).mono ?_
  rintro e w2 ⟨rfl, hb, M2, h2, hm2⟩
  obtain ⟨lab2, l1, l2, _⟩ := relab wr.heap.size lab (fun _ => True) 1 2
  have st : Step 1 lab lab2 wr w2 := ⟨⟨hb.os, hb.tape, hb.output, hb.size, fun k hk _ => hb.block k hk⟩, l1⟩
  exact ⟨lab2, rfl, ⟨M2, I, h2, fun k hk => l2 k (hm2 k hk) trivial, fun k hk => by rw [l1 k (hs.ltI k hk)]; exact hi k hk⟩, st, h.other st (.inl rfl)⟩
end
end Go.Proofs.Ytmkjnblmgofoeaa
