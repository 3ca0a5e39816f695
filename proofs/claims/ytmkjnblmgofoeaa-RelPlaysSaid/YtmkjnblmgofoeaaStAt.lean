/- A stream behind a base: its contracts as the laws use them. -/
import Derived.Test.YtmkjnblmgofoeaaStTake
import Derived.Test.YtmkjnblmgofoeaaStDue
namespace Go.Proofs.Ytmkjnblmgofoeaa
open Go.RowKit

/-- A stream whose blocks all lie behind B; what lies ahead of B is as in w. -/
structure At (B : Nat) (w wr : World) (b : Nat) (s : SS) : Prop where
  ex : ∃ M I, IsStr wr M I b s ∧ (∀ i, M i → B ≤ i) ∧ (∀ i, I i → B ≤ i)
  below : Below B w wr
  base : B ≤ w.heap.size

section
variable {B b : Nat} {w wr w2 : World} {s s2 : SS}
theorem At.size (h : At B w wr b s) : B ≤ wr.heap.size := Nat.le_trans h.base h.below.size
theorem At.blk (h : At B w wr b s) : ∃ v, Blk wr b 63 (strC s v) := by
  obtain ⟨M, I, hs, _⟩ := h.ex
  obtain ⟨v, us, h1, _⟩ := hs.ex
  exact ⟨v, h1⟩
theorem At.ge (h : At B w wr b s) : B ≤ b := by
  obtain ⟨M, I, hs, hm, _⟩ := h.ex
  exact hm _ hs.mb
theorem At.later (h : At B w wr b s) (hb : Below wr.heap.size wr w2) : At B w w2 b s := by
  obtain ⟨M, I, hs, hm, hi⟩ := h.ex
  exact ⟨⟨M, I, hs.keep (Same.ofBelow hb fun k hk => hk.elim (hs.ltM k) (hs.ltI k)), hm, hi⟩, h.below.trans (hb.mono h.size), h.base⟩
theorem At.ofHeap (h : At B w wr b s) (e : w2.heap = wr.heap) (ht : w2.tape = wr.tape ∧ w2.os = wr.os ∧ w2.output = wr.output) : At B w w2 b s := by
  obtain ⟨M, I, hs, hm, hi⟩ := h.ex
  have hb := h.below
  exact ⟨⟨M, I, hs.keep (Same.ofHeap _ e), hm, hi⟩, ⟨ht.2.1.trans hb.os, ht.1.trans hb.tape, ht.2.2.trans hb.output, by rw [e]; exact hb.size, fun k hk => by rw [e]; exact hb.block k hk⟩, h.base⟩
theorem At.only_ {M I : Nat → Prop} (h : At B w wr b s) (hs : IsStr w2 M I b s2) (hu : Upd (only b) wr w2) (hm : ∀ i, M i → B ≤ i) (hi : ∀ i, I i → B ≤ i) : At B w w2 b s2 :=
  ⟨⟨M, I, hs, hm, hi⟩, h.below.trans (hu.below (fun k (hk : k = b) => hk ▸ hm _ hs.mb) h.size), h.base⟩
theorem At.step {M I M2 I2 : Nat → Prop} (h : At B w wr b s) (hs : IsStr w2 M2 I2 b s2) (hu : StrUpd wr w2 M M2 I I2) (hm : ∀ i, M i → B ≤ i) (hi : ∀ i, I i → B ≤ i) : At B w w2 b s2 := by
  have hz := h.size
  exact ⟨⟨M2, I2, hs, fun i hk => (hu.m i hk).elim (hm i) (by omega), fun i hk => (hu.i i hk).elim (hi i) (by omega)⟩, h.below.trans (hu.upd.below hm hz), h.base⟩

theorem new_at (again : Nat) (B : Nat) (w wr : World) (hb : Below B w wr) (hB : B ≤ w.heap.size) (h1 : 1 ≤ again) (h2 : again ≤ 100) :
    Calls Try.prog 9 #[.int .i64 again] wr fun e w' => e = .returned (.tuple #[.pointer (some ⟨wr.heap.size, 0, none⟩), .int .i64 0]) ∧ At B w w' wr.heap.size (ssNew again) := by
  refine (new_yes again wr h1 h2).mono ?_
  rintro e w' ⟨rfl, rfl⟩
  have hz : B ≤ wr.heap.size := Nat.le_trans hB hb.size
  refine ⟨rfl, ⟨fun k => k = wr.heap.size, fun _ => False, ⟨⟨_, [], Blk.new _ _ _, World.ownsRow_nil _ _ _ _, trivial, fun g hg => by (cases hg)⟩, rfl, fun _ _ h => h, fun k hk => ?_, fun _ h => h.elim⟩, fun i hi => hi ▸ hz, fun _ h => h.elim⟩, hb.alloc hz _, hB⟩
  rw [hk]
  simp

theorem send_at (h : At B w wr b s) (ok : s.ok) {J : Nat → Prop} {A : Option Addr} {x : List UInt8} {c : Nat} (hx : Reads wr J 1 A x.length (bytesV x)) (hn : x.length ≤ 1024) :
    Calls Try.prog 13 #[.pointer (some ⟨b, 0, none⟩), .slice A x.length c] wr fun e w' => e = .returned (.tuple #[.int .u64 ((s.acked + (s.xs.length + 1) : Nat) : Int), .int .i64 0]) ∧ At B w w' b { s with xs := s.xs ++ [x] } := by
  obtain ⟨M, I, hs, hm, hi⟩ := h.ex
  refine (send_yes M I b s J A x c wr hs ok hx hn).mono ?_
  rintro e w' ⟨rfl, M2, I2, hs2, hu⟩
  exact ⟨rfl, h.step hs2 hu hm hi⟩

theorem due_at (h : At B w wr b s) (ok : s.ok) (hx : ∀ x ∈ s.xs, x.length ≤ 1024) :
    Calls Try.prog 11 #[.pointer (some ⟨b, 0, none⟩)] wr fun e w' => ∃ v, e = .returned v ∧ SegRow wr.heap.size w' v (dueL s) ∧ At B w w' b (dueS s) := by
  obtain ⟨M, I, hs, hm, hi⟩ := h.ex
  refine (due_any M I b s wr hs ok hx).mono ?_
  rintro e w' ⟨v, rfl, hv, hs2, hu⟩
  exact ⟨v, rfl, hv, h.only_ hs2 hu hm hi⟩

theorem tick_at (h : At B w wr b s) (ok : s.ok) (hq : s.silent ≤ 1000) (hx : ∀ x ∈ s.xs, x.length ≤ 1024) :
    Calls Try.prog 14 #[.pointer (some ⟨b, 0, none⟩)] wr fun e w' => ∃ v, e = .returned v ∧ SegRow wr.heap.size w' v (tickL s) ∧ At B w w' b (tickS s) := by
  obtain ⟨M, I, hs, hm, hi⟩ := h.ex
  refine (tick_any M I b s wr hs ok hq hx).mono ?_
  rintro e w' ⟨v, rfl, hv, hs2, hu⟩
  exact ⟨v, rfl, hv, h.only_ hs2 hu hm hi⟩

theorem take_at (h : At B w wr b s) (ok : s.ok) {J : Nat → Prop} {q a : Nat} {A : Option Addr} {x : List UInt8} {c : Nat} (hx : Reads wr J 1 A x.length (bytesV x)) (hJ : ¬ J b) (hn : x.length ≤ 1024) (hno : ¬ (s.acked < a ∧ a ≤ s.acked + s.sent)) :
    Calls Try.prog 10 #[.pointer (some ⟨b, 0, none⟩), segP q a A x.length c] wr fun e w' => ∃ v, e = .returned (takeR v s.acked (seqI s q)) ∧
      (seqI s q = true → w'.ownsRow wr.heap.size 5 1 v x.length (bytesV x)) ∧ At B w w' b (seqS s q) := by
  obtain ⟨M, I, hs, hm, hi⟩ := h.ex
  refine (take_noack M I b s J q a A x c wr hs ok hx hJ hn hno).mono ?_
  rintro e w' ⟨v, rfl, hv, hs2, hu⟩
  exact ⟨v, rfl, hv, h.only_ hs2 hu hm hi⟩

theorem takelong_at (h : At B w wr b s) (ha : 1 ≤ s.again) {q a : Nat} {A : Option Addr} {n c : Nat} (hn : 1024 < n) :
    Calls Try.prog 10 #[.pointer (some ⟨b, 0, none⟩), segP q a A n c] wr fun e w' => e = .returned (.tuple #[.slice none 0 0, .int .u64 0, .bool false, .int .i64 3]) ∧ At B w w' b s := by
  obtain ⟨M, I, hs, hm, hi⟩ := h.ex
  obtain ⟨v, hk⟩ := h.blk
  refine (take_long b s v q a A n c wr hk ha hn).mono ?_
  rintro e w' ⟨rfl, hu⟩
  exact ⟨rfl, h.only_ (hs.keep (hu.same fun _ h => h.elim)) (hu.mono fun _ h => h.elim) hm hi⟩

theorem left_at (h : At B w wr b s) (ha : 1 ≤ s.again) :
    Calls Try.prog 17 #[.pointer (some ⟨b, 0, none⟩)] wr fun e w' => e = .returned (.int .i64 s.xs.length) ∧ wr = w' := by
  obtain ⟨M, I, hs, hm, hi⟩ := h.ex
  obtain ⟨v, us, h1, h2, h3, h4⟩ := hs.ex
  obtain ⟨A, c, rfl, _⟩ := own_form h2
  rw [← h3.len]
  exact left_any b s A us.length c wr h1 ha
end

theorem sgCells_get : ∀ (l : List Sg) (k : Nat) (g : Sg), l[k]? = some g → (sgCells l)[k * 3]? = some (.int .u64 g.seq) ∧ (sgCells l)[k * 3 + 1]? = some (.int .u64 g.ack) ∧ (sgCells l)[k * 3 + 2]? = some g.u
  | a :: r, 0, g, h => by
    obtain rfl : a = g := by simpa using h
    simp [sgCells, Sg.cells]
  | a :: r, k + 1, g, h => by
    have ih := sgCells_get r k g (by simpa using h)
    have e : sgCells (a :: r) = .int .u64 a.seq :: .int .u64 a.ack :: a.u :: sgCells r := rfl
    rw [e, show (k + 1) * 3 = k * 3 + 1 + 1 + 1 from by omega]
    simpa using ih

/-- A segment of a row. -/
theorem seg_at {w : World} {B : Nat} {v : Value} {l : List (Nat × Nat × List UInt8)} (h : SegRow B w v l) (hn : 0 < l.length) :
    ∃ g c, v = .slice (some ⟨g, 0, none⟩) l.length c ∧ B ≤ g ∧ g < w.heap.size ∧ ∀ (k : Nat) (t : Nat × Nat × List UInt8), l[k]? = some t → w.cell? ⟨g, k * 3, none⟩ = some (.int .u64 t.1) ∧ w.cell? ⟨g, k * 3 + 1, none⟩ = some (.int .u64 t.2.1) ∧
      ∃ A c2, w.cell? ⟨g, k * 3 + 2, none⟩ = some (.slice A t.2.2.length c2) := by
  obtain ⟨gs, rfl, ho, hok⟩ := h.ex
  rw [List.length_map] at hn
  obtain ⟨g, c, rfl, _⟩ := own_form1 ho hn
  have hlt := own_lt ho rfl
  refine ⟨g, c, by rw [List.length_map], hlt.1, hlt.2, fun k t ht => ?_⟩
  rw [List.getElem?_map] at ht
  obtain ⟨sg, hsg, rfl⟩ := Option.map_eq_some_iff.1 ht
  obtain ⟨c0, c1, c2⟩ := sgCells_get gs k sg hsg
  obtain ⟨A, cc, hu, _⟩ := own_form (hok sg (List.mem_of_getElem? hsg)).1
  have f0 := ho.cells (g := g) rfl _ _ c0
  have f1 := ho.cells (g := g) rfl _ _ c1
  have f2 := ho.cells (g := g) rfl _ _ c2
  rw [add_off, Nat.zero_add] at f0 f1 f2
  exact ⟨f0, f1, A, cc, by rw [f2, hu]; rfl⟩
theorem seg_nil {w : World} {B : Nat} {v : Value} (h : SegRow B w v []) : ∃ A c, v = .slice A 0 c := by
  obtain ⟨gs, hg, ho, _⟩ := h.ex
  obtain rfl := List.map_eq_nil_iff.1 hg
  obtain ⟨A, c, rfl, _⟩ := own_form ho
  exact ⟨A, c, rfl⟩
end Go.Proofs.Ytmkjnblmgofoeaa
