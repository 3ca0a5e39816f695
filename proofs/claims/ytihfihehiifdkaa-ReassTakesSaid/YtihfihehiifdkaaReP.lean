/- Reass: plain law. -/
import Derived.Test.YtihfihehiifdkaaFqP
namespace Go.Proofs.Ytihfihehiifdkaa
abbrev Key := Nat × Nat × Nat × Nat
def keyF (h : Hd) : Key := (h.src, h.dst, h.proto, h.id)
/-- What was taken of a key: of each place the bytes that are there; how far something was taken; the end (-1: none was said); the first piece's header. -/
structure Fl where
  key : Key
  c : Nat → By
  bl : Nat
  en : Int
  first : Bool
  hd : Hd
def fl0 (k : Key) : Fl := ⟨k, fun _ => [], 0, -1, false, hd0⟩
def chunkF (p : By) (j : Nat) : By := (p.drop (8 * j)).take 8
def extF (a b : By) : By := a ++ b.drop a.length
/-- A flow with a piece's bytes. -/
def layF (f : Fl) (h : Hd) (p : By) : Fl :=
  { key := f.key, c := fun k => if h.off.toNat ≤ k then extF (f.c k) (chunkF p (k - h.off.toNat)) else f.c k, bl := max f.bl (8 * h.off.toNat + p.length),
    en := if h.mf = false ∧ f.en < 0 then ((8 * h.off.toNat + p.length : Nat) : Int) else f.en, first := f.first || decide (h.off = 0), hd := if h.off = 0 ∧ f.first = false then h else f.hd }
/-- Up to where places may be missing. -/
def endF (f : Fl) : Nat := if 0 ≤ f.en then f.en.toNat else 8 * ((f.bl - 1) / 8)
def lackF (f : Fl) (k : Nat) : Bool := decide ((f.c k).length < min 8 (endF f - 8 * k))
def missF (f : Fl) : List Nat := (List.range ((endF f + 7) / 8)).filter (lackF f)
def wholeF' (f : Fl) : Bool := f.first && decide (0 ≤ f.en) && (missF f).isEmpty
def payF (f : Fl) : By := ((List.range ((f.en.toNat + 7) / 8)).flatMap f.c).take f.en.toNat
def outF (f : Fl) : By × Nat := if fitsH { f.hd with mf := false } (payF f) = true then (bytesF { f.hd with mf := false } (payF f), 0) else ([], 3)
def findK (T : List Fl) (k : Key) : Option Nat := T.findIdx? fun f => f.key == k
def stepF (T : List Fl) (i : Nat) (f : Fl) : List Fl × By × Nat := if wholeF' f = true then (T.eraseIdx i, outF f) else (T.set i f, [], 0)
/-- Taking a packet. -/
def takeF (T : List Fl) (x : By) : List Fl × By × Nat :=
  if (prsF x).2.2 ≠ 0 then (T, [], 4)
  else if fragH (prsF x).1 = false then (T, x.take (20 + (prsF x).1.opts.length + (prsF x).2.1.length), 0)
  else if (prsF x).2.1.length = 0 ∨ ((prsF x).1.mf = true ∧ (prsF x).2.1.length % 8 ≠ 0) ∨ 65535 < 8 * (prsF x).1.off.toNat + (prsF x).2.1.length then (T, [], 7)
  else match findK T (keyF (prsF x).1) with
    | some i => stepF T i (layF (T.getD i (fl0 (keyF (prsF x).1))) (prsF x).1 (prsF x).2.1)
    | none => if 64 ≤ T.length then (T, [], 5) else stepF (T ++ [fl0 (keyF (prsF x).1)]) T.length (layF (fl0 (keyF (prsF x).1)) (prsF x).1 (prsF x).2.1)

/-- A flow that may be. -/
structure FlOk (f : Fl) : Prop where
  c8 : ∀ k, (f.c k).length ≤ 8
  cb : ∀ k, f.c k ≠ [] → 8 * k + (f.c k).length ≤ f.bl
  bl : f.bl ≤ 65535
  last : f.bl ≠ 0 → (f.c ((f.bl - 1) / 8)).length = f.bl - 8 * ((f.bl - 1) / 8)
  e0 : -1 ≤ f.en
  e1 : f.en ≤ f.bl
  h : f.first = true → f.hd.ok ∧ mayH f.hd = true ∧ f.hd.off = 0
theorem fl0_ok (k : Key) : FlOk (fl0 k) := ⟨fun _ => by simp [fl0], fun _ h => absurd rfl h, by simp [fl0], fun h => absurd rfl h, by simp [fl0], by simp [fl0], fun h => by simp [fl0] at h⟩
theorem chunk_len (p : By) (j : Nat) : (chunkF p j).length = min 8 (p.length - 8 * j) := by unfold chunkF; simp
theorem ext_len (a b : By) : (extF a b).length = max a.length b.length := by unfold extF; simp; omega
/-- A piece that is taken. -/
structure PieceOk (h : Hd) (p : By) : Prop where
  ok : h.ok
  may : mayH h = true
  pos : 0 < p.length
  m8 : h.mf = true → p.length % 8 = 0
  le : 8 * h.off.toNat + p.length ≤ 65535
theorem lay_ok {f : Fl} (hf : FlOk f) {h : Hd} {p : By} (hp : PieceOk h p) : FlOk (layF f h p) ∧ (layF f h p).bl ≠ 0 := by
  obtain ⟨hg, h40, h4, ho0, _⟩ := may_opts hp.may
  have hpos := hp.pos
  have hle := hp.le
  have hbl := hf.bl
  have hc : ∀ k, ((layF f h p).c k).length = if h.off.toNat ≤ k then max (f.c k).length (min 8 (p.length - 8 * (k - h.off.toNat))) else (f.c k).length := fun k => by
    unfold layF
    simp only
    split
    · rw [ext_len, chunk_len]
    · rfl
  refine ⟨⟨fun k => ?_, fun k hk => ?_, ?_, fun _ => ?_, ?_, ?_, fun hh => ?_⟩, ?_⟩
  · rw [hc]
    have := hf.c8 k
    split <;> omega
  · have h0 : 0 < ((layF f h p).c k).length := List.length_pos_iff.2 hk
    rw [hc] at h0 ⊢
    show _ ≤ max f.bl (8 * h.off.toNat + p.length)
    have hb : (f.c k).length ≠ 0 → 8 * k + (f.c k).length ≤ f.bl := fun hh => hf.cb k (by intro e; rw [e] at hh; exact hh rfl)
    split at h0
    · rename_i hk2
      rw [if_pos hk2]
      omega
    · rename_i hk2
      rw [if_neg hk2]
      omega
  · show max f.bl (8 * h.off.toNat + p.length) ≤ 65535
    omega
  · show ((layF f h p).c ((max f.bl (8 * h.off.toNat + p.length) - 1) / 8)).length = max f.bl (8 * h.off.toNat + p.length) - 8 * ((max f.bl (8 * h.off.toNat + p.length) - 1) / 8)
    rw [hc]
    rcases Nat.lt_or_ge f.bl (8 * h.off.toNat + p.length) with hlt | hge
    · rw [Nat.max_eq_right (Nat.le_of_lt hlt)]
      generalize hK : (8 * h.off.toNat + p.length - 1) / 8 = K
      have hb : (f.c K).length ≠ 0 → 8 * K + (f.c K).length ≤ f.bl := fun hh => hf.cb K (by intro e; rw [e] at hh; exact hh rfl)
      rw [if_pos (by omega)]
      omega
    · rw [Nat.max_eq_left hge]
      have hl := hf.last (by omega)
      generalize hK : (f.bl - 1) / 8 = K at hl ⊢
      split
      · omega
      · exact hl
  · show -1 ≤ if h.mf = false ∧ f.en < 0 then ((8 * h.off.toNat + p.length : Nat) : Int) else f.en
    have := hf.e0
    split <;> omega
  · show (if h.mf = false ∧ f.en < 0 then ((8 * h.off.toNat + p.length : Nat) : Int) else f.en) ≤ ((max f.bl (8 * h.off.toNat + p.length) : Nat) : Int)
    have := hf.e1
    split <;> omega
  · show (if h.off = 0 ∧ f.first = false then h else f.hd).ok ∧ mayH (if h.off = 0 ∧ f.first = false then h else f.hd) = true ∧ (if h.off = 0 ∧ f.first = false then h else f.hd).off = 0
    by_cases hq : h.off = 0 ∧ f.first = false
    · rw [if_pos hq]
      exact ⟨hp.ok, hp.may, hq.1⟩
    · rw [if_neg hq]
      refine hf.h ?_
      have hh' : (f.first || decide (h.off = 0)) = true := hh
      cases hff : f.first with
      | true => rfl
      | false =>
        rw [hff] at hh' hq
        simp at hh'
        exact absurd ⟨hh', rfl⟩ hq
  · show max f.bl (8 * h.off.toNat + p.length) ≠ 0
    omega

/-- A packet that is cut to two pieces or more. -/
structure Cutting (h : Hd) (p : By) (N : Nat) (X : Nat → By) (G : Nat → Hd) (Y : Nat → By) (a : Nat → Nat) : Prop where
  n1 : 1 < N
  off : h.off = 0
  nmf : h.mf = false
  a0 : a 0 = 0
  aN : a N = p.length
  prs : ∀ k, k < N → prsF (X k) = (G k, Y k, 0)
  pie : ∀ k, k < N → PieceOk (G k) (Y k)
  hd : ∀ k, k < N → G k = { h with off := ((a k : Nat) : Int) / 8, opts := if 0 < k then copF h.opts else h.opts, mf := decide (k + 1 < N) }
  m8 : ∀ k, k < N → a k % 8 = 0
  stp : ∀ k, k < N → a (k + 1) = a k + (Y k).length
  y : ∀ k, k < N → Y k = (p.take (a (k + 1))).drop (a k)
section
variable {h : Hd} {p : By} {N : Nat} {X : Nat → By} {G : Nat → Hd} {Y : Nat → By} {a : Nat → Nat}
theorem Cutting.lt (C : Cutting h p N X G Y a) {k : Nat} (hk : k < N) : a k < a (k + 1) := by
  have := C.stp k hk
  have := (C.pie k hk).pos
  omega
theorem Cutting.mono (C : Cutting h p N X G Y a) : ∀ {j k : Nat}, j ≤ k → k ≤ N → a j ≤ a k
  | j, 0, h1, _ => by rw [Nat.le_zero.1 h1]; exact Nat.le_refl _
  | j, k + 1, h1, h2 => by
    rcases Nat.lt_or_ge j (k + 1) with hl | hg
    · exact Nat.le_trans (C.mono (Nat.le_of_lt_succ hl) (by omega)) (Nat.le_of_lt (C.lt (by omega)))
    · rw [show j = k + 1 by omega]; exact Nat.le_refl _
theorem Cutting.le (C : Cutting h p N X G Y a) {k : Nat} (hk : k ≤ N) : a k ≤ p.length := by rw [← C.aN]; exact C.mono hk (Nat.le_refl _)
theorem Cutting.one (C : Cutting h p N X G Y a) {j k i : Nat} (hj : j < N) (hk : k < N) (h1 : a j ≤ i) (h2 : i < a (j + 1)) (h3 : a k ≤ i) (h4 : i < a (k + 1)) : j = k := by
  rcases Nat.lt_trichotomy j k with hl | he | hg
  · have := C.mono (show j + 1 ≤ k from hl) (by omega)
    omega
  · exact he
  · have := C.mono (show k + 1 ≤ j from hg) (by omega)
    omega
theorem Cutting.there (C : Cutting h p N X G Y a) : ∀ (n : Nat), n ≤ N → ∀ i, i < a n → ∃ k, k < n ∧ a k ≤ i ∧ i < a (k + 1)
  | 0, _, i, hi => by rw [C.a0] at hi; omega
  | n + 1, hn, i, hi => by
    rcases Nat.lt_or_ge i (a n) with hl | hg
    · obtain ⟨k, h1, h2⟩ := C.there n (by omega) i hl
      exact ⟨k, by omega, h2⟩
    · exact ⟨n, by omega, hg, hi⟩
theorem Cutting.offN (C : Cutting h p N X G Y a) {k : Nat} (hk : k < N) : (G k).off.toNat = a k / 8 := by
  rw [C.hd k hk]
  show (((a k : Nat) : Int) / 8).toNat = a k / 8
  omega
theorem Cutting.chunk (C : Cutting h p N X G Y a) {k j : Nat} (hk : k < N) (hj : a k ≤ 8 * j) : chunkF (Y k) (j - a k / 8) = if 8 * j < a (k + 1) then chunkF p j else [] := by
  have hm := C.m8 k hk
  have hs := C.stp k hk
  have hle := C.le (show k + 1 ≤ N from hk)
  split
  · rename_i hlt
    have h8 : k + 1 < N → (Y k).length % 8 = 0 := fun hh => (C.pie k hk).m8 (by rw [C.hd k hk]; simpa using hh)
    unfold chunkF
    rw [C.y k hk, List.drop_drop, show a k + 8 * (j - a k / 8) = 8 * j by omega, List.drop_take, List.take_take]
    by_cases hN : k + 1 < N
    · have := h8 hN
      rw [Nat.min_eq_left (by omega)]
    · have e : a (k + 1) = p.length := by rw [← C.aN, show k + 1 = N by omega]
      rw [e]
      rcases Nat.lt_or_ge (p.length - 8 * j) 8 with hl | hg
      · rw [Nat.min_eq_right (by omega), List.take_of_length_le (by simp), List.take_of_length_le (by simp; omega)]
      · rw [Nat.min_eq_left hg]
  · rename_i hge
    exact List.eq_nil_of_length_eq_zero (by rw [chunk_len]; omega)
/-- Is a place covered by pieces of S? -/
def covB (N : Nat) (a : Nat → Nat) (S : Nat → Bool) (j : Nat) : Bool := (List.range N).any fun k => S k && decide (a k ≤ 8 * j) && decide (8 * j < a (k + 1))
theorem covB_iff {S : Nat → Bool} {j : Nat} : covB N a S j = true ↔ ∃ k, k < N ∧ S k = true ∧ a k ≤ 8 * j ∧ 8 * j < a (k + 1) := by
  unfold covB
  simp only [List.any_eq_true, List.mem_range, Bool.and_eq_true, decide_eq_true_eq]
  exact ⟨fun ⟨k, h1, ⟨h2, h3⟩, h4⟩ => ⟨k, h1, h2, h3, h4⟩, fun ⟨k, h1, h2, h3, h4⟩ => ⟨k, h1, ⟨h2, h3⟩, h4⟩⟩
/-- What is there when the pieces of S were taken. -/
structure StS (h : Hd) (p : By) (N : Nat) (G : Nat → Hd) (a : Nat → Nat) (S : Nat → Bool) (f : Fl) : Prop where
  ok : FlOk f
  key : f.key = keyF h
  c : ∀ j, f.c j = if covB N a S j = true then chunkF p j else []
  en : f.en = if S (N - 1) = true then (p.length : Int) else -1
  first : f.first = S 0
  hd : S 0 = true → f.hd = G 0
  bl1 : ∀ k, k < N → S k = true → a (k + 1) ≤ f.bl
  bl2 : f.bl = 0 ∨ ∃ k, k < N ∧ S k = true ∧ f.bl = a (k + 1)
theorem sts0 : StS h p N G a (fun _ => false) (fl0 (keyF h)) := ⟨fl0_ok _, rfl, fun j => by
  have : covB N a (fun _ => false) j = false := by unfold covB; simp
  rw [this]
  rfl, rfl, rfl, fun hh => (by cases hh), fun _ _ hh => (by cases hh), .inl rfl⟩
theorem ext_same (x : By) : extF x x = x := by unfold extF; simp
theorem ext_nil (x : By) : extF x [] = x := by unfold extF; simp
theorem nil_ext (x : By) : extF [] x = x := by unfold extF; simp
theorem StS.lay (C : Cutting h p N X G Y a) {S : Nat → Bool} {f : Fl} (s : StS h p N G a S f) {k : Nat} (hk : k < N) : StS h p N G a (fun i => S i || i == k) (layF f (G k) (Y k)) := by
  have hoff : (G k).off = ((a k : Nat) : Int) / 8 := by rw [C.hd k hk]
  have hn1 := C.n1
  have hs := C.stp k hk
  have hm := C.m8 k hk
  have hoN := C.offN hk
  refine ⟨(lay_ok s.ok (C.pie k hk)).1, s.key, fun j => ?_, ?_, ?_, fun hh => ?_, fun i hi hS => ?_, ?_⟩
  · show (if (G k).off.toNat ≤ j then extF (f.c j) (chunkF (Y k) (j - (G k).off.toNat)) else f.c j) = _
    rw [hoN, s.c j]
    have hcv : covB N a (fun i => S i || i == k) j = (covB N a S j || (decide (a k ≤ 8 * j) && decide (8 * j < a (k + 1)))) := by
      rw [Bool.eq_iff_iff, Bool.or_eq_true, covB_iff, covB_iff]
      simp only [Bool.or_eq_true, beq_iff_eq, Bool.and_eq_true, decide_eq_true_eq]
      constructor
      · rintro ⟨i, h1, h2 | rfl, h3⟩
        · exact .inl ⟨i, h1, h2, h3⟩
        · exact .inr h3
      · rintro (⟨i, h1, h2, h3⟩ | h3)
        · exact ⟨i, h1, .inl h2, h3⟩
        · exact ⟨k, hk, .inr rfl, h3⟩
    rw [hcv]
    by_cases h1 : a k / 8 ≤ j
    · rw [if_pos h1, C.chunk hk (by omega)]
      by_cases h2 : 8 * j < a (k + 1)
      · rw [if_pos h2, decide_eq_true (show a k ≤ 8 * j by omega), decide_eq_true h2]
        cases covB N a S j with
        | true => simp [ext_same]
        | false => simp [nil_ext]
      · rw [if_neg h2, decide_eq_false h2, ext_nil]
        simp
    · rw [if_neg h1, decide_eq_false (show ¬ a k ≤ 8 * j by omega)]
      simp
  · show (if (G k).mf = false ∧ f.en < 0 then ((8 * (G k).off.toNat + (Y k).length : Nat) : Int) else f.en) = _
    have hmf : (G k).mf = decide (k + 1 < N) := by rw [C.hd k hk]
    rw [hmf, hoN, s.en]
    simp only [Bool.or_eq_true, beq_iff_eq]
    by_cases hl : N - 1 = k
    · have e : a (k + 1) = p.length := by rw [← C.aN, show k + 1 = N by omega]
      rw [if_pos (.inr hl : S (N - 1) = true ∨ N - 1 = k), decide_eq_false (show ¬ k + 1 < N by omega)]
      cases hS : S (N - 1) with
      | true =>
        rw [if_pos rfl, if_neg (fun hh => absurd hh.2 (by omega))]
      | false =>
        have e1 : (if (false : Bool) = true then (p.length : Int) else -1) = -1 := rfl
        rw [e1, if_pos ⟨rfl, by omega⟩]
        omega
    · rw [decide_eq_true (show k + 1 < N by omega), if_neg (by simp)]
      cases hS : S (N - 1) with
      | true => rw [if_pos rfl, if_pos (.inl rfl)]
      | false => rw [if_neg (by simp), if_neg (by simp [hl])]
  · show (f.first || decide ((G k).off = 0)) = (S 0 || 0 == k)
    rw [s.first]
    congr 1
    rw [Bool.eq_iff_iff, decide_eq_true_eq, beq_iff_eq, hoff]
    constructor
    · intro e
      rcases Nat.eq_zero_or_pos k with rfl | hp
      · rfl
      · have := C.mono (show 1 ≤ k from hp) (by omega)
        have h1 : a 0 < a 1 := C.lt (show 0 < N by omega)
        rw [C.a0] at h1
        omega
    · rintro rfl
      rw [C.a0]
      rfl
  · show (if (G k).off = 0 ∧ f.first = false then G k else f.hd) = G 0
    by_cases hS : S 0 = true
    · rw [if_neg (by rw [s.first, hS]; simp)]
      exact s.hd hS
    · have hk0 : 0 = k := by
        simp only [Bool.or_eq_true, beq_iff_eq] at hh
        rcases hh with hh | hh
        · exact absurd hh hS
        · exact hh
      subst hk0
      rw [if_pos ⟨by rw [hoff, C.a0]; rfl, by rw [s.first]; simpa using hS⟩]
  · show _ ≤ max f.bl (8 * (G k).off.toNat + (Y k).length)
    rw [hoN]
    simp only [Bool.or_eq_true, beq_iff_eq] at hS
    rcases hS with hS | rfl
    · have := s.bl1 i hi hS
      omega
    · omega
  · right
    show ∃ i, i < N ∧ (S i || i == k) = true ∧ max f.bl (8 * (G k).off.toNat + (Y k).length) = a (i + 1)
    rw [hoN, show 8 * (a k / 8) + (Y k).length = a (k + 1) by omega]
    rcases s.bl2 with e | ⟨i, h1, h2, h3⟩
    · exact ⟨k, hk, by simp, by rw [e]; omega⟩
    · rcases Nat.le_total f.bl (a (k + 1)) with h4 | h4
      · exact ⟨k, hk, by simp, Nat.max_eq_right h4⟩
      · exact ⟨i, h1, by rw [h2]; rfl, by rw [Nat.max_eq_left h4]; exact h3⟩
end
end Go.Proofs.Ytihfihehiifdkaa
namespace Go.Proofs.Ytihfihehiifdkaa
theorem chunk_flat (p : By) : ∀ n, (List.range n).flatMap (chunkF p) = p.take (8 * n)
  | 0 => by simp
  | n + 1 => by
    rw [List.range_succ, List.flatMap_append, chunk_flat p n]
    simp only [List.flatMap_cons, List.flatMap_nil, List.append_nil]
    unfold chunkF
    rw [show 8 * (n + 1) = 8 * n + 8 by omega, List.take_add]
theorem flatMap_same {f g : Nat → By} {n : Nat} (h : ∀ k, k < n → f k = g k) : (List.range n).flatMap f = (List.range n).flatMap g := by
  rw [List.flatMap_def, List.flatMap_def]
  congr 1
  exact List.map_congr_left fun k hk => h k (List.mem_range.1 hk)
theorem filter_span {K u v : Nat} (h1 : u ≤ v) (h2 : v ≤ K) (q : Nat → Bool) (hq : ∀ j, j < K → (q j = true ↔ u ≤ j ∧ j < v)) : (List.range K).filter q = (List.range (v - u)).map (u + ·) := by
  have e : List.range K = List.range u ++ (List.range (v - u)).map (u + ·) ++ (List.range (K - v)).map (v + ·) := by
    rw [← List.range_add, show u + (v - u) = v by omega, ← List.range_add, show v + (K - v) = K by omega]
  rw [e, List.filter_append, List.filter_append]
  have e1 : (List.range u).filter q = [] := List.filter_eq_nil_iff.2 fun j hj hqj => by
    have := List.mem_range.1 hj
    have := (hq j (by omega)).1 hqj
    omega
  have e2 : ((List.range (v - u)).map (u + ·)).filter q = (List.range (v - u)).map (u + ·) := List.filter_eq_self.2 fun j hj => by
    obtain ⟨i, hi, rfl⟩ := List.mem_map.1 hj
    have := List.mem_range.1 hi
    exact (hq _ (by omega)).2 (by omega)
  have e3 : ((List.range (K - v)).map (v + ·)).filter q = [] := List.filter_eq_nil_iff.2 fun j hj hqj => by
    obtain ⟨i, hi, rfl⟩ := List.mem_map.1 hj
    have := List.mem_range.1 hi
    have := (hq _ (by omega)).1 hqj
    omega
  rw [e1, e2, e3]
  simp
section
variable {h : Hd} {p : By} {N : Nat} {X : Nat → By} {G : Nat → Hd} {Y : Nat → By} {a : Nat → Nat} {S : Nat → Bool} {f : Fl}
theorem StS.clen (s : StS h p N G a S f) (j : Nat) : (f.c j).length = if covB N a S j = true then min 8 (p.length - 8 * j) else 0 := by
  rw [s.c j]
  split
  · exact chunk_len p j
  · rfl
theorem StS.en_yes (s : StS h p N G a S f) (h1 : S (N - 1) = true) : f.en = (p.length : Int) ∧ endF f = p.length := by
  have e : f.en = (p.length : Int) := by rw [s.en, if_pos h1]
  refine ⟨e, ?_⟩
  unfold endF
  rw [if_pos (by omega), e]
  rfl
theorem Cutting.uncov (C : Cutting h p N X G Y a) {k : Nat} (hk : k < N) (hS : S k = false) {j : Nat} (h1 : a k ≤ 8 * j) (h2 : 8 * j < a (k + 1)) : covB N a S j = false := by
  cases hc : covB N a S j with
  | false => rfl
  | true =>
    obtain ⟨i, hi, hs, h3, h4⟩ := covB_iff.1 hc
    have := C.one hi hk h3 h4 h1 h2
    rw [this, hS] at hs
    cases hs
theorem Cutting.cov (_C : Cutting h p N X G Y a) {k : Nat} (hk : k < N) (hS : S k = true) {j : Nat} (h1 : a k ≤ 8 * j) (h2 : 8 * j < a (k + 1)) : covB N a S j = true := covB_iff.2 ⟨k, hk, hS, h1, h2⟩
/-- It is whole just where all pieces were taken. -/
theorem StS.whole (C : Cutting h p N X G Y a) (s : StS h p N G a S f) : wholeF' f = true ↔ ∀ k, k < N → S k = true := by
  unfold wholeF'
  rw [Bool.and_eq_true, Bool.and_eq_true, decide_eq_true_eq, List.isEmpty_iff]
  constructor
  · rintro ⟨⟨_, h2⟩, h3⟩ k hk
    have hl : S (N - 1) = true := by
      cases hs : S (N - 1) with
      | true => rfl
      | false =>
        have := s.en
        rw [hs] at this
        simp at this
        omega
    obtain ⟨_, he⟩ := s.en_yes hl
    cases hs : S k with
    | true => rfl
    | false =>
      have hlt := C.lt hk
      have hle := C.le (show k + 1 ≤ N from hk)
      have hm := C.m8 k hk
      have hu := C.uncov (j := a k / 8) hk hs (by omega) (by omega)
      have : a k / 8 ∈ missF f := by
        unfold missF
        rw [List.mem_filter, List.mem_range, he]
        refine ⟨by omega, ?_⟩
        unfold lackF
        rw [he, s.clen, hu, if_neg (by decide)]
        exact decide_eq_true (by omega)
      rw [h3] at this
      cases this
  · intro hall
    have hn := C.n1
    have hl := hall (N - 1) (by omega)
    obtain ⟨h1, he⟩ := s.en_yes hl
    refine ⟨⟨by rw [s.first]; exact hall 0 (by omega), by rw [h1]; omega⟩, ?_⟩
    unfold missF
    refine List.filter_eq_nil_iff.2 fun j hj hlk => ?_
    have hj := List.mem_range.1 hj
    rw [he] at hj
    obtain ⟨k, hk, h2, h3⟩ := C.there N (Nat.le_refl _) (8 * j) (by rw [C.aN]; omega)
    unfold lackF at hlk
    rw [he, s.clen, C.cov hk (hall k hk) h2 h3, if_pos rfl] at hlk
    simp at hlk
theorem StS.pay (C : Cutting h p N X G Y a) (s : StS h p N G a S f) (hall : ∀ k, k < N → S k = true) : payF f = p := by
  have hn := C.n1
  obtain ⟨h1, _⟩ := s.en_yes (hall (N - 1) (by omega))
  unfold payF
  rw [h1, Int.toNat_natCast, flatMap_same (g := chunkF p) fun j hj => ?_, chunk_flat, List.take_take, Nat.min_eq_left (by omega), List.take_length]
  obtain ⟨k, hk, h2, h3⟩ := C.there N (Nat.le_refl _) (8 * j) (by rw [C.aN]; omega)
  rw [s.c j, C.cov hk (hall k hk) h2 h3, if_pos rfl]
theorem StS.out (C : Cutting h p N X G Y a) (s : StS h p N G a S f) (hall : ∀ k, k < N → S k = true) (hf : fitsH h p = true) : outF f = (bytesF h p, 0) := by
  have hn := C.n1
  have e : ({ f.hd with mf := false } : Hd) = h := by
    rw [s.hd (hall 0 (by omega)), C.hd 0 (by omega), C.a0]
    have h1 := C.off
    have h2 := C.nmf
    cases h
    simp at h1 h2 ⊢
    exact ⟨h2, h1.symm⟩
  unfold outF
  rw [e, s.pay C hall, if_pos hf]
/-- What is missing where one piece was not taken. -/
theorem StS.miss (C : Cutting h p N X G Y a) (s : StS h p N G a S f) {b : Nat} (hb : b < N) (hS : ∀ k, k < N → (S k = true ↔ k ≠ b)) : missF f = if b + 1 = N then [] else (List.range (((Y b).length + 7) / 8)).map (a b / 8 + ·) := by
  have hn := C.n1
  by_cases hl : b + 1 = N
  · rw [if_pos hl]
    have hs0 : S (N - 1) = false := by
      cases hs : S (N - 1) with
      | false => rfl
      | true => exact absurd ((hS (N - 1) (by omega)).1 hs) (by omega)
    have hen : f.en = -1 := by rw [s.en, hs0]; rfl
    have hm := C.m8 (N - 1) (by omega)
    have hpos : 0 < a (N - 1) := by
      have := C.lt (show 0 < N by omega)
      have := C.mono (show 1 ≤ N - 1 by omega) (by omega)
      simp at *
      omega
    have hbl : f.bl = a (N - 1) := by
      have h1 := s.bl1 (N - 2) (by omega) ((hS _ (by omega)).2 (by omega))
      rw [show N - 2 + 1 = N - 1 by omega] at h1
      rcases s.bl2 with h2 | ⟨k, hk, h2, h3⟩
      · omega
      · have hkb := (hS k hk).1 h2
        have := C.mono (show k + 1 ≤ N - 1 by omega) (by omega)
        omega
    have he : endF f = a (N - 1) - 8 := by
      unfold endF
      rw [if_neg (by omega), hbl]
      omega
    unfold missF
    refine List.filter_eq_nil_iff.2 fun j hj hlk => ?_
    have hj := List.mem_range.1 hj
    rw [he] at hj
    obtain ⟨k, hk, h2, h3⟩ := C.there (N - 1) (by omega) (8 * j) (by omega)
    have hle := C.le (show N - 1 ≤ N by omega)
    unfold lackF at hlk
    rw [he, s.clen, C.cov (by omega) ((hS k (by omega)).2 (by omega)) h2 h3, if_pos rfl] at hlk
    simp at hlk
    omega
  · rw [if_neg hl]
    have hs1 : S (N - 1) = true := (hS (N - 1) (by omega)).2 (by omega)
    obtain ⟨_, he⟩ := s.en_yes hs1
    have hlt := C.lt hb
    have hle := C.le (show b + 1 ≤ N from hb)
    have hm := C.m8 b hb
    have hm1 := C.m8 (b + 1) (by omega)
    have hst := C.stp b hb
    unfold missF
    rw [he, filter_span (u := a b / 8) (v := a (b + 1) / 8) (by omega) (by omega)]
    · congr 2
      omega
    · intro j hj
      unfold lackF
      rw [he, s.clen, decide_eq_true_eq]
      by_cases hin : a b / 8 ≤ j ∧ j < a (b + 1) / 8
      · have hsb : S b = false := by
          cases hs : S b with
          | false => rfl
          | true => exact absurd rfl ((hS b hb).1 hs)
        rw [C.uncov hb hsb (by omega) (by omega), if_neg (by decide)]
        omega
      · obtain ⟨k, hk, h2, h3⟩ := C.there N (Nat.le_refl _) (8 * j) (by rw [C.aN]; omega)
        have hkb : k ≠ b := fun e => by subst e; omega
        rw [C.cov hk ((hS k hk).2 hkb) h2 h3, if_pos rfl]
        omega
theorem Cutting.frag (C : Cutting h p N X G Y a) {k : Nat} (hk : k < N) : fragH (G k) = true := by
  unfold fragH
  rw [C.hd k hk]
  by_cases hl : k + 1 < N
  · simp [hl]
  · have hn := C.n1
    have h1 : 0 < a k := by
      have := C.lt (show 0 < N by omega)
      have := C.mono (show 1 ≤ k by omega) (by omega)
      simp at *
      omega
    have := C.m8 k hk
    simp
    right
    omega
theorem Cutting.key (C : Cutting h p N X G Y a) {k : Nat} (hk : k < N) : keyF (G k) = keyF h := by rw [C.hd k hk]; rfl
/-- The table while pieces of one packet are taken. -/
def TkT (h : Hd) (p : By) (N : Nat) (G : Nat → Hd) (a : Nat → Nat) (S : Nat → Bool) (T : List Fl) : Prop :=
  ((S = fun _ => false) ∧ T = []) ∨ ∃ f, T = [f] ∧ StS h p N G a S f
theorem take_piece (C : Cutting h p N X G Y a) (hf : fitsH h p = true) {T : List Fl} (hT : TkT h p N G a S T) {k : Nat} (hk : k < N) :
    ((∀ i, i < N → (S i || i == k) = true) → takeF T (X k) = ([], bytesF h p, 0)) ∧
    (¬ (∀ i, i < N → (S i || i == k) = true) → ∃ f, takeF T (X k) = ([f], [], 0) ∧ StS h p N G a (fun i => S i || i == k) f) := by
  have hp := C.pie k hk
  have hpos := hp.pos
  have hle := hp.le
  have hgood : ¬ ((Y k).length = 0 ∨ ((G k).mf = true ∧ (Y k).length % 8 ≠ 0) ∨ 65535 < 8 * (G k).off.toNat + (Y k).length) := by
    rintro (e | ⟨e1, e2⟩ | e)
    · omega
    · exact e2 (hp.m8 e1)
    · omega
  obtain ⟨f0, T0, i, e, hS, hT0, hi⟩ : ∃ f0 T0 i, takeF T (X k) = stepF T0 i (layF f0 (G k) (Y k)) ∧ StS h p N G a S f0 ∧ T0 = [f0] ∧ i = 0 := by
    unfold takeF
    rw [C.prs k hk]
    simp only
    rw [if_neg (by simp), if_neg (by rw [C.frag hk]; simp), if_neg hgood, C.key hk]
    rcases hT with ⟨hS, rfl⟩ | ⟨f, rfl, hS⟩
    · refine ⟨fl0 (keyF h), [fl0 (keyF h)], 0, ?_, by rw [hS]; exact sts0, rfl, rfl⟩
      have : findK [] (keyF h) = none := rfl
      rw [this]
      rfl
    · refine ⟨f, [f], 0, ?_, hS, rfl, rfl⟩
      have : findK [f] (keyF h) = some 0 := by unfold findK; rw [List.findIdx?_cons, hS.key]; simp
      rw [this]
      rfl
  subst hT0 hi
  have hl := hS.lay C hk
  rw [e]
  unfold stepF
  constructor
  · intro hall
    rw [if_pos ((hl.whole C).2 hall), hl.out C hall hf]
    rfl
  · intro hnot
    rw [if_neg (fun x => hnot ((hl.whole C).1 x))]
    exact ⟨_, rfl, hl⟩
end
/-- What is cut is a cutting. -/
theorem cut_cutting {h : Hd} (ok : h.ok) {p : By} (hf : fitsH h p = true) (hoff : h.off = 0) (hnmf : h.mf = false) {m : Int} (hc : (cutF (bytesF h p) m).2 = 0) :
    (cutF (bytesF h p) m).1 = [bytesF h p] ∨ ∃ N X G Y a, Cutting h p N X G Y a ∧ (cutF (bytesF h p) m).1 = (List.range N).map X ∧ ∀ k, k < N → (X k).length ≤ 65535 ∧ (G k).ok ∧ (p.length ≤ 65535) := by
  have hmy : mayH h = true := by unfold fitsH at hf; simp only [Bool.and_eq_true] at hf; exact hf.1
  rcases cut_bytes ok hf m with ⟨_, h68, h65, e, hof⟩ | ⟨_, h2⟩
  rotate_left
  · rw [hc] at h2
    rcases h2 with h2 | h2 | h2 <;> omega
  obtain ⟨mm, hm⟩ : ∃ mm : Nat, m = (mm : Int) := ⟨m.toNat, by omega⟩
  subst hm
  simp only [Int.toNat_natCast] at e hof
  have hpl : p.length ≤ 65535 := by unfold fitsH at hf; simp only [Bool.and_eq_true, decide_eq_true_eq] at hf; omega
  by_cases h1 : 20 + h.opts.length + p.length ≤ mm
  · left
    rw [e]
    unfold cutP
    rw [if_pos h1]
    simp only [List.map_cons, List.map_nil]
    unfold pbF partF
    simp
  · right
    have hn := cut_two hmy (by omega : 68 ≤ mm) h1
    obtain ⟨Q, hQ⟩ : ∃ Q, Q = cutP h p.length mm := ⟨_, rfl⟩
    have hk := fun k (hk : k < Q.length) => cut_k ok hmy (p := p) (m := mm) (by omega) (by omega) hof (k := k) (by rw [← hQ]; exact hk)
    rw [← hQ] at e hn
    simp only [← hQ] at hk
    have hend := cut_end hmy (L := p.length) (by omega : 68 ≤ mm)
    rw [← hQ] at hend
    have hex : ∀ k, ∃ xgy : By × Hd × By, k < Q.length → (Q.map (pbF p))[k]? = some xgy.1 ∧ PcK h p mm k Q.length xgy.1 xgy.2.1 (posF Q k) xgy.2.2 ∧ posF Q (k + 1) = posF Q k + xgy.2.2.length := fun k => by
      by_cases hlt : k < Q.length
      · obtain ⟨x, g, y, h1, h2, h3⟩ := hk k hlt
        exact ⟨(x, g, y), fun _ => ⟨h1, h2, h3⟩⟩
      · exact ⟨([], hd0, []), fun x => absurd x hlt⟩
    obtain ⟨Z, hZ⟩ := Classical.axiomOfChoice hex
    refine ⟨Q.length, fun k => (Z k).1, fun k => (Z k).2.1, fun k => (Z k).2.2, posF Q, ⟨hn, hoff, hnmf, by simp [posF], hend, fun k hk => (hZ k hk).2.1.prs, fun k hk => ?_, fun k hk => ?_, fun k hk => (hZ k hk).2.1.m8, fun k hk => (hZ k hk).2.2, fun k hk => ?_⟩, ?_, fun k hk => ⟨(hZ k hk).2.1.len, (hZ k hk).2.1.gok, hpl⟩⟩
    · have K := (hZ k hk).2.1
      have hmay : mayH (Z k).2.1 = true := by have := K.fts; unfold fitsH at this; simp only [Bool.and_eq_true] at this; exact this.1
      have ho : (Z k).2.1.off.toNat = posF Q k / 8 := by rw [K.hd, hoff]; show (0 + ((posF Q k : Nat) : Int) / 8).toNat = _; omega
      refine ⟨K.gok, hmay, K.pos hn, fun hm => K.n8 ?_, ?_⟩
      · have := K.hd
        rw [this, hnmf] at hm
        simpa using hm
      · have := K.le
        have := K.m8
        rw [ho]
        omega
    · have K := (hZ k hk).2.1
      rw [K.hd, hoff, hnmf]
      simp
    · have K := (hZ k hk).2.1
      have := K.app
      have hs := (hZ k hk).2.2
      rw [← hs] at this
      have hlen : (p.take (posF Q k)).length = posF Q k := by rw [List.length_take]; have := K.le; omega
      rw [← this, List.drop_left' hlen]
    · rw [e]
      refine List.ext_getElem? fun k => ?_
      by_cases hk : k < Q.length
      · rw [(hZ k hk).1, List.getElem?_map, List.getElem?_range hk]
        rfl
      · rw [List.getElem?_eq_none (by simpa using hk), List.getElem?_eq_none (by simpa using hk)]
end Go.Proofs.Ytihfihehiifdkaa
