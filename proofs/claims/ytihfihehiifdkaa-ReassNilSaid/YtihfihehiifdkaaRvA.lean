/- ReassKeys, ReassNil: plain law. -/
import Derived.Test.YtihfihehiifdkaaRtJ
namespace Go.Proofs.Ytihfihehiifdkaa
open Go.RowKit Go.Sort
theorem prs_back {h : Hd} (ok : h.ok) {p : By} (hf : fitsH h p = true) : prsF (bytesF h p) = (h, p, 0) := by have := read_back ok hf []; rwa [List.append_nil] at this
theorem step_part {T : List Fl} {i : Nat} {f : Fl} (h : wholeF' f = false) : stepF T i f = (T.set i f, [], 0) := by unfold stepF; rw [h]; rfl
theorem take_new {T : List Fl} {h : Hd} (ok : h.ok) {p : By} (hf : fitsH h p = true) (hfr : fragH h = true) (hp : ¬ (p.length = 0 ∨ (h.mf = true ∧ p.length % 8 ≠ 0) ∨ 65535 < 8 * h.off.toNat + p.length)) (hk : findK T (keyF h) = none) (hl : T.length < 64)
    (hw : wholeF' (layF (fl0 (keyF h)) h p) = false) : takeF T (bytesF h p) = (T ++ [layF (fl0 (keyF h)) h p], [], 0) := by
  unfold takeF
  rw [prs_back ok hf]
  simp only
  rw [if_neg (by simp), if_neg (by rw [hfr]; simp), if_neg hp, hk]
  simp only
  rw [if_neg (by omega), step_part hw]
  simp
theorem take_full {T : List Fl} {h : Hd} (ok : h.ok) {p : By} (hf : fitsH h p = true) (hfr : fragH h = true) (hp : ¬ (p.length = 0 ∨ (h.mf = true ∧ p.length % 8 ≠ 0) ∨ 65535 < 8 * h.off.toNat + p.length)) (hk : findK T (keyF h) = none) (hl : T.length = 64) : takeF T (bytesF h p) = (T, [], 5) := by
  unfold takeF
  rw [prs_back ok hf]
  simp only
  rw [if_neg (by simp), if_neg (by rw [hfr]; simp), if_neg hp, hk]
  simp only
  rw [if_pos (by omega)]
theorem take_bad {T : List Fl} {h : Hd} (ok : h.ok) {p : By} (hf : fitsH h p = true) (hfr : fragH h = true) (hp : p.length = 0 ∨ (h.mf = true ∧ p.length % 8 ≠ 0) ∨ 65535 < 8 * h.off.toNat + p.length) : takeF T (bytesF h p) = (T, [], 7) := by
  unfold takeF
  rw [prs_back ok hf]
  simp only
  rw [if_neg (by simp), if_neg (by rw [hfr]; simp), if_pos hp]
theorem take_old {T : List Fl} {h : Hd} (ok : h.ok) {p : By} (hf : fitsH h p = true) (hfr : fragH h = true) (hp : ¬ (p.length = 0 ∨ (h.mf = true ∧ p.length % 8 ≠ 0) ∨ 65535 < 8 * h.off.toNat + p.length)) {i : Nat} (hk : findK T (keyF h) = some i) : takeF T (bytesF h p) = stepF T i (layF (T.getD i (fl0 (keyF h))) h p) := by
  unfold takeF
  rw [prs_back ok hf]
  simp only
  rw [if_neg (by simp), if_neg (by rw [hfr]; simp), if_neg hp, hk]
def z8 : By := List.replicate 8 0
theorem whole_noend {f : Fl} (h : f.en < 0) : wholeF' f = false := by
  unfold wholeF'
  rw [decide_eq_false (show ¬ 0 ≤ f.en by omega)]
  simp
theorem whole_nofirst {f : Fl} (h : f.first = false) : wholeF' f = false := by unfold wholeF'; rw [h]; rfl
/-- ReassKeys: the first piece of h, then one of o that is none. -/
theorem keys_first {h : Hd} (ok : h.ok) (hm : mayH h = true) (h1 : h.mf = true) (h2 : h.off = 0) : takeF [] (bytesF h z8) = ([layF (fl0 (keyF h)) h z8], [], 0) := by
  have := take_new (T := []) ok (p := z8) (fits_of hm (by decide)) (by unfold fragH; rw [h1]; rfl) (by rw [h2]; simp [z8]) rfl (by simp) (whole_noend (by unfold layF fl0; simp [h1]))
  simpa using this
theorem keys_second {h o : Hd} (ok : o.ok) (hm : mayH o = true) (h1 : o.mf = false) (h2 : o.off = 1) {p : By} (hp : p.length ≤ 3000) (hk : keyF h ≠ keyF o) : takeF [layF (fl0 (keyF h)) h z8] (bytesF o p) =
    if p.length = 0 then ([layF (fl0 (keyF h)) h z8], [], 7) else ([layF (fl0 (keyF h)) h z8, layF (fl0 (keyF o)) o p], [], 0) := by
  have hfr : fragH o = true := by unfold fragH; rw [h2]; simp
  by_cases h0 : p.length = 0
  · rw [if_pos h0]
    exact take_bad ok (fits_of hm (by omega)) hfr (.inl h0)
  · rw [if_neg h0]
    have hn : findK [layF (fl0 (keyF h)) h z8] (keyF o) = none := by
      unfold findK
      rw [List.findIdx?_eq_none_iff]
      intro x hx
      rw [List.mem_singleton.1 hx]
      show (keyF h == keyF o) = false
      rw [beq_eq_false_iff_ne]
      exact hk
    have h3 : o.off.toNat = 1 := by omega
    have := take_new (T := [layF (fl0 (keyF h)) h z8]) ok (p := p) (fits_of hm (by omega)) hfr (by rw [h1, h3]; rintro (e | ⟨e, _⟩ | e); exact h0 e; cases e; omega) hn (by simp) (whole_nofirst (by unfold layF fl0; simp [h2]))
    simpa using this
theorem keys_miss {o : Hd} (h1 : o.mf = false) (h2 : o.off = 1) {p : By} (_h0 : p.length ≠ 0) : missF (layF (fl0 (keyF o)) o p) = [0] := by
  have h3 : o.off.toNat = 1 := by omega
  have hen : (layF (fl0 (keyF o)) o p).en = ((8 + p.length : Nat) : Int) := by
    unfold layF fl0
    simp [h1, h3]
  have he : endF (layF (fl0 (keyF o)) o p) = 8 + p.length := by
    unfold endF
    rw [hen, if_pos (by omega)]
    omega
  unfold missF
  rw [he]
  have := filter_span (K := (8 + p.length + 7) / 8) (u := 0) (v := 1) (by omega) (by omega) (lackF (layF (fl0 (keyF o)) o p)) fun j hj => by
    unfold lackF
    rw [he, decide_eq_true_eq]
    have hc : ((layF (fl0 (keyF o)) o p).c j) = if 1 ≤ j then chunkF p (j - 1) else [] := by
      unfold layF fl0
      simp only [h3]
      split
      · rw [nil_ext]
      · rfl
    rw [hc]
    split
    · rw [chunk_len]; omega
    · simp; omega
  rw [this]
  rfl
/-- ReassNil: a table that is full. -/
def nilH (i : Nat) : Hd := ⟨0, i, false, false, true, 0, 0, 0, 0, 0, []⟩
def nilF (i : Nat) : Fl := layF (fl0 (0, 0, 0, i)) (nilH i) z8
def nilT (n : Nat) : List Fl := (List.range n).map nilF
theorem nilH_ok {i : Nat} (h : i < 65536) : (nilH i).ok := by unfold nilH Hd.ok; simp; omega
theorem nilH_may (i : Nat) : mayH (nilH i) = true := by
  unfold mayH nilH
  rfl
theorem nil_find {n i : Nat} (h : n ≤ i) : findK (nilT n) (0, 0, 0, i) = none := by
  unfold findK
  rw [List.findIdx?_eq_none_iff]
  intro x hx
  obtain ⟨k, hk, rfl⟩ := List.mem_map.1 hx
  have := List.mem_range.1 hk
  show ((0, 0, 0, k) == (0, 0, 0, i)) = false
  rw [beq_eq_false_iff_ne]
  intro e
  simp at e
  omega
theorem nil_step {n : Nat} (h : n < 64) : takeF (nilT n) (bytesF (nilH n) z8) = (nilT (n + 1), [], 0) := by
  have := take_new (T := nilT n) (nilH_ok (i := n) (by omega)) (p := z8) (fits_of (nilH_may n) (by decide)) rfl (by simp [nilH, z8]) (nil_find (Nat.le_refl n)) (by unfold nilT; simp; omega) (whole_noend (by simp [layF, fl0, nilH]))
  rw [this]
  unfold nilT
  rw [List.range_succ, List.map_append]
  rfl
def nilE : By := [101, 110, 100]
def endH (o i : Nat) : Hd := ⟨0, i, false, false, false, o, 0, 0, 0, 0, []⟩
theorem endH_ok (o i : Nat) (ho : o ≤ 8191) (hi : i < 65536) : (endH o i).ok := by unfold endH Hd.ok; simp; omega
theorem nil_full : takeF (nilT 64) (bytesF (nilH 999) z8) = (nilT 64, [], 5) :=
  take_full (nilH_ok (by omega)) (fits_of (nilH_may _) (by decide)) rfl (by unfold nilH; decide) (nil_find (i := 999) (by omega)) (by unfold nilT; simp)
theorem nil_out : ∃ b : By, b.length = 31 ∧ takeF (nilT 64) (bytesF (endH 1 5) nilE) = ((nilT 64).eraseIdx 5, b, 0) := by
  have hw : wholeF' (layF (nilF 5) (endH 1 5) nilE) = true := by decide
  have hp : payF (layF (nilF 5) (endH 1 5) nilE) = z8 ++ nilE := by decide
  have hfit : fitsH { (layF (nilF 5) (endH 1 5) nilE).hd with mf := false } (z8 ++ nilE) = true := by decide
  refine ⟨bytesF { (layF (nilF 5) (endH 1 5) nilE).hd with mf := false } (z8 ++ nilE), by rw [bytesF_len]; rfl, ?_⟩
  rw [take_old (endH_ok 1 5 (by omega) (by omega)) (by decide) rfl (by decide) (i := 5) (by decide)]
  show stepF (nilT 64) 5 (layF (nilF 5) (endH 1 5) nilE) = _
  unfold stepF outF
  rw [if_pos hw, hp, if_pos hfit]
theorem nil_again : takeF ((nilT 64).eraseIdx 5) (bytesF (nilH 999) z8) = ((nilT 64).eraseIdx 5 ++ [nilF 999], [], 0) := by
  refine take_new (nilH_ok (by omega)) (fits_of (nilH_may _) (by decide)) rfl (by unfold nilH; decide) ?_ (by decide) (whole_noend (by unfold layF fl0 nilH; decide))
  decide
theorem nil_far : takeF ((nilT 64).eraseIdx 5 ++ [nilF 999]) (bytesF (endH 8191 6) z8) = ((nilT 64).eraseIdx 5 ++ [nilF 999], [], 7) :=
  take_bad (endH_ok _ _ (by omega) (by omega)) (by decide) (by decide) (.inr (.inr (by decide)))
theorem nil_last : ∃ T, T.length = 64 ∧ takeF ((nilT 64).eraseIdx 5 ++ [nilF 999]) (bytesF (endH 8191 6) (List.replicate 7 0)) = (T, [], 0) := by
  refine ⟨((nilT 64).eraseIdx 5 ++ [nilF 999]).set 5 (layF (nilF 6) (endH 8191 6) (List.replicate 7 0)), by rw [List.length_set]; decide, ?_⟩
  rw [take_old (endH_ok _ _ (by omega) (by omega)) (by decide) (by decide) (by decide) (i := 5) (by decide)]
  show stepF ((nilT 64).eraseIdx 5 ++ [nilF 999]) 5 (layF (nilF 6) (endH 8191 6) (List.replicate 7 0)) = _
  refine step_part ?_
  have hm : 1 ∈ missF (layF (nilF 6) (endH 8191 6) (List.replicate 7 0)) := by
    unfold missF
    rw [List.mem_filter, List.mem_range]
    exact ⟨by decide, by decide⟩
  unfold wholeF'
  cases hh : missF (layF (nilF 6) (endH 8191 6) (List.replicate 7 0)) with
  | nil => rw [hh] at hm; cases hm
  | cons a l => simp
end Go.Proofs.Ytihfihehiifdkaa
