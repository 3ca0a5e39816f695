/- ReassMissing: plain law (all pieces but one), walk. -/
import Derived.Test.YtihfihehiifdkaaRtJ
namespace Go.Proofs.Ytihfihehiifdkaa
open Go.RowKit Go.Sort
/-- All pieces but one are taken in turn. -/
structure Bt (N b : Nat) (X : Nat → By) (g : Hd) (y bb : By) (ky : Key) (St : Nat → List Fl → Prop) : Prop where
  init : St 0 []
  skip : ∀ T, St b T → St (b + 1) T
  take : ∀ j T, j < N → j ≠ b → St j T → ∃ f, takeF T (X j) = ([f], [], 0) ∧ St (j + 1) [f]
  prs : prsF (X b) = (g, y, 0)
  off : 0 ≤ g.off ∧ g.off ≤ 65535
  fin : ∀ T, St N T → ∃ f, T = [f] ∧ f.key = ky ∧ missF f = (if b + 1 = N then [] else (List.range ((y.length + 7) / 8)).map (g.off.toNat + ·)) ∧ takeF T (X b) = ([], bb, 0)
theorem bt_of {h : Hd} {p : By} {N b : Nat} {X : Nat → By} {G : Nat → Hd} {Y : Nat → By} {a : Nat → Nat} (C : Cutting h p N X G Y a) (hf : fitsH h p = true) (hb : b < N) :
    Bt N b X (G b) (Y b) (bytesF h p) (keyF h) (fun j T => TkT h p N G a (fun k => decide (k < j) && !(k == b)) T) := by
  have hn := C.n1
  have hall : ∀ i, i < N → ((decide (i < N) && !(i == b)) || i == b) = true := fun i hi => by
    rw [decide_eq_true hi, Bool.true_and]
    cases (i == b) <;> rfl
  refine ⟨.inl ⟨by funext k; simp, rfl⟩, fun T hT => ?_, fun j T hj hne hT => ?_, C.prs b hb, ?_, fun T hT => ?_⟩
  · have e : (fun k => decide (k < b + 1) && !(k == b)) = fun k => decide (k < b) && !(k == b) := by
      funext k
      by_cases hk : k = b
      · subst hk; simp
      · have : decide (k < b + 1) = decide (k < b) := by rw [decide_eq_decide]; omega
        rw [this]
    simp only [e]
    exact hT
  · obtain ⟨_, t2⟩ := take_piece C hf hT hj
    have e : (fun i => (decide (i < j) && !(i == b)) || i == j) = fun i => decide (i < j + 1) && !(i == b) := by
      funext i
      by_cases h1 : i = j
      · subst h1
        have h2 : (i == b) = false := by rw [beq_eq_false_iff_ne]; exact hne
        simp [h2]
      · have h2 : (i == j) = false := by rw [beq_eq_false_iff_ne]; exact h1
        have h3 : decide (i < j + 1) = decide (i < j) := by rw [decide_eq_decide]; omega
        rw [h2, h3, Bool.or_false]
    rw [e] at t2
    obtain ⟨f, e1, s1⟩ := t2 fun hh => by
      have h1 := hh b hb
      have h2 : (b == j) = false := by rw [beq_eq_false_iff_ne]; exact fun e => hne e.symm
      rw [h2] at h1
      simp at h1
    exact ⟨f, e1, .inr ⟨f, rfl, s1⟩⟩
  · have h1 := C.offN hb
    have h2 := (C.pie b hb).le
    have h3 : 0 ≤ (G b).off := by
      rw [C.hd b hb]
      show (0 : Int) ≤ ((a b : Nat) : Int) / 8
      omega
    omega
  · obtain ⟨t1, _⟩ := take_piece C hf hT hb
    have ht := t1 hall
    rcases hT with ⟨hS, _⟩ | ⟨f, rfl, hS⟩
    · exfalso
      obtain ⟨k, hk, hkb⟩ : ∃ k, k < N ∧ k ≠ b := by
        by_cases h0 : b = 0
        · exact ⟨1, by omega, by omega⟩
        · exact ⟨0, by omega, by omega⟩
      have := congrFun hS k
      rw [decide_eq_true hk] at this
      simp at this
      exact hkb this
    · refine ⟨f, rfl, hS.key, ?_, ht⟩
      rw [hS.miss C hb fun k hk => by rw [decide_eq_true hk]; simp, C.offN hb]
theorem cut_bt {h : Hd} (ok : h.ok) {p : By} (hf : fitsH h p = true) (hoff : h.off = 0) (hnmf : h.mf = false) {m : Int} (hc : (cutF (bytesF h p) m).2 = 0) (h2 : 2 ≤ (cutF (bytesF h p) m).1.length) {b : Nat} (hb : b < (cutF (bytesF h p) m).1.length) :
    ∃ N X g y St, (cutF (bytesF h p) m).1 = (List.range N).map X ∧ Bt N b X g y (bytesF h p) (keyF h) St ∧ (∀ k, k < N → (X k).length ≤ 65535) ∧ y.length ≤ 65535 := by
  rcases cut_cutting ok hf hoff hnmf hc with e | ⟨N, X, G, Y, a, C, e, hX⟩
  · rw [e] at h2
    simp at h2
  · rw [e] at hb
    have hb' : b < N := by simpa using hb
    have h3 := C.stp b hb'
    have h4 := C.le (k := b + 1) (by omega)
    have h5 := (hX b hb').2.2
    exact ⟨N, X, G b, Y b, _, e, bt_of C hf hb', fun k hk => (hX k hk).1, by omega⟩
theorem missG_one {G : List GF} {f : Fl} {ky : Key} (h : G.map GF.f = [f]) (hk : f.key = ky) : missG G ky = missF f := by
  cases G with
  | nil => simp at h
  | cons g G =>
    simp at h
    obtain ⟨e, rfl⟩ := h
    have : findG [g] ky = some g := by unfold findG; rw [List.find?_cons]; simp [e, hk]
    unfold missG
    rw [this, ← e]
theorem miss_at {b N q o : Nat} {L : List Nat} (h : L = if b + 1 = N then [] else (List.range q).map (o + ·)) : L.length = (if b + 1 = N then 0 else q) ∧ ∀ k, k < L.length → L.getD k 0 = o + k := by
  subst h
  by_cases e : b + 1 = N
  · rw [if_pos e, if_pos e]
    exact ⟨rfl, fun k hk => absurd hk (Nat.not_lt_zero _)⟩
  · rw [if_neg e, if_neg e]
    refine ⟨by simp, fun k hk => ?_⟩
    have hk' : k < q := by simpa using hk
    simp [List.getD_eq_getElem?_getD, hk']
end Go.Proofs.Ytihfihehiifdkaa
