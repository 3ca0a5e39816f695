/- The plain law of options and headers. -/
import Derived.Test.YtfddkehnhkfjeaaIpL
namespace Go.Proofs.Ytfddkehnhkfjeaa

def goodF (x : By) : Bool := (steps x).all fun s => !s.2.isEmpty
def optsOf (L : List (UInt8 × By)) : List (UInt8 × By) := (L.filter fun s => s.1 != 1).map fun s => (s.1, s.2.drop 2)
def optsF (x : By) : List (UInt8 × By) := if goodF x = true then optsOf (steps x) else []
def flatF (L : List (UInt8 × By)) : By := L.flatMap fun s => s.2
def highF (L : List (UInt8 × By)) : List (UInt8 × By) := L.filter fun s => decide (128 ≤ s.1)
def padF (x : By) : By := x ++ List.replicate ((4 - x.length % 4) % 4) 0
def copF (x : By) : By := if goodF x = true then padF (flatF (highF (steps x))) else []
def routedF (x : By) : Bool := (optsF x).any fun s => s.1 == 131 || s.1 == 137

/-- A step that can be read alone. -/
def OkStep (s : UInt8 × By) : Prop := (s.1 = 1 ∧ s.2 = [1]) ∨ (s.1 ≠ 0 ∧ s.1 ≠ 1 ∧ ∃ m d, s.2 = s.1 :: m :: d ∧ m.toNat = d.length + 2)
theorem stepN_cons (k : UInt8) (r : By) : stepN (k :: r) = if k = 1 then 1 else match r with
    | [] => 0
    | m :: _ => if 2 ≤ m.toNat ∧ m.toNat ≤ r.length + 1 then m.toNat else 0 := rfl
theorem step_ok (k : UInt8) (r : By) (hk : k ≠ 0) (hn : stepN (k :: r) ≠ 0) : OkStep (k, (k :: r).take (stepN (k :: r))) := by
  rw [stepN_cons] at hn ⊢
  by_cases h1 : k = 1
  · subst h1
    exact .inl ⟨rfl, rfl⟩
  · rw [if_neg h1] at hn ⊢
    cases r with
    | nil => exact absurd rfl hn
    | cons m r2 =>
      simp only at hn ⊢
      split
      · rename_i h
        rw [List.length_cons] at h
        obtain ⟨j, hj⟩ : ∃ j, m.toNat = j + 2 := ⟨m.toNat - 2, by omega⟩
        refine .inr ⟨hk, h1, m, r2.take j, ?_, ?_⟩
        · rw [hj]; rfl
        · rw [List.length_take]; omega
      · rename_i h
        rw [if_neg h] at hn
        exact absurd rfl hn
theorem steps_ok : ∀ (n : Nat) (x : By), x.length ≤ n → ∀ s ∈ steps x, s.2 ≠ [] → OkStep s
  | 0, x, hx, s, hs, _ => by
    obtain rfl : x = [] := List.eq_nil_of_length_eq_zero (by omega)
    cases hs
  | n + 1, [], _, s, hs, _ => by cases hs
  | n + 1, k :: r, hx, s, hs, hne => by
    rw [steps_cons] at hs
    split at hs
    · cases hs
    · rename_i hk
      split at hs
      · rename_i h0
        obtain rfl := List.mem_singleton.1 hs
        exact absurd rfl hne
      · rename_i h0
        rcases List.mem_cons.1 hs with rfl | hs
        · exact step_ok k r hk h0
        · refine steps_ok n _ ?_ s hs hne
          rw [List.length_drop]
          omega
theorem steps_of_ok (s : UInt8 × By) (h : OkStep s) (y : By) : steps (s.2 ++ y) = s :: steps y := by
  obtain ⟨k, b⟩ := s
  rcases h with ⟨h1, h2⟩ | ⟨h0, h1, m, d, h2, hm⟩
  · simp only at h1 h2
    subst h1 h2
    show steps (1 :: y) = _
    rw [steps_cons, if_neg (by decide)]
    have : stepN (1 :: y) = 1 := rfl
    rw [this]
    rfl
  · simp only at h0 h1 h2 hm
    subst h2
    show steps (k :: (m :: (d ++ y))) = _
    rw [steps_cons, if_neg h0]
    have : stepN (k :: m :: (d ++ y)) = m.toNat := by
      rw [stepN_cons, if_neg h1]
      simp only
      rw [if_pos (by simp; omega)]
    rw [this, hm, if_neg (by omega)]
    simp
theorem steps_flat : ∀ (L : List (UInt8 × By)) (y : By), (∀ s ∈ L, OkStep s) → steps (flatF L ++ y) = L ++ steps y
  | [], y, _ => rfl
  | s :: L, y, h => by
    have : flatF (s :: L) ++ y = s.2 ++ (flatF L ++ y) := by simp [flatF]
    rw [this, steps_of_ok s (h s List.mem_cons_self), steps_flat L y fun t ht => h t (List.mem_cons_of_mem _ ht)]
    rfl
theorem steps_zeros (n : Nat) : steps (List.replicate n 0) = [] := by
  cases n with
  | zero => rfl
  | succ n => rw [List.replicate_succ, steps_cons, if_pos rfl]
theorem good_ok {x : By} (h : goodF x = true) : ∀ s ∈ steps x, OkStep s := fun s hs => by
  refine steps_ok _ x (Nat.le_refl _) s hs ?_
  have := List.all_eq_true.1 h s hs
  intro e
  rw [e] at this
  cases this
theorem ok_ne {s : UInt8 × By} (h : OkStep s) : s.2 ≠ [] := by
  rcases h with ⟨_, h⟩ | ⟨_, _, m, d, h, _⟩ <;> rw [h] <;> simp
theorem good_of {x : By} (h : ∀ s ∈ steps x, OkStep s) : goodF x = true := List.all_eq_true.2 fun s hs => by
  have := ok_ne (h s hs)
  cases h2 : s.2 with
  | nil => exact absurd h2 this
  | cons _ _ => rfl
theorem ok_opt {s : UInt8 × By} (h : OkStep s) (h1 : s.1 ≠ 1) : s.2 = s.1 :: UInt8.ofNat (2 + (s.2.drop 2).length) :: s.2.drop 2 ∧ 2 ≤ s.1.toNat ∧ (s.2.drop 2).length ≤ 253 := by
  rcases h with ⟨h, _⟩ | ⟨h0, _, m, d, h2, hm⟩
  · exact absurd h h1
  · rw [h2]
    have hd : (s.1 :: m :: d).drop 2 = d := rfl
    rw [hd]
    have hml := m.toNat_lt
    refine ⟨?_, ?_, by omega⟩
    · congr 2
      apply UInt8.toNat_inj.1
      rw [hm]
      simp only [UInt8.toNat_ofNat']
      omega
    · have h3 : s.1.toNat ≠ 0 := fun e => h0 (UInt8.toNat_inj.1 e)
      have h4 : s.1.toNat ≠ 1 := fun e => h1 (UInt8.toNat_inj.1 e)
      omega
theorem padF_len (x : By) : (padF x).length % 4 = 0 := by unfold padF; simp; omega
theorem high_ok {x : By} (h : goodF x = true) : ∀ s ∈ highF (steps x), OkStep s := fun s hs => good_ok h s (List.mem_filter.1 hs).1
theorem steps_cop {x : By} (h : goodF x = true) : steps (copF x) = highF (steps x) := by
  unfold copF padF
  rw [if_pos h, steps_flat _ _ (high_ok h), steps_zeros, List.append_nil]
theorem good_cop (x : By) : goodF (copF x) = true := by
  by_cases h : goodF x = true
  · exact good_of (by rw [steps_cop h]; exact high_ok h)
  · unfold copF
    rw [if_neg h]; rfl
theorem high_ne (s : UInt8 × By) (h : decide (128 ≤ s.1) = true) : (s.1 != 1) = true := by
  have h1 : (128 : UInt8) ≤ s.1 := of_decide_eq_true h
  simp only [bne_iff_ne, ne_eq]
  intro e
  rw [e] at h1
  exact absurd h1 (by decide)
/-- The copied options are those of at least 128. -/
theorem opts_cop (x : By) : optsF (copF x) = (optsF x).filter fun s => decide (128 ≤ s.1) := by
  unfold optsF
  rw [if_pos (good_cop x)]
  by_cases h : goodF x = true
  · rw [if_pos h, steps_cop h]
    unfold optsOf highF
    rw [List.filter_map, List.filter_filter, List.filter_filter]
    congr 1
    apply List.filter_congr
    intro s _
    show ((s.1 != 1) && decide (128 ≤ s.1)) = (decide (128 ≤ s.1) && (s.1 != 1))
    exact Bool.and_comm _ _
  · rw [if_neg h]
    unfold copF
    rw [if_neg h]; rfl
/-- The options' bytes, one behind the other. -/
def wholeF (l : List (UInt8 × By)) : By := l.flatMap fun o => o.1 :: UInt8.ofNat (2 + o.2.length) :: o.2
theorem whole_flat : ∀ (L : List (UInt8 × By)), (∀ s ∈ L, OkStep s) → wholeF (optsOf L) = flatF (L.filter fun s => s.1 != 1)
  | [], _ => rfl
  | s :: L, h => by
    have ih := whole_flat L fun t ht => h t (List.mem_cons_of_mem _ ht)
    unfold optsOf at ih ⊢
    rw [List.filter_cons]
    split
    · rename_i h1
      have := (ok_opt (h s List.mem_cons_self) (by simpa using h1)).1
      show s.1 :: UInt8.ofNat (2 + (s.2.drop 2).length) :: s.2.drop 2 ++ wholeF _ = s.2 ++ flatF _
      rw [ih, ← this]
    · exact ih
theorem opts_whole {x : By} (h : goodF x = true) : optsF (wholeF (optsF x)) = optsF x ∧ goodF (wholeF (optsF x)) = true := by
  have hx : optsF x = optsOf (steps x) := by unfold optsF; rw [if_pos h]
  have hL : ∀ s ∈ (steps x).filter (fun s => s.1 != 1), OkStep s := fun s hs => good_ok h s (List.mem_filter.1 hs).1
  have hs : steps (wholeF (optsF x)) = (steps x).filter fun s => s.1 != 1 := by
    rw [hx, whole_flat _ (good_ok h)]
    have := steps_flat _ [] hL
    rw [List.append_nil] at this
    rw [this, steps_nil, List.append_nil]
  have hg : goodF (wholeF (optsF x)) = true := good_of (by rw [hs]; exact hL)
  refine ⟨?_, hg⟩
  have hz : ∀ y, goodF y = true → optsF y = optsOf (steps y) := fun y hy => by unfold optsF; rw [if_pos hy]
  rw [hz _ hg, hs, hx]
  unfold optsOf
  rw [List.filter_filter]
  congr 1
  apply List.filter_congr
  intro s _
  exact Bool.and_self _

/-! ### Headers -/
structure Hd where
  tos : Nat
  id : Nat
  evil : Bool
  df : Bool
  mf : Bool
  off : Int
  ttl : Nat
  proto : Nat
  src : Nat
  dst : Nat
  opts : By
def Hd.ok (h : Hd) : Prop := h.tos < 256 ∧ h.id < 65536 ∧ h.ttl < 256 ∧ h.proto < 256 ∧ h.src < 2 ^ 32 ∧ h.dst < 2 ^ 32
def hd0 : Hd := ⟨0, 0, false, false, false, 0, 0, 0, 0, 0, []⟩
def partF (x : By) (a b : Nat) : By := (x.take b).drop a
def sizeF (x : By) : Nat := 4 * ((x.getD 0 0).toNat % 16)
def lenF (x : By) : Nat := getF (partF x 2 4)
def wrongF (x : By) : Nat :=
  if x.length < 20 then 1 else if (x.getD 0 0).toNat / 16 ≠ 4 then 2 else if sizeF x < 20 ∨ x.length < sizeF x then 3 else if lenF x < sizeF x ∨ x.length < lenF x then 4
  else if totalF (x.take (sizeF x)) ≠ 65535 then 5 else if goodF (partF x 20 (sizeF x)) = true then 0 else 6
def hdF (x : By) : Hd :=
  { tos := (x.getD 1 0).toNat, id := getF (partF x 4 6), evil := decide (getF (partF x 6 8) / 32768 % 2 = 1), df := decide (getF (partF x 6 8) / 16384 % 2 = 1), mf := decide (getF (partF x 6 8) / 8192 % 2 = 1), off := (getF (partF x 6 8) % 8192 : Nat), ttl := (x.getD 8 0).toNat, proto := (x.getD 9 0).toNat, src := getF (partF x 12 16), dst := getF (partF x 16 20), opts := partF x 20 (sizeF x) }
def prsF (x : By) : Hd × By × Nat := if wrongF x = 0 then (hdF x, partF x (sizeF x) (lenF x), 0) else (hd0, [], wrongF x)
def mayH (h : Hd) : Bool := goodF h.opts && decide (h.opts.length ≤ 40) && decide (h.opts.length % 4 = 0) && decide (0 ≤ h.off) && decide (h.off ≤ 8191)
def bitF (b : Bool) (n : Nat) : Nat := if b = true then n else 0
def flagsF (h : Hd) : Nat := bitF h.evil 32768 + bitF h.df 16384 + bitF h.mf 8192 + h.off.toNat
def headF (h : Hd) (n : Nat) (sum : By) : By :=
  putF (64 + (20 + h.opts.length) / 4) 1 ++ (putF h.tos 1 ++ (putF n 2 ++ (putF h.id 2 ++ (putF (flagsF h) 2 ++ (putF h.ttl 1 ++ (putF h.proto 1 ++ (sum ++ (putF h.src 4 ++ (putF h.dst 4 ++ h.opts)))))))))
def bytesF (h : Hd) (p : By) : By :=
  let n := 20 + h.opts.length + p.length
  headF h n (putF (checkF (headF h n [0, 0])) 2) ++ p
def fitsH (h : Hd) (p : By) : Bool := mayH h && decide (p.length ≤ 65535 - 20 - h.opts.length)
def fragH (h : Hd) : Bool := h.mf || decide (0 < h.off)
/-- A packet with a TTL that is one less. -/
def lessF (x : By) : By × Nat :=
  if wrongF x ≠ 0 then ([], 4) else if (x.getD 8 0).toNat = 0 then ([], 7) else
  let m := getF (partF x 8 10)
  (((x.set 8 (UInt8.ofNat ((x.getD 8 0).toNat - 1))).set 10 (UInt8.ofNat (changeF (getF (partF x 10 12)) m (m - 256) / 256))).set 11 (UInt8.ofNat (changeF (getF (partF x 10 12)) m (m - 256))), 0)
end Go.Proofs.Ytfddkehnhkfjeaa
