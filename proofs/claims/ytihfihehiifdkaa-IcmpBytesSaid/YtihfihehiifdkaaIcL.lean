/- Icmp: plain law of messages. -/
import Derived.Test.YtihfihehiifdkaaIpL
import Derived.Test.YtihfihehiifdkaaFqP
import Derived.Test.YtihfihehiifdkaaIrA
namespace Go.Proofs.Ytihfihehiifdkaa

/-- A message. -/
structure Ic where
  ty : UInt8
  co : UInt8
  r0 : UInt8
  r1 : UInt8
  r2 : UInt8
  r3 : UInt8
  body : By
def ic0 : Ic := ⟨0, 0, 0, 0, 0, 0, []⟩
def icW (m : Ic) (s0 s1 : UInt8) : By := m.ty :: m.co :: s0 :: s1 :: m.r0 :: m.r1 :: m.r2 :: m.r3 :: m.body
/-- A message's bytes. -/
def icB (m : Ic) : By := icW m (u8 (checkF (icW m 0 0) / 256)) (u8 (checkF (icW m 0 0)))
/-- The message of bytes. -/
def icOf (b : By) : Ic × Nat :=
  if b.length < 8 ∨ totalF b ≠ 65535 then (ic0, 4) else (⟨b.getD 0 0, b.getD 1 0, b.getD 4 0, b.getD 5 0, b.getD 6 0, b.getD 7 0, b.drop 8⟩, 0)
theorem icB_len (m : Ic) : (icB m).length = 8 + m.body.length := by unfold icB icW; simp; omega
theorem icW_words (m : Ic) (s0 s1 : UInt8) : wordsF (icW m s0 s1) = (256 * m.ty.toNat + m.co.toNat) :: (256 * s0.toNat + s1.toNat) :: (256 * m.r0.toNat + m.r1.toNat) :: (256 * m.r2.toNat + m.r3.toNat) :: wordsF m.body := by
  simp [icW, wordsF]
theorem icW_sum (m : Ic) (s0 s1 : UInt8) : totalF (icW m s0 s1) < 65536 ∧ totalF (icW m s0 s1) % 65535 = ((wordsF (icW m 0 0)).sum + (256 * s0.toNat + s1.toNat)) % 65535 := by
  refine ⟨totalF_lt _, ?_⟩
  unfold totalF sumF
  rw [fold_mod _ 0 (by omega) (wordsF_lt _), icW_words, icW_words]
  congr 1
  simp
  omega
/-- With its checksum a message adds up. -/
theorem ic_total (m : Ic) : totalF (icB m) = 65535 := by
  obtain ⟨a1, a3⟩ := icW_sum m 0 0
  obtain ⟨b1, b3⟩ := icW_sum m (u8 (checkF (icW m 0 0) / 256)) (u8 (checkF (icW m 0 0)))
  have hc : checkF (icW m 0 0) = 65535 - totalF (icW m 0 0) := rfl
  simp only [u8_nat] at b3
  rw [bytes_word (by omega)] at b3
  have a3' : totalF (icW m 0 0) % 65535 = (wordsF (icW m 0 0)).sum % 65535 := by simpa using a3
  refine total_plain (B := (wordsF (icW m 0 0)).sum) a1 hc b1 ?_ a3' b3
  intro e
  have e2 := (fold_zero _ 0 (by omega) (wordsF_lt _)).1 (show (wordsF (icB m)).foldl addF 0 = 0 from e)
  unfold icB at e2
  rw [icW_words] at e2
  have z0 := e2.2 _ (List.mem_cons_self)
  have z1 := e2.2 _ (List.mem_cons_of_mem _ List.mem_cons_self)
  have z2 := e2.2 _ (List.mem_cons_of_mem _ (List.mem_cons_of_mem _ List.mem_cons_self))
  have z3 := e2.2 _ (List.mem_cons_of_mem _ (List.mem_cons_of_mem _ (List.mem_cons_of_mem _ List.mem_cons_self)))
  simp only [u8_nat] at z1
  rw [bytes_word (by omega)] at z1
  have t0 : totalF (icW m 0 0) = 0 := by
    unfold totalF sumF
    refine (fold_zero _ 0 (by omega) (wordsF_lt _)).2 ⟨rfl, fun n hn => ?_⟩
    rw [icW_words] at hn
    simp only [List.mem_cons] at hn
    rcases hn with rfl | rfl | rfl | rfl | hn
    · exact z0
    · rfl
    · exact z2
    · exact z3
    · exact e2.2 n (by simp [hn])
  omega
/-- A message's bytes are read as it. -/
theorem ic_back (m : Ic) : icOf (icB m) = (m, 0) := by
  unfold icOf
  rw [if_neg (by rw [icB_len, ic_total]; omega)]
  unfold icB icW
  rfl
/-- Is a type an error's? -/
def errT (t : UInt8) : Bool := t == 3 || t == 4 || t == 5 || t == 11 || t == 12
/-- May a packet be answered by an error? -/
def emayH (h : Hd) (p : By) : Bool := !(decide (h.off ≠ 0) || decide (h.src = 0) || multiF h.src || multiF h.dst) && (decide (h.proto ≠ 1) || (decide (8 ≤ p.length) && !errT (p.getD 0 0)))
def emayF (x : By) : Bool := decide ((prsF x).2.2 = 0) && emayH (prsF x).1 (prsF x).2.1
/-- What is quoted of a packet. -/
def quoteF (x : By) : By × Nat := if (prsF x).2.2 ≠ 0 then ([], 4) else (x.take (20 + (prsF x).1.opts.length + min 8 (prsF x).2.1.length), 0)
/-- May an error of this kind, with this MTU, be? -/
def errArg (k mtu : Int) : Bool := decide (k < 1) || decide (3 < k) || decide (mtu < 0) || decide (65535 < mtu) || (decide (k ≠ 2) && decide (mtu ≠ 0))
def errM (k : Int) (mtu : Nat) (q : By) : Ic := ⟨if k = 3 then 11 else 3, if k = 2 then 4 else 0, 0, 0, u8 (mtu / 256), u8 mtu, q⟩
def errH (fr dt : Nat) : Hd := { hd0 with ttl := 64, proto := 1, src := fr, dst := dt }
/-- An error, as a packet. -/
def errF (k : Int) (x : By) (fr : Nat) (mtu : Int) : By × Nat :=
  if errArg k mtu = true then ([], 2) else if (prsF x).2.2 ≠ 0 then ([], 4) else if emayF x = false then ([], 7)
  else (bytesF (errH fr (prsF x).1.src) (icB (errM k mtu.toNat (quoteF x).1)), 0)
/-- Does a packet ask for an echo? -/
def echoH (h : Hd) (p : By) : Bool := !fragH h && decide (h.proto = 1) && decide ((icOf p).2 = 0) && ((icOf p).1.ty == 8) && ((icOf p).1.co == 0)
def echoF (x : By) : Bool := decide ((prsF x).2.2 = 0) && echoH (prsF x).1 (prsF x).2.1
def replyH (h : Hd) : Hd := { hd0 with tos := h.tos, id := h.id, df := h.df, ttl := 64, proto := 1, src := h.dst, dst := h.src }
/-- The answer to an echo. -/
def replyF (x : By) : By × Nat :=
  if (prsF x).2.2 ≠ 0 then ([], 4) else if echoF x = false then ([], 7) else (bytesF (replyH (prsF x).1) (icB { (icOf (prsF x).2.1).1 with ty := 0 }), 0)

theorem errH_ok {fr dt : Nat} (h1 : fr < 2 ^ 32) (h2 : dt < 2 ^ 32) : (errH fr dt).ok := ⟨by show 0 < 256; decide, by show 0 < 65536; decide, by show 64 < 256; decide, by show 1 < 256; decide, h1, h2⟩
theorem replyH_ok {h : Hd} (ok : h.ok) : (replyH h).ok := ⟨ok.1, ok.2.1, by show 64 < 256; decide, by show 1 < 256; decide, ok.2.2.2.2.2, ok.2.2.2.2.1⟩
theorem errH_fits (fr dt : Nat) {p : By} (hp : p.length ≤ 65515) : fitsH (errH fr dt) p = true := by
  unfold fitsH mayH errH hd0
  simp [goodF, steps, stepsF]
  omega
theorem replyH_fits (h : Hd) {p : By} (hp : p.length ≤ 65515) : fitsH (replyH h) p = true := by
  unfold fitsH mayH replyH hd0
  simp [goodF, steps, stepsF]
  omega
theorem quote_len (x : By) : (quoteF x).1.length ≤ 68 := by
  unfold quoteF
  split
  · simp
  · rename_i h
    have hm := (prs_may (by omega : (prsF x).2.2 = 0)).1
    obtain ⟨_, h40, _⟩ := may_opts hm
    simp only [List.length_take]
    omega
theorem err_fits (k : Int) (x : By) (fr : Nat) (mtu : Nat) : fitsH (errH fr (prsF x).1.src) (icB (errM k mtu (quoteF x).1)) = true := by
  refine errH_fits _ _ ?_
  rw [icB_len]
  have := quote_len x
  unfold errM
  simp only
  omega
theorem icOf_len {b : By} (h : (icOf b).2 = 0) : (icOf b).1.body.length + 8 = b.length := by
  unfold icOf at h ⊢
  split at h
  · cases h
  · rename_i hh
    rw [if_neg hh]
    simp
    omega
theorem echo_of {x : By} (h : echoF x = true) : (prsF x).2.2 = 0 ∧ (icOf (prsF x).2.1).2 = 0 ∧ (prsF x).1.proto = 1 ∧ fragH (prsF x).1 = false ∧ (icOf (prsF x).2.1).1.ty = 8 ∧ (icOf (prsF x).2.1).1.co = 0 := by
  unfold echoF echoH at h
  simp only [Bool.and_eq_true, decide_eq_true_eq, Bool.not_eq_true', beq_iff_eq] at h
  exact ⟨h.1, h.2.1.1.2, h.2.1.1.1.2, h.2.1.1.1.1, h.2.1.2, h.2.2⟩
theorem prs_small {x : By} (h : (prsF x).2.2 = 0) : 20 + (prsF x).1.opts.length + (prsF x).2.1.length ≤ 65535 := by
  obtain ⟨_, h0⟩ := prs_may h
  obtain ⟨h1, h2, h3, h4, h5⟩ := wrong0 h0
  have e : prsF x = (hdF x, partF x (sizeF x) (lenF x), 0) := by unfold prsF; rw [if_pos h0]
  rw [e]
  have hl : lenF x < 65536 := by
    have := getF_lt (partF x 2 4)
    have hq : (partF x 2 4).length ≤ 2 := by unfold partF; simp; omega
    have : 256 ^ (partF x 2 4).length ≤ 256 ^ 2 := Nat.pow_le_pow_right (by omega) hq
    unfold lenF
    omega
  have e1 : (hdF x).opts.length = sizeF x - 20 := by
    show (partF x 20 (sizeF x)).length = _
    unfold partF
    simp
    omega
  have e2 : (partF x (sizeF x) (lenF x)).length = lenF x - sizeF x := by
    unfold partF
    simp
    omega
  show 20 + (hdF x).opts.length + (partF x (sizeF x) (lenF x)).length ≤ 65535
  rw [e1, e2]
  omega
theorem reply_len {x : By} (h : echoF x = true) : 8 + (icOf (prsF x).2.1).1.body.length ≤ 65515 := by
  obtain ⟨h0, h1, _⟩ := echo_of h
  have := icOf_len h1
  have := prs_small h0
  omega
/-- The packet that an error is. -/
theorem err_back {k : Int} {x : By} {fr : Nat} {mtu : Int} (h1 : fr < 2 ^ 32) (h : (errF k x fr mtu).2 = 0) : (prsF x).2.2 = 0 ∧ errArg k mtu = false ∧ emayF x = true ∧
    prsF (errF k x fr mtu).1 = (errH fr (prsF x).1.src, icB (errM k mtu.toNat (quoteF x).1), 0) := by
  unfold errF at h ⊢
  split at h
  · cases h
  split at h
  · cases h
  split at h
  · cases h
  rename_i a1 a2 a3
  rw [if_neg a1, if_neg a2, if_neg a3]
  have := read_back (errH_ok h1 (prs_ok x).2.2.2.2.1) (err_fits k x fr mtu.toNat) []
  rw [List.append_nil] at this
  exact ⟨by omega, by simpa using a1, by simpa using a3, this⟩
theorem reply_back {x : By} (h : (replyF x).2 = 0) : (prsF x).2.2 = 0 ∧ echoF x = true ∧
    prsF (replyF x).1 = (replyH (prsF x).1, icB { (icOf (prsF x).2.1).1 with ty := 0 }, 0) := by
  unfold replyF at h ⊢
  split at h
  · cases h
  split at h
  · cases h
  rename_i a1 a2
  rw [if_neg a1, if_neg a2]
  have he : echoF x = true := by simpa using a2
  have hl := reply_len he
  have := read_back (replyH_ok (prs_ok x)) (replyH_fits (prsF x).1 (p := icB { (icOf (prsF x).2.1).1 with ty := 0 }) (by rw [icB_len]; exact hl)) []
  rw [List.append_nil] at this
  exact ⟨by omega, he, this⟩
end Go.Proofs.Ytihfihehiifdkaa
