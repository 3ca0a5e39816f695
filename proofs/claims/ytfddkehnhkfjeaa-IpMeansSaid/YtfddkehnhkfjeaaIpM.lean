/- The plain law of packets: what is written is read; a TTL that is one less. -/
import Derived.Test.YtfddkehnhkfjeaaIpO
namespace Go.Proofs.Ytfddkehnhkfjeaa

def u8 (n : Nat) : UInt8 := UInt8.ofNat n
theorem u8_nat (n : Nat) : (u8 n).toNat = n % 256 := by simp [u8]
theorem put1 (n : Nat) : putF n 1 = [u8 n] := by simp [putF, u8]
theorem put2 (n : Nat) : putF n 2 = [u8 (n / 256), u8 n] := by simp [putF, u8, List.range_succ]
theorem put4 (n : Nat) : putF n 4 = [u8 (n / 16777216), u8 (n / 65536), u8 (n / 256), u8 n] := by simp [putF, u8, List.range_succ]
/-- The header's bytes. -/
theorem head_eq (h : Hd) (n : Nat) (s0 s1 : UInt8) : headF h n [s0, s1] =
    u8 (64 + (20 + h.opts.length) / 4) :: u8 h.tos :: u8 (n / 256) :: u8 n :: u8 (h.id / 256) :: u8 h.id :: u8 (flagsF h / 256) :: u8 (flagsF h) :: u8 h.ttl :: u8 h.proto :: s0 :: s1 ::
    u8 (h.src / 16777216) :: u8 (h.src / 65536) :: u8 (h.src / 256) :: u8 h.src :: u8 (h.dst / 16777216) :: u8 (h.dst / 65536) :: u8 (h.dst / 256) :: u8 h.dst :: h.opts := by
  unfold headF
  rw [put1, put1, put2, put2, put2, put1, put1, put4, put4]
  rfl
theorem head_len (h : Hd) (n : Nat) (s0 s1 : UInt8) : (headF h n [s0, s1]).length = 20 + h.opts.length := by rw [head_eq]; simp; omega
theorem bytesF_eq (h : Hd) (p : By) : ∃ s0 s1, bytesF h p = headF h (20 + h.opts.length + p.length) [s0, s1] ++ p ∧ s0 = u8 (checkF (headF h (20 + h.opts.length + p.length) [0, 0]) / 256) ∧ s1 = u8 (checkF (headF h (20 + h.opts.length + p.length) [0, 0])) := by
  refine ⟨_, _, ?_, rfl, rfl⟩
  unfold bytesF
  simp only [put2]
theorem bytesF_len (h : Hd) (p : By) : (bytesF h p).length = 20 + h.opts.length + p.length := by
  obtain ⟨s0, s1, e, _⟩ := bytesF_eq h p
  rw [e, List.length_append, head_len]

structure MayH (h : Hd) : Prop where
  good : goodF h.opts = true
  l40 : h.opts.length ≤ 40
  l4 : h.opts.length % 4 = 0
  o0 : 0 ≤ h.off
  o1 : h.off ≤ 8191
theorem may_of {h : Hd} (hm : mayH h = true) : MayH h := by
  unfold mayH at hm
  simp only [Bool.and_eq_true, decide_eq_true_eq] at hm
  exact ⟨hm.1.1.1.1, hm.1.1.1.2, hm.1.1.2, hm.1.2, hm.2⟩
theorem flags_lt {h : Hd} (hm : MayH h) : flagsF h < 65536 := by
  have h1 := hm.o0
  have h2 := hm.o1
  unfold flagsF bitF
  split <;> split <;> split <;> omega
theorem flags_bits {h : Hd} (hm : MayH h) : decide (flagsF h / 32768 % 2 = 1) = h.evil ∧ decide (flagsF h / 16384 % 2 = 1) = h.df ∧ decide (flagsF h / 8192 % 2 = 1) = h.mf ∧ ((flagsF h % 8192 : Nat) : Int) = h.off := by
  have h1 := hm.o0
  have h2 := hm.o1
  unfold flagsF bitF
  cases h.evil <;> cases h.df <;> cases h.mf <;> simp <;> omega
theorem get1 (a : UInt8) : getF [a] = a.toNat := by simp [getF]
theorem get2 (a b : UInt8) : getF [a, b] = a.toNat * 256 + b.toNat := by simp [getF]
theorem get4 (a b c d : UInt8) : getF [a, b, c, d] = ((a.toNat * 256 + b.toNat) * 256 + c.toNat) * 256 + d.toNat := by simp [getF]
/-- The words of a header. -/
def wHd (h : Hd) (n s : Nat) : List Nat := [256 * (64 + (20 + h.opts.length) / 4) + h.tos, n, h.id, flagsF h, 256 * h.ttl + h.proto, s, h.src / 65536, h.src % 65536, h.dst / 65536, h.dst % 65536]
theorem words_head {h : Hd} (ok : h.ok) (hm : MayH h) {n : Nat} (hn : n < 65536) (s0 s1 : UInt8) : wordsF (headF h n [s0, s1]) = wHd h n (256 * s0.toNat + s1.toNat) ++ wordsF h.opts := by
  rw [head_eq]
  have hf := flags_lt hm
  obtain ⟨o1, o2, o3, o4, o5, o6⟩ := ok
  have hl := hm.l40
  simp only [wordsF, wHd, List.cons_append, List.nil_append, u8_nat]
  congr 1
  · omega
  congr 1
  · omega
  congr 1
  · omega
  congr 1
  · omega
  congr 1
  · omega
  congr 1
  congr 1
  · omega
  congr 1
  · omega
  congr 1
  · omega
  congr 1
  · omega
theorem wHd_lt {h : Hd} (ok : h.ok) (hm : MayH h) {n s : Nat} (hn : n < 65536) (hs : s < 65536) : ∀ x ∈ wHd h n s ++ wordsF h.opts, x < 65536 := by
  have hf := flags_lt hm
  obtain ⟨o1, o2, o3, o4, o5, o6⟩ := ok
  have hl := hm.l40
  intro x hx
  rcases List.mem_append.1 hx with hx | hx
  · simp only [wHd, List.mem_cons, List.not_mem_nil, or_false] at hx
    rcases hx with rfl | rfl | rfl | rfl | rfl | rfl | rfl | rfl | rfl | rfl <;> omega
  · exact wordsF_lt _ x hx
theorem eq_mod {a b : Nat} (ha : a < 65536) (hb : b < 65536) (h0 : a ≠ 0) (h1 : b ≠ 0) (h : a % 65535 = b % 65535) : a = b := by omega
/-- The sum of a header, as the words of it go. -/
theorem total_head {h : Hd} (ok : h.ok) (hm : MayH h) {n : Nat} (hn : n < 65536) (s0 s1 : UInt8) :
    totalF (headF h n [s0, s1]) < 65536 ∧ totalF (headF h n [s0, s1]) ≠ 0 ∧ totalF (headF h n [s0, s1]) % 65535 = ((wHd h n (256 * s0.toNat + s1.toNat)).sum + (wordsF h.opts).sum) % 65535 := by
  have h0 := s0.toNat_lt
  have h1 := s1.toNat_lt
  have hl := wHd_lt ok hm hn (s := 256 * s0.toNat + s1.toNat) (by omega)
  refine ⟨totalF_lt _, ?_, ?_⟩
  · unfold totalF sumF
    rw [words_head ok hm hn]
    intro e
    have := ((fold_zero _ 0 (by omega) hl).1 e).2 (256 * (64 + (20 + h.opts.length) / 4) + h.tos) (by simp [wHd])
    omega
  · unfold totalF sumF
    rw [words_head ok hm hn, fold_mod _ 0 (by omega) hl, List.sum_append]
    simp
theorem sum_head (h : Hd) (n s : Nat) : (wHd h n s).sum = 256 * (64 + (20 + h.opts.length) / 4) + h.tos + n + h.id + flagsF h + (256 * h.ttl + h.proto) + s + h.src / 65536 + h.src % 65536 + h.dst / 65536 + h.dst % 65536 := by
  simp [wHd]; omega
theorem sum_with (h : Hd) (n s : Nat) : (wHd h n s).sum = (wHd h n 0).sum + s := by rw [sum_head, sum_head]; omega
theorem sum_less (h : Hd) (n s : Nat) (ht : h.ttl ≠ 0) : (wHd { h with ttl := h.ttl - 1 } n s).sum + 256 = (wHd h n s).sum := by
  rw [sum_head, sum_head]
  simp only [flagsF]
  omega
theorem bytes_word {c : Nat} (hc : c < 65536) : 256 * (c / 256 % 256) + c % 256 = c := by omega
theorem total_plain {T c U B : Nat} (a1 : T < 65536) (hc : c = 65535 - T) (b1 : U < 65536) (b2 : U ≠ 0) (a3 : T % 65535 = B % 65535) (b3 : U % 65535 = (B + c) % 65535) : U = 65535 := by omega
/-- A header with its checksum adds up. -/
theorem total_ok {h : Hd} (ok : h.ok) (hm : MayH h) {n : Nat} (hn : n < 65536) : totalF (headF h n [u8 (checkF (headF h n [0, 0]) / 256), u8 (checkF (headF h n [0, 0]))]) = 65535 := by
  obtain ⟨a1, a2, a3⟩ := total_head ok hm hn 0 0
  obtain ⟨b1, b2, b3⟩ := total_head ok hm hn (u8 (checkF (headF h n [0, 0]) / 256)) (u8 (checkF (headF h n [0, 0])))
  have hc : checkF (headF h n [0, 0]) = 65535 - totalF (headF h n [0, 0]) := rfl
  rw [sum_with] at b3
  simp only [u8_nat] at b3
  rw [bytes_word (by omega)] at b3
  refine total_plain (B := (wHd h n 0).sum + (wordsF h.opts).sum) a1 hc b1 b2 a3 ?_
  rw [b3]
  congr 1
  omega
/-- The header with a TTL that is one less. -/
def lessH (h : Hd) : Hd := { h with ttl := h.ttl - 1 }
theorem less_ok {h : Hd} (ok : h.ok) : (lessH h).ok := by
  obtain ⟨o1, o2, o3, o4, o5, o6⟩ := ok
  exact ⟨o1, o2, Nat.lt_of_le_of_lt (Nat.sub_le _ _) o3, o4, o5, o6⟩
theorem less_may {h : Hd} (hm : MayH h) : MayH (lessH h) := ⟨hm.good, hm.l40, hm.l4, hm.o0, hm.o1⟩
theorem change_plain {T U m B : Nat} (a1 : T < 65536) (a2 : T ≠ 0) (b1 : U < 65536) (b2 : U ≠ 0) (hm : m < 65536) (hm2 : 256 ≤ m) (a3 : T % 65535 = (B + 256) % 65535) (b3 : U % 65535 = B % 65535) : changeF (65535 - T) m (m - 256) = 65535 - U := by
  unfold changeF
  have hT : 65535 - (65535 - T) = T := by omega
  rw [hT]
  have g1 := addF_mod (x := T) (y := 65535 - m)
  have g2 := addF_lt (x := T) (y := 65535 - m) a1 (by omega)
  have g3 := addF_zero (x := T) (y := 65535 - m) a1 (by omega)
  generalize addF T (65535 - m) = A at *
  have k1 := addF_mod (x := A) (y := m - 256)
  have k2 := addF_lt (x := A) (y := m - 256) g2 (by omega)
  have k3 := addF_zero (x := A) (y := m - 256) g2 (by omega)
  generalize addF A (m - 256) = C at *
  have hC : C ≠ 0 := fun e => a2 ((g3.1 (k3.1 e).1).1)
  have := eq_mod k2 b1 hC b2 (by omega)
  omega
theorem check_less {h : Hd} (ok : h.ok) (hm : MayH h) {n : Nat} (hn : n < 65536) (ht : h.ttl ≠ 0) :
    changeF (checkF (headF h n [0, 0])) (256 * h.ttl + h.proto) (256 * h.ttl + h.proto - 256) = checkF (headF (lessH h) n [0, 0]) := by
  obtain ⟨a1, a2, a3⟩ := total_head ok hm hn 0 0
  obtain ⟨b1, b2, b3⟩ := total_head (less_ok ok) (less_may hm) hn 0 0
  have hs := sum_less h n (256 * (0 : UInt8).toNat + (0 : UInt8).toNat) ht
  have hp := ok.2.2.2.1
  have ht2 := ok.2.2.1
  have ho : wordsF (lessH h).opts = wordsF h.opts := rfl
  rw [ho] at b3
  refine change_plain (B := (wHd (lessH h) n (256 * (0 : UInt8).toNat + (0 : UInt8).toNat)).sum + (wordsF h.opts).sum) a1 a2 b1 b2 (by omega) (by omega) ?_ b3
  rw [a3, ← hs]
  congr 1
  unfold lessH
  omega
/-- What is written is read, whatever stands behind it. -/
theorem read_back {h : Hd} (ok : h.ok) {p : By} (hf : fitsH h p = true) (z : By) : prsF (bytesF h p ++ z) = (h, p, 0) := by
  unfold fitsH at hf
  simp only [Bool.and_eq_true, decide_eq_true_eq] at hf
  have hm := may_of hf.1
  have hp := hf.2
  obtain ⟨s0, s1, e, e0, e1⟩ := bytesF_eq h p
  obtain ⟨n, hn⟩ : ∃ n, n = 20 + h.opts.length + p.length := ⟨_, rfl⟩
  rw [← hn] at e e0 e1
  have hl := hm.l40
  have hl4 := hm.l4
  have hn2 : n < 65536 := by omega
  have ht : totalF (headF h n [s0, s1]) = 65535 := by rw [e0, e1]; exact total_ok ok hm hn2
  have hlen := head_len h n s0 s1
  have hfl := flags_lt hm
  obtain ⟨f1, f2, f3, f4⟩ := flags_bits hm
  obtain ⟨o1, o2, o3, o4, o5, o6⟩ := ok
  obtain ⟨x, hx⟩ : ∃ x, x = bytesF h p ++ z := ⟨_, rfl⟩
  rw [← hx]
  have hx1 : x = headF h n [s0, s1] ++ (p ++ z) := by rw [hx, e, List.append_assoc]
  have hxl : x.length = n + z.length := by rw [hx1]; simp [hlen]; omega
  have hx2 := hx1
  rw [head_eq] at hx2
  simp only [List.cons_append] at hx2
  have g0 : (x.getD 0 0).toNat = 64 + (20 + h.opts.length) / 4 := by rw [hx2]; show (u8 _).toNat = _; rw [u8_nat]; omega
  have hsz : sizeF x = 20 + h.opts.length := by unfold sizeF; rw [g0]; omega
  have hln : lenF x = n := by
    unfold lenF
    rw [hx2]
    show getF [u8 (n / 256), u8 n] = n
    rw [get2, u8_nat, u8_nat]; omega
  have htk : x.take (sizeF x) = headF h n [s0, s1] := by rw [hsz, ← hlen, hx1, List.take_left]
  have hop : partF x 20 (sizeF x) = h.opts := by
    unfold partF
    rw [htk, head_eq]
    rfl
  have hpy : partF x (sizeF x) (lenF x) = p := by
    unfold partF
    rw [hln, hsz, hx1, List.take_append, List.drop_append]
    rw [List.drop_of_length_le (by rw [List.length_take, hlen]; omega), List.nil_append, hlen, List.length_take, hlen]
    rw [show 20 + h.opts.length - min n (20 + h.opts.length) = 0 by omega, List.drop_zero, show n - (20 + h.opts.length) = p.length by omega, List.take_left]
  have hw : wrongF x = 0 := by
    unfold wrongF
    rw [if_neg (by omega), if_neg (by rw [g0]; omega), if_neg (by omega), if_neg (by rw [hln, hsz]; omega), htk, if_neg (by omega), hop, if_pos hm.good]
  unfold prsF
  rw [if_pos hw, hpy]
  have q1 : (x.getD 1 0).toNat = h.tos := by rw [hx2]; show (u8 _).toNat = _; rw [u8_nat]; omega
  have q2 : getF (partF x 4 6) = h.id := by rw [hx2]; show getF [u8 (h.id / 256), u8 h.id] = _; rw [get2, u8_nat, u8_nat]; omega
  have q3 : getF (partF x 6 8) = flagsF h := by rw [hx2]; show getF [u8 (flagsF h / 256), u8 (flagsF h)] = _; rw [get2, u8_nat, u8_nat]; omega
  have q4 : (x.getD 8 0).toNat = h.ttl := by rw [hx2]; show (u8 _).toNat = _; rw [u8_nat]; omega
  have q5 : (x.getD 9 0).toNat = h.proto := by rw [hx2]; show (u8 _).toNat = _; rw [u8_nat]; omega
  have q6 : getF (partF x 12 16) = h.src := by rw [hx2]; show getF [u8 (h.src / 16777216), u8 (h.src / 65536), u8 (h.src / 256), u8 h.src] = _; rw [get4, u8_nat, u8_nat, u8_nat, u8_nat]; omega
  have q7 : getF (partF x 16 20) = h.dst := by rw [hx2]; show getF [u8 (h.dst / 16777216), u8 (h.dst / 65536), u8 (h.dst / 256), u8 h.dst] = _; rw [get4, u8_nat, u8_nat, u8_nat, u8_nat]; omega
  have : hdF x = h := by
    unfold hdF
    rw [q1, q2, q3, q4, q5, q6, q7, hop, f1, f2, f3, f4]
  rw [this]
theorem wrong_back {h : Hd} (ok : h.ok) {p : By} (hf : fitsH h p = true) (z : By) : wrongF (bytesF h p ++ z) = 0 := by
  have := read_back ok hf z
  unfold prsF at this
  split at this
  · assumption
  · rename_i hne
    exact absurd (congrArg (fun t => t.2.2) this) hne
/-- A packet with a TTL that is one less is that packet. -/
theorem less_back {h : Hd} (ok : h.ok) {p : By} (hf : fitsH h p = true) : lessF (bytesF h p) = if h.ttl = 0 then ([], 7) else (bytesF (lessH h) p, 0) := by
  have hw := wrong_back ok hf []
  rw [List.append_nil] at hw
  unfold fitsH at hf
  simp only [Bool.and_eq_true, decide_eq_true_eq] at hf
  have hm := may_of hf.1
  have hp := hf.2
  have hl := hm.l40
  unfold lessF
  rw [if_neg (by omega)]
  obtain ⟨s0, s1, e, e0, e1⟩ := bytesF_eq h p
  obtain ⟨n, hn⟩ : ∃ n, n = 20 + h.opts.length + p.length := ⟨_, rfl⟩
  rw [← hn] at e e0 e1
  have hn2 : n < 65536 := by omega
  have e2 := e
  rw [head_eq] at e2
  simp only [List.cons_append] at e2
  have ok2 := ok
  obtain ⟨o1, o2, o3, o4, o5, o6⟩ := ok
  have q4 : ((bytesF h p).getD 8 0).toNat = h.ttl := by rw [e2]; show (u8 _).toNat = _; rw [u8_nat]; omega
  rw [q4]
  by_cases ht : h.ttl = 0
  · rw [if_pos ht, if_pos ht]
  · rw [if_neg ht, if_neg ht]
    have q5 : getF (partF (bytesF h p) 8 10) = 256 * h.ttl + h.proto := by rw [e2]; show getF [u8 h.ttl, u8 h.proto] = _; rw [get2, u8_nat, u8_nat]; omega
    have q6 : getF (partF (bytesF h p) 10 12) = checkF (headF h n [0, 0]) := by
      rw [e2]
      show getF [s0, s1] = _
      have : checkF (headF h n [0, 0]) < 65536 := by unfold checkF; omega
      rw [get2, e0, e1, u8_nat, u8_nat]; omega
    simp only [q5, q6]
    rw [check_less ok2 hm hn2 ht]
    obtain ⟨t0, t1, r, r0, r1⟩ := bytesF_eq (lessH h) p
    have ho : (lessH h).opts = h.opts := rfl
    rw [ho, ← hn] at r r0 r1
    rw [r, r0, r1, e2]
    generalize checkF (headF (lessH h) n [0, 0]) = C
    rw [head_eq (lessH h) n]
    rfl
end Go.Proofs.Ytfddkehnhkfjeaa
