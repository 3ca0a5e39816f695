/- The line's contracts for LinePlays: Copy, All, Put, Get, with what each leaves. -/
import Derived.Test.YtfckagokeimkmaaLpB
import Derived.Test.YtfckagokeimkmaaLnS
import Derived.Deep.DeepCutAuto
namespace Go.Proofs.Ytfckagokeimkmaa
open Go.RowKit
attribute [local go_sem] Oper.semAt_some

/-- What Copy answers, for Len alone. -/
def CpPost (w : World) (most dropped : Int) (n : Nat) (e : Ending) (w' : World) : Prop :=
  ∃ (cb : Nat) (A : Option Addr) (c : Nat), e = .returned (.pointer (some ⟨cb, 0, none⟩)) ∧ w.heap.size ≤ cb ∧ Blk w' cb 52 #[.int .i64 most, .slice A n c, .int .i64 dropped, .bool true] ∧ Below w.heap.size w w'
set_option maxRecDepth 100000 in
set_option maxHeartbeats 2000000 in
theorem copy_c (M I : Nat → Prop) (b : Nat) (most dropped : Int) (xs : List (List UInt8)) (w : World) (h : IsLine w M I b most dropped xs) (hl : xs.length < 1000000) :
    Calls Try.prog 18 #[.pointer (some ⟨b, 0, none⟩)] w (CpPost w most dropped xs.length) := by
  obtain ⟨v, us, h1, h2, h3, h4⟩ := h.ex
  have hlen := h3.len
  obtain ⟨A1, c1, rfl, _⟩ := own_form h2
  obtain ⟨n, hn⟩ : ∃ n, n = us.length := ⟨_, rfl⟩
  rw [← hn] at h1 h2
  rw [← hlen, ← hn]
  have HT := Lib.hid (there_any b _ _ _ w h1)
  have hc0 : w.cell? ⟨b, 0, none⟩ = some (.int .i64 most) := h1.cell 0
  have hc1 : w.cell? ⟨b, 1, none⟩ = some (.slice A1 n c1) := h1.cell 1
  have hc2 : w.cell? ⟨b, 2, none⟩ = some (.int .i64 dropped) := h1.cell 2
  have hc3 : w.cell? ⟨b, 3, none⟩ = some (.bool true) := h1.cell 3
  obtain ⟨W1, hW1⟩ : ∃ W1, W1 = w.alloc (.cells #[.int .i64 most, .slice A1 n c1, .int .i64 dropped, .bool true] 52) := ⟨_, rfl⟩
  have hb1 : Below w.heap.size w W1 := by rw [hW1]; exact (Below.refl _ _).alloc (Nat.le_refl _) _
  have hk1 : Blk W1 w.heap.size 52 #[.int .i64 most, .slice A1 n c1, .int .i64 dropped, .bool true] := by rw [hW1]; exact Blk.new _ _ _
  have hd1 : W1.cell? ⟨b, 1, none⟩ = some (.slice A1 n c1) := (h1.below hb1 h1.lt).cell 1
  have hbl := h1.lt
  have hrd : Reads W1 M 1 A1 n us := (Reads.of_own h2 (by rw [hn]; exact h4)).keep (Same.ofBelow hb1 fun k hk => h.ltM k hk)
  have HC := Lib.hid (cloneS_any A1 n c1 us M W1 hrd h3.one (by omega))
  have HW1 := Lib.hid hW1
  have HB1 := Lib.hid hb1
  have HK1 := Lib.hid hk1
  clear h h1 h2 h3 h4 hlen hn hW1 hb1 hk1 hrd hl hd1
  go_enter Try.func18, Try.ntmps18
  go_wp2_with (go_at_call 21; refine (HT.out).mono ?_; rintro e w' ⟨rfl, rfl⟩)
  rw [← HW1.out]
  refine HC.out.mono ?_
  rintro e w2 ⟨v2, rfl, ho2, hb2⟩
  obtain ⟨A2, c2, rfl, _⟩ := own_form ho2
  have hk2 := HK1.out.below hb2 HK1.out.lt
  have hcc2 : w2.cell? ⟨w.heap.size, 1, none⟩ = some (.slice A1 n c1) := hk2.cell 1
  have hff2 : w2.frozen? ⟨w.heap.size, 1, none⟩ = false := hk2.frozen 1
  have HB3 := Lib.hid ((HB1.out.trans (hb2.mono HB1.out.size)).setCell (p := ⟨w.heap.size, 1, none⟩) (Nat.le_refl _) (.slice A2 n c2))
  have HK3 := Lib.hid (hk2.set_ 1 (.slice A2 n c2))
  clear hb2 hk2 ho2
  go_wp2_with fail
  go_ret
  exact ⟨_, A2, c2, rfl, Nat.le_refl _, by simpa using HK3.out, HB3.out⟩

/-- What All answers: f goes over xs; what it reads lies in J. -/
def LnSeq (w : World) (J : Nat → Prop) (f : Value) (xs : List (List UInt8)) : Prop :=
  ∃ Bx A cap us, f = .func (.func 24) #[] #[.pointer (some ⟨Bx, 0, none⟩)] ∧ Blk w Bx 22 #[.slice A xs.length cap] ∧ J Bx ∧ us.length = xs.length ∧ Reads w J 1 A xs.length us ∧ Items w J us xs
theorem LnSeq.keep {w w2 : World} {J : Nat → Prop} {f : Value} {xs : List (List UInt8)} (h : LnSeq w J f xs) (hs : Same J w w2) : LnSeq w2 J f xs := by
  obtain ⟨Bx, A, cap, us, h1, h2, h3, h4, h5, h6⟩ := h
  exact ⟨Bx, A, cap, us, h1, (hs.2 Bx h3 h2.lt).trans h2, h3, h4, h5.keep hs, h6.keep hs⟩
theorem LnSeq.mono {w : World} {J K : Nat → Prop} {f : Value} {xs : List (List UInt8)} (h : LnSeq w J f xs) (hs : ∀ k, J k → K k) : LnSeq w K f xs := by
  obtain ⟨Bx, A, cap, us, h1, h2, h3, h4, h5, h6⟩ := h
  exact ⟨Bx, A, cap, us, h1, h2, hs _ h3, h4, h5.mono hs, h6.mono hs⟩
/-- Its contract as an iterator. -/
theorem LnSeq.fits {w : World} {J : Nat → Prop} {f : Value} {xs : List (List UInt8)} (h : LnSeq w J f xs) (hJ : ∀ k, J k → k < w.heap.size) (hsm : xs.length ≤ 1000000) (hsx : ∀ x ∈ xs, x.length ≤ 1000000) :
    ∃ Bx, f = .func (.func 24) #[] #[.pointer (some ⟨Bx, 0, none⟩)] ∧
      SeqFit Fence.wide 4 Try.prog 24 #[.pointer (some ⟨Bx, 0, none⟩)] lnV (Same J) (fun ys => ys.length = xs.length) (fun _ => True) (LnFit xs) w := by
  obtain ⟨Bx, A, cap, us, h1, h2, h3, h4, h5, h6⟩ := h
  refine ⟨Bx, h1, fun l Ji Jx W hW hJi _ h0 hY => ?_⟩
  have hs : Same J w W := Same.ofBelow hW hJ
  exact all1_in l Bx J A cap xs.length us xs h4 (by omega) hsx Ji Jx W (fun k hk => Nat.lt_of_lt_of_le (hJ k hk) hW.size) hJi hY ((h2.below hW h2.lt).cell 0) (h5.keep hs) (h6.keep hs) h0

def AlPost (w : World) (I : Nat → Prop) (xs : List (List UInt8)) (e : Ending) (w' : World) : Prop :=
  ∃ f, e = .returned f ∧ LnSeq w' (fun k => (I k ∨ w.heap.size ≤ k) ∧ k < w'.heap.size) f xs ∧ Below w.heap.size w w'
set_option maxRecDepth 100000 in
set_option maxHeartbeats 2000000 in
theorem all_c (M I : Nat → Prop) (b : Nat) (most dropped : Int) (xs : List (List UInt8)) (w : World) (h : IsLine w M I b most dropped xs) (hl : xs.length < 1000000) :
    Calls Try.prog 20 #[.pointer (some ⟨b, 0, none⟩)] w (AlPost w I xs) := by
  obtain ⟨v, us, h1, h2, h3, h4⟩ := h.ex
  have hlen := h3.len
  obtain ⟨A1, c1, rfl, _⟩ := own_form h2
  obtain ⟨n, hn⟩ : ∃ n, n = us.length := ⟨_, rfl⟩
  rw [← hn] at h1 h2
  obtain ⟨W1, hW1⟩ : ∃ W1, W1 = w.alloc (.cells #[.slice none 0 0] 22) := ⟨_, rfl⟩
  have hb1 : Below w.heap.size w W1 := by rw [hW1]; exact (Below.refl _ _).alloc (Nat.le_refl _) _
  have hk1 : Blk W1 w.heap.size 22 #[.slice none 0 0] := by rw [hW1]; exact Blk.new _ _ _
  have hkl := h1.below hb1 h1.lt
  have HT := Lib.hid (there_any b _ _ _ W1 hkl)
  have hd1 : W1.cell? ⟨b, 1, none⟩ = some (.slice A1 n c1) := hkl.cell 1
  have hrd : Reads W1 M 1 A1 n us := (Reads.of_own h2 (by rw [hn]; exact h4)).keep (Same.ofBelow hb1 fun k hk => h.ltM k hk)
  have HC := Lib.hid (cloneS_any A1 n c1 us M W1 hrd h3.one (by omega))
  have HW1 := Lib.hid hW1
  have HB1 := Lib.hid hb1
  have HK1 := Lib.hid hk1
  have H3 := Lib.hid h3
  have HN := Lib.hid hn
  have HL := Lib.hid hlen
  have HLI := Lib.hid h.ltI
  clear h h1 h2 h3 h4 hlen hn hW1 hb1 hk1 hrd hl hkl
  go_enter Try.func20, Try.ntmps20
  go_upto_region 2 with (fail)
  rw [← HW1.out]
  go_wp2_with (go_at_call 21; refine (HT.out).mono ?_; rintro e w' ⟨rfl, rfl⟩)
  refine HC.out.mono ?_
  rintro e w2 ⟨v2, rfl, ho2, hb2⟩
  obtain ⟨A2, c2, rfl, _⟩ := own_form ho2
  have hk2 := HK1.out.below hb2 HK1.out.lt
  have hcc2 : w2.cell? ⟨w.heap.size, 0, none⟩ = some (.slice none 0 0) := hk2.cell 0
  have hff2 : w2.frozen? ⟨w.heap.size, 0, none⟩ = false := hk2.frozen 0
  have hb3 := (HB1.out.trans (hb2.mono HB1.out.size)).setCell (p := ⟨w.heap.size, 0, none⟩) (Nat.le_refl _) (.slice A2 n c2)
  have hk3 := hk2.set_ 0 (.slice A2 n c2)
  have hu3 := upd_set w2 w.heap.size 0 (.slice A2 n c2)
  have hz1 : W1.heap.size = w.heap.size + 1 := by rw [HW1.out]; simp
  have hr2 : Reads w2 (fun k => W1.heap.size ≤ k ∧ k < w2.heap.size) 1 A2 n us := Reads.of_own ho2 fun g hg => own_lt ho2 hg
  have hs3 : Same (fun k => W1.heap.size ≤ k ∧ k < w2.heap.size) w2 (w2.setCell ⟨w.heap.size, 0, none⟩ (.slice A2 n c2)) := hu3.same fun k (hk : k = w.heap.size) hh => by omega
  have HF := Lib.hid (show LnSeq (w2.setCell ⟨w.heap.size, 0, none⟩ (.slice A2 n c2)) (fun k => (I k ∨ w.heap.size ≤ k) ∧ k < (w2.setCell ⟨w.heap.size, 0, none⟩ (.slice A2 n c2)).heap.size) (.func (.func 24) #[] #[.pointer (some ⟨w.heap.size, 0, none⟩)]) xs from by
    refine ⟨_, A2, c2, us, rfl, ?_, ⟨.inr (Nat.le_refl _), Nat.lt_of_lt_of_le hk2.lt hu3.size⟩, HL.out, ?_, ?_⟩
    · rw [← HL.out, ← HN.out]; simpa using hk3
    · rw [← HL.out, ← HN.out]
      exact (hr2.keep hs3).mono fun k hk => ⟨.inr (by omega), Nat.lt_of_lt_of_le hk.2 hu3.size⟩
    · exact (H3.out.keep (Same.ofBelow hb3 HLI.out)).mono fun k hk => ⟨.inl hk, Nat.lt_of_lt_of_le (HLI.out k hk) hb3.size⟩)
  have HB3 := Lib.hid hb3
  clear hb2 hk2 ho2 hb3 hk3 hu3 hr2 hs3 hz1
  go_wp2_with fail
  go_ret
  exact ⟨_, rfl, HF.out, HB3.out⟩

/-- Put, whatever comes. -/
theorem put_c (M I : Nat → Prop) (b : Nat) (most dropped : Int) (xs : List (List UInt8)) (J : Nat → Prop) (A : Option Addr) (x : List UInt8) (c : Nat) (w : World) (h : IsLine w M I b most dropped xs)
    (hx : Reads w J 1 A x.length (bytesV x)) (hm : most ≤ 64) (hl : xs.length ≤ 64) (hd : 0 ≤ dropped) (hd2 : dropped < 1000000) :
    Calls Try.prog 10 #[.pointer (some ⟨b, 0, none⟩), .slice A x.length c] w fun e w' => e = .returned (.int .i64 (putE most xs x)) ∧ ∃ M2 I2, IsLine w' M2 I2 b most (putD most dropped xs x) (putX most xs x) ∧ LineUpd w w' M M2 I I2 := by
  by_cases h1 : 2048 < x.length
  · obtain ⟨v, us, k1, k2, k3, k4⟩ := h.ex
    refine (put_long b _ _ _ A x.length c w k1 h1).mono fun e w' ⟨he, hw⟩ => ?_
    subst hw
    have e1 : putE most xs x = 3 := by simp [putE, h1]
    have e2 : putX most xs x = xs := by simp [putX, e1]
    have e3 : putD most dropped xs x = dropped := by simp [putD, e1]
    rw [e1, e2, e3]
    exact ⟨he, M, I, h, Upd.refl _ _, fun k hk => .inl hk, fun k hk => .inl hk⟩
  · by_cases h2 : most ≤ xs.length
    · refine (put_full M I b most dropped xs A x.length c w h (by omega) h2 hd hd2 (by omega)).mono fun e w' ⟨he, hw, hu⟩ => ?_
      have e1 : putE most xs x = 5 := by simp [putE, h1, h2]
      have e2 : putX most xs x = xs := by simp [putX, e1]
      have e3 : putD most dropped xs x = dropped + 1 := by simp [putD, e1]
      rw [e1, e2, e3]
      exact ⟨he, M, I, hw, hu.mono fun k (hk : k = b) => .inl (hk ▸ h.mb), fun k hk => .inl hk, fun k hk => .inl hk⟩
    · refine (put_yes M I b most dropped xs J A x c w h hx (by omega) (by omega) hm).mono fun e w' ⟨he, M2, I2, hw, hu⟩ => ?_
      have e1 : putE most xs x = 0 := by simp [putE, h1, h2]
      have e2 : putX most xs x = xs ++ [x] := by simp [putX, e1]
      have e3 : putD most dropped xs x = dropped := by simp [putD, e1]
      rw [e1, e2, e3]
      exact ⟨he, M2, I2, hw, hu⟩
end Go.Proofs.Ytfckagokeimkmaa
