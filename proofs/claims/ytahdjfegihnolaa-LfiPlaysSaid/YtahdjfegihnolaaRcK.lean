/- Layer 12: the document's May; Do: what is refused; what the events leave. -/
import Derived.Test.YtahdjfegihnolaaRcH
import Derived.Test.YtahdjfegihnolaaLzQ
import Derived.Test.YtahdjfegihnolaaLzS
namespace Go.Proofs.Ytahdjfegihnolaa
open Go.RowKit Go.Sort
def bitO (a : Nat) (i : Nat) : Nat := a / 2 ^ (31 - i) % 2
theorem may_all {a : Nat} (_ha : a < 2 ^ 32) {n : Nat} (hn : n ≤ 32) : mayP (a, (n : Int)) = true ↔ ∀ i, n ≤ i → i < 32 → bitO a i = 0 := by
  have h1 : mayP (a, (n : Int)) = true ↔ a % 2 ^ (32 - n) = 0 := by
    unfold mayP
    simp only [Bool.and_eq_true, decide_eq_true_eq, Int.toNat_natCast]
    have e : 2 ^ 32 = 2 ^ n * 2 ^ (32 - n) := by rw [← Nat.pow_add]; congr 1; omega
    have e2 : a * 2 ^ n % 2 ^ 32 = 2 ^ n * (a % 2 ^ (32 - n)) := by rw [e, Nat.mul_comm a, Nat.mul_mod_mul_left]
    have hp : 0 < 2 ^ n := Nat.pow_pos (by omega)
    constructor
    · rintro ⟨_, h⟩
      rw [e2] at h
      rcases Nat.mul_eq_zero.1 h with h | h
      · omega
      · exact h
    · intro h
      exact ⟨⟨by omega, by omega⟩, by rw [e2, h]; simp⟩
  rw [h1]
  clear h1
  obtain ⟨m, hm⟩ : ∃ m, 32 - n = m := ⟨_, rfl⟩
  rw [hm]
  have key : ∀ m, m ≤ 32 → (a % 2 ^ m = 0 ↔ ∀ i, 32 - m ≤ i → i < 32 → bitO a i = 0) := fun m => by
    induction m with
    | zero => intro _; simp [Nat.mod_one]; intro i h1 h2; omega
    | succ m ih =>
      intro hm
      have ih := ih (by omega)
      have e : a % 2 ^ (m + 1) = a % 2 ^ m + 2 ^ m * (a / 2 ^ m % 2) := by rw [Nat.pow_succ, Nat.mod_mul]
      constructor
      · intro h i h1 h2
        have hz : a % 2 ^ m = 0 ∧ a / 2 ^ m % 2 = 0 := by
          have hp : 0 < 2 ^ m := Nat.pow_pos (by omega)
          rw [e] at h
          have h3 : a % 2 ^ m = 0 := by omega
          have h4 : 2 ^ m * (a / 2 ^ m % 2) = 0 := by omega
          rcases Nat.mul_eq_zero.1 h4 with h | h
          · omega
          · exact ⟨h3, h⟩
        rcases Nat.lt_or_ge i (32 - m) with h3 | h3
        · have : 31 - i = m := by omega
          unfold bitO
          rw [this]
          exact hz.2
        · exact ih.1 hz.1 i h3 h2
      · intro h
        have h3 := ih.2 fun i h1 h2 => h i (by omega) h2
        have h4 := h (31 - m) (by omega) (by omega)
        unfold bitO at h4
        rw [show 31 - (31 - m) = m by omega] at h4
        rw [e, h3, h4]
        simp
  rw [key m (by omega), show 32 - m = n by omega]
theorem bit_int (a k : Nat) : ((a : Int) / 2 ^ (31 - k)).tmod 2 = ((bitO a k : Nat) : Int) := by
  have e : ((a : Int) / 2 ^ (31 - k)) = ((a / 2 ^ (31 - k) : Nat) : Int) := by simp
  rw [e]
  unfold bitO
  rw [Int.tmod_eq_emod_of_nonneg (Int.natCast_nonneg _)]
  simp
set_option maxRecDepth 100000 in
set_option maxHeartbeats 2000000 in
attribute [-go_sem] Instr.storeAt Instr.loadAt in
theorem may12_any (p : Pf) (hp : p.1 < 2 ^ 32) (w : World) :
    Calls Try.prog 35 #[.agg #[.int .u32 (p.1 : Int), .int .i64 p.2]] w fun e w' => e = .returned (.bool (mayP p)) ∧ Below w.heap.size w w' := by
  obtain ⟨W1, hW1⟩ : ∃ Z, Z = w.alloc (.cells #[.int .u32 (p.1 : Int), .int .i64 p.2] 36) := ⟨_, rfl⟩
  have hb1 : Below w.heap.size w W1 := by rw [hW1]; exact (Below.refl _ _).alloc (Nat.le_refl _) _
  have hk : Blk W1 w.heap.size 36 (pfC p) := by rw [hW1]; exact Blk.new _ _ _
  have l1 := ld_iC (w := W1) (b := w.heap.size) (o := 1) (z := p.2) (hk.cell 1)
  have l0 := ld_uC (w := W1) (b := w.heap.size) (o := 0) (z := (p.1 : Int)) (hk.cell 0)
  have HW1 := Lib.hid hW1
  have HB := Lib.hid hb1
  clear hW1 hb1 hk
  obtain ⟨a, n⟩ := p
  dsimp only at *
  by_cases h0 : n < 0
  · have HM := Lib.hid (show mayP (a, n) = false by unfold mayP; simp; omega)
    go_enter Try.func35, Try.ntmps35
    go_upto_region 1 with (fail)
    rw [← HW1.out]
    go_wp2_with fail
    go_ret
    exact ⟨by rw [HM.out]; rfl, HB.out⟩
  · by_cases h32 : 32 < n
    · have HM := Lib.hid (show mayP (a, n) = false by unfold mayP; simp; omega)
      go_enter Try.func35, Try.ntmps35
      go_upto_region 1 with (fail)
      rw [← HW1.out]
      go_wp2_with fail
      go_ret
      exact ⟨by rw [HM.out]; rfl, HB.out⟩
    · obtain ⟨m, rfl⟩ : ∃ m : Nat, n = (m : Int) := ⟨n.toNat, by omega⟩
      have hm : m ≤ 32 := by omega
      have HALL := Lib.hid (may_all hp hm)
      have HM := Lib.hid hm
      go_enter Try.func35, Try.ntmps35
      go_upto_region 1 with (fail)
      rw [← HW1.out]
      go_wp2_with fail
      clear l1 h0 h32
      go_loop [3] (fun s3 => ∃ k : Nat, m ≤ k ∧ k ≤ 32 ∧ s3 = .int .i64 (k : Int) ∧ ∀ j, m ≤ j → j < k → bitO a j = 0) (fun s3 => 32 - (intOf s3).toNat)
      case atStart => exact ⟨m, Nat.le_refl _, hm, rfl, fun j h1 h2 => by omega⟩
      case round =>
        obtain ⟨k, hmk, hk, rfl, hno⟩ := hrel
        have HNO := Lib.hid hno
        clear hno
        by_cases hlt : k < 32
        · have hi0 : (0 : Int) ≤ k := by omega
          have hi1 : (k : Int) < 32 := by omega
          have hb : ((a : Int) / 2 ^ (31 - k)).tmod 2 = ((bitO a k : Nat) : Int) := bit_int a k
          have hb1 : bitO a k = 0 ∨ bitO a k = 1 := by unfold bitO; omega
          obtain ⟨b, hb2⟩ : ∃ b, b = bitO a k := ⟨_, rfl⟩
          rw [← hb2] at hb hb1
          have HB2 := Lib.hid hb2
          clear hb2
          rcases hb1 with rfl | rfl
          · go_wp2_with fail
            go_round
            case rel => exact ⟨k + 1, by omega, by omega, by go_num, fun j h1 h2 => by
              rcases Nat.lt_or_ge j k with h | h
              · exact HNO.out j h1 h
              · obtain rfl : j = k := by omega
                exact HB2.out.symm⟩
            case measure => simp [intOf]; omega
          · have HF := Lib.hid (show mayP (a, (m : Int)) = false by
              cases hh : mayP (a, (m : Int)) with
              | false => rfl
              | true =>
                have := HALL.out.1 hh k hmk hlt
                have := HB2.out
                omega)
            go_wp2_with fail
            go_ret
            exact ⟨by rw [HF.out]; rfl, HB.out⟩
        · obtain rfl : k = 32 := by omega
          go_wp2_with fail
          go_ret
          exact ⟨by rw [HALL.out.2 fun i h1 h2 => HNO.out i h1 h2]; rfl, HB.out⟩
end Go.Proofs.Ytahdjfegihnolaa
namespace Go.Proofs.Ytahdjfegihnolaa
open Go.RowKit Go.Sort
theorem rev_pf {w : World} {b : Nat} {k po v : Int} {a : Nat} {n d : Int} (h : Blk w b 38 (evI k po v a n d)) : (Instr.loadAt 36 (.pointer (some ⟨b, 3, none⟩))).run Try.prog w = .ok (.agg #[.int .u32 (a : Int), .int .i64 n]) w := by
  have := run_loadAt_mid (P := Try.prog) w b 3 36 (pfE (a, n)) _ (fun j v hv => by
    rw [h.cell]
    rcases j with _ | _ | j
    · exact hv
    · exact hv
    · simp [pfE] at hv) Try.underlying36 rfl (show (Try.prog.info? 36).map (·.size) = some 2 by kernel_rfl)
  simpa [pfE] using this
/-- What a refused event leaves. -/
def Ref12 (w : World) (D rb : Nat) (av : Value) (room : Int) (c : Pc) (L : List Le) (code : Int) (e : Ending) (w' : World) : Prop := e = .returned (.tuple #[.slice none 0 0, .int .i64 code]) ∧ RcM w' D rb av (.slice none 0 0) room c L ∧ Upd (only rb) w w'
theorem do12_front {w : World} {D rb : Nat} {av ov : Value} {room : Int} {c : Pc} {L : List Le} (h : RcM w D rb av ov room c L) (k po v : Int) (a : Nat) (n d : Int) :
    ∃ W1 W2, w.alloc (.cells #[.int .i64 k, .int .i64 po, .int .i64 v, .int .u32 (a : Int), .int .i64 n, .int .i64 d] 38) = W1 ∧ W1.setCell ⟨rb, 18, none⟩ (.slice none 0 0) = W2 ∧
      (Instr.storeAt 29 (.pointer (some ⟨rb, 18, none⟩)) (.slice none 0 0)).run Try.prog W1 = .ok () W2 ∧ RcM W2 D rb av (.slice none 0 0) room c L ∧ Blk W2 w.heap.size 38 (evI k po v a n d) ∧ Upd (only rb) w W2 := by
  refine ⟨_, _, rfl, rfl, ?_⟩
  have hb1 : Below w.heap.size w (w.alloc (.cells #[.int .i64 k, .int .i64 po, .int .i64 v, .int .u32 (a : Int), .int .i64 n, .int .i64 d] 38)) := (Below.refl _ _).alloc (Nat.le_refl _) _
  have h1 := h.below hb1
  have hk : Blk (w.alloc (.cells #[.int .i64 k, .int .i64 po, .int .i64 v, .int .u32 (a : Int), .int .i64 n, .int .i64 d] 38)) w.heap.size 38 (evI k po v a n d) := Blk.new _ _ _
  have hu := upd_set (w.alloc (.cells #[.int .i64 k, .int .i64 po, .int .i64 v, .int .u32 (a : Int), .int .i64 n, .int .i64 d] 38)) rb 18 (.slice none 0 0)
  refine ⟨st_tlC (h1.blk.cell 18) (h1.blk.frozen 18) none 0 0, h1.core (h1.blk.set_ 18 _) hu fun j hj (e : j = rb) => h1.ne (by rw [hj, e]), hk.far (p := ⟨rb, 18, none⟩) (hk.ne_ h1.blk (by decide)) _, (Upd.ofBelow hb1 _).trans_ hu⟩
set_option maxRecDepth 100000 in
set_option maxHeartbeats 4000000 in
attribute [-go_sem] Instr.storeAt Instr.loadAt in
theorem do12_k0 {w : World} {D rb : Nat} {av ov : Value} {room : Int} {c : Pc} {L : List Le} (h : RcM w D rb av ov room c L) (k po v : Int) (a : Nat) (n d : Int) (hk : k < 1) :
    Calls Try.prog 19 #[.pointer (some ⟨rb, 0, none⟩), .agg #[.int .i64 k, .int .i64 po, .int .i64 v, .int .u32 (a : Int), .int .i64 n, .int .i64 d]] w (Ref12 w D rb av room c L 2) := by
  obtain ⟨W1, W2, hW1, hW2, s0, h2, hk2, hu2⟩ := do12_front h (k) (po) (v) (a) (n) (d)
  have lk := ev_k hk2
  have lp := ld_iC (w := W2) (b := w.heap.size) (o := 1) (z := po) (hk2.cell 1)
  have lc := ld_iC (w := W2) (b := w.heap.size) (o := 2) (z := v) (hk2.cell 2)
  have ld := ld_iC (w := W2) (b := w.heap.size) (o := 5) (z := d) (hk2.cell 5)
  have lf := rev_pf hk2
  have HU := Lib.hid hu2
  have H2 := Lib.hid h2
  have HK2 := Lib.hid hk2
  have HW1 := Lib.hid hW1.symm
  clear hW1 hW2 hu2 h2 hk2 h
  go_enter Try.func19, Try.ntmps19
  go_upto_region 1 with (fail)
  rw [← HW1.out]
  go_wp2_with fail
  go_ret2
  exact ⟨rfl, H2.out, HU.out⟩
set_option maxRecDepth 100000 in
set_option maxHeartbeats 4000000 in
attribute [-go_sem] Instr.storeAt Instr.loadAt in
theorem do12_k6 {w : World} {D rb : Nat} {av ov : Value} {room : Int} {c : Pc} {L : List Le} (h : RcM w D rb av ov room c L) (k po v : Int) (a : Nat) (n d : Int) (hk : 5 < k) :
    Calls Try.prog 19 #[.pointer (some ⟨rb, 0, none⟩), .agg #[.int .i64 k, .int .i64 po, .int .i64 v, .int .u32 (a : Int), .int .i64 n, .int .i64 d]] w (Ref12 w D rb av room c L 2) := by
  obtain ⟨W1, W2, hW1, hW2, s0, h2, hk2, hu2⟩ := do12_front h (k) (po) (v) (a) (n) (d)
  have lk := ev_k hk2
  have lp := ld_iC (w := W2) (b := w.heap.size) (o := 1) (z := po) (hk2.cell 1)
  have lc := ld_iC (w := W2) (b := w.heap.size) (o := 2) (z := v) (hk2.cell 2)
  have ld := ld_iC (w := W2) (b := w.heap.size) (o := 5) (z := d) (hk2.cell 5)
  have lf := rev_pf hk2
  have HU := Lib.hid hu2
  have H2 := Lib.hid h2
  have HK2 := Lib.hid hk2
  have HW1 := Lib.hid hW1.symm
  clear hW1 hW2 hu2 h2 hk2 h
  have hk2 : ¬ k < 1 := by omega
  go_enter Try.func19, Try.ntmps19
  go_upto_region 1 with (fail)
  rw [← HW1.out]
  go_wp2_with fail
  go_ret2
  exact ⟨rfl, H2.out, HU.out⟩
set_option maxRecDepth 100000 in
set_option maxHeartbeats 4000000 in
attribute [-go_sem] Instr.storeAt Instr.loadAt in
theorem do12_p0 {w : World} {D rb : Nat} {av ov : Value} {room : Int} {c : Pc} {L : List Le} (h : RcM w D rb av ov room c L) (k po v : Int) (a : Nat) (n d : Int) (hk1 : 1 ≤ k) (hk5 : k ≤ 5) (hp : po < 0) :
    Calls Try.prog 19 #[.pointer (some ⟨rb, 0, none⟩), .agg #[.int .i64 k, .int .i64 po, .int .i64 v, .int .u32 (a : Int), .int .i64 n, .int .i64 d]] w (Ref12 w D rb av room c L 2) := by
  obtain ⟨W1, W2, hW1, hW2, s0, h2, hk2, hu2⟩ := do12_front h (k) (po) (v) (a) (n) (d)
  have lk := ev_k hk2
  have lp := ld_iC (w := W2) (b := w.heap.size) (o := 1) (z := po) (hk2.cell 1)
  have lc := ld_iC (w := W2) (b := w.heap.size) (o := 2) (z := v) (hk2.cell 2)
  have ld := ld_iC (w := W2) (b := w.heap.size) (o := 5) (z := d) (hk2.cell 5)
  have lf := rev_pf hk2
  have HU := Lib.hid hu2
  have H2 := Lib.hid h2
  have HK2 := Lib.hid hk2
  have HW1 := Lib.hid hW1.symm
  clear hW1 hW2 hu2 h2 hk2 h
  have hk2 : ¬ k < 1 := by omega
  have hk3 : ¬ 5 < k := by omega
  go_enter Try.func19, Try.ntmps19
  go_upto_region 1 with (fail)
  rw [← HW1.out]
  go_wp2_with fail
  go_ret2
  exact ⟨rfl, H2.out, HU.out⟩
set_option maxRecDepth 100000 in
set_option maxHeartbeats 4000000 in
attribute [-go_sem] Instr.storeAt Instr.loadAt in
theorem do12_p8 {w : World} {D rb : Nat} {av ov : Value} {room : Int} {c : Pc} {L : List Le} (h : RcM w D rb av ov room c L) (k po v : Int) (a : Nat) (n d : Int) (hk1 : 1 ≤ k) (hk5 : k ≤ 5) (hp : 7 < po) :
    Calls Try.prog 19 #[.pointer (some ⟨rb, 0, none⟩), .agg #[.int .i64 k, .int .i64 po, .int .i64 v, .int .u32 (a : Int), .int .i64 n, .int .i64 d]] w (Ref12 w D rb av room c L 2) := by
  obtain ⟨W1, W2, hW1, hW2, s0, h2, hk2, hu2⟩ := do12_front h (k) (po) (v) (a) (n) (d)
  have lk := ev_k hk2
  have lp := ld_iC (w := W2) (b := w.heap.size) (o := 1) (z := po) (hk2.cell 1)
  have lc := ld_iC (w := W2) (b := w.heap.size) (o := 2) (z := v) (hk2.cell 2)
  have ld := ld_iC (w := W2) (b := w.heap.size) (o := 5) (z := d) (hk2.cell 5)
  have lf := rev_pf hk2
  have HU := Lib.hid hu2
  have H2 := Lib.hid h2
  have HK2 := Lib.hid hk2
  have HW1 := Lib.hid hW1.symm
  clear hW1 hW2 hu2 h2 hk2 h
  have hk2 : ¬ k < 1 := by omega
  have hk3 : ¬ 5 < k := by omega
  have hp2 : ¬ po < 0 := by omega
  go_enter Try.func19, Try.ntmps19
  go_upto_region 1 with (fail)
  rw [← HW1.out]
  go_wp2_with fail
  go_ret2
  exact ⟨rfl, H2.out, HU.out⟩
set_option maxRecDepth 100000 in
set_option maxHeartbeats 4000000 in
attribute [-go_sem] Instr.storeAt Instr.loadAt in
theorem do12_c0_1 {w : World} {D rb : Nat} {av ov : Value} {room : Int} {c : Pc} {L : List Le} (h : RcM w D rb av ov room c L) (po v : Int) (a : Nat) (n d : Int) (_ha : a < 2 ^ 32) (hp0 : 0 ≤ po) (hp7 : po ≤ 7) (hc : v < 1) :
    Calls Try.prog 19 #[.pointer (some ⟨rb, 0, none⟩), .agg #[.int .i64 1, .int .i64 po, .int .i64 v, .int .u32 (a : Int), .int .i64 n, .int .i64 d]] w (Ref12 w D rb av room c L 2) := by
  obtain ⟨W1, W2, hW1, hW2, s0, h2, hk2, hu2⟩ := do12_front h (1) (po) (v) (a) (n) (d)
  have lk := ev_k hk2
  have lp := ld_iC (w := W2) (b := w.heap.size) (o := 1) (z := po) (hk2.cell 1)
  have lc := ld_iC (w := W2) (b := w.heap.size) (o := 2) (z := v) (hk2.cell 2)
  have ld := ld_iC (w := W2) (b := w.heap.size) (o := 5) (z := d) (hk2.cell 5)
  have lf := rev_pf hk2
  have HU := Lib.hid hu2
  have H2 := Lib.hid h2
  have HK2 := Lib.hid hk2
  have HW1 := Lib.hid hW1.symm
  clear hW1 hW2 hu2 h2 hk2 h
  have hp2 : ¬ po < 0 := by omega
  have hp3 : ¬ 7 < po := by omega
  go_enter Try.func19, Try.ntmps19
  go_upto_region 1 with (fail)
  rw [← HW1.out]
  go_wp2_with fail
  go_ret2
  exact ⟨rfl, H2.out, HU.out⟩
set_option maxRecDepth 100000 in
set_option maxHeartbeats 4000000 in
attribute [-go_sem] Instr.storeAt Instr.loadAt in
theorem do12_c51_1 {w : World} {D rb : Nat} {av ov : Value} {room : Int} {c : Pc} {L : List Le} (h : RcM w D rb av ov room c L) (po v : Int) (a : Nat) (n d : Int) (_ha : a < 2 ^ 32) (hp0 : 0 ≤ po) (hp7 : po ≤ 7) (hc : 50 < v) :
    Calls Try.prog 19 #[.pointer (some ⟨rb, 0, none⟩), .agg #[.int .i64 1, .int .i64 po, .int .i64 v, .int .u32 (a : Int), .int .i64 n, .int .i64 d]] w (Ref12 w D rb av room c L 2) := by
  obtain ⟨W1, W2, hW1, hW2, s0, h2, hk2, hu2⟩ := do12_front h (1) (po) (v) (a) (n) (d)
  have lk := ev_k hk2
  have lp := ld_iC (w := W2) (b := w.heap.size) (o := 1) (z := po) (hk2.cell 1)
  have lc := ld_iC (w := W2) (b := w.heap.size) (o := 2) (z := v) (hk2.cell 2)
  have ld := ld_iC (w := W2) (b := w.heap.size) (o := 5) (z := d) (hk2.cell 5)
  have lf := rev_pf hk2
  have HU := Lib.hid hu2
  have H2 := Lib.hid h2
  have HK2 := Lib.hid hk2
  have HW1 := Lib.hid hW1.symm
  clear hW1 hW2 hu2 h2 hk2 h
  have hp2 : ¬ po < 0 := by omega
  have hp3 : ¬ 7 < po := by omega
  have hc2 : ¬ v < 1 := by omega
  go_enter Try.func19, Try.ntmps19
  go_upto_region 1 with (fail)
  rw [← HW1.out]
  go_wp2_with fail
  go_ret2
  exact ⟨rfl, H2.out, HU.out⟩
set_option maxRecDepth 100000 in
set_option maxHeartbeats 4000000 in
attribute [-go_sem] Instr.storeAt Instr.loadAt in
theorem do12_c0_3 {w : World} {D rb : Nat} {av ov : Value} {room : Int} {c : Pc} {L : List Le} (h : RcM w D rb av ov room c L) (po v : Int) (a : Nat) (n d : Int) (_ha : a < 2 ^ 32) (hp0 : 0 ≤ po) (hp7 : po ≤ 7) (hc : v < 1) :
    Calls Try.prog 19 #[.pointer (some ⟨rb, 0, none⟩), .agg #[.int .i64 3, .int .i64 po, .int .i64 v, .int .u32 (a : Int), .int .i64 n, .int .i64 d]] w (Ref12 w D rb av room c L 2) := by
  obtain ⟨W1, W2, hW1, hW2, s0, h2, hk2, hu2⟩ := do12_front h (3) (po) (v) (a) (n) (d)
  have lk := ev_k hk2
  have lp := ld_iC (w := W2) (b := w.heap.size) (o := 1) (z := po) (hk2.cell 1)
  have lc := ld_iC (w := W2) (b := w.heap.size) (o := 2) (z := v) (hk2.cell 2)
  have ld := ld_iC (w := W2) (b := w.heap.size) (o := 5) (z := d) (hk2.cell 5)
  have lf := rev_pf hk2
  have HU := Lib.hid hu2
  have H2 := Lib.hid h2
  have HK2 := Lib.hid hk2
  have HW1 := Lib.hid hW1.symm
  clear hW1 hW2 hu2 h2 hk2 h
  have hp2 : ¬ po < 0 := by omega
  have hp3 : ¬ 7 < po := by omega
  go_enter Try.func19, Try.ntmps19
  go_upto_region 1 with (fail)
  rw [← HW1.out]
  go_wp2_with fail
  go_ret2
  exact ⟨rfl, H2.out, HU.out⟩
set_option maxRecDepth 100000 in
set_option maxHeartbeats 4000000 in
attribute [-go_sem] Instr.storeAt Instr.loadAt in
theorem do12_c51_3 {w : World} {D rb : Nat} {av ov : Value} {room : Int} {c : Pc} {L : List Le} (h : RcM w D rb av ov room c L) (po v : Int) (a : Nat) (n d : Int) (_ha : a < 2 ^ 32) (hp0 : 0 ≤ po) (hp7 : po ≤ 7) (hc : 50 < v) :
    Calls Try.prog 19 #[.pointer (some ⟨rb, 0, none⟩), .agg #[.int .i64 3, .int .i64 po, .int .i64 v, .int .u32 (a : Int), .int .i64 n, .int .i64 d]] w (Ref12 w D rb av room c L 2) := by
  obtain ⟨W1, W2, hW1, hW2, s0, h2, hk2, hu2⟩ := do12_front h (3) (po) (v) (a) (n) (d)
  have lk := ev_k hk2
  have lp := ld_iC (w := W2) (b := w.heap.size) (o := 1) (z := po) (hk2.cell 1)
  have lc := ld_iC (w := W2) (b := w.heap.size) (o := 2) (z := v) (hk2.cell 2)
  have ld := ld_iC (w := W2) (b := w.heap.size) (o := 5) (z := d) (hk2.cell 5)
  have lf := rev_pf hk2
  have HU := Lib.hid hu2
  have H2 := Lib.hid h2
  have HK2 := Lib.hid hk2
  have HW1 := Lib.hid hW1.symm
  clear hW1 hW2 hu2 h2 hk2 h
  have hp2 : ¬ po < 0 := by omega
  have hp3 : ¬ 7 < po := by omega
  have hc2 : ¬ v < 1 := by omega
  go_enter Try.func19, Try.ntmps19
  go_upto_region 1 with (fail)
  rw [← HW1.out]
  go_wp2_with fail
  go_ret2
  exact ⟨rfl, H2.out, HU.out⟩
set_option maxRecDepth 100000 in
set_option maxHeartbeats 4000000 in
attribute [-go_sem] Instr.storeAt Instr.loadAt in
theorem do12_c_2 {w : World} {D rb : Nat} {av ov : Value} {room : Int} {c : Pc} {L : List Le} (h : RcM w D rb av ov room c L) (po v : Int) (a : Nat) (n d : Int) (_ha : a < 2 ^ 32) (hp0 : 0 ≤ po) (hp7 : po ≤ 7) (hc : v ≠ 0) :
    Calls Try.prog 19 #[.pointer (some ⟨rb, 0, none⟩), .agg #[.int .i64 2, .int .i64 po, .int .i64 v, .int .u32 (a : Int), .int .i64 n, .int .i64 d]] w (Ref12 w D rb av room c L 2) := by
  obtain ⟨W1, W2, hW1, hW2, s0, h2, hk2, hu2⟩ := do12_front h (2) (po) (v) (a) (n) (d)
  have lk := ev_k hk2
  have lp := ld_iC (w := W2) (b := w.heap.size) (o := 1) (z := po) (hk2.cell 1)
  have lc := ld_iC (w := W2) (b := w.heap.size) (o := 2) (z := v) (hk2.cell 2)
  have ld := ld_iC (w := W2) (b := w.heap.size) (o := 5) (z := d) (hk2.cell 5)
  have lf := rev_pf hk2
  have HU := Lib.hid hu2
  have H2 := Lib.hid h2
  have HK2 := Lib.hid hk2
  have HW1 := Lib.hid hW1.symm
  clear hW1 hW2 hu2 h2 hk2 h
  have hp2 : ¬ po < 0 := by omega
  have hp3 : ¬ 7 < po := by omega
  have hc2 : (v != 0) = true := by rw [bne_iff_ne]; exact hc
  have HC := Lib.hid hc
  clear hc
  go_enter Try.func19, Try.ntmps19
  go_upto_region 1 with (fail)
  rw [← HW1.out]
  go_wp2_with fail
  go_ret2
  exact ⟨rfl, H2.out, HU.out⟩
set_option maxRecDepth 100000 in
set_option maxHeartbeats 4000000 in
attribute [-go_sem] Instr.storeAt Instr.loadAt in
theorem do12_c_4 {w : World} {D rb : Nat} {av ov : Value} {room : Int} {c : Pc} {L : List Le} (h : RcM w D rb av ov room c L) (po v : Int) (a : Nat) (n d : Int) (_ha : a < 2 ^ 32) (hp0 : 0 ≤ po) (hp7 : po ≤ 7) (hc : v ≠ 0) :
    Calls Try.prog 19 #[.pointer (some ⟨rb, 0, none⟩), .agg #[.int .i64 4, .int .i64 po, .int .i64 v, .int .u32 (a : Int), .int .i64 n, .int .i64 d]] w (Ref12 w D rb av room c L 2) := by
  obtain ⟨W1, W2, hW1, hW2, s0, h2, hk2, hu2⟩ := do12_front h (4) (po) (v) (a) (n) (d)
  have lk := ev_k hk2
  have lp := ld_iC (w := W2) (b := w.heap.size) (o := 1) (z := po) (hk2.cell 1)
  have lc := ld_iC (w := W2) (b := w.heap.size) (o := 2) (z := v) (hk2.cell 2)
  have ld := ld_iC (w := W2) (b := w.heap.size) (o := 5) (z := d) (hk2.cell 5)
  have lf := rev_pf hk2
  have HU := Lib.hid hu2
  have H2 := Lib.hid h2
  have HK2 := Lib.hid hk2
  have HW1 := Lib.hid hW1.symm
  clear hW1 hW2 hu2 h2 hk2 h
  have hp2 : ¬ po < 0 := by omega
  have hp3 : ¬ 7 < po := by omega
  have hc2 : (v != 0) = true := by rw [bne_iff_ne]; exact hc
  have HC := Lib.hid hc
  clear hc
  go_enter Try.func19, Try.ntmps19
  go_upto_region 1 with (fail)
  rw [← HW1.out]
  go_wp2_with fail
  go_ret2
  exact ⟨rfl, H2.out, HU.out⟩
set_option maxRecDepth 100000 in
set_option maxHeartbeats 4000000 in
attribute [-go_sem] Instr.storeAt Instr.loadAt in
theorem do12_c_5 {w : World} {D rb : Nat} {av ov : Value} {room : Int} {c : Pc} {L : List Le} (h : RcM w D rb av ov room c L) (po v : Int) (a : Nat) (n d : Int) (_ha : a < 2 ^ 32) (hp0 : 0 ≤ po) (hp7 : po ≤ 7) (hc : v ≠ 0) :
    Calls Try.prog 19 #[.pointer (some ⟨rb, 0, none⟩), .agg #[.int .i64 5, .int .i64 po, .int .i64 v, .int .u32 (a : Int), .int .i64 n, .int .i64 d]] w (Ref12 w D rb av room c L 2) := by
  obtain ⟨W1, W2, hW1, hW2, s0, h2, hk2, hu2⟩ := do12_front h (5) (po) (v) (a) (n) (d)
  have lk := ev_k hk2
  have lp := ld_iC (w := W2) (b := w.heap.size) (o := 1) (z := po) (hk2.cell 1)
  have lc := ld_iC (w := W2) (b := w.heap.size) (o := 2) (z := v) (hk2.cell 2)
  have ld := ld_iC (w := W2) (b := w.heap.size) (o := 5) (z := d) (hk2.cell 5)
  have lf := rev_pf hk2
  have HU := Lib.hid hu2
  have H2 := Lib.hid h2
  have HK2 := Lib.hid hk2
  have HW1 := Lib.hid hW1.symm
  clear hW1 hW2 hu2 h2 hk2 h
  have hp2 : ¬ po < 0 := by omega
  have hp3 : ¬ 7 < po := by omega
  have hc2 : (v != 0) = true := by rw [bne_iff_ne]; exact hc
  have HC := Lib.hid hc
  clear hc
  go_enter Try.func19, Try.ntmps19
  go_upto_region 1 with (fail)
  rw [← HW1.out]
  go_wp2_with fail
  go_ret2
  exact ⟨rfl, H2.out, HU.out⟩
set_option maxRecDepth 100000 in
set_option maxHeartbeats 4000000 in
attribute [-go_sem] Instr.storeAt Instr.loadAt in
theorem do12_m_4 {w : World} {D rb : Nat} {av ov : Value} {room : Int} {c : Pc} {L : List Le} (h : RcM w D rb av ov room c L) (po _v : Int) (a : Nat) (n d : Int) (ha : a < 2 ^ 32) (hp0 : 0 ≤ po) (hp7 : po ≤ 7) (hm : mayP (a, n) = false) :
    Calls Try.prog 19 #[.pointer (some ⟨rb, 0, none⟩), .agg #[.int .i64 4, .int .i64 po, .int .i64 0, .int .u32 (a : Int), .int .i64 n, .int .i64 d]] w (Ref12 w D rb av room c L 2) := by
  obtain ⟨W1, W2, hW1, hW2, s0, h2, hk2, hu2⟩ := do12_front h (4) (po) (0) (a) (n) (d)
  have lk := ev_k hk2
  have lp := ld_iC (w := W2) (b := w.heap.size) (o := 1) (z := po) (hk2.cell 1)
  have lc := ld_iC (w := W2) (b := w.heap.size) (o := 2) (z := 0) (hk2.cell 2)
  have ld := ld_iC (w := W2) (b := w.heap.size) (o := 5) (z := d) (hk2.cell 5)
  have lf := rev_pf hk2
  have HU := Lib.hid hu2
  have H2 := Lib.hid h2
  have HK2 := Lib.hid hk2
  have HW1 := Lib.hid hW1.symm
  clear hW1 hW2 hu2 h2 hk2 h
  have hp2 : ¬ po < 0 := by omega
  have hp3 : ¬ 7 < po := by omega
  have HMAY := Lib.hid (may12_any (a, n) ha W2)
  rw [hm] at HMAY
  clear hm
  go_enter Try.func19, Try.ntmps19
  go_upto_region 1 with (fail)
  rw [← HW1.out]
  go_upto_region 9 with (fail)
  go_wp2_with fail
  go_at_call 35
  refine HMAY.out.mono ?_
  rintro e w3 ⟨rfl, hb3⟩
  have h3 := H2.out.below hb3
  have hk3 := HK2.out.below hb3 HK2.out.lt
  have HU3 := Lib.hid (HU.out.trans_ (Upd.ofBelow hb3 _))
  have lk3 := ev_k hk3
  have lp3 := ld_iC (w := w3) (b := w.heap.size) (o := 1) (z := po) (hk3.cell 1)
  have ld3 := ld_iC (w := w3) (b := w.heap.size) (o := 5) (z := d) (hk3.cell 5)
  have lf3 := rev_pf hk3
  have H3 := Lib.hid h3
  have HK3 := Lib.hid hk3
  clear hb3 h3 hk3 lk lp lc ld lf s0
  go_wp2_with fail
  go_ret2
  exact ⟨rfl, H3.out, HU3.out⟩
set_option maxRecDepth 100000 in
set_option maxHeartbeats 4000000 in
attribute [-go_sem] Instr.storeAt Instr.loadAt in
theorem do12_m_5 {w : World} {D rb : Nat} {av ov : Value} {room : Int} {c : Pc} {L : List Le} (h : RcM w D rb av ov room c L) (po _v : Int) (a : Nat) (n d : Int) (ha : a < 2 ^ 32) (hp0 : 0 ≤ po) (hp7 : po ≤ 7) (hm : mayP (a, n) = false) :
    Calls Try.prog 19 #[.pointer (some ⟨rb, 0, none⟩), .agg #[.int .i64 5, .int .i64 po, .int .i64 0, .int .u32 (a : Int), .int .i64 n, .int .i64 d]] w (Ref12 w D rb av room c L 2) := by
  obtain ⟨W1, W2, hW1, hW2, s0, h2, hk2, hu2⟩ := do12_front h (5) (po) (0) (a) (n) (d)
  have lk := ev_k hk2
  have lp := ld_iC (w := W2) (b := w.heap.size) (o := 1) (z := po) (hk2.cell 1)
  have lc := ld_iC (w := W2) (b := w.heap.size) (o := 2) (z := 0) (hk2.cell 2)
  have ld := ld_iC (w := W2) (b := w.heap.size) (o := 5) (z := d) (hk2.cell 5)
  have lf := rev_pf hk2
  have HU := Lib.hid hu2
  have H2 := Lib.hid h2
  have HK2 := Lib.hid hk2
  have HW1 := Lib.hid hW1.symm
  clear hW1 hW2 hu2 h2 hk2 h
  have hp2 : ¬ po < 0 := by omega
  have hp3 : ¬ 7 < po := by omega
  have HMAY := Lib.hid (may12_any (a, n) ha W2)
  rw [hm] at HMAY
  clear hm
  go_enter Try.func19, Try.ntmps19
  go_upto_region 1 with (fail)
  rw [← HW1.out]
  go_upto_region 9 with (fail)
  go_wp2_with fail
  go_at_call 35
  refine HMAY.out.mono ?_
  rintro e w3 ⟨rfl, hb3⟩
  have h3 := H2.out.below hb3
  have hk3 := HK2.out.below hb3 HK2.out.lt
  have HU3 := Lib.hid (HU.out.trans_ (Upd.ofBelow hb3 _))
  have lk3 := ev_k hk3
  have lp3 := ld_iC (w := w3) (b := w.heap.size) (o := 1) (z := po) (hk3.cell 1)
  have ld3 := ld_iC (w := w3) (b := w.heap.size) (o := 5) (z := d) (hk3.cell 5)
  have lf3 := rev_pf hk3
  have H3 := Lib.hid h3
  have HK3 := Lib.hid hk3
  clear hb3 h3 hk3 lk lp lc ld lf s0
  go_wp2_with fail
  go_ret2
  exact ⟨rfl, H3.out, HU3.out⟩
set_option maxRecDepth 100000 in
set_option maxHeartbeats 4000000 in
attribute [-go_sem] Instr.storeAt Instr.loadAt in
theorem do12_a_1 {w : World} {D rb : Nat} {av ov : Value} {room : Int} {c : Pc} {L : List Le} (h : RcM w D rb av ov room c L) (po v : Int) (a : Nat) (n d : Int) (_ha : a < 2 ^ 32) (hp0 : 0 ≤ po) (hp7 : po ≤ 7) (hc1 : 1 ≤ v) (hc2 : v ≤ 50) (hz : a ≠ 0) :
    Calls Try.prog 19 #[.pointer (some ⟨rb, 0, none⟩), .agg #[.int .i64 1, .int .i64 po, .int .i64 v, .int .u32 (a : Int), .int .i64 n, .int .i64 d]] w (Ref12 w D rb av room c L 2) := by
  obtain ⟨W1, W2, hW1, hW2, s0, h2, hk2, hu2⟩ := do12_front h (1) (po) (v) (a) (n) (d)
  have lk := ev_k hk2
  have lp := ld_iC (w := W2) (b := w.heap.size) (o := 1) (z := po) (hk2.cell 1)
  have lc := ld_iC (w := W2) (b := w.heap.size) (o := 2) (z := v) (hk2.cell 2)
  have ld := ld_iC (w := W2) (b := w.heap.size) (o := 5) (z := d) (hk2.cell 5)
  have lf := rev_pf hk2
  have HU := Lib.hid hu2
  have H2 := Lib.hid h2
  have HK2 := Lib.hid hk2
  have HW1 := Lib.hid hW1.symm
  clear hW1 hW2 hu2 h2 hk2 h
  have hp2 : ¬ po < 0 := by omega
  have hp3 : ¬ 7 < po := by omega
  have hz2 : ¬ (a : Int) = 0 := by omega
  have HZ := Lib.hid hz
  clear hz
  have hc3 : ¬ v < 1 := by omega
  have hc4 : ¬ 50 < v := by omega
  go_enter Try.func19, Try.ntmps19
  go_upto_region 1 with (fail)
  rw [← HW1.out]
  go_wp2_with fail
  go_ret2
  exact ⟨rfl, H2.out, HU.out⟩
set_option maxRecDepth 100000 in
set_option maxHeartbeats 4000000 in
attribute [-go_sem] Instr.storeAt Instr.loadAt in
theorem do12_n_1 {w : World} {D rb : Nat} {av ov : Value} {room : Int} {c : Pc} {L : List Le} (h : RcM w D rb av ov room c L) (po v : Int) (a : Nat) (n d : Int) (_ha : a < 2 ^ 32) (hp0 : 0 ≤ po) (hp7 : po ≤ 7) (hc1 : 1 ≤ v) (hc2 : v ≤ 50) (hz : n ≠ 0) :
    Calls Try.prog 19 #[.pointer (some ⟨rb, 0, none⟩), .agg #[.int .i64 1, .int .i64 po, .int .i64 v, .int .u32 (0 : Int), .int .i64 n, .int .i64 d]] w (Ref12 w D rb av room c L 2) := by
  obtain ⟨W1, W2, hW1, hW2, s0, h2, hk2, hu2⟩ := do12_front h (1) (po) (v) (0) (n) (d)
  have lk := ev_k hk2
  have lp := ld_iC (w := W2) (b := w.heap.size) (o := 1) (z := po) (hk2.cell 1)
  have lc := ld_iC (w := W2) (b := w.heap.size) (o := 2) (z := v) (hk2.cell 2)
  have ld := ld_iC (w := W2) (b := w.heap.size) (o := 5) (z := d) (hk2.cell 5)
  have lf := rev_pf hk2
  rw [show ((0 : Nat) : Int) = 0 from rfl] at hW1 lf
  have HU := Lib.hid hu2
  have H2 := Lib.hid h2
  have HK2 := Lib.hid hk2
  have HW1 := Lib.hid hW1.symm
  clear hW1 hW2 hu2 h2 hk2 h
  have hp2 : ¬ po < 0 := by omega
  have hp3 : ¬ 7 < po := by omega
  have hc3 : ¬ v < 1 := by omega
  have hc4 : ¬ 50 < v := by omega
  go_enter Try.func19, Try.ntmps19
  go_upto_region 1 with (fail)
  rw [← HW1.out]
  go_wp2_with fail
  go_ret2
  exact ⟨rfl, H2.out, HU.out⟩
set_option maxRecDepth 100000 in
set_option maxHeartbeats 4000000 in
attribute [-go_sem] Instr.storeAt Instr.loadAt in
theorem do12_a_2 {w : World} {D rb : Nat} {av ov : Value} {room : Int} {c : Pc} {L : List Le} (h : RcM w D rb av ov room c L) (po _v : Int) (a : Nat) (n d : Int) (_ha : a < 2 ^ 32) (hp0 : 0 ≤ po) (hp7 : po ≤ 7) (hz : a ≠ 0) :
    Calls Try.prog 19 #[.pointer (some ⟨rb, 0, none⟩), .agg #[.int .i64 2, .int .i64 po, .int .i64 0, .int .u32 (a : Int), .int .i64 n, .int .i64 d]] w (Ref12 w D rb av room c L 2) := by
  obtain ⟨W1, W2, hW1, hW2, s0, h2, hk2, hu2⟩ := do12_front h (2) (po) (0) (a) (n) (d)
  have lk := ev_k hk2
  have lp := ld_iC (w := W2) (b := w.heap.size) (o := 1) (z := po) (hk2.cell 1)
  have lc := ld_iC (w := W2) (b := w.heap.size) (o := 2) (z := 0) (hk2.cell 2)
  have ld := ld_iC (w := W2) (b := w.heap.size) (o := 5) (z := d) (hk2.cell 5)
  have lf := rev_pf hk2
  have HU := Lib.hid hu2
  have H2 := Lib.hid h2
  have HK2 := Lib.hid hk2
  have HW1 := Lib.hid hW1.symm
  clear hW1 hW2 hu2 h2 hk2 h
  have hp2 : ¬ po < 0 := by omega
  have hp3 : ¬ 7 < po := by omega
  have hz2 : ¬ (a : Int) = 0 := by omega
  have HZ := Lib.hid hz
  clear hz
  go_enter Try.func19, Try.ntmps19
  go_upto_region 1 with (fail)
  rw [← HW1.out]
  go_wp2_with fail
  go_ret2
  exact ⟨rfl, H2.out, HU.out⟩
set_option maxRecDepth 100000 in
set_option maxHeartbeats 4000000 in
attribute [-go_sem] Instr.storeAt Instr.loadAt in
theorem do12_n_2 {w : World} {D rb : Nat} {av ov : Value} {room : Int} {c : Pc} {L : List Le} (h : RcM w D rb av ov room c L) (po _v : Int) (a : Nat) (n d : Int) (_ha : a < 2 ^ 32) (hp0 : 0 ≤ po) (hp7 : po ≤ 7) (hz : n ≠ 0) :
    Calls Try.prog 19 #[.pointer (some ⟨rb, 0, none⟩), .agg #[.int .i64 2, .int .i64 po, .int .i64 0, .int .u32 (0 : Int), .int .i64 n, .int .i64 d]] w (Ref12 w D rb av room c L 2) := by
  obtain ⟨W1, W2, hW1, hW2, s0, h2, hk2, hu2⟩ := do12_front h (2) (po) (0) (0) (n) (d)
  have lk := ev_k hk2
  have lp := ld_iC (w := W2) (b := w.heap.size) (o := 1) (z := po) (hk2.cell 1)
  have lc := ld_iC (w := W2) (b := w.heap.size) (o := 2) (z := 0) (hk2.cell 2)
  have ld := ld_iC (w := W2) (b := w.heap.size) (o := 5) (z := d) (hk2.cell 5)
  have lf := rev_pf hk2
  rw [show ((0 : Nat) : Int) = 0 from rfl] at hW1 lf
  have HU := Lib.hid hu2
  have H2 := Lib.hid h2
  have HK2 := Lib.hid hk2
  have HW1 := Lib.hid hW1.symm
  clear hW1 hW2 hu2 h2 hk2 h
  have hp2 : ¬ po < 0 := by omega
  have hp3 : ¬ 7 < po := by omega
  go_enter Try.func19, Try.ntmps19
  go_upto_region 1 with (fail)
  rw [← HW1.out]
  go_wp2_with fail
  go_ret2
  exact ⟨rfl, H2.out, HU.out⟩
set_option maxRecDepth 100000 in
set_option maxHeartbeats 4000000 in
attribute [-go_sem] Instr.storeAt Instr.loadAt in
theorem do12_a_3 {w : World} {D rb : Nat} {av ov : Value} {room : Int} {c : Pc} {L : List Le} (h : RcM w D rb av ov room c L) (po v : Int) (a : Nat) (n d : Int) (_ha : a < 2 ^ 32) (hp0 : 0 ≤ po) (hp7 : po ≤ 7) (hc1 : 1 ≤ v) (hc2 : v ≤ 50) (hz : a ≠ 0) :
    Calls Try.prog 19 #[.pointer (some ⟨rb, 0, none⟩), .agg #[.int .i64 3, .int .i64 po, .int .i64 v, .int .u32 (a : Int), .int .i64 n, .int .i64 d]] w (Ref12 w D rb av room c L 2) := by
  obtain ⟨W1, W2, hW1, hW2, s0, h2, hk2, hu2⟩ := do12_front h (3) (po) (v) (a) (n) (d)
  have lk := ev_k hk2
  have lp := ld_iC (w := W2) (b := w.heap.size) (o := 1) (z := po) (hk2.cell 1)
  have lc := ld_iC (w := W2) (b := w.heap.size) (o := 2) (z := v) (hk2.cell 2)
  have ld := ld_iC (w := W2) (b := w.heap.size) (o := 5) (z := d) (hk2.cell 5)
  have lf := rev_pf hk2
  have HU := Lib.hid hu2
  have H2 := Lib.hid h2
  have HK2 := Lib.hid hk2
  have HW1 := Lib.hid hW1.symm
  clear hW1 hW2 hu2 h2 hk2 h
  have hp2 : ¬ po < 0 := by omega
  have hp3 : ¬ 7 < po := by omega
  have hz2 : ¬ (a : Int) = 0 := by omega
  have HZ := Lib.hid hz
  clear hz
  have hc3 : ¬ v < 1 := by omega
  have hc4 : ¬ 50 < v := by omega
  go_enter Try.func19, Try.ntmps19
  go_upto_region 1 with (fail)
  rw [← HW1.out]
  go_wp2_with fail
  go_ret2
  exact ⟨rfl, H2.out, HU.out⟩
set_option maxRecDepth 100000 in
set_option maxHeartbeats 4000000 in
attribute [-go_sem] Instr.storeAt Instr.loadAt in
theorem do12_n_3 {w : World} {D rb : Nat} {av ov : Value} {room : Int} {c : Pc} {L : List Le} (h : RcM w D rb av ov room c L) (po v : Int) (a : Nat) (n d : Int) (_ha : a < 2 ^ 32) (hp0 : 0 ≤ po) (hp7 : po ≤ 7) (hc1 : 1 ≤ v) (hc2 : v ≤ 50) (hz : n ≠ 0) :
    Calls Try.prog 19 #[.pointer (some ⟨rb, 0, none⟩), .agg #[.int .i64 3, .int .i64 po, .int .i64 v, .int .u32 (0 : Int), .int .i64 n, .int .i64 d]] w (Ref12 w D rb av room c L 2) := by
  obtain ⟨W1, W2, hW1, hW2, s0, h2, hk2, hu2⟩ := do12_front h (3) (po) (v) (0) (n) (d)
  have lk := ev_k hk2
  have lp := ld_iC (w := W2) (b := w.heap.size) (o := 1) (z := po) (hk2.cell 1)
  have lc := ld_iC (w := W2) (b := w.heap.size) (o := 2) (z := v) (hk2.cell 2)
  have ld := ld_iC (w := W2) (b := w.heap.size) (o := 5) (z := d) (hk2.cell 5)
  have lf := rev_pf hk2
  rw [show ((0 : Nat) : Int) = 0 from rfl] at hW1 lf
  have HU := Lib.hid hu2
  have H2 := Lib.hid h2
  have HK2 := Lib.hid hk2
  have HW1 := Lib.hid hW1.symm
  clear hW1 hW2 hu2 h2 hk2 h
  have hp2 : ¬ po < 0 := by omega
  have hp3 : ¬ 7 < po := by omega
  have hc3 : ¬ v < 1 := by omega
  have hc4 : ¬ 50 < v := by omega
  go_enter Try.func19, Try.ntmps19
  go_upto_region 1 with (fail)
  rw [← HW1.out]
  go_wp2_with fail
  go_ret2
  exact ⟨rfl, H2.out, HU.out⟩
set_option maxRecDepth 100000 in
set_option maxHeartbeats 4000000 in
attribute [-go_sem] Instr.storeAt Instr.loadAt in
theorem do12_d0_1 {w : World} {D rb : Nat} {av ov : Value} {room : Int} {c : Pc} {L : List Le} (h : RcM w D rb av ov room c L) (po v : Int) (a : Nat) (_n d : Int) (_ha : a < 2 ^ 32) (hp0 : 0 ≤ po) (hp7 : po ≤ 7) (hc1 : 1 ≤ v) (hc2 : v ≤ 50) (hd : d < 0) :
    Calls Try.prog 19 #[.pointer (some ⟨rb, 0, none⟩), .agg #[.int .i64 1, .int .i64 po, .int .i64 v, .int .u32 (0 : Int), .int .i64 0, .int .i64 d]] w (Ref12 w D rb av room c L 2) := by
  obtain ⟨W1, W2, hW1, hW2, s0, h2, hk2, hu2⟩ := do12_front h (1) (po) (v) (0) (0) (d)
  have lk := ev_k hk2
  have lp := ld_iC (w := W2) (b := w.heap.size) (o := 1) (z := po) (hk2.cell 1)
  have lc := ld_iC (w := W2) (b := w.heap.size) (o := 2) (z := v) (hk2.cell 2)
  have ld := ld_iC (w := W2) (b := w.heap.size) (o := 5) (z := d) (hk2.cell 5)
  have lf := rev_pf hk2
  rw [show ((0 : Nat) : Int) = 0 from rfl] at hW1 lf
  have HU := Lib.hid hu2
  have H2 := Lib.hid h2
  have HK2 := Lib.hid hk2
  have HW1 := Lib.hid hW1.symm
  clear hW1 hW2 hu2 h2 hk2 h
  have hp2 : ¬ po < 0 := by omega
  have hp3 : ¬ 7 < po := by omega
  have hc3 : ¬ v < 1 := by omega
  have hc4 : ¬ 50 < v := by omega
  go_enter Try.func19, Try.ntmps19
  go_upto_region 1 with (fail)
  rw [← HW1.out]
  go_wp2_with fail
  go_ret2
  exact ⟨rfl, H2.out, HU.out⟩
set_option maxRecDepth 100000 in
set_option maxHeartbeats 4000000 in
attribute [-go_sem] Instr.storeAt Instr.loadAt in
theorem do12_d256_1 {w : World} {D rb : Nat} {av ov : Value} {room : Int} {c : Pc} {L : List Le} (h : RcM w D rb av ov room c L) (po v : Int) (a : Nat) (_n d : Int) (_ha : a < 2 ^ 32) (hp0 : 0 ≤ po) (hp7 : po ≤ 7) (hc1 : 1 ≤ v) (hc2 : v ≤ 50) (hd : 255 < d) :
    Calls Try.prog 19 #[.pointer (some ⟨rb, 0, none⟩), .agg #[.int .i64 1, .int .i64 po, .int .i64 v, .int .u32 (0 : Int), .int .i64 0, .int .i64 d]] w (Ref12 w D rb av room c L 2) := by
  obtain ⟨W1, W2, hW1, hW2, s0, h2, hk2, hu2⟩ := do12_front h (1) (po) (v) (0) (0) (d)
  have lk := ev_k hk2
  have lp := ld_iC (w := W2) (b := w.heap.size) (o := 1) (z := po) (hk2.cell 1)
  have lc := ld_iC (w := W2) (b := w.heap.size) (o := 2) (z := v) (hk2.cell 2)
  have ld := ld_iC (w := W2) (b := w.heap.size) (o := 5) (z := d) (hk2.cell 5)
  have lf := rev_pf hk2
  rw [show ((0 : Nat) : Int) = 0 from rfl] at hW1 lf
  have HU := Lib.hid hu2
  have H2 := Lib.hid h2
  have HK2 := Lib.hid hk2
  have HW1 := Lib.hid hW1.symm
  clear hW1 hW2 hu2 h2 hk2 h
  have hp2 : ¬ po < 0 := by omega
  have hp3 : ¬ 7 < po := by omega
  have hc3 : ¬ v < 1 := by omega
  have hc4 : ¬ 50 < v := by omega
  have hd2 : ¬ d < 0 := by omega
  go_enter Try.func19, Try.ntmps19
  go_upto_region 1 with (fail)
  rw [← HW1.out]
  go_wp2_with fail
  go_ret2
  exact ⟨rfl, H2.out, HU.out⟩
set_option maxRecDepth 100000 in
set_option maxHeartbeats 4000000 in
attribute [-go_sem] Instr.storeAt Instr.loadAt in
theorem do12_d_1 {w : World} {D rb : Nat} {av ov : Value} {room : Int} {c : Pc} {L : List Le} (h : RcM w D rb av ov room c L) (po v : Int) (a : Nat) (_n d : Int) (_ha : a < 2 ^ 32) (hp0 : 0 ≤ po) (hp7 : po ≤ 7) (hc1 : 1 ≤ v) (hc2 : v ≤ 50) (hd : 0 < d) (hd3 : d ≤ 255) :
    Calls Try.prog 19 #[.pointer (some ⟨rb, 0, none⟩), .agg #[.int .i64 1, .int .i64 po, .int .i64 v, .int .u32 (0 : Int), .int .i64 0, .int .i64 d]] w (Ref12 w D rb av room c L 2) := by
  obtain ⟨W1, W2, hW1, hW2, s0, h2, hk2, hu2⟩ := do12_front h (1) (po) (v) (0) (0) (d)
  have lk := ev_k hk2
  have lp := ld_iC (w := W2) (b := w.heap.size) (o := 1) (z := po) (hk2.cell 1)
  have lc := ld_iC (w := W2) (b := w.heap.size) (o := 2) (z := v) (hk2.cell 2)
  have ld := ld_iC (w := W2) (b := w.heap.size) (o := 5) (z := d) (hk2.cell 5)
  have lf := rev_pf hk2
  rw [show ((0 : Nat) : Int) = 0 from rfl] at hW1 lf
  have HU := Lib.hid hu2
  have H2 := Lib.hid h2
  have HK2 := Lib.hid hk2
  have HW1 := Lib.hid hW1.symm
  clear hW1 hW2 hu2 h2 hk2 h
  have hp2 : ¬ po < 0 := by omega
  have hp3 : ¬ 7 < po := by omega
  have hc3 : ¬ v < 1 := by omega
  have hc4 : ¬ 50 < v := by omega
  have hd2 : ¬ d < 0 := by omega
  have hd4 : ¬ 255 < d := by omega
  have hd5 : (d != 0) = true := by rw [bne_iff_ne]; omega
  go_enter Try.func19, Try.ntmps19
  go_upto_region 1 with (fail)
  rw [← HW1.out]
  go_wp2_with fail
  go_ret2
  exact ⟨rfl, H2.out, HU.out⟩
set_option maxRecDepth 100000 in
set_option maxHeartbeats 4000000 in
attribute [-go_sem] Instr.storeAt Instr.loadAt in
theorem do12_d0_2 {w : World} {D rb : Nat} {av ov : Value} {room : Int} {c : Pc} {L : List Le} (h : RcM w D rb av ov room c L) (po _v : Int) (a : Nat) (_n d : Int) (_ha : a < 2 ^ 32) (hp0 : 0 ≤ po) (hp7 : po ≤ 7) (hd : d < 0) :
    Calls Try.prog 19 #[.pointer (some ⟨rb, 0, none⟩), .agg #[.int .i64 2, .int .i64 po, .int .i64 0, .int .u32 (0 : Int), .int .i64 0, .int .i64 d]] w (Ref12 w D rb av room c L 2) := by
  obtain ⟨W1, W2, hW1, hW2, s0, h2, hk2, hu2⟩ := do12_front h (2) (po) (0) (0) (0) (d)
  have lk := ev_k hk2
  have lp := ld_iC (w := W2) (b := w.heap.size) (o := 1) (z := po) (hk2.cell 1)
  have lc := ld_iC (w := W2) (b := w.heap.size) (o := 2) (z := 0) (hk2.cell 2)
  have ld := ld_iC (w := W2) (b := w.heap.size) (o := 5) (z := d) (hk2.cell 5)
  have lf := rev_pf hk2
  rw [show ((0 : Nat) : Int) = 0 from rfl] at hW1 lf
  have HU := Lib.hid hu2
  have H2 := Lib.hid h2
  have HK2 := Lib.hid hk2
  have HW1 := Lib.hid hW1.symm
  clear hW1 hW2 hu2 h2 hk2 h
  have hp2 : ¬ po < 0 := by omega
  have hp3 : ¬ 7 < po := by omega
  go_enter Try.func19, Try.ntmps19
  go_upto_region 1 with (fail)
  rw [← HW1.out]
  go_wp2_with fail
  go_ret2
  exact ⟨rfl, H2.out, HU.out⟩
set_option maxRecDepth 100000 in
set_option maxHeartbeats 4000000 in
attribute [-go_sem] Instr.storeAt Instr.loadAt in
theorem do12_d256_2 {w : World} {D rb : Nat} {av ov : Value} {room : Int} {c : Pc} {L : List Le} (h : RcM w D rb av ov room c L) (po _v : Int) (a : Nat) (_n d : Int) (_ha : a < 2 ^ 32) (hp0 : 0 ≤ po) (hp7 : po ≤ 7) (hd : 255 < d) :
    Calls Try.prog 19 #[.pointer (some ⟨rb, 0, none⟩), .agg #[.int .i64 2, .int .i64 po, .int .i64 0, .int .u32 (0 : Int), .int .i64 0, .int .i64 d]] w (Ref12 w D rb av room c L 2) := by
  obtain ⟨W1, W2, hW1, hW2, s0, h2, hk2, hu2⟩ := do12_front h (2) (po) (0) (0) (0) (d)
  have lk := ev_k hk2
  have lp := ld_iC (w := W2) (b := w.heap.size) (o := 1) (z := po) (hk2.cell 1)
  have lc := ld_iC (w := W2) (b := w.heap.size) (o := 2) (z := 0) (hk2.cell 2)
  have ld := ld_iC (w := W2) (b := w.heap.size) (o := 5) (z := d) (hk2.cell 5)
  have lf := rev_pf hk2
  rw [show ((0 : Nat) : Int) = 0 from rfl] at hW1 lf
  have HU := Lib.hid hu2
  have H2 := Lib.hid h2
  have HK2 := Lib.hid hk2
  have HW1 := Lib.hid hW1.symm
  clear hW1 hW2 hu2 h2 hk2 h
  have hp2 : ¬ po < 0 := by omega
  have hp3 : ¬ 7 < po := by omega
  have hd2 : ¬ d < 0 := by omega
  go_enter Try.func19, Try.ntmps19
  go_upto_region 1 with (fail)
  rw [← HW1.out]
  go_wp2_with fail
  go_ret2
  exact ⟨rfl, H2.out, HU.out⟩
set_option maxRecDepth 100000 in
set_option maxHeartbeats 4000000 in
attribute [-go_sem] Instr.storeAt Instr.loadAt in
theorem do12_d_2 {w : World} {D rb : Nat} {av ov : Value} {room : Int} {c : Pc} {L : List Le} (h : RcM w D rb av ov room c L) (po _v : Int) (a : Nat) (_n d : Int) (_ha : a < 2 ^ 32) (hp0 : 0 ≤ po) (hp7 : po ≤ 7) (hd : 0 < d) (hd3 : d ≤ 255) :
    Calls Try.prog 19 #[.pointer (some ⟨rb, 0, none⟩), .agg #[.int .i64 2, .int .i64 po, .int .i64 0, .int .u32 (0 : Int), .int .i64 0, .int .i64 d]] w (Ref12 w D rb av room c L 2) := by
  obtain ⟨W1, W2, hW1, hW2, s0, h2, hk2, hu2⟩ := do12_front h (2) (po) (0) (0) (0) (d)
  have lk := ev_k hk2
  have lp := ld_iC (w := W2) (b := w.heap.size) (o := 1) (z := po) (hk2.cell 1)
  have lc := ld_iC (w := W2) (b := w.heap.size) (o := 2) (z := 0) (hk2.cell 2)
  have ld := ld_iC (w := W2) (b := w.heap.size) (o := 5) (z := d) (hk2.cell 5)
  have lf := rev_pf hk2
  rw [show ((0 : Nat) : Int) = 0 from rfl] at hW1 lf
  have HU := Lib.hid hu2
  have H2 := Lib.hid h2
  have HK2 := Lib.hid hk2
  have HW1 := Lib.hid hW1.symm
  clear hW1 hW2 hu2 h2 hk2 h
  have hp2 : ¬ po < 0 := by omega
  have hp3 : ¬ 7 < po := by omega
  have hd2 : ¬ d < 0 := by omega
  have hd4 : ¬ 255 < d := by omega
  have hd5 : (d != 0) = true := by rw [bne_iff_ne]; omega
  go_enter Try.func19, Try.ntmps19
  go_upto_region 1 with (fail)
  rw [← HW1.out]
  go_wp2_with fail
  go_ret2
  exact ⟨rfl, H2.out, HU.out⟩
set_option maxRecDepth 100000 in
set_option maxHeartbeats 4000000 in
attribute [-go_sem] Instr.storeAt Instr.loadAt in
theorem do12_d0_3 {w : World} {D rb : Nat} {av ov : Value} {room : Int} {c : Pc} {L : List Le} (h : RcM w D rb av ov room c L) (po v : Int) (a : Nat) (_n d : Int) (_ha : a < 2 ^ 32) (hp0 : 0 ≤ po) (hp7 : po ≤ 7) (hc1 : 1 ≤ v) (hc2 : v ≤ 50) (hd : d < 0) :
    Calls Try.prog 19 #[.pointer (some ⟨rb, 0, none⟩), .agg #[.int .i64 3, .int .i64 po, .int .i64 v, .int .u32 (0 : Int), .int .i64 0, .int .i64 d]] w (Ref12 w D rb av room c L 2) := by
  obtain ⟨W1, W2, hW1, hW2, s0, h2, hk2, hu2⟩ := do12_front h (3) (po) (v) (0) (0) (d)
  have lk := ev_k hk2
  have lp := ld_iC (w := W2) (b := w.heap.size) (o := 1) (z := po) (hk2.cell 1)
  have lc := ld_iC (w := W2) (b := w.heap.size) (o := 2) (z := v) (hk2.cell 2)
  have ld := ld_iC (w := W2) (b := w.heap.size) (o := 5) (z := d) (hk2.cell 5)
  have lf := rev_pf hk2
  rw [show ((0 : Nat) : Int) = 0 from rfl] at hW1 lf
  have HU := Lib.hid hu2
  have H2 := Lib.hid h2
  have HK2 := Lib.hid hk2
  have HW1 := Lib.hid hW1.symm
  clear hW1 hW2 hu2 h2 hk2 h
  have hp2 : ¬ po < 0 := by omega
  have hp3 : ¬ 7 < po := by omega
  have hc3 : ¬ v < 1 := by omega
  have hc4 : ¬ 50 < v := by omega
  go_enter Try.func19, Try.ntmps19
  go_upto_region 1 with (fail)
  rw [← HW1.out]
  go_wp2_with fail
  go_ret2
  exact ⟨rfl, H2.out, HU.out⟩
set_option maxRecDepth 100000 in
set_option maxHeartbeats 4000000 in
attribute [-go_sem] Instr.storeAt Instr.loadAt in
theorem do12_d256_3 {w : World} {D rb : Nat} {av ov : Value} {room : Int} {c : Pc} {L : List Le} (h : RcM w D rb av ov room c L) (po v : Int) (a : Nat) (_n d : Int) (_ha : a < 2 ^ 32) (hp0 : 0 ≤ po) (hp7 : po ≤ 7) (hc1 : 1 ≤ v) (hc2 : v ≤ 50) (hd : 255 < d) :
    Calls Try.prog 19 #[.pointer (some ⟨rb, 0, none⟩), .agg #[.int .i64 3, .int .i64 po, .int .i64 v, .int .u32 (0 : Int), .int .i64 0, .int .i64 d]] w (Ref12 w D rb av room c L 2) := by
  obtain ⟨W1, W2, hW1, hW2, s0, h2, hk2, hu2⟩ := do12_front h (3) (po) (v) (0) (0) (d)
  have lk := ev_k hk2
  have lp := ld_iC (w := W2) (b := w.heap.size) (o := 1) (z := po) (hk2.cell 1)
  have lc := ld_iC (w := W2) (b := w.heap.size) (o := 2) (z := v) (hk2.cell 2)
  have ld := ld_iC (w := W2) (b := w.heap.size) (o := 5) (z := d) (hk2.cell 5)
  have lf := rev_pf hk2
  rw [show ((0 : Nat) : Int) = 0 from rfl] at hW1 lf
  have HU := Lib.hid hu2
  have H2 := Lib.hid h2
  have HK2 := Lib.hid hk2
  have HW1 := Lib.hid hW1.symm
  clear hW1 hW2 hu2 h2 hk2 h
  have hp2 : ¬ po < 0 := by omega
  have hp3 : ¬ 7 < po := by omega
  have hc3 : ¬ v < 1 := by omega
  have hc4 : ¬ 50 < v := by omega
  have hd2 : ¬ d < 0 := by omega
  go_enter Try.func19, Try.ntmps19
  go_upto_region 1 with (fail)
  rw [← HW1.out]
  go_wp2_with fail
  go_ret2
  exact ⟨rfl, H2.out, HU.out⟩
set_option maxRecDepth 100000 in
set_option maxHeartbeats 4000000 in
attribute [-go_sem] Instr.storeAt Instr.loadAt in
theorem do12_d_3 {w : World} {D rb : Nat} {av ov : Value} {room : Int} {c : Pc} {L : List Le} (h : RcM w D rb av ov room c L) (po v : Int) (a : Nat) (_n d : Int) (_ha : a < 2 ^ 32) (hp0 : 0 ≤ po) (hp7 : po ≤ 7) (hc1 : 1 ≤ v) (hc2 : v ≤ 50) (hd : 0 < d) (hd3 : d ≤ 255) :
    Calls Try.prog 19 #[.pointer (some ⟨rb, 0, none⟩), .agg #[.int .i64 3, .int .i64 po, .int .i64 v, .int .u32 (0 : Int), .int .i64 0, .int .i64 d]] w (Ref12 w D rb av room c L 2) := by
  obtain ⟨W1, W2, hW1, hW2, s0, h2, hk2, hu2⟩ := do12_front h (3) (po) (v) (0) (0) (d)
  have lk := ev_k hk2
  have lp := ld_iC (w := W2) (b := w.heap.size) (o := 1) (z := po) (hk2.cell 1)
  have lc := ld_iC (w := W2) (b := w.heap.size) (o := 2) (z := v) (hk2.cell 2)
  have ld := ld_iC (w := W2) (b := w.heap.size) (o := 5) (z := d) (hk2.cell 5)
  have lf := rev_pf hk2
  rw [show ((0 : Nat) : Int) = 0 from rfl] at hW1 lf
  have HU := Lib.hid hu2
  have H2 := Lib.hid h2
  have HK2 := Lib.hid hk2
  have HW1 := Lib.hid hW1.symm
  clear hW1 hW2 hu2 h2 hk2 h
  have hp2 : ¬ po < 0 := by omega
  have hp3 : ¬ 7 < po := by omega
  have hc3 : ¬ v < 1 := by omega
  have hc4 : ¬ 50 < v := by omega
  have hd2 : ¬ d < 0 := by omega
  have hd4 : ¬ 255 < d := by omega
  have hd5 : (d != 0) = true := by rw [bne_iff_ne]; omega
  go_enter Try.func19, Try.ntmps19
  go_upto_region 1 with (fail)
  rw [← HW1.out]
  go_wp2_with fail
  go_ret2
  exact ⟨rfl, H2.out, HU.out⟩
set_option maxRecDepth 100000 in
set_option maxHeartbeats 4000000 in
attribute [-go_sem] Instr.storeAt Instr.loadAt in
theorem do12_d0_4 {w : World} {D rb : Nat} {av ov : Value} {room : Int} {c : Pc} {L : List Le} (h : RcM w D rb av ov room c L) (po _v : Int) (a : Nat) (n d : Int) (ha : a < 2 ^ 32) (hp0 : 0 ≤ po) (hp7 : po ≤ 7) (hm : mayP (a, n) = true) (hd : d < 0) :
    Calls Try.prog 19 #[.pointer (some ⟨rb, 0, none⟩), .agg #[.int .i64 4, .int .i64 po, .int .i64 0, .int .u32 (a : Int), .int .i64 n, .int .i64 d]] w (Ref12 w D rb av room c L 2) := by
  obtain ⟨W1, W2, hW1, hW2, s0, h2, hk2, hu2⟩ := do12_front h (4) (po) (0) (a) (n) (d)
  have lk := ev_k hk2
  have lp := ld_iC (w := W2) (b := w.heap.size) (o := 1) (z := po) (hk2.cell 1)
  have lc := ld_iC (w := W2) (b := w.heap.size) (o := 2) (z := 0) (hk2.cell 2)
  have ld := ld_iC (w := W2) (b := w.heap.size) (o := 5) (z := d) (hk2.cell 5)
  have lf := rev_pf hk2
  have HU := Lib.hid hu2
  have H2 := Lib.hid h2
  have HK2 := Lib.hid hk2
  have HW1 := Lib.hid hW1.symm
  clear hW1 hW2 hu2 h2 hk2 h
  have hp2 : ¬ po < 0 := by omega
  have hp3 : ¬ 7 < po := by omega
  have HMAY := Lib.hid (may12_any (a, n) ha W2)
  rw [hm] at HMAY
  clear hm
  go_enter Try.func19, Try.ntmps19
  go_upto_region 1 with (fail)
  rw [← HW1.out]
  go_upto_region 9 with (fail)
  go_wp2_with fail
  go_at_call 35
  refine HMAY.out.mono ?_
  rintro e w3 ⟨rfl, hb3⟩
  have h3 := H2.out.below hb3
  have hk3 := HK2.out.below hb3 HK2.out.lt
  have HU3 := Lib.hid (HU.out.trans_ (Upd.ofBelow hb3 _))
  have lk3 := ev_k hk3
  have lp3 := ld_iC (w := w3) (b := w.heap.size) (o := 1) (z := po) (hk3.cell 1)
  have ld3 := ld_iC (w := w3) (b := w.heap.size) (o := 5) (z := d) (hk3.cell 5)
  have lf3 := rev_pf hk3
  have H3 := Lib.hid h3
  have HK3 := Lib.hid hk3
  clear hb3 h3 hk3 lk lp lc ld lf s0
  go_wp2_with fail
  go_ret2
  exact ⟨rfl, H3.out, HU3.out⟩
set_option maxRecDepth 100000 in
set_option maxHeartbeats 4000000 in
attribute [-go_sem] Instr.storeAt Instr.loadAt in
theorem do12_d256_4 {w : World} {D rb : Nat} {av ov : Value} {room : Int} {c : Pc} {L : List Le} (h : RcM w D rb av ov room c L) (po _v : Int) (a : Nat) (n d : Int) (ha : a < 2 ^ 32) (hp0 : 0 ≤ po) (hp7 : po ≤ 7) (hm : mayP (a, n) = true) (hd : 255 < d) :
    Calls Try.prog 19 #[.pointer (some ⟨rb, 0, none⟩), .agg #[.int .i64 4, .int .i64 po, .int .i64 0, .int .u32 (a : Int), .int .i64 n, .int .i64 d]] w (Ref12 w D rb av room c L 2) := by
  obtain ⟨W1, W2, hW1, hW2, s0, h2, hk2, hu2⟩ := do12_front h (4) (po) (0) (a) (n) (d)
  have lk := ev_k hk2
  have lp := ld_iC (w := W2) (b := w.heap.size) (o := 1) (z := po) (hk2.cell 1)
  have lc := ld_iC (w := W2) (b := w.heap.size) (o := 2) (z := 0) (hk2.cell 2)
  have ld := ld_iC (w := W2) (b := w.heap.size) (o := 5) (z := d) (hk2.cell 5)
  have lf := rev_pf hk2
  have HU := Lib.hid hu2
  have H2 := Lib.hid h2
  have HK2 := Lib.hid hk2
  have HW1 := Lib.hid hW1.symm
  clear hW1 hW2 hu2 h2 hk2 h
  have hp2 : ¬ po < 0 := by omega
  have hp3 : ¬ 7 < po := by omega
  have HMAY := Lib.hid (may12_any (a, n) ha W2)
  rw [hm] at HMAY
  clear hm
  have hd2 : ¬ d < 0 := by omega
  go_enter Try.func19, Try.ntmps19
  go_upto_region 1 with (fail)
  rw [← HW1.out]
  go_upto_region 9 with (fail)
  go_wp2_with fail
  go_at_call 35
  refine HMAY.out.mono ?_
  rintro e w3 ⟨rfl, hb3⟩
  have h3 := H2.out.below hb3
  have hk3 := HK2.out.below hb3 HK2.out.lt
  have HU3 := Lib.hid (HU.out.trans_ (Upd.ofBelow hb3 _))
  have lk3 := ev_k hk3
  have lp3 := ld_iC (w := w3) (b := w.heap.size) (o := 1) (z := po) (hk3.cell 1)
  have ld3 := ld_iC (w := w3) (b := w.heap.size) (o := 5) (z := d) (hk3.cell 5)
  have lf3 := rev_pf hk3
  have H3 := Lib.hid h3
  have HK3 := Lib.hid hk3
  clear hb3 h3 hk3 lk lp lc ld lf s0
  go_wp2_with fail
  go_ret2
  exact ⟨rfl, H3.out, HU3.out⟩
set_option maxRecDepth 100000 in
set_option maxHeartbeats 4000000 in
attribute [-go_sem] Instr.storeAt Instr.loadAt in
theorem do12_d0_5 {w : World} {D rb : Nat} {av ov : Value} {room : Int} {c : Pc} {L : List Le} (h : RcM w D rb av ov room c L) (po _v : Int) (a : Nat) (n d : Int) (ha : a < 2 ^ 32) (hp0 : 0 ≤ po) (hp7 : po ≤ 7) (hm : mayP (a, n) = true) (hd : d < 0) :
    Calls Try.prog 19 #[.pointer (some ⟨rb, 0, none⟩), .agg #[.int .i64 5, .int .i64 po, .int .i64 0, .int .u32 (a : Int), .int .i64 n, .int .i64 d]] w (Ref12 w D rb av room c L 2) := by
  obtain ⟨W1, W2, hW1, hW2, s0, h2, hk2, hu2⟩ := do12_front h (5) (po) (0) (a) (n) (d)
  have lk := ev_k hk2
  have lp := ld_iC (w := W2) (b := w.heap.size) (o := 1) (z := po) (hk2.cell 1)
  have lc := ld_iC (w := W2) (b := w.heap.size) (o := 2) (z := 0) (hk2.cell 2)
  have ld := ld_iC (w := W2) (b := w.heap.size) (o := 5) (z := d) (hk2.cell 5)
  have lf := rev_pf hk2
  have HU := Lib.hid hu2
  have H2 := Lib.hid h2
  have HK2 := Lib.hid hk2
  have HW1 := Lib.hid hW1.symm
  clear hW1 hW2 hu2 h2 hk2 h
  have hp2 : ¬ po < 0 := by omega
  have hp3 : ¬ 7 < po := by omega
  have HMAY := Lib.hid (may12_any (a, n) ha W2)
  rw [hm] at HMAY
  clear hm
  go_enter Try.func19, Try.ntmps19
  go_upto_region 1 with (fail)
  rw [← HW1.out]
  go_upto_region 9 with (fail)
  go_wp2_with fail
  go_at_call 35
  refine HMAY.out.mono ?_
  rintro e w3 ⟨rfl, hb3⟩
  have h3 := H2.out.below hb3
  have hk3 := HK2.out.below hb3 HK2.out.lt
  have HU3 := Lib.hid (HU.out.trans_ (Upd.ofBelow hb3 _))
  have lk3 := ev_k hk3
  have lp3 := ld_iC (w := w3) (b := w.heap.size) (o := 1) (z := po) (hk3.cell 1)
  have ld3 := ld_iC (w := w3) (b := w.heap.size) (o := 5) (z := d) (hk3.cell 5)
  have lf3 := rev_pf hk3
  have H3 := Lib.hid h3
  have HK3 := Lib.hid hk3
  clear hb3 h3 hk3 lk lp lc ld lf s0
  go_wp2_with fail
  go_ret2
  exact ⟨rfl, H3.out, HU3.out⟩
set_option maxRecDepth 100000 in
set_option maxHeartbeats 4000000 in
attribute [-go_sem] Instr.storeAt Instr.loadAt in
theorem do12_d256_5 {w : World} {D rb : Nat} {av ov : Value} {room : Int} {c : Pc} {L : List Le} (h : RcM w D rb av ov room c L) (po _v : Int) (a : Nat) (n d : Int) (ha : a < 2 ^ 32) (hp0 : 0 ≤ po) (hp7 : po ≤ 7) (hm : mayP (a, n) = true) (hd : 255 < d) :
    Calls Try.prog 19 #[.pointer (some ⟨rb, 0, none⟩), .agg #[.int .i64 5, .int .i64 po, .int .i64 0, .int .u32 (a : Int), .int .i64 n, .int .i64 d]] w (Ref12 w D rb av room c L 2) := by
  obtain ⟨W1, W2, hW1, hW2, s0, h2, hk2, hu2⟩ := do12_front h (5) (po) (0) (a) (n) (d)
  have lk := ev_k hk2
  have lp := ld_iC (w := W2) (b := w.heap.size) (o := 1) (z := po) (hk2.cell 1)
  have lc := ld_iC (w := W2) (b := w.heap.size) (o := 2) (z := 0) (hk2.cell 2)
  have ld := ld_iC (w := W2) (b := w.heap.size) (o := 5) (z := d) (hk2.cell 5)
  have lf := rev_pf hk2
  have HU := Lib.hid hu2
  have H2 := Lib.hid h2
  have HK2 := Lib.hid hk2
  have HW1 := Lib.hid hW1.symm
  clear hW1 hW2 hu2 h2 hk2 h
  have hp2 : ¬ po < 0 := by omega
  have hp3 : ¬ 7 < po := by omega
  have HMAY := Lib.hid (may12_any (a, n) ha W2)
  rw [hm] at HMAY
  clear hm
  have hd2 : ¬ d < 0 := by omega
  go_enter Try.func19, Try.ntmps19
  go_upto_region 1 with (fail)
  rw [← HW1.out]
  go_upto_region 9 with (fail)
  go_wp2_with fail
  go_at_call 35
  refine HMAY.out.mono ?_
  rintro e w3 ⟨rfl, hb3⟩
  have h3 := H2.out.below hb3
  have hk3 := HK2.out.below hb3 HK2.out.lt
  have HU3 := Lib.hid (HU.out.trans_ (Upd.ofBelow hb3 _))
  have lk3 := ev_k hk3
  have lp3 := ld_iC (w := w3) (b := w.heap.size) (o := 1) (z := po) (hk3.cell 1)
  have ld3 := ld_iC (w := w3) (b := w.heap.size) (o := 5) (z := d) (hk3.cell 5)
  have lf3 := rev_pf hk3
  have H3 := Lib.hid h3
  have HK3 := Lib.hid hk3
  clear hb3 h3 hk3 lk lp lc ld lf s0
  go_wp2_with fail
  go_ret2
  exact ⟨rfl, H3.out, HU3.out⟩
set_option maxRecDepth 100000 in
set_option maxHeartbeats 4000000 in
attribute [-go_sem] Instr.storeAt Instr.loadAt in
theorem do12_d_5 {w : World} {D rb : Nat} {av ov : Value} {room : Int} {c : Pc} {L : List Le} (h : RcM w D rb av ov room c L) (po _v : Int) (a : Nat) (n d : Int) (ha : a < 2 ^ 32) (hp0 : 0 ≤ po) (hp7 : po ≤ 7) (hm : mayP (a, n) = true) (hd : 0 < d) (hd3 : d ≤ 255) :
    Calls Try.prog 19 #[.pointer (some ⟨rb, 0, none⟩), .agg #[.int .i64 5, .int .i64 po, .int .i64 0, .int .u32 (a : Int), .int .i64 n, .int .i64 d]] w (Ref12 w D rb av room c L 2) := by
  obtain ⟨W1, W2, hW1, hW2, s0, h2, hk2, hu2⟩ := do12_front h (5) (po) (0) (a) (n) (d)
  have lk := ev_k hk2
  have lp := ld_iC (w := W2) (b := w.heap.size) (o := 1) (z := po) (hk2.cell 1)
  have lc := ld_iC (w := W2) (b := w.heap.size) (o := 2) (z := 0) (hk2.cell 2)
  have ld := ld_iC (w := W2) (b := w.heap.size) (o := 5) (z := d) (hk2.cell 5)
  have lf := rev_pf hk2
  have HU := Lib.hid hu2
  have H2 := Lib.hid h2
  have HK2 := Lib.hid hk2
  have HW1 := Lib.hid hW1.symm
  clear hW1 hW2 hu2 h2 hk2 h
  have hp2 : ¬ po < 0 := by omega
  have hp3 : ¬ 7 < po := by omega
  have HMAY := Lib.hid (may12_any (a, n) ha W2)
  rw [hm] at HMAY
  clear hm
  have hd2 : ¬ d < 0 := by omega
  have hd4 : ¬ 255 < d := by omega
  have hd5 : (d != 0) = true := by rw [bne_iff_ne]; omega
  go_enter Try.func19, Try.ntmps19
  go_upto_region 1 with (fail)
  rw [← HW1.out]
  go_upto_region 9 with (fail)
  go_wp2_with fail
  go_at_call 35
  refine HMAY.out.mono ?_
  rintro e w3 ⟨rfl, hb3⟩
  have h3 := H2.out.below hb3
  have hk3 := HK2.out.below hb3 HK2.out.lt
  have HU3 := Lib.hid (HU.out.trans_ (Upd.ofBelow hb3 _))
  have lk3 := ev_k hk3
  have lp3 := ld_iC (w := w3) (b := w.heap.size) (o := 1) (z := po) (hk3.cell 1)
  have ld3 := ld_iC (w := w3) (b := w.heap.size) (o := 5) (z := d) (hk3.cell 5)
  have lf3 := rev_pf hk3
  have H3 := Lib.hid h3
  have HK3 := Lib.hid hk3
  clear hb3 h3 hk3 lk lp lc ld lf s0
  go_wp2_with fail
  go_ret2
  exact ⟨rfl, H3.out, HU3.out⟩
end Go.Proofs.Ytahdjfegihnolaa
namespace Go.Proofs.Ytahdjfegihnolaa
open Go.RowKit Go.Sort
theorem sorted_nd {L : List Le} (hs : sortedL L) : (L.map (·.p)).Nodup := by
  unfold sortedL at hs
  have h3 : ∀ a b : Pf, lessP a b → a ≠ b := fun a b hh e => lessP_irrefl b (by rw [e] at hh; exact hh)
  exact List.Pairwise.imp (fun hh => h3 _ _ hh) hs
theorem at_uniq {L : List Le} (hs : sortedL L) {i j : Nat} {x y : Le} (hx : L[i]? = some x) (hy : L[j]? = some y) (e : y.p = x.p) : i = j := by
  obtain ⟨hi, rfl⟩ := List.getElem?_eq_some_iff.1 hx
  obtain ⟨hj, rfl⟩ := List.getElem?_eq_some_iff.1 hy
  unfold sortedL at hs
  have hp := List.pairwise_iff_getElem.1 hs
  rcases Nat.lt_trichotomy i j with h | h | h
  · have := hp i j (by simpa using hi) (by simpa using hj) h
    simp only [List.getElem_map] at this
    rw [e] at this
    exact absurd this (lessP_irrefl _)
  · exact h
  · have := hp j i (by simpa using hj) (by simpa using hi) h
    simp only [List.getElem_map] at this
    rw [e] at this
    exact absurd this (lessP_irrefl _)
theorem turn_set {L : List Le} (hs : sortedL L) {i : Nat} {x : Le} (hx : L[i]? = some x) (f : Le → Le) : turnE L x.p f = L.set i (f x) := by
  unfold turnE
  refine List.ext_getElem? fun j => ?_
  rw [List.getElem?_map]
  by_cases hij : i = j
  · subst hij
    rw [get_set hx, hx]
    simp
  · rw [List.getElem?_set_ne hij]
    cases hy : L[j]? with
    | none => rfl
    | some y =>
      have : y.p ≠ x.p := fun e => hij (at_uniq hs hx hy e)
      simp [this]
theorem out_set {L : List Le} (hs : sortedL L) {i : Nat} {x : Le} (hx : L[i]? = some x) (f : Le → List Tl) : outE L x.p f = f x := by
  have := outE_one (f := f) (G := glE L) (by
    have : (glE L).map (·.x.p) = L.map (·.p) := by unfold glE; rw [List.map_map]; rfl
    rw [this]; exact sorted_nd hs) (g := ⟨x, 0⟩) (List.mem_of_getElem? (glE_get hx))
  rwa [glE_x] at this
/-- What an event leaves. -/
def Done12 (w : World) (D rb : Nat) (av : Value) (room : Int) (c : Pc) (L : List Le) (ev : Ev) (e : Ending) (w' : World) : Prop :=
  ∃ v av' ov', e = .returned (.tuple #[v, .int .i64 (((doF ⟨room, c, L⟩ ev).2.2 : Nat) : Int)]) ∧ OutM w' w.heap.size v (doF ⟨room, c, L⟩ ev).2.1 ∧ RcM w' D rb av' ov' room (doF ⟨room, c, L⟩ ev).1.pc (doF ⟨room, c, L⟩ ev).1.all ∧ Upd (fun k => k = rb ∨ av.ownBlock = some k) w w' ∧ ∀ j, av'.ownBlock = some j → av.ownBlock = some j ∨ w.heap.size ≤ j
theorem Ref12.done {w : World} {D rb : Nat} {av : Value} {room : Int} {c : Pc} {L : List Le} {ev : Ev} {n : Nat} {cd : Int} {e : Ending} {w' : World} (h : Ref12 w D rb av room c L cd e w') (hn : doF ⟨room, c, L⟩ ev = (⟨room, c, L⟩, [], n)) (hc : cd = (n : Int)) : Done12 w D rb av room c L ev e w' := by
  unfold Done12
  rw [hn]
  obtain ⟨h1, h2, h3⟩ := h
  exact ⟨_, av, _, by rw [h1, hc], World.ownsRow_nil _ _ _ _, h2, h3.mono fun k (hk : k = rb) => .inl (.inl hk), fun j hj => .inl hj⟩
theorem do_step {c : Lc} {e : Ev} {pc : Pc} {l : List Le} {o : List Tl} (hw : wrongF c.pc e = 0) (hs : stepE c e = .inl (pc, l, o)) : doF c e = (⟨c.room, pc, (tidyW pc c.room l).1⟩, o ++ (tidyW pc c.room l).2, 0) := by
  unfold doF
  rw [if_neg (by rw [hw]; simp), hs]
theorem do12_no {c : Lc} {e : Ev} {n : Nat} (hw : wrongF c.pc e = 0) (hs : stepE c e = .inr n) : doF c e = (c, [], n) := by
  unfold doF
  rw [if_neg (by rw [hw]; simp), hs]
section
variable {w w4 w5 w6 : World} {D rb : Nat} {av ov1 : Value} {room : Int} {c pc : Pc} {L l : List Le} {e : Ev} {o : List Tl}
theorem tidy12_step (hok : LcOk ⟨room, c, L⟩) (hw : wrongF c e = 0) (hs : stepE ⟨room, c, L⟩ e = .inl (pc, l, o)) (hu : Upd (only rb) w w4) (hD : D ≤ w.heap.size) (m1 : RlM w4 rb w.heap.size D av room pc l o w5 ov1 (RcU rb av (.slice none 0 0))) :
    Calls Try.prog 43 #[.pointer (some ⟨rb, 0, none⟩)] w5 (Tidy12 w5 rb w.heap.size D room pc l o (RcU rb av ov1)) := by
  obtain ⟨h1, h2, h3, h4, h5⟩ := step_ok hok hw hs
  have h6 := step_len hs
  have h7 := hok.len
  dsimp only at h6 h7
  have h8 := Nat.le_trans hu.size m1.upd.size
  exact tidy12_any m1.com h4 h1 h3 m1.out h8 (by omega) (by omega) fun k hk => hk
theorem done12_of (hw : wrongF c e = 0) (hs : stepE ⟨room, c, L⟩ e = .inl (pc, l, o)) (hu : Upd (only rb) w w4) (m1 : RlM w4 rb w.heap.size D av room pc l o w5 ov1 (RcU rb av (.slice none 0 0))) {av2 ov2 : Value}
    (m2 : RlM w5 rb w.heap.size D av2 room pc (tidyW pc room l).1 (o ++ (tidyW pc room l).2) w6 ov2 (RcU rb av ov1)) (hown : ∀ j, av2.ownBlock = some j → RcU rb av ov1 j ∨ w5.heap.size ≤ j) : Done12 w D rb av room c L e (.returned (.tuple #[ov2, .int .i64 0])) w6 := by
  have hd := do_step (c := ⟨room, c, L⟩) hw hs
  unfold Done12
  rw [hd]
  have hs4 := hu.size
  have hs5 := m1.upd.size
  have hU : ∀ k, RcU rb av ov1 k → (k = rb ∨ av.ownBlock = some k) ∨ w.heap.size ≤ k := fun k hk => by
    rcases hk with hk | hk | hk
    · exact .inl (.inl hk)
    · exact .inl (.inr hk)
    · exact .inr (own_lt m1.out hk).1
  refine ⟨ov2, av2, ov2, rfl, m2.out, m2.com, ((hu.mono fun k (hk : k = rb) => .inl (.inl hk)).trans m1.upd fun k hk => ?_).trans m2.upd fun k hk => hU k hk, fun j hj => ?_⟩
  · rcases hk with hk | hk | hk
    · exact .inl (.inl hk)
    · exact .inl (.inr hk)
    · cases hk
  · rcases hown j hj with h | h
    · rcases hU j h with (h2 | h2) | h2
      · exact absurd (by rw [hj, h2]) m2.com.ne
      · exact .inl h2
      · exact .inr h2
    · exact .inr (by omega)
end
end Go.Proofs.Ytahdjfegihnolaa
