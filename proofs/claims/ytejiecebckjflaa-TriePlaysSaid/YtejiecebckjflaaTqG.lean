/- The document's prefixes: Within, Compare. -/
import Derived.Test.YtejiecebckjflaaTqF
namespace Go.Proofs.Ytejiecebckjflaa
open Go.RowKit Go.Sort Go.BigFrame

/-- Is q within p? -/
def withinP (p q : Px) : Bool := p.may && q.may && decide (p.n ≤ q.n) && decide (firstB q.a p.n.toNat = p.a)
theorem withinP_iff {p q : Px} (ha : p.a < 2 ^ 32) (hb : q.a < 2 ^ 32) (hp : p.may = true) (hq : q.may = true) : withinP p q = decide (pB p <+: pB q) := by
  obtain ⟨p1, p2, p3⟩ := pB_may ha hp
  obtain ⟨q1, q2, q3⟩ := pB_may hb hq
  have hn : p.n.toNat = (pB p).length := by omega
  unfold withinP
  rw [hp, hq, Bool.true_and, Bool.true_and, ← Bool.decide_and, decide_eq_decide, hn, ← p2, has_iff p1 hb]
  constructor
  · rintro ⟨h1, h2⟩
    have h3 : pB q = (bitsB q.a 32).take (pB q).length := by rw [bitsB_take _ _ _ q1, ← q2, bits_pad _ q1]
    rw [h3]
    exact List.prefix_take_iff.2 ⟨h2, by omega⟩
  · intro h
    have h3 : pB q <+: bitsB q.a 32 := by
      have : pB q = (bitsB q.a 32).take (pB q).length := by rw [bitsB_take _ _ _ q1, ← q2, bits_pad _ q1]
      rw [this]
      exact List.take_prefix _ _
    exact ⟨by have := h.length_le; omega, h.trans h3⟩

set_option maxHeartbeats 2000000 in
theorem within_any (p q : Px) (w : World) (ha : p.a < 2 ^ 32) (hb : q.a < 2 ^ 32) : Calls Try.prog 26 #[pxV p.a p.n, pxV q.a q.n] w fun e w' => e = .returned (.bool (withinP p q)) ∧ Below w.heap.size w w' := by
  obtain ⟨w1, hw1⟩ : ∃ w1, w1 = (w.alloc (.cells #[.int .u32 (p.a : Int), .int .i64 p.n] 31)).alloc (.cells #[.int .u32 (q.a : Int), .int .i64 q.n] 31) := ⟨_, rfl⟩
  have hk : Blk w1 w.heap.size 31 #[.int .u32 (p.a : Int), .int .i64 p.n] := by rw [hw1]; exact (Blk.new _ _ _).alloc _
  have hk2 : Blk w1 (w.heap.size + 1) 31 #[.int .u32 (q.a : Int), .int .i64 q.n] := by
    rw [hw1]
    have := Blk.new (w.alloc (.cells #[.int .u32 (p.a : Int), .int .i64 p.n] 31)) 31 #[.int .u32 (q.a : Int), .int .i64 q.n]
    simpa using this
  have hB : Below w.heap.size w w1 := by rw [hw1]; exact ((Below.refl _ _).alloc (Nat.le_refl _) _).alloc (by simp) _
  have y0 : w1.cell? ⟨w.heap.size, 0, none⟩ = some (.int .u32 (p.a : Int)) := hk.cell 0
  have y1 : w1.cell? ⟨w.heap.size, 1, none⟩ = some (.int .i64 p.n) := hk.cell 1
  have y2 : w1.cell? ⟨w.heap.size + 1, 0, none⟩ = some (.int .u32 (q.a : Int)) := hk2.cell 0
  have y3 : w1.cell? ⟨w.heap.size + 1, 1, none⟩ = some (.int .i64 q.n) := hk2.cell 1
  have HB := Lib.hid hB
  have HW := Lib.hid hw1
  have HM := Lib.hid (fun wx => mayp_any p wx ha)
  have HN := Lib.hid (fun wx => mayp_any q wx hb)
  clear hk hk2 hB hw1
  cases hp : p.may with
  | false =>
    have hres : withinP p q = false := by unfold withinP; rw [hp]; rfl
    rw [hres]
    rw [hp] at HM
    clear hres hp
    go_enter Try.func26, Try.ntmps26
    go_wp2_with fail
    rw [← HW.out]
    have k0 := cell_regrown y0
    have k1 := cell_regrown y1
    have k2 := cell_regrown y2
    have k3 := cell_regrown y3
    have hcm := fun (d : Nat) (os : Array Obj) => Calls.regrown_of (HM.out (grow (redrawn w1 d) os))
    refine wp_region_quiet_below (by kernel_rfl) (by kernel_rfl) ?_
    repeat (go_big_quiet_step (exact hcm _ _))
    refine wpQuiet_nil ?_
    intro _ hw'
    obtain ⟨⟨dq, osq⟩, hw''⟩ := hw'
    subst hw''
    have hbq := below_regrown w1 dq osq
    generalize grow (redrawn w1 dq) osq = wq at hbq
    clear k0 k1 k2 k3 hcm
    go_wp2_with fail
    go_ret
    exact ⟨rfl, HB.out.trans (hbq.mono HB.out.size)⟩
  | true =>
    rw [hp] at HM
    cases hq : q.may with
    | false =>
      have hres : withinP p q = false := by unfold withinP; rw [hp, hq]; rfl
      rw [hres]
      rw [hq] at HN
      clear hres hp hq
      go_enter Try.func26, Try.ntmps26
      go_wp2_with fail
      rw [← HW.out]
      have k0 := cell_regrown y0
      have k1 := cell_regrown y1
      have k2 := cell_regrown y2
      have k3 := cell_regrown y3
      have hcm := fun (d : Nat) (os : Array Obj) => Calls.regrown_of (HM.out (grow (redrawn w1 d) os))
      have hcn := fun (d : Nat) (os : Array Obj) => Calls.regrown_of (HN.out (grow (redrawn w1 d) os))
      refine wp_region_quiet_below (by kernel_rfl) (by kernel_rfl) ?_
      repeat (go_big_quiet_step (first | with_reducible exact hcm _ _ | with_reducible exact hcn _ _))
      refine wpQuiet_nil ?_
      intro _ hw'
      obtain ⟨⟨dq, osq⟩, hw''⟩ := hw'
      subst hw''
      have hbq := below_regrown w1 dq osq
      generalize grow (redrawn w1 dq) osq = wq at hbq
      clear k0 k1 k2 k3 hcm hcn
      go_wp2_with fail
      go_ret
      exact ⟨rfl, HB.out.trans (hbq.mono HB.out.size)⟩
    | true =>
      rw [hq] at HN
      obtain ⟨p1, p2, p3⟩ := pB_may ha hp
      obtain ⟨q1, q2, q3⟩ := pB_may hb hq
      obtain ⟨n, hn⟩ : ∃ n : Nat, p.n = (n : Int) := ⟨(pB p).length, p3.symm⟩
      obtain ⟨m, hm⟩ : ∃ m : Nat, q.n = (m : Int) := ⟨(pB q).length, q3.symm⟩
      have hn32 : n ≤ 32 := by omega
      have hres : withinP p q = (decide (n ≤ m) && (((firstB q.a n : Nat) : Int) == (p.a : Int))) := by
        unfold withinP
        rw [hp, hq, Bool.true_and, Bool.true_and, hn, hm, Int.toNat_natCast]
        congr 1
        · rw [decide_eq_decide]; omega
        · rw [Bool.eq_iff_iff, decide_eq_true_iff, beq_iff_eq]; omega
      have HF := Lib.hid (fun wx => first_any q.a n wx hb hn32)
      rw [hn] at y1 HM HW ⊢
      rw [hm] at y3 HN HW ⊢
      by_cases hle : n ≤ m
      · have HR := Lib.hid hres
        have hd : decide (n ≤ m) = true := decide_eq_true hle
        have hd2 : (n : Int) ≤ m := by omega
        clear hres hp hq p1 p2 p3 q1 q2 q3 hn hm
        go_enter Try.func26, Try.ntmps26
        go_wp2_with fail
        rw [← HW.out]
        have k0 := cell_regrown y0
        have k1 := cell_regrown y1
        have k2 := cell_regrown y2
        have k3 := cell_regrown y3
        have hcm := fun (d : Nat) (os : Array Obj) => Calls.regrown_of (HM.out (grow (redrawn w1 d) os))
        have hcn := fun (d : Nat) (os : Array Obj) => Calls.regrown_of (HN.out (grow (redrawn w1 d) os))
        have hcf := fun (d : Nat) (os : Array Obj) => Calls.regrown_of ((HF.out (grow (redrawn w1 d) os)).mono fun r w' h => (⟨h.1, h.2 ▸ Below.refl _ _⟩ : r = .returned (.int .u32 (firstB q.a n : Int)) ∧ Below (grow (redrawn w1 d) os).heap.size (grow (redrawn w1 d) os) w'))
        refine wp_region_quiet_below (by kernel_rfl) (by kernel_rfl) ?_
        repeat (go_big_quiet_step (first | with_reducible exact hcm _ _ | with_reducible exact hcn _ _ | with_reducible exact hcf _ _))
        refine wpQuiet_nil ?_
        intro _ hw'
        obtain ⟨⟨dq, osq⟩, hw''⟩ := hw'
        subst hw''
        have hbq := below_regrown w1 dq osq
        generalize grow (redrawn w1 dq) osq = wq at hbq
        clear k0 k1 k2 k3 hcm hcn hcf
        go_wp2_with fail
        go_ret
        exact ⟨ret_boolT (by rw [HR.out, hd, Bool.true_and]), HB.out.trans (hbq.mono HB.out.size)⟩
      · have hr2 : withinP p q = false := by rw [hres, decide_eq_false hle, Bool.false_and]
        rw [hr2]
        have hd : decide (n ≤ m) = false := decide_eq_false hle
        have hd2 : ¬ (n : Int) ≤ m := by omega
        have hd3 : decide ((n : Int) ≤ m) = false := decide_eq_false hd2
        clear hres hr2 hp hq p1 p2 p3 q1 q2 q3 hn hm
        go_enter Try.func26, Try.ntmps26
        go_wp2_with fail
        rw [← HW.out]
        have k0 := cell_regrown y0
        have k1 := cell_regrown y1
        have k2 := cell_regrown y2
        have k3 := cell_regrown y3
        have hcm := fun (d : Nat) (os : Array Obj) => Calls.regrown_of (HM.out (grow (redrawn w1 d) os))
        have hcn := fun (d : Nat) (os : Array Obj) => Calls.regrown_of (HN.out (grow (redrawn w1 d) os))
        refine wp_region_quiet_below (by kernel_rfl) (by kernel_rfl) ?_
        repeat (go_big_quiet_step (first | with_reducible exact hcm _ _ | with_reducible exact hcn _ _))
        refine wpQuiet_nil ?_
        intro _ hw'
        obtain ⟨⟨dq, osq⟩, hw''⟩ := hw'
        subst hw''
        have hbq := below_regrown w1 dq osq
        generalize grow (redrawn w1 dq) osq = wq at hbq
        clear k0 k1 k2 k3 hcm hcn
        go_wp2_with fail
        go_ret
        exact ⟨rfl, HB.out.trans (hbq.mono HB.out.size)⟩

/-- The order of prefixes, as the document has it. -/
def cmpP (p q : Px) : Int := if p.a = q.a ∧ p.n = q.n then 0 else if p.a < q.a ∨ (p.a = q.a ∧ p.n < q.n) then -1 else 1
set_option maxHeartbeats 2000000 in
theorem compare_any (p q : Px) (w : World) : Calls Try.prog 25 #[pxV p.a p.n, pxV q.a q.n] w fun e w' => e = .returned (.int .i64 (cmpP p q)) ∧ Below w.heap.size w w' := by
  obtain ⟨a, n⟩ := p
  obtain ⟨b, m⟩ := q
  simp only [cmpP]
  have hB : Below w.heap.size w ((w.alloc (.cells #[.int .u32 (a : Int), .int .i64 n] 31)).alloc (.cells #[.int .u32 (b : Int), .int .i64 m] 31)) := ((Below.refl _ _).alloc (Nat.le_refl _) _).alloc (by simp) _
  have HB := Lib.hid hB
  clear hB
  have he := fun w => eql_px a b n m w
  by_cases h1 : a = b ∧ n = m
  · obtain ⟨rfl, rfl⟩ := h1
    rw [if_pos ⟨rfl, rfl⟩]
    rw [decide_eq_true ⟨rfl, rfl⟩] at he
    go_enter Try.func25, Try.ntmps25
    go_wp2_with fail
    go_ret
    exact ⟨rfl, HB.out⟩
  · rw [if_neg h1]
    rw [decide_eq_false h1] at he
    by_cases h2 : a < b
    · rw [if_pos (.inl h2)]
      have d1 : decide ((a : Int) < b) = true := decide_eq_true (by omega)
      have d2 : decide (a < b) = true := decide_eq_true h2
      clear h1
      go_enter Try.func25, Try.ntmps25
      go_wp2_with fail
      go_ret
      exact ⟨rfl, HB.out⟩
    · by_cases h3 : a = b
      · subst h3
        by_cases h4 : n < m
        · rw [if_pos (.inr ⟨rfl, h4⟩)]
          have d1 : decide (n < m) = true := decide_eq_true h4
          clear h1 h2
          go_enter Try.func25, Try.ntmps25
          go_wp2_with fail
          go_ret
          exact ⟨rfl, HB.out⟩
        · rw [if_neg (by rintro (h | ⟨_, h⟩); exact h2 h; exact h4 h)]
          have d1 : decide (n < m) = false := decide_eq_false h4
          clear h1 h2
          go_enter Try.func25, Try.ntmps25
          go_wp2_with fail
          go_ret
          exact ⟨rfl, HB.out⟩
      · rw [if_neg (by rintro (h | ⟨h, _⟩); exact h2 h; exact h3 h)]
        have d1 : decide ((a : Int) < b) = false := decide_eq_false (by omega)
        have d2 : decide (a < b) = false := decide_eq_false h2
        have d3 : ((a : Int) == (b : Int)) = false := beq_eq_false_iff_ne.2 (by omega)
        have d4 : (a == b) = false := beq_eq_false_iff_ne.2 h3
        clear h1
        go_enter Try.func25, Try.ntmps25
        go_wp2_with fail
        go_ret
        exact ⟨rfl, HB.out⟩
end Go.Proofs.Ytejiecebckjflaa
