/- guidepostlaw16's same; keys compared. -/
import Derived.Test.YtihfihehiifdkaaRtJ
namespace Go.Proofs.Ytihfihehiifdkaa
open Go.RowKit Go.Sort
theorem natV_at {L : List Nat} {k x : Nat} (h : L[k]? = some x) : (natV L)[k]? = some (.int .i64 (x : Int)) := by simp [natV, h]
theorem Reads.nat {w : World} {I : Nat → Prop} {A : Option Addr} {n : Nat} {xs : List Nat} (h : Reads w I 1 A n (natV xs)) (hn : xs.length = n) {D : Nat} (hI : ∀ k, I k → k < D) {k : Nat} (hk : k < n) : ∃ ad x, A = some ad ∧ xs[k]? = some x ∧ ∀ wx, Below D w wx → wx.cell? (ad.add k) = some (.int .i64 (x : Int)) := by
  have hx : xs[k]? = some (xs[k]'(by omega)) := List.getElem?_eq_getElem _
  obtain ⟨ad, e, hj, hadl, hc⟩ := h.2 (by omega)
  exact ⟨ad, _, e, hx, fun wx hb => (hb.cell (by rw [block_of_add]; exact hI _ hj)).trans (hc _ _ (natV_at hx))⟩
theorem take_eq_nat {x y : List Nat} {k a b : Nat} (hx : x[k]? = some a) (hy : y[k]? = some b) (h : x.take k = y.take k) (e : a = b) : x.take (k + 1) = y.take (k + 1) := by
  obtain ⟨l1, e1⟩ := List.getElem?_eq_some_iff.1 hx
  obtain ⟨l2, e2⟩ := List.getElem?_eq_some_iff.1 hy
  rw [List.take_succ_eq_append_getElem l1, List.take_succ_eq_append_getElem l2, h, e1, e2, e]
set_option maxRecDepth 20000 in
set_option maxHeartbeats 1600000 in
theorem same16_any (A : Option Addr) (n c : Nat) (xs : List Nat) (A2 : Option Addr) (n2 c2 : Nat) (ys : List Nat) (I J : Nat → Prop) (w : World) (h : Reads w I 1 A n (natV xs)) (h2 : Reads w J 1 A2 n2 (natV ys)) (hn : xs.length = n) (hn2 : ys.length = n2) (hsm : n ≤ 1000000) :
    Calls Try.prog 47 #[.slice A n c, .slice A2 n2 c2] w fun e w' => e = .returned (.bool (decide (xs = ys))) ∧ Below w.heap.size w w' := by
  have HR := Lib.hid h.lt
  have HR2 := Lib.hid h2.lt
  have HN := Lib.hid hn
  have HN2 := Lib.hid hn2
  by_cases hnn : n = n2
  case neg =>
    have HRES := Lib.hid (show decide (xs = ys) = false from decide_eq_false (by rintro rfl; exact hnn (by omega)))
    have hne : ((n : Int) != (n2 : Int)) = true := by rw [bne_iff_ne]; omega
    have hne2 : (n != n2) = true := by rw [bne_iff_ne]; exact hnn
    clear h h2 hn hn2 hnn
    go_enter Try.func47, Try.ntmps47
    go_wp2_with fail
    go_ret
    exact ⟨by rw [HRES.out]; rfl, Below.refl _ _⟩
  case pos =>
  subst hnn
  clear h h2 hn hn2
  go_enter Try.func47, Try.ntmps47
  go_wp2_with fail
  go_loopw [5] (fun i wr => ∃ k : Nat, k ≤ n ∧ i = .int .i64 (k : Int) ∧ xs.take k = ys.take k ∧ Below w.heap.size w wr) (fun i _ => n - (intOf i).toNat)
  case atStart => exact ⟨0, Nat.zero_le _, rfl, rfl, Below.refl _ _⟩
  case round =>
    obtain ⟨k, hk, rfl, ht, hb⟩ := hrel
    have HT := Lib.hid ht
    have HB := Lib.hid hb
    clear ht hb
    by_cases hlt : k < n
    · have hd0 : decide ((k : Int) < (n : Int)) = true := decide_eq_true (by omega)
      have hd1 : decide (k < n) = true := decide_eq_true hlt
      obtain ⟨ad, x, rfl, hx, hc⟩ := HR.out.nat HN.out (D := w.heap.size) (fun _ hj => hj.2) hlt
      obtain ⟨ad2, y, rfl, hy, hc2⟩ := HR2.out.nat HN2.out (D := w.heap.size) (fun _ hj => hj.2) hlt
      have x1 := fun (dd : Nat) (os : Array Obj) => hc _ (HB.out.trans ((below_regrown wr dd os).mono HB.out.size))
      have x2 := fun (dd : Nat) (os : Array Obj) => hc2 _ (HB.out.trans ((below_regrown wr dd os).mono HB.out.size))
      have i0 : (0 : Int) ≤ k := by omega
      have i1 : (k : Int) < n := by omega
      have i2 : (k : Int) < 1000000 := by omega
      have HX := Lib.hid hx
      have HY := Lib.hid hy
      clear hc hc2 hx hy
      by_cases hxy : x = y
      · have e1 : ((x : Int) != (y : Int)) = false := by rw [bne_eq_false_iff_eq]; omega
        have e2 : (x != y) = false := by rw [bne_eq_false_iff_eq]; exact hxy
        have HT2 := Lib.hid (take_eq_nat HX.out HY.out HT.out hxy)
        clear hxy
        go_upto_region 6 with (fail)
        refine wp_region_quiet_below (by kernel_rfl) (by kernel_rfl) ?_
        repeat (go_big_quiet_step (fail))
        refine wpQuiet_nil ?_
        intro _ hw'
        obtain ⟨⟨dq, osq⟩, hw''⟩ := hw'
        subst hw''
        have HB2 := Lib.hid (HB.out.trans ((below_regrown wr dq osq).mono HB.out.size))
        clear x1 x2
        generalize grow (redrawn wr dq) osq = wq at HB2 ⊢
        go_wp2_with fail
        go_roundw
        case rel => exact ⟨k + 1, hlt, rfl, HT2.out, HB2.out⟩
        case measure => simp [intOf]; omega
      · have e1 : ((x : Int) != (y : Int)) = true := by rw [bne_iff_ne]; omega
        have e2 : (x != y) = true := by rw [bne_iff_ne]; exact hxy
        have HRES := Lib.hid (show decide (xs = ys) = false from decide_eq_false (by
          intro e
          have h1 := HX.out
          rw [e, HY.out] at h1
          injection h1 with h1
          exact hxy h1.symm))
        clear hxy
        go_upto_region 6 with (fail)
        refine wp_region_quiet_below (by kernel_rfl) (by kernel_rfl) ?_
        repeat (go_big_quiet_step (fail))
        refine wpQuiet_nil ?_
        intro _ hw'
        obtain ⟨⟨dq, osq⟩, hw''⟩ := hw'
        subst hw''
        have HB2 := Lib.hid (HB.out.trans ((below_regrown wr dq osq).mono HB.out.size))
        clear x1 x2
        generalize grow (redrawn wr dq) osq = wq at HB2 ⊢
        go_wp2_with fail
        go_ret
        exact ⟨by rw [HRES.out]; rfl, HB2.out⟩
    · obtain rfl : k = n := by omega
      have hd0 : decide ((k : Int) < (k : Int)) = false := decide_eq_false (by omega)
      have hd1 : decide (k < k) = false := decide_eq_false (by omega)
      have HRES := Lib.hid (show decide (xs = ys) = true from decide_eq_true (by
        have := HT.out
        rw [List.take_of_length_le (Nat.le_of_eq HN.out), List.take_of_length_le (Nat.le_of_eq HN2.out)] at this
        exact this))
      clear hk hlt
      go_wp2_with fail
      go_ret
      exact ⟨by rw [HRES.out]; rfl, HB.out⟩
theorem eql_pc (a b : Key) (w : World) : (binOp .eql 68 (pcV a) (pcV b)).run Try.prog w = .ok (.bool (decide (a = b))) w := by
  obtain ⟨a1, a2, a3, a4⟩ := a
  obtain ⟨b1, b2, b3, b4⟩ := b
  unfold pcV pcC
  go_simp
  by_cases h1 : (a1 : Int) = (b1 : Int)
  · rw [if_pos h1]
    have h1' : a1 = b1 := by omega
    by_cases h2 : (a2 : Int) = (b2 : Int)
    · rw [if_pos h2]
      have h2' : a2 = b2 := by omega
      by_cases h3 : (a3 : Int) = (b3 : Int)
      · rw [if_pos h3]
        have h3' : a3 = b3 := by omega
        by_cases h4 : (a4 : Int) = (b4 : Int)
        · rw [if_pos h4]
          have h4' : a4 = b4 := by omega
          simp [h1', h2', h3', h4']
        · rw [if_neg h4]
          have h4' : ¬ a4 = b4 := by omega
          simp [h4']
      · rw [if_neg h3]
        have h3' : ¬ a3 = b3 := by omega
        simp [h3']
    · rw [if_neg h2]
      have h2' : ¬ a2 = b2 := by omega
      simp [h2']
  · rw [if_neg h1]
    have h1' : ¬ a1 = b1 := by omega
    simp [h1']
end Go.Proofs.Ytihfihehiifdkaa
