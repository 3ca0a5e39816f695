/- guidepostref03.SameOptions. -/
import Derived.Test.YtfddkehnhkfjeaaIrE
namespace Go.Proofs.Ytfddkehnhkfjeaa
open Go.RowKit Go.Sort
theorem take_snoc_eq {α : Type} {L M : List α} {k : Nat} {s t : α} (hs : L[k]? = some s) (ht : M[k]? = some t) (h : L.take k = M.take k) (e : s = t) : L.take (k + 1) = M.take (k + 1) := by
  have h1 := (List.getElem?_eq_some_iff.1 hs)
  have h2 := (List.getElem?_eq_some_iff.1 ht)
  obtain ⟨l1, e1⟩ := h1
  obtain ⟨l2, e2⟩ := h2
  rw [List.take_succ_eq_append_getElem l1, List.take_succ_eq_append_getElem l2, h, e1, e2, e]
/-- The cells of option k, in every world that is as w below D. -/
theorem opt_cells {D : Nat} {w : World} {J : Nat → Prop} {ad : Addr} {N : Nat} {us : List (UInt8 × Value)} {L : List (UInt8 × By)} (hr : Reads w J 2 (some ad) N (us.flatMap optC)) (he : OptE J w us L) (hJ : ∀ k, J k → k < D) {k : Nat} {s : UInt8 × By} (hs : L[k]? = some s) (hk : k < N) :
    ∃ A2 c2, ∀ wx, Below D w wx → wx.cell? (ad.add (k * 2)) = some (.int .u8 (s.1.toNat : Int)) ∧ wx.cell? ⟨(ad.add (k * 2)).block, (ad.add (k * 2)).off + 1, none⟩ = some (.slice A2 s.2.length c2) ∧ (convert 22 9 (.slice A2 s.2.length c2)).run Try.prog wx = .ok (.string ⟨s.2.toArray⟩) wx := by
  obtain ⟨u, hu, hsl⟩ := he.get hs
  obtain ⟨A2, c2, rfl, _, hr2⟩ := hsl
  obtain ⟨g0, g1⟩ := optC_get hu
  simp only at g0 g1
  obtain ⟨ad', e, hj, hadl, hc⟩ := hr.2 (by omega)
  injection e with e
  subst e
  refine ⟨A2, c2, fun wx hx => ⟨(hx.cell (by rw [block_of_add]; exact hJ _ hj)).trans (hc _ _ g0), ?_, run_str wx _ A2 s.2 c2 (hr2.keep (Same.ofBelow hx hJ))⟩⟩
  have e : ad.add (k * 2 + 1) = ⟨(ad.add (k * 2)).block, (ad.add (k * 2)).off + 1, none⟩ := by rw [← add_of_add, add_pos _ 1 (by decide)]
  rw [← e]
  exact (hx.cell (by rw [block_of_add]; exact hJ _ hj)).trans (hc _ _ g1)
set_option maxRecDepth 20000 in
set_option maxHeartbeats 3200000 in
theorem sameopts_any (v v2 : Value) (L L2 : List (UInt8 × By)) (J J2 : Nat → Prop) (w : World) (h : OptV w J v L) (h2 : OptV w J2 v2 L2) (hJ : ∀ k, J k → k < w.heap.size) (hJ2 : ∀ k, J2 k → k < w.heap.size) (hsm : L.length ≤ 1000000) :
    Calls Try.prog 21 #[v, v2] w fun e w' => e = .returned (.bool (decide (L = L2))) ∧ Below w.heap.size w w' := by
  obtain ⟨A, c, us, rfl, hr, he⟩ := h
  obtain ⟨A2, c2, us2, rfl, hr2, he2⟩ := h2
  obtain ⟨N, hN⟩ : ∃ N, N = L.length := ⟨_, rfl⟩
  obtain ⟨N2, hN2⟩ : ∃ N, N = L2.length := ⟨_, rfl⟩
  rw [← hN] at hr hsm ⊢
  rw [← hN2] at hr2 ⊢
  have HR := Lib.hid hr
  have HE := Lib.hid he
  have HR2 := Lib.hid hr2
  have HE2 := Lib.hid he2
  have HN := Lib.hid hN
  have HN2 := Lib.hid hN2
  by_cases hnn : N = N2
  case neg =>
    have hres : decide (L = L2) = false := decide_eq_false (by rintro rfl; exact hnn (by rw [hN, hN2]))
    have hne : ((N : Int) != (N2 : Int)) = true := by rw [bne_iff_ne]; omega
    have hne2 : (N != N2) = true := by rw [bne_iff_ne]; exact hnn
    rw [hres]
    clear hr he hr2 he2 hN hN2 hnn hres
    go_enter Try.func21, Try.ntmps21
    go_wp2_with fail
    go_ret
    exact ⟨rfl, Below.refl _ _⟩
  case pos =>
  subst hnn
  clear hr he hr2 he2 hN hN2
  go_enter Try.func21, Try.ntmps21
  go_wp2_with fail
  go_loopw [5] (fun i wr => ∃ k : Nat, k ≤ N ∧ i = .int .i64 (k : Int) ∧ L.take k = L2.take k ∧ Below w.heap.size w wr) (fun i _ => N - (intOf i).toNat)
  case atStart => exact ⟨0, Nat.zero_le _, rfl, rfl, Below.refl _ _⟩
  case round =>
    obtain ⟨k, hk, rfl, ht, hb⟩ := hrel
    have HT := Lib.hid ht
    have HB := Lib.hid hb
    clear ht hb
    by_cases hlt : k < N
    · obtain ⟨s, hs⟩ : ∃ s, L[k]? = some s := ⟨L[k]'(by rw [← HN.out]; exact hlt), List.getElem?_eq_getElem _⟩
      obtain ⟨t, ht⟩ : ∃ t, L2[k]? = some t := ⟨L2[k]'(by rw [← HN2.out]; exact hlt), List.getElem?_eq_getElem _⟩
      obtain ⟨ad, rfl, _, _⟩ := HR.out.2 (by omega)
      obtain ⟨ae, rfl, _, _⟩ := HR2.out.2 (by omega)
      obtain ⟨A3, c3, hc3⟩ := opt_cells HR.out HE.out hJ hs hlt
      obtain ⟨A4, c4, hc4⟩ := opt_cells HR2.out HE2.out hJ2 ht hlt
      have hw : ∀ q, Below w.heap.size w (wr.drewN q) := fun q => ⟨HB.out.os, HB.out.tape, HB.out.output, HB.out.size, HB.out.block⟩
      obtain ⟨m3, hm3⟩ : ∃ m, m = s.2.length := ⟨_, rfl⟩
      obtain ⟨m4, hm4⟩ : ∃ m, m = t.2.length := ⟨_, rfl⟩
      obtain ⟨b3, hb3⟩ : ∃ b, b = s.1.toNat := ⟨_, rfl⟩
      obtain ⟨b4, hb4⟩ : ∃ b, b = t.1.toNat := ⟨_, rfl⟩
      obtain ⟨x3, hx3⟩ : ∃ x, x = s.2 := ⟨_, rfl⟩
      obtain ⟨x4, hx4⟩ : ∃ x, x = t.2 := ⟨_, rfl⟩
      rw [← hb3, ← hm3, ← hx3] at hc3
      rw [← hb4, ← hm4, ← hx4] at hc4
      have a1 := (hc3 wr HB.out).1
      have a2 := (hc3 wr HB.out).2.1
      have a3 := fun q => (hc3 _ (hw q)).2.2
      have a4 := (hc4 wr HB.out).1
      have a5 := (hc4 wr HB.out).2.1
      have a6 := fun q => (hc4 _ (hw q)).2.2
      have hi0 : (0 : Int) ≤ k := by omega
      have hi1 : (k : Int) < N := by omega
      have hd0 : decide ((k : Int) < (N : Int)) = true := decide_eq_true (by omega)
      have hd1 : decide (k < N) = true := decide_eq_true hlt
      have HST := Lib.hid (take_snoc_eq hs ht HT.out)
      have HNE := Lib.hid (show s ≠ t → decide (L = L2) = false from fun hne => decide_eq_false (by rintro rfl; rw [hs] at ht; injection ht with ht; exact hne ht))
      have HSE := Lib.hid (show (b3 = b4 ∧ x3 = x4) ↔ s = t from by
        rw [hb3, hb4, hx3, hx4]
        constructor
        · rintro ⟨h1, h2⟩; exact Prod.ext (UInt8.toNat_inj.1 h1) h2
        · rintro rfl; exact ⟨rfl, rfl⟩)
      have hbq : ∀ q, Below w.heap.size w (wr.drewN q) := hw
      have HBQ := Lib.hid hbq
      clear hs ht hc3 hc4 hw hm3 hm4 hb3 hb4 hx3 hx4 hbq
      by_cases e1 : b3 = b4
      · have n1 : ((b3 : Int) != (b4 : Int)) = false := by rw [bne_eq_false_iff_eq]; omega
        have n1' : (b3 != b4) = false := by rw [bne_eq_false_iff_eq]; exact e1
        by_cases e2 : x3 = x4
        · have hse := HSE.out.1 ⟨e1, e2⟩
          have HTK := Lib.hid (HST.out hse)
          have n2 : (x3 == x4) = true := by rw [beq_iff_eq]; exact e2
          clear e1 e2 hse
          go_wp2_with fail
          go_quiet (fail)
          have HB2 := Lib.hid (HBQ.out nq)
          go_wp2_with fail
          go_roundw
          case rel => exact ⟨k + 1, by omega, rfl, HTK.out, HB2.out⟩
          case measure => simp [intOf]; omega
        · have hres := HNE.out (fun e => e2 (HSE.out.2 e).2)
          have n2 : (x3 == x4) = false := by rw [beq_eq_false_iff_ne]; exact e2
          have HRES := Lib.hid hres
          clear e1 e2 hres
          go_wp2_with fail
          go_quiet (fail)
          have HB2 := Lib.hid (HBQ.out nq)
          go_wp2_with fail
          go_ret
          exact ⟨by rw [HRES.out]; rfl, HB2.out⟩
      · have hres := HNE.out (fun e => e1 (HSE.out.2 e).1)
        have n1 : ((b3 : Int) != (b4 : Int)) = true := by rw [bne_iff_ne]; omega
        have n1' : (b3 != b4) = true := by rw [bne_iff_ne]; exact e1
        have HRES := Lib.hid hres
        clear e1 hres
        go_wp2_with fail
        go_quiet (fail)
        have HB2 := Lib.hid (HBQ.out nq)
        go_wp2_with fail
        go_ret
        exact ⟨by rw [HRES.out]; rfl, HB2.out⟩
    · obtain rfl : k = N := by omega
      have hd0 : decide ((k : Int) < (k : Int)) = false := decide_eq_false (by omega)
      have hd1 : decide (k < k) = false := decide_eq_false (by omega)
      have hres : decide (L = L2) = true := decide_eq_true (by
        have := HT.out
        rwa [List.take_of_length_le (by rw [← HN.out]; exact Nat.le_refl _), List.take_of_length_le (by rw [← HN2.out]; exact Nat.le_refl _)] at this)
      have HRES := Lib.hid hres
      clear hres hd0
      go_wp2_with fail
      go_ret
      exact ⟨by rw [HRES.out]; rfl, HB.out⟩
end Go.Proofs.Ytfddkehnhkfjeaa
