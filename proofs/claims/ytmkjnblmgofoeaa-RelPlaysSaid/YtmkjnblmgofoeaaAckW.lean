/- The walk of RelAcks. -/
import Derived.Test.YtmkjnblmgofoeaaKnR
namespace Go.Proofs.Ytmkjnblmgofoeaa
open Go.RowKit

/-- A segment of an argument. -/
def SgRd (w : World) (g : Sg) : Prop := ∃ A c, g.u = .slice A g.x.length c ∧ Reads w (fun k => k < w.heap.size) 1 A g.x.length (bytesV g.x)

theorem add_after (ad : Addr) (i j : Nat) (h : 0 < j) : ad.add (i + j) = ⟨(ad.add i).block, (ad.add i).off + j, none⟩ := by
  unfold Addr.add
  rw [if_neg (by omega)]
  split
  · subst_vars; simp
  · simp; omega

def ssA (T : Nat) (owed : Bool) : SS := { again := 100, acked := 0, xs := [], sent := 0, taken := T, owed := owed, silent := 0 }
theorem ssA_ok (T : Nat) (o : Bool) (h : T ≤ 1000) : (ssA T o).ok := ⟨by show 1 ≤ 100; omega, by show 100 ≤ 100; omega, by show 0 ≤ 1000000; omega, by show 0 ≤ 60000; omega, by show 0 ≤ 0; omega, by show 0 ≤ 8; omega, by show T ≤ 1000000; omega, by show 0 ≤ 1000000; omega⟩
theorem ssA_short (T : Nat) (o : Bool) : ∀ x ∈ (ssA T o).xs, x.length ≤ 1024 := fun x hx => by cases hx
theorem dueS_A (T : Nat) (o : Bool) : dueS (ssA T o) = ssA T false := by cases o <;> rfl
theorem dueL_A0 (T : Nat) : dueL (ssA T false) = [] := by rfl
theorem dueL_A1 (T : Nat) : dueL (ssA T true) = [(0, T, [])] := by rfl

set_option maxHeartbeats 4000000 in
set_option maxRecDepth 8000 in
theorem acks_any (A : Option Addr) (n c : Nat) (gs : List Sg) (w : World) (r : Reads w (fun k => k < w.heap.size) 3 A n (sgCells gs)) (hl : gs.length = n) (hg : ∀ g ∈ gs, SgRd w g) :
    Calls Try.prog 3 #[.slice A n c] w fun e w' => e = .returned (.bool true) ∧ Below w.heap.size w w' := by
  have R := Lib.hid r
  have HG := Lib.hid hg
  have HL := Lib.hid hl
  clear r hg hl
  by_cases hbig : 100 < n
  · go_enter Try.func3, Try.ntmps3
    go_wp2_with (go_at_call 8; refine (known_any _).mono ?_; rintro e w' ⟨rfl, hb⟩)
    go_ret
    exact ⟨rfl, hb⟩
  go_enter Try.func3, Try.ntmps3
  go_wp2_with fail
  refine (new_at 100 w.heap.size w w (Below.refl _ _) (Nat.le_refl _) (by omega) (by omega)).mono ?_
  rintro e w1 ⟨rfl, h1⟩
  have h1' : At w.heap.size w w1 w.heap.size (ssA 0 false) := h1
  have H1 := Lib.hid h1'
  clear h1 h1'
  go_wp2_with fail
  go_loopw [5, 6] (fun tv i wr => ∃ k T : Nat, i = .int .i64 (k : Int) ∧ tv = .int .u64 (T : Int) ∧ k ≤ n ∧ T ≤ k ∧ At w.heap.size w wr w.heap.size (ssA T false)) (fun _ i _ => n - (intOf i).toNat)
  case atStart => exact ⟨0, 0, rfl, rfl, by omega, by omega, H1.out⟩
  case round =>
    obtain ⟨k, T, rfl, rfl, hk, hT, st⟩ := hrel
    have ST := Lib.hid st
    clear st
    by_cases hlt : k < n
    · obtain ⟨g, hgk⟩ : ∃ g, gs[k]? = some g := ⟨gs[k]'(by rw [HL.out]; exact hlt), List.getElem?_eq_getElem _⟩
      obtain ⟨Ab, cb, hu, hRb⟩ := HG.out g (List.mem_of_getElem? hgk)
      have hRb' := hRb.keep (Same.ofBelow ST.out.below fun _ h => h)
      have RB := Lib.hid hRb'
      obtain ⟨ad, rfl, _, hadl, hc⟩ := R.out.2 (by omega)
      obtain ⟨q, a, u, x⟩ := g
      simp only at hu
      subst hu
      obtain ⟨e0, e1, e2⟩ := sgCells_get gs k _ hgk
      have hbl := ST.out.below
      have hcc0 : wr.cell? (ad.add (k * 3)) = some (.int .u64 q) := (hbl.cell (by rw [block_of_add]; exact hadl)).trans (hc _ _ e0)
      have hcc1 : wr.cell? ⟨(ad.add (k * 3)).block, (ad.add (k * 3)).off + 1, none⟩ = some (.int .u64 a) := by
        rw [← add_after ad (k * 3) 1 (by omega)]
        exact (hbl.cell (by rw [block_of_add]; exact hadl)).trans (hc _ _ e1)
      have hcc2 : wr.cell? ⟨(ad.add (k * 3)).block, (ad.add (k * 3)).off + 2, none⟩ = some (.slice Ab x.length cb) := by
        rw [← add_after ad (k * 3) 2 (by omega)]
        exact (hbl.cell (by rw [block_of_add]; exact hadl)).trans (hc _ _ e2)
      have hC : ∀ w2, Below w.heap.size w w2 → w2.cell? (ad.add (k * 3)) = some (.int .u64 q) := fun w2 hb => (hb.cell (by rw [block_of_add]; exact hadl)).trans (hc _ _ e0)
      have HC := Lib.hid hC
      clear hRb hRb' hc e0 e1 e2 hbl hgk hadl hC
      have hi0 : (0 : Int) ≤ k := by omega
      have hi1 : (k : Int) < n := by omega
      by_cases hx : 1024 < x.length
      · go_wp2_with fail
        refine (takelong_at ST.out (by show 1 ≤ 100; omega) hx).mono ?_
        rintro e w2 ⟨rfl, h2⟩
        have H2 := Lib.hid h2
        clear h2
        go_wp2_with fail
        go_roundw
        case rel => exact ⟨k + 1, T, by simp, rfl, by omega, by omega, H2.out⟩
        case measure => simp [intOf]; omega
      by_cases hq0 : q = 0
      · subst hq0
        have hs : seqS (ssA T false) (0) = ssA T false := by rfl
        have hi : seqI (ssA T false) (0) = false := by rfl
        have HS := Lib.hid hs
        have HI := Lib.hid hi
        clear hs hi
        go_wp2_with fail
        refine (take_at ST.out (ssA_ok T false (by omega)) (q := 0) (a := a) (c := cb) RB.out (Nat.lt_irrefl _) (by omega) (fun h => by have h1 : 0 < a := h.1; have h2 : a ≤ 0 + 0 := h.2; omega)).mono ?_
        rintro e w2 ⟨v2, he, _, h2⟩
        rw [HI.out] at he
        rw [HS.out] at h2
        obtain ⟨v3, rfl⟩ : ∃ v3, v3 = v2 := ⟨_, rfl⟩
        obtain rfl : e = .returned (takeR v3 0 false) := he
        have H2 := Lib.hid h2
        have hd0 := HC.out w2 h2.below
        clear h2 hcc0 hcc1 hcc2
        go_wp2_with fail
        refine (due_at H2.out (ssA_ok T false (by omega)) (ssA_short _ _)).mono ?_
        rintro e w3 ⟨v, rfl, hv, h3⟩
        rw [dueS_A] at h3
        rw [dueL_A0] at hv
        obtain ⟨A3, c3, rfl⟩ := seg_nil hv
        have H3 := Lib.hid h3
        have hd1 := HC.out w3 h3.below
        clear hv h3 hd0 H2
        go_wp2_with fail
        refine (due_at H3.out (ssA_ok T false (by omega)) (ssA_short _ _)).mono ?_
        rintro e w4 ⟨v, rfl, hv, h4⟩
        rw [dueS_A] at h4
        rw [dueL_A0] at hv
        obtain ⟨A4, c4, rfl⟩ := seg_nil hv
        have H4 := Lib.hid h4
        clear hv h4
        go_wp2_with fail
        go_roundw
        case rel => exact ⟨k + 1, T, by simp, by simp, by omega, by omega, H4.out⟩
        case measure => simp [intOf]; omega
      by_cases hqt : q = T + 1
      · subst hqt
        have hz1 : ((T : Int) + 1 != 0) = true := bne_iff_ne.2 (by omega)
        have hz2 : ((T : Int) + 1 == 0) = false := beq_eq_false_iff_ne.2 (by omega)
        have hs : seqS (ssA T false) (T + 1) = ssA (T + 1) true := by simp [seqS, ssA]
        have hi : seqI (ssA T false) (T + 1) = true := by simp [seqI, ssA]
        have HS := Lib.hid hs
        have HI := Lib.hid hi
        clear hs hi
        go_wp2_with fail
        refine (take_at ST.out (ssA_ok T false (by omega)) (q := T + 1) (a := a) (c := cb) RB.out (Nat.lt_irrefl _) (by omega) (fun h => by have h1 : 0 < a := h.1; have h2 : a ≤ 0 + 0 := h.2; omega)).mono ?_
        rintro e w2 ⟨v2, he, _, h2⟩
        rw [HI.out] at he
        rw [HS.out] at h2
        obtain ⟨v3, rfl⟩ : ∃ v3, v3 = v2 := ⟨_, rfl⟩
        obtain rfl : e = .returned (takeR v3 0 true) := he
        have H2 := Lib.hid h2
        have hd0 := HC.out w2 h2.below
        clear h2 hcc0 hcc1 hcc2
        go_wp2_with fail
        refine (due_at H2.out (ssA_ok (T + 1) true (by omega)) (ssA_short _ _)).mono ?_
        rintro e w3 ⟨v, rfl, hv, h3⟩
        rw [dueS_A] at h3
        rw [dueL_A1] at hv
        obtain ⟨g, cg, rfl, _, _, hgc⟩ := seg_at hv (by show 0 < 1; omega)
        obtain ⟨g0, g1, Ag, cg2, g2⟩ := hgc 0 _ rfl
        rw [show ([(0, (T + 1), [])] : List (Nat × Nat × List UInt8)).length = 1 from rfl]
        clear hgc
        have H3 := Lib.hid h3
        have hd1 := HC.out w3 h3.below
        clear hv h3 hd0 H2
        go_wp2_with fail
        refine (due_at H3.out (ssA_ok (T + 1) false (by omega)) (ssA_short _ _)).mono ?_
        rintro e w4 ⟨v, rfl, hv, h4⟩
        rw [dueS_A] at h4
        rw [dueL_A0] at hv
        obtain ⟨A4, c4, rfl⟩ := seg_nil hv
        have H4 := Lib.hid h4
        clear hv h4
        go_wp2_with fail
        go_roundw
        case rel => exact ⟨k + 1, (T + 1), by simp, by simp, by omega, by omega, H4.out⟩
        case measure => simp [intOf]; omega
      · have hz1 : ((q : Int) != 0) = true := bne_iff_ne.2 (by omega)
        have hz2 : ((q : Int) == 0) = false := beq_eq_false_iff_ne.2 (by omega)
        have hz3 : ((q : Int) == (T : Int) + 1) = false := beq_eq_false_iff_ne.2 (by omega)
        have hs : seqS (ssA T false) (q) = ssA T true := by simp [seqS, ssA, hq0, hqt]
        have hi : seqI (ssA T false) (q) = false := by simp [seqI, ssA, hqt]
        have HS := Lib.hid hs
        have HI := Lib.hid hi
        clear hs hi
        go_wp2_with fail
        refine (take_at ST.out (ssA_ok T false (by omega)) (q := q) (a := a) (c := cb) RB.out (Nat.lt_irrefl _) (by omega) (fun h => by have h1 : 0 < a := h.1; have h2 : a ≤ 0 + 0 := h.2; omega)).mono ?_
        rintro e w2 ⟨v2, he, _, h2⟩
        rw [HI.out] at he
        rw [HS.out] at h2
        obtain ⟨v3, rfl⟩ : ∃ v3, v3 = v2 := ⟨_, rfl⟩
        obtain rfl : e = .returned (takeR v3 0 false) := he
        have H2 := Lib.hid h2
        have hd0 := HC.out w2 h2.below
        clear h2 hcc0 hcc1 hcc2
        go_wp2_with fail
        refine (due_at H2.out (ssA_ok T true (by omega)) (ssA_short _ _)).mono ?_
        rintro e w3 ⟨v, rfl, hv, h3⟩
        rw [dueS_A] at h3
        rw [dueL_A1] at hv
        obtain ⟨g, cg, rfl, _, _, hgc⟩ := seg_at hv (by show 0 < 1; omega)
        obtain ⟨g0, g1, Ag, cg2, g2⟩ := hgc 0 _ rfl
        rw [show ([(0, T, [])] : List (Nat × Nat × List UInt8)).length = 1 from rfl]
        clear hgc
        have H3 := Lib.hid h3
        have hd1 := HC.out w3 h3.below
        clear hv h3 hd0 H2
        go_wp2_with fail
        refine (due_at H3.out (ssA_ok T false (by omega)) (ssA_short _ _)).mono ?_
        rintro e w4 ⟨v, rfl, hv, h4⟩
        rw [dueS_A] at h4
        rw [dueL_A0] at hv
        obtain ⟨A4, c4, rfl⟩ := seg_nil hv
        have H4 := Lib.hid h4
        clear hv h4
        go_wp2_with fail
        go_roundw
        case rel => exact ⟨k + 1, T, by simp, by simp, by omega, by omega, H4.out⟩
        case measure => simp [intOf]; omega
    · go_wp2_with (go_at_call 8; refine (known_any _).mono ?_; rintro e w' ⟨rfl, hb⟩)
      go_ret
      exact ⟨rfl, ST.out.below.trans (hb.mono ST.out.size)⟩
end Go.Proofs.Ytmkjnblmgofoeaa
