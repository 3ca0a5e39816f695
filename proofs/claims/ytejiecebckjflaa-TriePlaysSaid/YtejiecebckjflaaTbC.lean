/- The document's table: Covers. -/
import Derived.Test.YtejiecebckjflaaTbK
namespace Go.Proofs.Ytejiecebckjflaa
open Go.RowKit Go.Sort Go.BigFrame

def cvN (A : Bs) (L : List (Bs × Int)) (n : Nat) : List (Bs × Int) := L.filter fun e => decide (e.1.length = n ∧ e.1 <+: A)
def cvU (A : Bs) (L : List (Bs × Int)) : Nat → List (Bs × Int)
  | 0 => []
  | n + 1 => cvU A L n ++ cvN A L n
theorem filt_split (n : Nat) : ∀ {C : List (Bs × Int)}, C.Pairwise (fun e f => e.1.length < f.1.length) → C.filter (fun e => decide (e.1.length < n)) ++ C.filter (fun e => decide (e.1.length = n)) = C.filter (fun e => decide (e.1.length < n + 1))
  | [], _ => rfl
  | e :: r, h => by
    obtain ⟨h1, h2⟩ := List.pairwise_cons.1 h
    have ih := filt_split n h2
    rcases Nat.lt_trichotomy e.1.length n with hl | hl | hl
    · rw [List.filter_cons_of_pos (by simpa using hl), List.filter_cons_of_neg (by simp; omega), List.filter_cons_of_pos (by simp; omega), List.cons_append, ih]
    · have e1 : r.filter (fun e => decide (e.1.length < n)) = [] := List.filter_eq_nil_iff.2 fun f hf => by have := h1 f hf; simp; omega
      rw [e1, List.nil_append] at ih
      rw [List.filter_cons_of_neg (by simp; omega), e1, List.nil_append, List.filter_cons_of_pos (by simpa using hl), List.filter_cons_of_pos (by simp; omega), ih]
    · have e1 : r.filter (fun e => decide (e.1.length < n)) = [] := List.filter_eq_nil_iff.2 fun f hf => by have := h1 f hf; simp; omega
      rw [List.filter_cons_of_neg (by simp; omega), List.filter_cons_of_neg (by simp; omega), List.filter_cons_of_neg (by simp; omega), ih]
theorem covS_up {A : Bs} {L : List (Bs × Int)} (hs : SortedB L) : (covS A L).Pairwise (fun e f => e.1.length < f.1.length) := by
  have h : (covS A L).Pairwise (fun e f => ltB e.1 f.1 = true) := covS_sorted hs
  exact (h.imp_of_mem fun {e f} he hf hlt => (cov_chain (covS_mem he).2 (covS_mem hf).2 hlt).2)
theorem cvU_eq {A : Bs} {L : List (Bs × Int)} (hs : SortedB L) : ∀ n, cvU A L n = (covS A L).filter fun e => decide (e.1.length < n)
  | 0 => by
    unfold cvU
    exact (List.filter_eq_nil_iff.2 fun f _ => by simp).symm
  | n + 1 => by
    unfold cvU
    rw [cvU_eq hs n, ← filt_split n (covS_up hs)]
    congr 1
    unfold cvN covS
    rw [List.filter_filter]
    exact List.filter_congr fun e _ => by simp
theorem cvU_all {A : Bs} {L : List (Bs × Int)} (hs : SortedB L) (h32 : ∀ e ∈ L, e.1.length ≤ 32) : cvU A L 33 = covS A L := by
  rw [cvU_eq hs]
  exact List.filter_eq_self.2 fun e he => by have := h32 e (covS_mem he).1; simp; omega
theorem cvN_len (A : Bs) (L : List (Bs × Int)) (n : Nat) : (cvN A L n).length ≤ L.length := List.length_filter_le _ _
theorem cvU_len (A : Bs) (L : List (Bs × Int)) : ∀ n, (cvU A L n).length ≤ n * L.length
  | 0 => by simp [cvU]
  | n + 1 => by
    unfold cvU
    rw [List.length_append, Nat.succ_mul]
    have := cvU_len A L n
    have := cvN_len A L n
    omega
theorem cvN_step (A : Bs) {L : List (Bs × Int)} {i : Nat} {e : Bs × Int} (h : L[i]? = some e) (n : Nat) : cvN A (L.take (i + 1)) n = cvN A (L.take i) n ++ if e.1.length = n ∧ e.1 <+: A then [e] else [] := by
  unfold cvN
  rw [List.take_add_one, h, List.filter_append]
  congr 1
  by_cases hh : e.1.length = n ∧ e.1 <+: A
  · rw [if_pos hh]
    exact List.filter_cons_of_pos (by simpa using hh)
  · rw [if_neg hh]
    exact List.filter_cons_of_neg (by simpa using hh)
theorem info_entC : (Try.prog.info? 91).map (fun i => (i.zero, i.size, i.bytes)) = some (some (.agg #[.int .u32 0, .int .i64 0, .int .i64 0]), 3, 24) := by kernel_rfl
def TCov (w : World) (C : List (Bs × Int)) (e : Ending) (w' : World) : Prop := ∃ A c, e = .returned (.slice A C.length c) ∧ w'.ownsRow w.heap.size 91 3 (.slice A C.length c) C.length (C.flatMap entC) ∧ Below w.heap.size w w'

set_option maxRecDepth 20000 in
set_option maxHeartbeats 8000000 in
theorem tabcov_any (a db : Nat) (N : Nat → Prop) (lim : Int) (L : List (Bs × Int)) (w : World) (h : IsTab w N db lim L) (ha : a < 2 ^ 32) (hsm : L.length ≤ 100000) :
    Calls Try.prog 23 #[.pointer (some ⟨db, 0, none⟩), .int .u32 (a : Int)] w (TCov w (covS (bitsB a 32) L)) := by
  obtain ⟨A, cap, hk, _, _, hr, _⟩ := h.form
  have HALL := Lib.hid (cvU_all (A := bitsB a 32) h.sorted h.short)
  have HSH := Lib.hid h.short
  have HK := Lib.hid hk
  have HR := Lib.hid (hr.lt.mono (J := fun k => k < w.heap.size) fun k hk => hk.2)
  clear h hk hr
  obtain ⟨m, hm⟩ : ∃ m, m = L.length := ⟨_, rfl⟩
  rw [← hm] at HK HR hsm
  have HM := Lib.hid hm
  clear hm
  go_enter Try.func23, Try.ntmps23
  go_wp2_with fail
  go_loopg [5, 6] 33 (fun g s5 s6 wr => ∃ (k : Nat) (lv : Value), k + g = 33 ∧ s5 = lv ∧ s6 = .int .i64 (k : Int) ∧ Below w.heap.size w wr ∧ wr.ownsRow w.heap.size 91 3 lv (cvU (bitsB a 32) L k).length ((cvU (bitsB a 32) L k).flatMap entC))
  case atStart => exact ⟨0, _, by omega, rfl, rfl, Below.refl _ _, World.ownsRow_nil _ _ _ _⟩
  case round =>
    obtain ⟨k, lv, hg, rfl, rfl, hbl, hown⟩ := hrel
    obtain ⟨Al, cl, rfl, _⟩ := own_form hown
    have HOW := Lib.hid hown
    have HB := Lib.hid hbl
    clear hown hbl
    by_cases hlt : k < 33
    · have d0 : decide ((k : Int) ≤ 32) = true := decide_eq_true (by omega)
      have d1 : decide (k ≤ 32) = true := decide_eq_true (by omega)
      go_wp2_with fail
      go_loopg [5, 7] m (fun g s5 s7 wy => ∃ (i : Nat) (lv : Value), i + g = m ∧ s5 = lv ∧ s7 = .int .i64 (i : Int) ∧ Below w.heap.size w wy ∧ wy.ownsRow w.heap.size 91 3 lv (cvU (bitsB a 32) L k ++ cvN (bitsB a 32) (L.take i) k).length ((cvU (bitsB a 32) L k ++ cvN (bitsB a 32) (L.take i) k).flatMap entC))
      case atStart => exact ⟨0, _, by omega, rfl, rfl, HB.out, by simpa [cvN] using HOW.out⟩
      case round =>
        obtain ⟨i, lv, hgi, rfl, rfl, hbl, hown⟩ := hrel
        obtain ⟨acc, hacc⟩ : ∃ acc, acc = cvU (bitsB a 32) L k ++ cvN (bitsB a 32) (L.take i) k := ⟨_, rfl⟩
        rw [← hacc] at hown
        obtain ⟨Ai, ci, rfl, _⟩ := own_form hown
        have t0 : wr.cell? ⟨db, 0, none⟩ = some (.slice A m cap) := (HK.out.below hbl HK.out.lt).cell 0
        have hal : acc.length ≤ 4000000 := by
          have h1 := cvU_len (bitsB a 32) L k
          have h2 := cvN_len (bitsB a 32) (L.take i) k
          rw [List.length_take] at h2
          rw [hacc, List.length_append]
          rw [← HM.out] at h1 h2
          have h3 : k * m ≤ 32 * m := Nat.mul_le_mul_right m (by omega)
          omega
        have HAC := Lib.hid hacc
        have HOI := Lib.hid hown
        have HBI := Lib.hid hbl
        clear hown hbl hacc
        by_cases hlti : i < m
        · obtain ⟨e, he⟩ : ∃ e, L[i]? = some e := ⟨_, List.getElem?_eq_getElem (by rw [← HM.out]; exact hlti)⟩
          obtain ⟨ad, rfl, _, hadl, hc⟩ := HR.out.2 (by omega)
          obtain ⟨e0, e1, e2⟩ := entC_get L i e he
          have hcc0 : wr.cell? (ad.add (i * 3)) = some (.int .u32 (padB e.1 : Int)) := (HBI.out.cell (by rw [block_of_add]; exact hadl)).trans (hc _ _ e0)
          have hcc1 : wr.cell? ⟨(ad.add (i * 3)).block, (ad.add (i * 3)).off + 1, none⟩ = some (.int .i64 (e.1.length : Int)) := by
            rw [← add_after ad (i * 3) 1 (by omega)]
            exact (HBI.out.cell (by rw [block_of_add]; exact hadl)).trans (hc _ _ e1)
          have hcc2 : wr.cell? ⟨(ad.add (i * 3)).block, (ad.add (i * 3)).off + 2, none⟩ = some (.int .i64 e.2) := by
            rw [← add_after ad (i * 3) 2 (by omega)]
            exact (HBI.out.cell (by rw [block_of_add]; exact hadl)).trans (hc _ _ e2)
          have hi0 : (0 : Int) ≤ i := by omega
          have hi1 : (i : Int) < m := by omega
          have hd1 : decide (i < m) = true := decide_eq_true hlti
          have hstep := cvN_step (bitsB a 32) he k
          have he32 := HSH.out e (List.mem_of_getElem? he)
          have hpl := padB_lt e.1 he32
          obtain ⟨pa, hpa⟩ : ∃ pa, pa = padB e.1 := ⟨_, rfl⟩
          obtain ⟨ln, hln⟩ : ∃ ln, ln = e.1.length := ⟨_, rfl⟩
          rw [← hpa] at hcc0 hpl
          rw [← hln] at hcc1 hstep
          by_cases hk : ln = k
          · subst hk
            have hcm := fun wx => has_any ⟨pa, (ln : Int)⟩ a wx hpl ha
            have hpx : (⟨pa, (ln : Int)⟩ : Px) = pxE e := by rw [hpa, hln]; rfl
            have hhp := hasP_pxE he32 ha
            rw [← hpx] at hhp
            rw [hhp] at hcm
            obtain ⟨bb, hbb⟩ : ∃ bb, bb = decide (e.1 <+: bitsB a 32) := ⟨_, rfl⟩
            rw [← hbb] at hcm
            have HCM := Lib.hid hcm
            have HBB := Lib.hid hbb
            have HST := Lib.hid hstep
            have HPA := Lib.hid hpa
            have HLN := Lib.hid hln
            clear hcm hpx hhp hbb hstep he hc e0 e1 e2 hpa hln hpl he32
            go_wp2_with fail
            refine (HCM.out _).mono ?_
            rintro er w4 ⟨rfl, hb4⟩
            have x0 : w4.cell? ⟨db, 0, none⟩ = some (.slice (some ad) m cap) := (hb4.cell (World.block_lt_of_cell? wr _ t0)).trans t0
            have x1 : w4.cell? (ad.add (i * 3)) = some (.int .u32 (pa : Int)) := (hb4.cell (World.block_lt_of_cell? wr _ hcc0)).trans hcc0
            have x2 : w4.cell? ⟨(ad.add (i * 3)).block, (ad.add (i * 3)).off + 1, none⟩ = some (.int .i64 (ln : Int)) := (hb4.cell (World.block_lt_of_cell? wr _ hcc1)).trans hcc1
            have x3 : w4.cell? ⟨(ad.add (i * 3)).block, (ad.add (i * 3)).off + 2, none⟩ = some (.int .i64 e.2) := (hb4.cell (World.block_lt_of_cell? wr _ hcc2)).trans hcc2
            have HB4 := Lib.hid (HBI.out.trans (hb4.mono HBI.out.size))
            have HO4 := Lib.hid (own_belowB HOI.out hb4)
            clear hb4 t0 hcc0 hcc1 hcc2
            cases bb with
            | false =>
              have hst : cvN (bitsB a 32) (L.take (i + 1)) ln = cvN (bitsB a 32) (L.take i) ln := by
                rw [HST.out, if_neg fun h => by have := of_decide_eq_false HBB.out.symm; exact this h.2, List.append_nil]
              go_wp2_with fail
              go_roundg (m - (i + 1))
              case measure => omega
              case rel => exact ⟨i + 1, _, by omega, rfl, by simp, HB4.out, by rw [hst, ← HAC.out]; exact HO4.out⟩
            | true =>
              obtain ⟨z0, hin, hz0, hz1, hz2⟩ := info_parts info_entC
              have hmx : acc.length + 1 ≤ maxLen := by unfold maxLen; omega
              have hmb : (acc.length + 1) * 24 ≤ 140737488355328 := by omega
              have hone : ∀ u ∈ [Value.int .u32 (pa : Int), .int .i64 (ln : Int), .int .i64 e.2], u.oneCell' = true := by simp [Value.oneCell']
              have hOA := HO4.out.alloc (.cells #[.int .u32 (pa : Int), .int .i64 (ln : Int), .int .i64 e.2] 91)
              have hRA := (reads_lit w4 91 #[.int .u32 (pa : Int), .int .i64 (ln : Int), .int .i64 e.2] 1 3 (0, 0) rfl).mono (J := fun _ => True) fun _ _ => trivial
              have hsz2 : w.heap.size ≤ (w4.alloc (.cells #[.int .u32 (pa : Int), .int .i64 (ln : Int), .int .i64 e.2] 91)).heap.size := by have := HB4.out.size; simp; omega
              have HOA := Lib.hid hOA
              have HRA := Lib.hid hRA
              have HSZ2 := Lib.hid hsz2
              clear hOA hRA hsz2
              go_wp2_with (at_builtin; refine wpList_append_any _ rfl (.tmp 44) (.tmp 52) 46 rfl w.heap.size 91 z0 _ 3 24 Try.underlying46 hin hz0 hz1 hz2 rfl (Nat.succ_pos 2) (.slice Ai acc.length ci) acc.length (acc.flatMap entC) rfl HOA.out (fun _ => True) (some ⟨w4.heap.size, 0, none⟩) 1 1 [.int .u32 (pa : Int), .int .i64 (ln : Int), .int .i64 e.2] rfl HRA.out hone hmx hmb HSZ2.out ?_; intro v5 w5 hown5 hg5 hat5)
              have hst : cvU (bitsB a 32) L ln ++ cvN (bitsB a 32) (L.take (i + 1)) ln = acc ++ [e] := by
                rw [HST.out, if_pos ⟨by first | rfl | trivial, of_decide_eq_true HBB.out.symm⟩, ← List.append_assoc, ← HAC.out]
              have HZ := Lib.hid ((HB4.out.alloc HB4.out.size (.cells #[.int .u32 (pa : Int), .int .i64 (ln : Int), .int .i64 e.2] 91)).grown hg5 HSZ2.out fun k hk => (own_lt HOA.out hk).1)
              have hO5 : w5.ownsRow w.heap.size 91 3 v5 (acc ++ [e]).length ((acc ++ [e]).flatMap entC) := by
                have ee : (acc ++ [e]).flatMap entC = acc.flatMap entC ++ [.int .u32 (pa : Int), .int .i64 (ln : Int), .int .i64 e.2] := by rw [HPA.out, HLN.out]; simp [entC]
                rw [ee, List.length_append]
                exact hown5
              have HO5 := Lib.hid hO5
              have HSTT := Lib.hid hst
              clear hown5 hg5 hat5 hO5 hst
              go_wp2_with fail
              go_roundg (m - (i + 1))
              case measure => omega
              case rel => exact ⟨i + 1, _, by omega, rfl, by simp, HZ.out, by rw [HSTT.out]; exact HO5.out⟩
          · have hq1 : ((ln : Int) == (k : Int)) = false := beq_eq_false_iff_ne.2 (by omega)
            have hq2 : (ln == k) = false := beq_eq_false_iff_ne.2 hk
            have hst : cvN (bitsB a 32) (L.take (i + 1)) k = cvN (bitsB a 32) (L.take i) k := by
              rw [hstep, if_neg fun h => hk h.1, List.append_nil]
            have HST := Lib.hid hst
            clear hst hstep he hc e0 e1 e2 hpa hln hpl he32
            go_wp2_with fail
            go_roundg (m - (i + 1))
            case measure => omega
            case rel => exact ⟨i + 1, _, by omega, rfl, by simp, HBI.out, by rw [HST.out, ← HAC.out]; exact HOI.out⟩
        · obtain rfl : i = m := by omega
          have hd1 : decide (i < i) = false := by simp
          have hd2 : decide ((i : Int) < (i : Int)) = false := by simp
          have hst : cvU (bitsB a 32) L (k + 1) = acc := by
            rw [HAC.out, HM.out, List.take_length]
            rfl
          have HST := Lib.hid hst
          clear hst
          go_wp2_with fail
          go_roundg (33 - (k + 1))
          case measure => omega
          case rel => exact ⟨k + 1, _, by omega, rfl, by simp, HBI.out, by rw [HST.out]; exact HOI.out⟩
    · obtain rfl : k = 33 := by omega
      have d0 : decide ((33 : Int) ≤ 32) = false := by decide
      go_wp2_with fail
      go_ret
      rw [← HALL.out]
      exact ⟨_, _, rfl, HOW.out, HB.out⟩
end Go.Proofs.Ytejiecebckjflaa
