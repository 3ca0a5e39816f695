/- The document's table: in memory; at. -/
import Derived.Test.YtejiecebckjflaaToL
import Derived.Test.YtejiecebckjflaaTrE
import Derived.Deep.LoopGhost
namespace Go.Proofs.Ytejiecebckjflaa
open Go.RowKit Go.Sort Go.BigFrame

/-- Block wb is a table of these entries. -/
structure IsTab (w : World) (N : Nat → Prop) (wb : Nat) (lim : Int) (L : List (Bs × Int)) : Prop where
  ex : ∃ lv, Blk w wb 48 #[lv, .int .i64 lim] ∧ w.ownsRow 0 91 3 lv L.length (L.flatMap entC) ∧ ∀ g, lv.ownBlock = some g → N g ∧ g ≠ wb
  nb : N wb
  sorted : SortedB L
  short : ∀ e ∈ L, e.1.length ≤ 32
  lt : ∀ k, N k → k < w.heap.size
theorem IsTab.keep {w w2 : World} {N : Nat → Prop} {wb : Nat} {lim : Int} {L : List (Bs × Int)} (h : IsTab w N wb lim L) (hs : Same N w w2) : IsTab w2 N wb lim L := by
  obtain ⟨lv, h1, h2, h3⟩ := h.ex
  exact ⟨⟨lv, (hs.2 wb h.nb h1.lt).trans h1, own_keep h2 hs fun g hg => (h3 g hg).1, h3⟩, h.nb, h.sorted, h.short, fun k hk => Nat.lt_of_lt_of_le (h.lt k hk) hs.1⟩
theorem IsTab.below {w w2 : World} {N : Nat → Prop} {wb : Nat} {lim : Int} {L : List (Bs × Int)} (h : IsTab w N wb lim L) (hb : Below w.heap.size w w2) : IsTab w2 N wb lim L := h.keep ⟨hb.size, fun k hk _ => hb.block k (h.lt k hk)⟩
/-- What the walks read. -/
theorem IsTab.form {w : World} {N : Nat → Prop} {wb : Nat} {lim : Int} {L : List (Bs × Int)} (h : IsTab w N wb lim L) : ∃ A cap, Blk w wb 48 #[.slice A L.length cap, .int .i64 lim] ∧ L.length ≤ cap ∧ w.ownsRow 0 91 3 (.slice A L.length cap) L.length (L.flatMap entC) ∧ Reads w N 3 A L.length (L.flatMap entC) ∧ ∀ g, (Value.slice A L.length cap).ownBlock = some g → N g ∧ g ≠ wb := by
  obtain ⟨lv, h1, h2, h3⟩ := h.ex
  obtain ⟨A, c, rfl, hc⟩ := own_form h2
  exact ⟨A, c, h1, hc, h2, Reads.of_own h2 fun g hg => (h3 g hg).1, h3⟩

def atP (x : Px) : List (Bs × Int) → Nat
  | [] => 0
  | e :: r => if cmpP (pxE e) x < 0 then atP x r + 1 else 0
def inP (x : Px) (L : List (Bs × Int)) : Bool := match L[atP x L]? with
  | some e => decide (padB e.1 = x.a ∧ (e.1.length : Int) = x.n)
  | none => false
theorem atP_le (x : Px) : ∀ L, atP x L ≤ L.length
  | [] => Nat.le_refl _
  | e :: r => by
    unfold atP
    have := atP_le x r
    split <;> simp <;> omega
theorem atP_step (x : Px) : ∀ (L : List (Bs × Int)) (k : Nat) (e : Bs × Int), k ≤ atP x L → L[k]? = some e → cmpP (pxE e) x < 0 → k + 1 ≤ atP x L
  | [], k, e, _, h, _ => by simp at h
  | f :: r, 0, e, _, h, hc => by
    obtain rfl : f = e := by simpa using h
    unfold atP
    rw [if_pos hc]
    omega
  | f :: r, k + 1, e, hk, h, hc => by
    unfold atP at hk ⊢
    split at hk
    · rename_i hf
      rw [if_pos hf]
      have := atP_step x r k e (by omega) (by simpa using h) hc
      omega
    · omega
theorem atP_stop (x : Px) : ∀ (L : List (Bs × Int)) (k : Nat), k ≤ atP x L → (∀ e, L[k]? = some e → ¬ cmpP (pxE e) x < 0) → k = atP x L
  | [], k, hk, _ => by simp [atP] at hk ⊢; exact hk
  | f :: r, 0, _, h => by
    unfold atP
    rw [if_neg (h f rfl)]
  | f :: r, k + 1, hk, h => by
    unfold atP at hk ⊢
    split at hk
    · rename_i hf
      rw [if_pos hf, ← atP_stop x r k (by omega) fun e he => h e (by simpa using he)]
    · omega
theorem cmpP_lt {e : Bs × Int} {x : Px} (he : e.1.length ≤ 32) (hx : x.a < 2 ^ 32) (hm : x.may = true) : cmpP (pxE e) x < 0 ↔ ltB e.1 (pB x) = true := by
  obtain ⟨p1, p2, p3⟩ := pB_may hx hm
  rw [ltB_pad he p1, p2]
  unfold cmpP pxE
  simp only
  constructor
  · intro h
    split at h
    · omega
    · split at h
      · rename_i h2
        rcases h2 with h2 | ⟨h2, h3⟩
        · exact .inl h2
        · exact .inr ⟨h2, by omega⟩
      · omega
  · intro h
    rw [if_neg (by rintro ⟨h2, h3⟩; omega), if_pos (by rcases h with h | ⟨h, h'⟩; exact .inl h; exact .inr ⟨h, by omega⟩)]
    decide
theorem atP_may {x : Px} (hx : x.a < 2 ^ 32) (hm : x.may = true) : ∀ {L : List (Bs × Int)}, (∀ e ∈ L, e.1.length ≤ 32) → atP x L = atB (pB x) L
  | [], _ => rfl
  | e :: r, h => by
    have ih := atP_may hx hm fun f hf => h f (List.mem_cons_of_mem _ hf)
    have hc := cmpP_lt (h e List.mem_cons_self) hx hm
    unfold atP atB
    by_cases hl : ltB e.1 (pB x) = true
    · rw [if_pos hl, if_pos (hc.2 hl), ih]
    · rw [if_neg hl, if_neg fun h => hl (hc.1 h)]
theorem inP_may {x : Px} (hx : x.a < 2 ^ 32) (hm : x.may = true) {L : List (Bs × Int)} (h : ∀ e ∈ L, e.1.length ≤ 32) : inP x L = hasB (pB x) L := by
  obtain ⟨p1, p2, p3⟩ := pB_may hx hm
  unfold inP hasB
  rw [atP_may hx hm h]
  cases hh : L[atB (pB x) L]? with
  | none => rfl
  | some e =>
    have he := h e (List.mem_of_getElem? hh)
    simp only
    rw [decide_eq_decide]
    constructor
    · rintro ⟨h1, h2⟩
      exact pad_inj he (by omega) (by rw [h1, p2])
    · intro h1
      rw [h1]
      exact ⟨p2, p3⟩
theorem inP_not {x : Px} (hm : x.may = false) {L : List (Bs × Int)} (h : ∀ e ∈ L, e.1.length ≤ 32) : inP x L = false := by
  unfold inP
  cases hh : L[atP x L]? with
  | none => rfl
  | some e =>
    have he := h e (List.mem_of_getElem? hh)
    refine decide_eq_false fun ⟨h1, h2⟩ => ?_
    have := pxE_may he
    have e2 : pxE e = x := by
      obtain ⟨a, n⟩ := x
      unfold pxE
      simp only at h1 h2
      rw [h1, h2]
    rw [e2, hm] at this
    cases this
theorem add_afterT (ad : Addr) (i j : Nat) (h : 0 < j) : ad.add (i + j) = ⟨(ad.add i).block, (ad.add i).off + j, none⟩ := add_after ad i j h

set_option maxHeartbeats 8000000 in
theorem at_any (x : Px) (wb : Nat) (N : Nat → Prop) (lim : Int) (L : List (Bs × Int)) (w : World) (h : IsTab w N wb lim L) (hsm : L.length ≤ 1000000) :
    Calls Try.prog 51 #[.pointer (some ⟨wb, 0, none⟩), pxV x.a x.n] w fun e w' => e = .returned (.tuple #[.int .i64 (atP x L : Int), .bool (inP x L)]) ∧ Below w.heap.size w w' := by
  obtain ⟨A, cap, hk, _, _, hr, _⟩ := h.form
  have HK := Lib.hid hk
  have HR := Lib.hid (hr.lt.mono (J := fun k => k < w.heap.size) fun k hk => hk.2)
  have HAL := Lib.hid (atP_le x L)
  clear h hk hr
  obtain ⟨m, hm⟩ : ∃ m, m = L.length := ⟨_, rfl⟩
  rw [← hm] at HK HR hsm HAL
  have HM := Lib.hid hm
  clear hm
  have hb0 : Hid (Below w.heap.size w (w.alloc (.cells #[.int .u32 (x.a : Int), .int .i64 x.n] 31))) := Lib.hid ((Below.refl _ _).alloc (Nat.le_refl _) _)
  have hk0 : Hid (Blk (w.alloc (.cells #[.int .u32 (x.a : Int), .int .i64 x.n] 31)) w.heap.size 31 #[.int .u32 (x.a : Int), .int .i64 x.n]) := Lib.hid (Blk.new _ _ _)
  go_enter Try.func51, Try.ntmps51
  go_wp2_with fail
  go_loopg [6] m (fun g s6 wr => ∃ k : Nat, k + g = m ∧ s6 = .int .i64 (k : Int) ∧ k ≤ atP x L ∧ Below w.heap.size w wr ∧ Blk wr w.heap.size 31 #[.int .u32 (x.a : Int), .int .i64 x.n])
  case atStart => exact ⟨0, by omega, rfl, Nat.zero_le _, hb0.out, hk0.out⟩
  case round =>
    obtain ⟨k, hg, rfl, hka, hbl, hbx⟩ := hrel
    have x0 : wr.cell? ⟨w.heap.size, 0, none⟩ = some (.int .u32 (x.a : Int)) := hbx.cell 0
    have x1 : wr.cell? ⟨w.heap.size, 1, none⟩ = some (.int .i64 x.n) := hbx.cell 1
    have t0 : wr.cell? ⟨wb, 0, none⟩ = some (.slice A m cap) := (HK.out.below hbl HK.out.lt).cell 0
    have HB := Lib.hid hbl
    have HX := Lib.hid hbx
    have HKA := Lib.hid hka
    clear hbl hbx hka
    by_cases hlt : k < m
    · obtain ⟨e, he⟩ : ∃ e, L[k]? = some e := ⟨_, List.getElem?_eq_getElem (by rw [← HM.out]; exact hlt)⟩
      obtain ⟨ad, rfl, _, hadl, hc⟩ := HR.out.2 (by omega)
      obtain ⟨e0, e1, _⟩ := entC_get L k e he
      have hcc0 : wr.cell? (ad.add (k * 3)) = some (.int .u32 (padB e.1 : Int)) := (HB.out.cell (by rw [block_of_add]; exact hadl)).trans (hc _ _ e0)
      have hcc1 : wr.cell? ⟨(ad.add (k * 3)).block, (ad.add (k * 3)).off + 1, none⟩ = some (.int .i64 (e.1.length : Int)) := by
        rw [← add_after ad (k * 3) 1 (by omega)]
        exact (HB.out.cell (by rw [block_of_add]; exact hadl)).trans (hc _ _ e1)
      have hi0 : (0 : Int) ≤ k := by omega
      have hi1 : (k : Int) < m := by omega
      have hd1 : decide (k < m) = true := decide_eq_true hlt
      have hcm := fun wx => compare_any (pxE e) x wx
      obtain ⟨cc, hcc⟩ : ∃ cc, cc = cmpP (pxE e) x := ⟨_, rfl⟩
      rw [← hcc] at hcm
      obtain ⟨pa, hpa⟩ : ∃ pa, pa = padB e.1 := ⟨_, rfl⟩
      obtain ⟨pn, hpn⟩ : ∃ pn : Int, pn = (e.1.length : Int) := ⟨_, rfl⟩
      have hpx : pxE e = ⟨pa, pn⟩ := by rw [hpa, hpn]; rfl
      rw [hpx] at hcm
      rw [← hpa] at hcc0
      rw [← hpn] at hcc1
      have HCM := Lib.hid hcm
      have HCC := Lib.hid hcc
      have HE := Lib.hid he
      have HPA := Lib.hid hpa
      have HPN := Lib.hid hpn
      clear hcm hcc he hpa hpn hpx hc e0 e1
      go_wp2_with fail
      have k0 := cell_regrown x0
      have k1 := cell_regrown x1
      have k2 := cell_regrown t0
      have k3 := cell_regrown hcc0
      have k4 := cell_regrown hcc1
      have hcm2 := fun (d : Nat) (os : Array Obj) => Calls.regrown_of (HCM.out (grow (redrawn wr d) os))
      refine wp_region_quiet_below (by kernel_rfl) (by kernel_rfl) ?_
      repeat (go_big_quiet_step (exact hcm2 _ _))
      refine wpQuiet_nil ?_
      intro _ hw'
      obtain ⟨⟨dq, osq⟩, hw''⟩ := hw'
      subst hw''
      have hbq := below_regrown wr dq osq
      generalize grow (redrawn wr dq) osq = wq at hbq
      have q0 : wq.cell? ⟨w.heap.size, 0, none⟩ = some (.int .u32 (x.a : Int)) := (HX.out.below hbq HX.out.lt).cell 0
      have q1 : wq.cell? ⟨w.heap.size, 1, none⟩ = some (.int .i64 x.n) := (HX.out.below hbq HX.out.lt).cell 1
      have q2 : wq.cell? ⟨wb, 0, none⟩ = some (.slice (some ad) m cap) := (hbq.cell (World.block_lt_of_cell? wr _ t0)).trans t0
      have q3 : wq.cell? (ad.add (k * 3)) = some (.int .u32 (pa : Int)) := (hbq.cell (World.block_lt_of_cell? wr _ hcc0)).trans hcc0
      have q4 : wq.cell? ⟨(ad.add (k * 3)).block, (ad.add (k * 3)).off + 1, none⟩ = some (.int .i64 pn) := (hbq.cell (World.block_lt_of_cell? wr _ hcc1)).trans hcc1
      have HBQ := Lib.hid (HB.out.trans (hbq.mono HB.out.size))
      have HXQ := Lib.hid (HX.out.below hbq HX.out.lt)
      clear k0 k1 k2 k3 k4 hcm2 hbq x0 x1 t0 hcc0 hcc1
      by_cases hneg : cc < 0
      · have hd : decide (cc < 0) = true := decide_eq_true hneg
        go_wp2_with fail
        go_roundg (m - (k + 1))
        case measure => omega
        case rel => exact ⟨k + 1, by omega, by simp, atP_step x L k e HKA.out HE.out (by rw [← HCC.out]; exact hneg), HBQ.out, HXQ.out⟩
      · have hd : decide (cc < 0) = false := decide_eq_false hneg
        have hat : k = atP x L := atP_stop x L k HKA.out fun e' he' => by rw [HE.out] at he'; injection he' with he'; rw [← he', ← HCC.out]; exact hneg
        have hin : inP x L = decide (pa = x.a ∧ pn = x.n) := by
          unfold inP
          rw [← hat, HE.out, HPA.out, HPN.out]
        have hq := fun w => eql_px pa x.a pn x.n w
        obtain ⟨bb, hbb⟩ : ∃ bb, bb = decide (pa = x.a ∧ pn = x.n) := ⟨_, rfl⟩
        rw [← hbb] at hq hin
        have HIN := Lib.hid hin
        have HAT := Lib.hid hat
        clear hin hat hbb
        go_wp2_with fail
        go_quiet (fail)
        go_wp2_with fail
        go_ret2
        exact ⟨by rw [HIN.out, ← HAT.out]; rfl, ⟨HBQ.out.os, HBQ.out.tape, HBQ.out.output, HBQ.out.size, HBQ.out.block⟩⟩
    · obtain rfl : k = m := by omega
      have hat : k = atP x L := by have := HAL.out; have := HKA.out; omega
      have hin : inP x L = false := by
        unfold inP
        rw [← hat, List.getElem?_eq_none (by rw [← HM.out]; exact Nat.le_refl _)]
      have hd1 : decide (k < k) = false := by simp
      have hd2 : decide ((k : Int) < (k : Int)) = false := by simp
      have HIN := Lib.hid hin
      have HAT := Lib.hid hat
      clear hin hat
      go_wp2_with fail
      go_quiet (fail)
      go_wp2_with fail
      go_quiet (fail)
      go_wp2_with fail
      go_ret2
      exact ⟨by rw [HIN.out, ← HAT.out]; rfl, ⟨HB.out.os, HB.out.tape, HB.out.output, HB.out.size, HB.out.block⟩⟩
end Go.Proofs.Ytejiecebckjflaa
