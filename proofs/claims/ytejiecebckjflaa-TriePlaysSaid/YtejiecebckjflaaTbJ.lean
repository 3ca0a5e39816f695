/- The document's table: Insert, all of it. -/
import Derived.Test.YtejiecebckjflaaTbI
namespace Go.Proofs.Ytejiecebckjflaa
open Go.RowKit Go.Sort Go.BigFrame
theorem own_set {w : World} {base : Nat} {e : TypeId} {size n cap g off : Nat} {xs : List Value} (h : w.ownsRow base e size (.slice (some ⟨g, 0, none⟩) n cap) n xs) (u : Value) : (w.setCell ⟨g, off, none⟩ u).ownsRow base e size (.slice (some ⟨g, 0, none⟩) n cap) n (xs.set off u) := by
  refine ⟨by rw [List.length_set]; exact h.1, .inr ?_⟩
  rcases h.2 with ⟨h2, _⟩ | ⟨g2, c, cur, h2, h3, h4, h5, h6, h7, h8⟩
  · cases h2
  · injection h2 with h2 _ hc
    injection h2 with h2
    injection h2 with h2
    subst h2
    subst hc
    refine ⟨g, cap, cur.setIfInBounds off u, rfl, h3, Blk.set_ (t := e) (cs := cur) h4 off u, h5, h6, by rw [Array.size_setIfInBounds]; exact h7, ?_⟩
    rw [Array.toList_setIfInBounds, List.take_set, h8]
theorem own_some {w : World} {base : Nat} {e : TypeId} {size n cap : Nat} {A : Option Addr} {xs : List Value} (h : w.ownsRow base e size (.slice A n cap) n xs) (hn : 0 < n) : ∃ g, A = some ⟨g, 0, none⟩ ∧ ∃ cur, Blk w g e cur ∧ ∀ (i : Nat) (u : Value), xs[i]? = some u → cur[i]? = some u := by
  rcases h.2 with ⟨h2, _⟩ | ⟨g2, c, cur, h2, h3, h4, h5, h6, h7, h8⟩
  · cases h2
    omega
  · injection h2 with h2 _ hc
    refine ⟨g2, h2, cur, h4, fun i u hi => ?_⟩
    rw [← h8, List.getElem?_take] at hi
    split at hi
    · simpa using hi
    · cases hi
theorem in_get {x : Px} {L : List (Bs × Int)} (h : inP x L = true) : ∃ b, L[atP x L]? = some b ∧ (x.a < 2 ^ 32 → x.may = true → b.1.length ≤ 32 → b.1 = pB x) := by
  unfold inP at h
  cases hh : L[atP x L]? with
  | none => rw [hh] at h; cases h
  | some e =>
    rw [hh] at h
    obtain ⟨h1, h2⟩ := of_decide_eq_true h
    refine ⟨e, rfl, fun ha hm he => ?_⟩
    obtain ⟨p1, p2, p3⟩ := pB_may ha hm
    exact pad_inj he (by omega) (by rw [h1, p2])
theorem flat_set {L : List (Bs × Int)} {k : Nat} {b : Bs × Int} {p : Bs} (h : L[k]? = some b) (v : Int) (hp : b.1 = p) : (L.set k (p, v)).flatMap entC = (L.flatMap entC).set (k * 3 + 2) (.int .i64 v) := by
  subst hp
  induction L generalizing k with
  | nil => simp at h
  | cons e r ih =>
    cases k with
    | zero =>
      obtain rfl : e = b := by simpa using h
      rfl
    | succ k =>
      have := ih (k := k) (by simpa using h)
      rw [List.set_cons_succ, List.flatMap_cons, this, List.flatMap_cons, show (k + 1) * 3 + 2 = k * 3 + 2 + 1 + 1 + 1 by omega]
      rfl
theorem tab_set {w w3 : World} {N : Nat → Prop} {wb : Nat} {lim : Int} {L L2 : List (Bs × Int)} {g n cap off : Nat} {u : Value} (h : IsTab w N wb lim L) (hb : Below w.heap.size w w3) (hk : Blk w3 wb 48 #[.slice (some ⟨g, 0, none⟩) n cap, .int .i64 lim])
    (ho : w3.ownsRow 0 91 3 (.slice (some ⟨g, 0, none⟩) n cap) n (L.flatMap entC)) (hn : ∀ i, (Value.slice (some ⟨g, 0, none⟩) n cap).ownBlock = some i → N i ∧ i ≠ wb) (hL : (L.flatMap entC).set off u = L2.flatMap entC) (hm : n = L2.length) (hs : SortedB L2) (h32 : ∀ e ∈ L2, e.1.length ≤ 32) :
    TabYes w N wb lim L2 (w3.setCell ⟨g, off, none⟩ u) := by
  obtain ⟨n1, n2⟩ := hn g rfl
  subst hm
  have hu : Upd N w (w3.setCell ⟨g, off, none⟩ u) := (Upd.ofBelow hb N).setCell (.inl n1) _
  refine ⟨N, ⟨⟨_, hk.far (p := ⟨g, off, none⟩) (fun e => n2 e.symm) u, ?_, hn⟩, h.nb, hs, h32, fun k hk => Nat.lt_of_lt_of_le (h.lt k hk) hu.size⟩, hu, fun _ hk => .inl hk⟩
  rw [← hL]
  exact own_set ho u

set_option maxRecDepth 100000 in
set_option maxHeartbeats 4000000 in
theorem tabins_no (x : Px) (v : Int) (wb : Nat) (N : Nat → Prop) (lim : Int) (L : List (Bs × Int)) (w : World) (h : IsTab w N wb lim L) (ha : x.a < 2 ^ 32) (hm : x.may = false) :
    Calls Try.prog 42 #[.pointer (some ⟨wb, 0, none⟩), pxV x.a x.n, .int .i64 v] w fun e w' => e = .returned (.int .i64 2) ∧ TabYes w N wb lim (L) w' := by
  have HH := Lib.hid h
  have hb0 : Below w.heap.size w (w.alloc (.cells #[.int .u32 (x.a : Int), .int .i64 x.n] 31)) := (Below.refl _ _).alloc (Nat.le_refl _) _
  have hk0 : Blk (w.alloc (.cells #[.int .u32 (x.a : Int), .int .i64 x.n] 31)) w.heap.size 31 #[.int .u32 (x.a : Int), .int .i64 x.n] := Blk.new _ _ _
  have HB0 := Lib.hid hb0
  have HK0 := Lib.hid hk0
  have hmp := fun wx => mayp_any x wx ha
  rw [hm] at hmp
  have HMP := Lib.hid hmp
  have HM := Lib.hid hm
  clear hmp hb0 hk0 hm
  clear h
  go_enter Try.func42, Try.ntmps42
  go_wp2_with fail
  refine (HMP.out _).mono ?_
  rintro e w2 ⟨rfl, hb2⟩
  have HB2 := Lib.hid (HB0.out.trans (hb2.mono HB0.out.size))
  clear hb2
  go_wp2_with fail
  go_ret
  exact ⟨rfl, tabYes_below HH.out HB2.out⟩

set_option maxRecDepth 100000 in
set_option maxHeartbeats 4000000 in
theorem tabins_full (x : Px) (v : Int) (wb : Nat) (N : Nat → Prop) (lim : Int) (L : List (Bs × Int)) (w : World) (h : IsTab w N wb lim L) (hsm : L.length ≤ 1000000) (ha : x.a < 2 ^ 32) (hm : x.may = true) (hin : inP x L = false) (hlim : lim ≤ (L.length : Int)) :
    Calls Try.prog 42 #[.pointer (some ⟨wb, 0, none⟩), pxV x.a x.n, .int .i64 v] w fun e w' => e = .returned (.int .i64 5) ∧ TabYes w N wb lim (L) w' := by
  have HH := Lib.hid h
  have hb0 : Below w.heap.size w (w.alloc (.cells #[.int .u32 (x.a : Int), .int .i64 x.n] 31)) := (Below.refl _ _).alloc (Nat.le_refl _) _
  have hk0 : Blk (w.alloc (.cells #[.int .u32 (x.a : Int), .int .i64 x.n] 31)) w.heap.size 31 #[.int .u32 (x.a : Int), .int .i64 x.n] := Blk.new _ _ _
  have HB0 := Lib.hid hb0
  have HK0 := Lib.hid hk0
  have hmp := fun wx => mayp_any x wx ha
  rw [hm] at hmp
  have HMP := Lib.hid hmp
  have HM := Lib.hid hm
  clear hmp hb0 hk0 hm
  have HAT := Lib.hid (fun (wx : World) (hx : Below w.heap.size w wx) => at_any x wb N lim L wx (h.below hx) hsm)
  have HIN := Lib.hid hin
  clear h hin
  go_enter Try.func42, Try.ntmps42
  go_wp2_with fail
  refine (HMP.out _).mono ?_
  rintro e w2 ⟨rfl, hb2⟩
  have hbx2 := HK0.out.below hb2 HK0.out.lt
  have HB2 := Lib.hid (HB0.out.trans (hb2.mono HB0.out.size))
  have y0 : w2.cell? ⟨w.heap.size, 0, none⟩ = some (.int .u32 (x.a : Int)) := hbx2.cell 0
  have y1 : w2.cell? ⟨w.heap.size, 1, none⟩ = some (.int .i64 x.n) := hbx2.cell 1
  clear hb2
  go_wp2_with fail
  refine (HAT.out _ HB2.out).mono ?_
  rintro e w3 ⟨rfl, hb3⟩
  have HB3 := Lib.hid (HB2.out.trans (hb3.mono HB2.out.size))
  have h3 := HH.out.below HB3.out
  obtain ⟨A, cap, hkw, hcap, hown, hrd, hnb⟩ := h3.form
  obtain ⟨k, hk⟩ : ∃ k, k = atP x L := ⟨_, rfl⟩
  have hkl := atP_le x L
  rw [HIN.out, ← hk]
  rw [← hk] at hkl
  obtain ⟨n, hn⟩ : ∃ n, n = L.length := ⟨_, rfl⟩
  rw [← hn] at hkw hcap hown hrd hkl hsm hlim
  have t0 : w3.cell? ⟨wb, 0, none⟩ = some (.slice A n cap) := hkw.cell 0
  have t1 : w3.cell? ⟨wb, 1, none⟩ = some (.int .i64 lim) := hkw.cell 1
  have d1 : decide (lim ≤ (n : Int)) = true := decide_eq_true (by omega)
  clear hb3 hbx2 y0 y1 hk hn hrd hkw hown hnb h3
  go_wp2_with fail
  go_quiet (fail)
  go_wp2_with fail
  go_ret
  exact ⟨rfl, tabYes_below HH.out (below_drewT HB3.out nq)⟩

set_option maxRecDepth 100000 in
set_option maxHeartbeats 4000000 in
theorem tabins_has (x : Px) (v : Int) (wb : Nat) (N : Nat → Prop) (lim : Int) (L : List (Bs × Int)) (w : World) (h : IsTab w N wb lim L) (hsm : L.length ≤ 1000000) (ha : x.a < 2 ^ 32) (hm : x.may = true) (hin : inP x L = true) :
    Calls Try.prog 42 #[.pointer (some ⟨wb, 0, none⟩), pxV x.a x.n, .int .i64 v] w fun e w' => e = .returned (.int .i64 0) ∧ TabYes w N wb lim (insS (pB x) v L) w' := by
  have HH := Lib.hid h
  have hb0 : Below w.heap.size w (w.alloc (.cells #[.int .u32 (x.a : Int), .int .i64 x.n] 31)) := (Below.refl _ _).alloc (Nat.le_refl _) _
  have hk0 : Blk (w.alloc (.cells #[.int .u32 (x.a : Int), .int .i64 x.n] 31)) w.heap.size 31 #[.int .u32 (x.a : Int), .int .i64 x.n] := Blk.new _ _ _
  have HB0 := Lib.hid hb0
  have HK0 := Lib.hid hk0
  have hmp := fun wx => mayp_any x wx ha
  rw [hm] at hmp
  have HMP := Lib.hid hmp
  have HM := Lib.hid hm
  clear hmp hb0 hk0 hm
  have HAT := Lib.hid (fun (wx : World) (hx : Below w.heap.size w wx) => at_any x wb N lim L wx (h.below hx) hsm)
  have HIN := Lib.hid hin
  clear h hin
  go_enter Try.func42, Try.ntmps42
  go_wp2_with fail
  refine (HMP.out _).mono ?_
  rintro e w2 ⟨rfl, hb2⟩
  have hbx2 := HK0.out.below hb2 HK0.out.lt
  have HB2 := Lib.hid (HB0.out.trans (hb2.mono HB0.out.size))
  have y0 : w2.cell? ⟨w.heap.size, 0, none⟩ = some (.int .u32 (x.a : Int)) := hbx2.cell 0
  have y1 : w2.cell? ⟨w.heap.size, 1, none⟩ = some (.int .i64 x.n) := hbx2.cell 1
  clear hb2
  go_wp2_with fail
  refine (HAT.out _ HB2.out).mono ?_
  rintro e w3 ⟨rfl, hb3⟩
  have HB3 := Lib.hid (HB2.out.trans (hb3.mono HB2.out.size))
  have h3 := HH.out.below HB3.out
  obtain ⟨A, cap, hkw, hcap, hown, hrd, hnb⟩ := h3.form
  obtain ⟨k, hk⟩ : ∃ k, k = atP x L := ⟨_, rfl⟩
  have hkl := atP_le x L
  rw [HIN.out, ← hk]
  rw [← hk] at hkl
  obtain ⟨n, hn⟩ : ∃ n, n = L.length := ⟨_, rfl⟩
  rw [← hn] at hkw hcap hown hrd hkl hsm
  have t0 : w3.cell? ⟨wb, 0, none⟩ = some (.slice A n cap) := hkw.cell 0
  have t1 : w3.cell? ⟨wb, 1, none⟩ = some (.int .i64 lim) := hkw.cell 1
  obtain ⟨b, hb, hpb⟩ := in_get HIN.out
  rw [← hk] at hb
  have hkn : k < n := by rw [hn]; exact (List.getElem?_eq_some_iff.1 hb).1
  obtain ⟨g, rfl, hg0⟩ := own_some hown (by omega)
  obtain ⟨e0, e1, e2⟩ := entC_get L k b hb
  obtain ⟨cur, hcur, hc2⟩ := hg0
  have hkl2 : k * 3 + 2 < (L.flatMap entC).length := (List.getElem?_eq_some_iff.1 e2).1
  obtain ⟨ad, had⟩ : ∃ ad : Addr, ad = ⟨g, 0, none⟩ := ⟨_, rfl⟩
  have hpos : (⟨(ad.add (k * 3)).block, (ad.add (k * 3)).off + 2, none⟩ : Addr) = ⟨g, k * 3 + 2, none⟩ := by rw [← add_after ad (k * 3) 2 (by omega), had, add_off, Nat.zero_add]
  have q0 : w3.cell? ⟨(ad.add (k * 3)).block, (ad.add (k * 3)).off + 2, none⟩ = some (.int .i64 b.2) := by rw [hpos]; exact (hcur.cell _).trans (hc2 _ _ e2)
  have q1 : w3.frozen? ⟨(ad.add (k * 3)).block, (ad.add (k * 3)).off + 2, none⟩ = false := by rw [hpos]; exact hcur.frozen _
  have hi0 : (0 : Int) ≤ k := by omega
  have hi1 : (k : Int) < n := by omega
  have hd1 : decide (k < n) = true := decide_eq_true hkn
  rw [← had] at t0
  have HOW := Lib.hid hown
  have HKW := Lib.hid hkw
  have HNB := Lib.hid hnb
  have HPOS := Lib.hid hpos
  have HBK := Lib.hid hb
  have HPB := Lib.hid hpb
  have HN := Lib.hid hn
  have HK := Lib.hid hk
  have HKL := Lib.hid hkl2
  clear hb3 hbx2 y0 y1 hk hn hrd hkw hown hnb hb hpb e0 e1 e2 hcur hc2 had hpos hkl2 h3
  go_wp2_with fail
  go_ret
  rw [HPOS.out]
  refine ⟨rfl, tab_set HH.out HB3.out HKW.out HOW.out HNB.out ?_ (by rw [HN.out, insS_eq, ← inP_may ha HM.out HH.out.short, HIN.out, if_pos rfl, List.length_set]) (insS_sorted HH.out.sorted) (ins_short ha HM.out HH.out.short)⟩
  rw [insS_eq, ← inP_may ha HM.out HH.out.short, HIN.out, if_pos rfl, ← atP_may ha HM.out HH.out.short, ← HK.out]
  exact (flat_set HBK.out v (HPB.out ha HM.out (HH.out.short _ (List.mem_of_getElem? HBK.out)))).symm

/-- Insert's answer and what the table is then. -/
def insT (lim : Int) (x : Px) (v : Int) (L : List (Bs × Int)) : Int × List (Bs × Int) := if x.may = false then (2, L) else if inP x L = true then (0, insS (pB x) v L) else if lim ≤ (L.length : Int) then (5, L) else (0, insS (pB x) v L)
theorem tabins_any (x : Px) (v : Int) (wb : Nat) (N : Nat → Prop) (lim : Int) (L : List (Bs × Int)) (w : World) (h : IsTab w N wb lim L) (hsm : L.length ≤ 1000000) (ha : x.a < 2 ^ 32) :
    Calls Try.prog 42 #[.pointer (some ⟨wb, 0, none⟩), pxV x.a x.n, .int .i64 v] w fun e w' => e = .returned (.int .i64 (insT lim x v L).1) ∧ TabYes w N wb lim (insT lim x v L).2 w' := by
  unfold insT
  cases hm : x.may with
  | false => exact tabins_no x v wb N lim L w h ha hm
  | true =>
    rw [if_neg (by decide)]
    cases hin : inP x L with
    | true => exact tabins_has x v wb N lim L w h hsm ha hm hin
    | false =>
      rw [if_neg (by decide)]
      by_cases hl : lim ≤ (L.length : Int)
      · rw [if_pos hl]; exact tabins_full x v wb N lim L w h hsm ha hm hin hl
      · rw [if_neg hl]; exact insert_new x v wb N lim L w h hsm ha hm hin (by omega)
end Go.Proofs.Ytejiecebckjflaa
