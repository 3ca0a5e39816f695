/- The document's table: Get. -/
import Derived.Test.YtejiecebckjflaaTbJ
namespace Go.Proofs.Ytejiecebckjflaa
open Go.RowKit Go.Sort Go.BigFrame
/-- What Get answers. -/
def getT (x : Px) (L : List (Bs × Int)) : Option Int := if inP x L = true then (L[atP x L]?).map (·.2) else none
set_option maxRecDepth 100000 in
set_option maxHeartbeats 4000000 in
theorem tabget_any (x : Px) (wb : Nat) (N : Nat → Prop) (lim : Int) (L : List (Bs × Int)) (w : World) (h : IsTab w N wb lim L) (hsm : L.length ≤ 1000000) :
    Calls Try.prog 47 #[.pointer (some ⟨wb, 0, none⟩), pxV x.a x.n] w fun e w' => e = .returned (.tuple #[.int .i64 ((getT x L).getD 0), .bool (getT x L).isSome]) ∧ Below w.heap.size w w' := by
  have HH := Lib.hid h
  have hb0 : Below w.heap.size w (w.alloc (.cells #[.int .u32 (x.a : Int), .int .i64 x.n] 31)) := (Below.refl _ _).alloc (Nat.le_refl _) _
  have HB0 := Lib.hid hb0
  have HAT := Lib.hid (at_any x wb N lim L _ (h.below hb0) hsm)
  clear hb0 h
  go_enter Try.func47, Try.ntmps47
  go_wp2_with fail
  refine (HAT.out).mono ?_
  rintro e w3 ⟨rfl, hb3⟩
  have HB3 := Lib.hid (HB0.out.trans (hb3.mono HB0.out.size))
  have h3 := HH.out.below HB3.out
  clear hb3
  cases hin : inP x L with
  | false =>
    have hg : getT x L = none := by unfold getT; rw [hin]; rfl
    have HG := Lib.hid hg
    clear hg h3 hin
    go_wp2_with fail
    go_ret2
    rw [HG.out]
    exact ⟨rfl, HB3.out⟩
  | true =>
    obtain ⟨A, cap, hkw, hcap, hown, hrd, hnb⟩ := h3.form
    obtain ⟨bb, hbb, _⟩ := in_get hin
    have hg : getT x L = some bb.2 := by unfold getT; rw [hin, if_pos rfl, hbb]; rfl
    obtain ⟨k, hk⟩ : ∃ k, k = atP x L := ⟨_, rfl⟩
    rw [← hk] at hbb ⊢
    obtain ⟨n, hn⟩ : ∃ n, n = L.length := ⟨_, rfl⟩
    have hkn : k < n := by rw [hn]; exact (List.getElem?_eq_some_iff.1 hbb).1
    rw [← hn] at hkw hcap hown hrd hsm
    have t0 : w3.cell? ⟨wb, 0, none⟩ = some (.slice A n cap) := hkw.cell 0
    obtain ⟨ad, rfl, _, hadl, hc⟩ := hrd.2 (by omega)
    obtain ⟨e0, e1, e2⟩ := entC_get L k bb hbb
    have hcc2 : w3.cell? ⟨(ad.add (k * 3)).block, (ad.add (k * 3)).off + 2, none⟩ = some (.int .i64 bb.2) := by
      rw [← add_after ad (k * 3) 2 (by omega)]
      exact hc _ _ e2
    have hi0 : (0 : Int) ≤ k := by omega
    have hi1 : (k : Int) < n := by omega
    have hd1 : decide (k < n) = true := decide_eq_true hkn
    have HG := Lib.hid hg
    clear hg h3 hin hk hn hkw hown hrd hnb hbb e0 e1 e2 hc hadl
    go_wp2_with fail
    go_ret2
    rw [HG.out]
    exact ⟨rfl, HB3.out⟩
end Go.Proofs.Ytejiecebckjflaa
