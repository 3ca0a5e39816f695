/- Rows of byte slices; guidepostref01.Join. -/
import Derived.Test.YtihfihehiifdkaaIrA
namespace Go.Proofs.Ytihfihehiifdkaa
open Go.RowKit Go.Sort
theorem Sl8.below {w w' : World} {u : Value} {x : By} (h : Sl8 w (fun _ => True) u x) (hb : Below w.heap.size w w') : Sl8 w' (fun _ => True) u x := by
  obtain ⟨A, c, e, hc, hr⟩ := h
  exact ⟨A, c, e, hc, (hr.lt.keep (Same.ofBelow hb fun k hk => hk.2)).mono fun _ _ => trivial⟩
def RowsE (w : World) : List Value → List By → Prop
  | [], [] => True
  | u :: us, x :: xs => Sl8 w (fun _ => True) u x ∧ RowsE w us xs
  | _, _ => False
theorem RowsE.below {w w' : World} (hb : Below w.heap.size w w') : ∀ {us : List Value} {xs : List By}, RowsE w us xs → RowsE w' us xs
  | [], [], _ => trivial
  | _ :: _, _ :: _, h => ⟨h.1.below hb, RowsE.below hb h.2⟩
  | [], _ :: _, h => h.elim
  | _ :: _, [], h => h.elim
theorem RowsE.len {w : World} : ∀ {us : List Value} {xs : List By}, RowsE w us xs → us.length = xs.length
  | [], [], _ => rfl
  | _ :: _, _ :: _, h => by simp [RowsE.len h.2]
  | [], _ :: _, h => h.elim
  | _ :: _, [], h => h.elim
theorem RowsE.get {w : World} : ∀ {us : List Value} {xs : List By} {i : Nat} {x : By}, RowsE w us xs → xs[i]? = some x → ∃ u, us[i]? = some u ∧ Sl8 w (fun _ => True) u x
  | u :: _, y :: _, 0, x, h, e => by
    obtain rfl : y = x := by simpa using e
    exact ⟨u, rfl, h.1⟩
  | _ :: us, _ :: xs, i + 1, x, h, e => by
    have := RowsE.get (i := i) h.2 (by simpa using e)
    simpa using this
  | [], [], _, _, _, e => by cases e
  | [], _ :: _, _, _, h, _ => h.elim
  | _ :: _, [], _, _, h, _ => h.elim
set_option maxHeartbeats 800000 in
theorem join_any (A : Option Addr) (n c : Nat) (us : List Value) (xs : List By) (I : Nat → Prop) (w : World) (h : Reads w I 1 A n us) (hx : RowsE w us xs) (hsm : xs.flatten.length ≤ 1000000) (hn : n ≤ 1000000) :
    Calls Try.prog 78 #[.slice A n c] w fun e w' => ∃ v, e = .returned v ∧ Row8 w.heap.size w' v xs.flatten ∧ Below w.heap.size w w' := by
  have HR := Lib.hid h.lt
  have HX := Lib.hid hx
  have HL := Lib.hid (show xs.length = n by have := h.1; rw [← hx.len]; omega)
  obtain ⟨i0, hi, hz0, hz1, hz2⟩ := info_parts info_u8
  clear h hx
  go_enter Try.func78, Try.ntmps78
  go_wp2_with fail
  go_loopw [3, 4] (fun v i wr => ∃ k : Nat, k ≤ n ∧ i = .int .i64 (k : Int) ∧ Row8 w.heap.size wr v (xs.take k).flatten ∧ Below w.heap.size w wr) (fun _ i _ => n - (intOf i).toNat)
  case atStart => exact ⟨0, Nat.zero_le _, rfl, Row8.nil _ _, Below.refl _ _⟩
  case round =>
    obtain ⟨k, hk, rfl, hv, hb⟩ := hrel
    have HV := Lib.hid hv
    have HB := Lib.hid hb
    clear hv hb
    by_cases hlt : k < n
    · obtain ⟨x, hx⟩ : ∃ x, xs[k]? = some x := ⟨xs[k]'(by rw [HL.out]; exact hlt), List.getElem?_eq_getElem _⟩
      obtain ⟨u, hu, hs⟩ := HX.out.get hx
      obtain ⟨A2, c2, rfl, hc2, hr2⟩ := hs.below HB.out
      obtain ⟨ad, rfl, _, hadl, hc⟩ := HR.out.2 (by omega)
      have hcell : wr.cell? (ad.add k) = some (.slice A2 x.length c2) := (HB.out.cell (by rw [block_of_add]; exact hadl)).trans (hc _ _ hu)
      have htk : (xs.take (k + 1)).flatten = (xs.take k).flatten ++ x := by
        have hkl : k < xs.length := by rw [HL.out]; exact hlt
        rw [List.take_succ_eq_append_getElem hkl, (List.getElem?_eq_some_iff.1 hx).2, List.flatten_append]
        simp
      have hlen : (xs.take (k + 1)).flatten.length ≤ 1000000 := by
        have h1 := congrArg (fun l => l.flatten.length) (List.take_append_drop (k + 1) xs)
        simp only [List.flatten_append, List.length_append] at h1
        omega
      rw [htk, List.length_append] at hlen
      obtain ⟨m, hm⟩ : ∃ m, m = x.length := ⟨_, rfl⟩
      rw [← hm] at hcell hr2 hlen
      have HTK := Lib.hid htk
      have HR2 := Lib.hid hr2
      have HM := Lib.hid hm
      have hi0 : (0 : Int) ≤ k := by omega
      have hi1 : (k : Int) < n := by omega
      have h63 : ((xs.take k).flatten).length + m ≤ 140737488355328 := by omega
      clear hx hu hs hc hc2 hr2 htk hlen hm
      go_wp2_with (at_builtin; refine wpList_app8 wr rfl (.tmp 11) (.tmp 15) rfl rfl w.heap.size _ ((xs.take k).flatten) rfl HV.out _ A2 m c2 x rfl HM.out.symm HR2.out h63 HB.out.size ?_; intro v2 w2 h2 hg2 _)
      have H2 := Lib.hid h2
      have HB2 := Lib.hid (HB.out.grown hg2 HB.out.size fun g hg => (HV.out.lt hg).1)
      clear h2 hg2
      go_wp2_with fail
      go_roundw
      case rel => exact ⟨k + 1, by omega, rfl, by rw [HTK.out]; exact H2.out, HB2.out⟩
      case measure => simp [intOf]; omega
    · obtain rfl : k = n := by omega
      have hv := HV.out
      rw [List.take_of_length_le (by rw [HL.out]; exact Nat.le_refl _)] at hv
      have HV2 := Lib.hid hv
      clear hv
      go_wp2_with fail
      go_ret
      exact ⟨_, rfl, HV2.out, HB.out⟩
end Go.Proofs.Ytihfihehiifdkaa
