/- slices.Grow at nil, slices.Concat, wire.Join. -/
import Derived.Test.YtihfihehiifdkaaIrB
import Derived.Test.YtihfihehiifdkaaApZ
namespace Go.Proofs.Ytihfihehiifdkaa
open Go.RowKit Go.Sort
/-- A row of the call's own, cut to nothing. -/
theorem own_none {w : World} {B n c m : Nat} {A : Option Addr} {e : TypeId} {xs : List Value} (h : w.ownsRow B e 1 (.slice A n c) m xs) : w.ownsRow B e 1 (.slice A 0 c) 0 [] := by
  refine ⟨rfl, ?_⟩
  rcases h.2 with ⟨h1, _⟩ | ⟨g, cap, cur, h1, h2, h3, h4, h5, h6, h7⟩
  · injection h1 with a b d
    subst a d
    exact .inl ⟨rfl, rfl⟩
  · injection h1 with a b d
    subst a b d
    exact .inr ⟨g, c, cur, rfl, h2, h3, Nat.zero_le _, h5, h6, by simp⟩
set_option maxHeartbeats 800000 in
theorem grow_any (n : Nat) (w : World) (hn : n ≤ 1000000) :
    Calls Try.prog 108 #[.slice none 0 0, .int .i64 (n : Int)] w fun e w' => ∃ v, e = .returned v ∧ Row8 w.heap.size w' v [] ∧ Below w.heap.size w w' := by
  go_enter Try.func108, Try.ntmps108
  have d0 : decide ((n : Int) < 0) = false := decide_eq_false (by omega)
  by_cases h0 : n = 0
  · subst h0
    go_wp2_with fail
    go_ret
    exact ⟨_, rfl, Row8.nil _ _, Below.refl _ _⟩
  have d1 : decide ((0 : Int) < (n : Int)) = true := decide_eq_true (by omega)
  have d2 : decide (0 < n) = true := decide_eq_true (by omega)
  have hs : (Instr.slice 22 (.slice none 0 0) none (some (.int .i64 0)) none).run Try.prog w = .ok (.slice none 0 0) w := sl_hi none 0 0 w 0 (by omega)
  obtain ⟨i0, hi, hz0, hz1, hz2⟩ := info_parts info_u8
  have hmx : 0 + n ≤ maxLen := by unfold maxLen; omega
  have hmb : (0 + n) * 1 ≤ 140737488355328 := by omega
  go_wp2_with (at_builtin; refine wpList_append_zeros w rfl (.tmp 20) (.tmp 21) _ _ rfl w.heap.size 5 .i64 i0 _ 1 Try.underlying22 Try.underlying3 hi hz0 hz1 hz2 rfl rfl (.slice none 0 0) 0 [] rfl (World.ownsRow_nil _ _ _ _) n rfl hmx hmb (Nat.le_refl _) ?_; intro v2 w2 h2 hg2 hat; rw [Nat.zero_add] at h2; obtain ⟨A2, c2, rfl, hc2⟩ := own_form h2; have h3 := own_none h2; have hs2 := sl_hi A2 n c2 w2 0 (Nat.zero_le _); have H3 := Lib.hid h3; have HB := Lib.hid ((Below.refl w.heap.size w).grown hg2 (Nat.le_refl _) fun g hg => by cases hg); clear h2 hg2 hat h3)
  go_ret
  exact ⟨_, rfl, H3.out, HB.out⟩
set_option maxHeartbeats 1600000 in
theorem concat_any (A : Option Addr) (n c : Nat) (us : List Value) (xs : List By) (I : Nat → Prop) (w : World) (h : Reads w I 1 A n us) (hx : RowsE w us xs) (hsm : xs.flatten.length ≤ 1000000) (hn : n ≤ 1000000) :
    Calls Try.prog 95 #[.slice A n c] w fun e w' => ∃ v, e = .returned v ∧ Row8 w.heap.size w' v xs.flatten ∧ Below w.heap.size w w' := by
  have HR := Lib.hid h.lt
  have HX := Lib.hid hx
  have HL := Lib.hid (show xs.length = n by have := h.1; rw [← hx.len]; omega)
  have HTK := Lib.hid (show ∀ k x, xs[k]? = some x → (xs.take (k + 1)).flatten = (xs.take k).flatten ++ x from fun k x hx => by
    have hkl : k < xs.length := (List.getElem?_eq_some_iff.1 hx).1
    rw [List.take_succ_eq_append_getElem hkl, (List.getElem?_eq_some_iff.1 hx).2, List.flatten_append]
    simp)
  have HLN := Lib.hid (show ∀ k, (xs.take k).flatten.length ≤ 1000000 from fun k => by
    have h1 := congrArg (fun l => l.flatten.length) (List.take_append_drop k xs)
    simp only [List.flatten_append, List.length_append] at h1
    omega)
  obtain ⟨i0, hi, hz0, hz1, hz2⟩ := info_parts info_u8
  clear h hx
  go_enter Try.func95, Try.ntmps95
  go_wp2_with fail
  go_loopw [3, 11] (fun s i wr => ∃ k : Nat, k ≤ n ∧ i = .int .i64 (k : Int) ∧ s = .int .i64 ((xs.take k).flatten.length : Int) ∧ wr = w) (fun _ i _ => n - (intOf i).toNat)
  case atStart => exact ⟨0, Nat.zero_le _, rfl, rfl, rfl⟩
  case round =>
    obtain ⟨k, hk, rfl, rfl, rfl⟩ := hrel
    by_cases hlt : k < n
    · obtain ⟨x, hx⟩ : ∃ x, xs[k]? = some x := ⟨xs[k]'(by rw [HL.out]; exact hlt), List.getElem?_eq_getElem _⟩
      obtain ⟨u, hu, A2, c2, rfl, hc2, hr2⟩ := HX.out.get hx
      obtain ⟨ad, rfl, _, hadl, hc⟩ := HR.out.2 (by omega)
      have hcell : wr.cell? (ad.add k) = some (.slice A2 x.length c2) := hc _ _ hu
      have htk := congrArg List.length (HTK.out k x hx)
      rw [List.length_append] at htk
      have hl1 := HLN.out (k + 1)
      obtain ⟨m, hm⟩ : ∃ m, m = x.length := ⟨_, rfl⟩
      obtain ⟨s, hs⟩ : ∃ s, s = (xs.take k).flatten.length := ⟨_, rfl⟩
      rw [← hm] at hcell htk
      rw [← hs] at htk ⊢
      have HT := Lib.hid htk
      have hi0 : (0 : Int) ≤ k := by omega
      have hi1 : (k : Int) < n := by omega
      have hsb : s + m ≤ 1000000 := by omega
      have hd : decide ((s : Int) + (m : Int) < 0) = false := decide_eq_false (by omega)
      clear hx hu hc hc2 hr2 htk hm hs hl1
      go_wp2_with fail
      go_roundw
      case rel => exact ⟨k + 1, by omega, by simp, by rw [HT.out]; simp, trivial⟩
      case measure => simp [intOf]; omega
    · obtain rfl : k = n := by omega
      have hfl : (xs.take k).flatten = xs.flatten := by rw [← HL.out, List.take_length]
      rw [hfl]
      obtain ⟨m, hm⟩ : ∃ m, m = xs.flatten.length := ⟨_, rfl⟩
      rw [← hm] at hsm ⊢
      have HM := Lib.hid hm
      clear hfl hm
      go_wp2_with fail
      refine (grow_any m _ hsm).mono ?_
      rintro e w1 ⟨v1, rfl, hv1, hb1⟩
      have HV1 := Lib.hid hv1
      have HB1 := Lib.hid hb1
      clear hv1 hb1
      go_wp2_with fail
      obtain ⟨wo, rfl⟩ : ∃ wo : World, wo = wr := ⟨_, rfl⟩
      go_loopw [6, 27] (fun v i wr => ∃ j : Nat, j ≤ k ∧ i = .int .i64 (j : Int) ∧ Row8 wo.heap.size wr v (xs.take j).flatten ∧ Below wo.heap.size wo wr) (fun _ i _ => k - (intOf i).toNat)
      case atStart => exact ⟨0, Nat.zero_le _, rfl, HV1.out, HB1.out⟩
      case round =>
        obtain ⟨j, hj, rfl, hv, hb⟩ := hrel
        have HV := Lib.hid hv
        have HB := Lib.hid hb
        clear hv hb
        by_cases hlt : j < k
        · obtain ⟨x, hx⟩ : ∃ x, xs[j]? = some x := ⟨xs[j]'(by rw [HL.out]; exact hlt), List.getElem?_eq_getElem _⟩
          obtain ⟨u, hu, hs⟩ := HX.out.get hx
          obtain ⟨A2, c2, rfl, hc2, hr2⟩ := hs.below HB.out
          obtain ⟨ad, rfl, _, hadl, hc⟩ := HR.out.2 (by omega)
          have hcell : wr.cell? (ad.add j) = some (.slice A2 x.length c2) := (HB.out.cell (by rw [block_of_add]; exact hadl)).trans (hc _ _ hu)
          have htk := HTK.out j x hx
          have hlen := HLN.out (j + 1)
          rw [htk, List.length_append] at hlen
          obtain ⟨q, hq⟩ : ∃ q, q = x.length := ⟨_, rfl⟩
          rw [← hq] at hcell hr2 hlen
          have HT := Lib.hid htk
          have HR2 := Lib.hid hr2
          have HQ := Lib.hid hq
          have hi0 : (0 : Int) ≤ j := by omega
          have hi1 : (j : Int) < k := by omega
          have h63 : ((xs.take j).flatten).length + q ≤ 140737488355328 := by omega
          clear hx hu hs hc hc2 hr2 htk hlen hq
          go_wp2_with (at_builtin; refine wpList_app8 wr rfl (.tmp 31) (.tmp 32) rfl rfl wo.heap.size _ ((xs.take j).flatten) rfl HV.out _ A2 q c2 x rfl HQ.out.symm HR2.out h63 HB.out.size ?_; intro v2 w2 h2 hg2 _; have H2 := Lib.hid h2; have HB2 := Lib.hid (HB.out.grown hg2 HB.out.size fun g hg => (HV.out.lt hg).1); clear h2 hg2)
          go_roundw
          case rel => exact ⟨j + 1, by omega, by simp, by rw [HT.out]; exact H2.out, HB2.out⟩
          case measure => simp [intOf]; omega
        · obtain rfl : j = k := by omega
          have hfl : (xs.take j).flatten = xs.flatten := by rw [← HL.out, List.take_length]
          have hv := HV.out
          rw [hfl] at hv
          clear HV hfl
          go_wp2_with fail
          go_ret
          exact ⟨_, rfl, hv, HB.out⟩
theorem wjoin_any (A : Option Addr) (n c : Nat) (us : List Value) (xs : List By) (I : Nat → Prop) (w : World) (h : Reads w I 1 A n us) (hx : RowsE w us xs) (hsm : xs.flatten.length ≤ 1000000) (hn : n ≤ 1000000) :
    Calls Try.prog 68 #[.slice A n c] w fun e w' => ∃ v, e = .returned v ∧ Row8 w.heap.size w' v xs.flatten ∧ Below w.heap.size w w' := by
  have HC := Lib.hid (concat_any A n c us xs I w h hx hsm hn)
  clear h hx hsm hn
  go_enter Try.func68, Try.ntmps68
  go_wp2_with fail
  refine HC.out.mono ?_
  rintro e w1 ⟨v, rfl, hv, hb⟩
  obtain ⟨A1, c1, rfl, _⟩ := hv.form
  obtain ⟨m, hm⟩ : ∃ m, m = xs.flatten.length := ⟨_, rfl⟩
  rw [← hm] at hv ⊢
  have HV := Lib.hid hv
  have HB := Lib.hid hb
  clear hv hb hm
  go_wp2_with fail
  go_ret
  exact ⟨_, rfl, HV.out, HB.out⟩
end Go.Proofs.Ytihfihehiifdkaa
