/- guidepostref03.Copied, Routed. -/
import Derived.Test.YtihfihehiifdkaaIpE
namespace Go.Proofs.Ytihfihehiifdkaa
open Go.RowKit Go.Sort
theorem high_take {L : List (UInt8 × By)} {i : Nat} {s : UInt8 × By} (h : L[i]? = some s) : flatF (highF (L.take (i + 1))) = flatF (highF (L.take i)) ++ (if 128 ≤ s.1 then s.2 else []) := by
  have hi := (List.getElem?_eq_some_iff.1 h).1
  rw [List.take_succ_eq_append_getElem hi, (List.getElem?_eq_some_iff.1 h).2]
  unfold highF
  rw [List.filter_append, flatF_app]
  by_cases h1 : 128 ≤ s.1
  · rw [if_pos h1]; simp [h1, flatF]
  · rw [if_neg h1]; simp [h1, flatF]
theorem flat_high_le (L : List (UInt8 × By)) (k : Nat) : (flatF (highF (L.take k))).length ≤ (flatF L).length := by
  have h1 : ∀ L : List (UInt8 × By), (flatF (highF L)).length ≤ (flatF L).length := by
    intro L
    induction L with
    | nil => exact Nat.le_refl _
    | cons s r ih =>
      have e : flatF (s :: r) = s.2 ++ flatF r := by simp [flatF]
      rw [e, List.length_append]
      unfold highF at ih ⊢
      rw [List.filter_cons]
      split
      · have e : flatF (s :: r.filter fun s => decide (128 ≤ s.1)) = s.2 ++ flatF (r.filter fun s => decide (128 ≤ s.1)) := by simp [flatF]
        rw [e, List.length_append]; omega
      · omega
  have h2 : (flatF (L.take k)).length ≤ (flatF L).length := by
    have := congrArg (fun l => (flatF l).length) (List.take_append_drop k L)
    simp only [flatF_app, List.length_append] at this
    omega
  exact Nat.le_trans (h1 _) h2

set_option maxRecDepth 20000 in
set_option maxHeartbeats 2000000 in
theorem rcopied_any (A : Option Addr) (n c : Nat) (x : By) (I : Nat → Prop) (w : World) (h : Reads w I 1 A n (bytesV x)) (hn : x.length = n) (hc : n ≤ c) (hsm : n ≤ 1000000) :
    Calls Try.prog 81 #[.slice A n c] w (fun e w' => ∃ v, e = .returned v ∧ Row8 w.heap.size w' v (copF x) ∧ Below w.heap.size w w') := by
  have HR := Lib.hid h.lt
  have HL := Lib.hid hn
  have HC := Lib.hid (parts_any A n c x I w h hn hsm)
  clear h hn
  go_enter Try.func81, Try.ntmps81
  go_wp2_with fail
  refine HC.out.mono ?_
  rintro e w1 ⟨v1, rfl, hp, hb⟩
  obtain ⟨N, hN⟩ : ∃ N, N = (partsF x).length := ⟨_, rfl⟩
  have hp0 := hp
  unfold PartR at hp0
  obtain ⟨A1, c1, rfl, hc1⟩ := own_form hp0
  rw [← hN]
  rw [← hN] at hp hc1
  have HN := Lib.hid hN
  have HP := Lib.hid hp
  have HB := Lib.hid hb
  clear hp hb hp0 hN
  go_wp2_with fail
  go_loopw [5, 6] (fun v i wr => ∃ (k : Nat), k ≤ N ∧ i = .int .i64 (k : Int) ∧ Row8 w1.heap.size wr v (flatF (highF ((if goodF x = true then steps x else []).take k))) ∧ Below w1.heap.size w1 wr) (fun _ i _ => N - (intOf i).toNat)
  case atStart => exact ⟨0, Nat.zero_le _, rfl, Row8.nil _ _, Below.refl _ _⟩
  case round =>
    obtain ⟨k, hk, rfl, hv, hb⟩ := hrel
    have HV := Lib.hid hv
    have HB1 := Lib.hid hb
    clear hv hb
    by_cases hlt : k < N
    · have hgood : goodF x = true := by
        by_cases hg : goodF x = true
        · exact hg
        · exfalso
          have := HN.out
          unfold partsF at this
          rw [if_neg hg] at this
          simp at this
          omega
      have hpf : partsF x = partsAt 0 (steps x) := by unfold partsF; rw [if_pos hgood]
      have hNn : N ≤ 1000000 := by
        have h1 := HN.out
        have h2 := steps_len _ x (Nat.le_refl _)
        have h3 := HL.out
        rw [hpf, partsAt_len] at h1
        omega
      obtain ⟨s, hs⟩ : ∃ s, (steps x)[k]? = some s := ⟨(steps x)[k]'(by have := HN.out; rw [hpf, partsAt_len] at this; omega), List.getElem?_eq_getElem _⟩
      obtain ⟨p, hp, hple, hcut⟩ := part_at hs
      rw [← hpf] at hp
      have hok := good_ok hgood s (List.mem_of_getElem? hs)
      have HP1 := HP.out
      have hgp : ∃ gp, A1 = some ⟨gp, 0, none⟩ := by
        obtain ⟨g, cap, hv, _⟩ := HP1.form (by have := HN.out; omega)
        injection hv with hv
        exact ⟨g, hv⟩
      obtain ⟨gp, rfl⟩ := hgp
      have hcell := fun (wx : World) (hx : Below w1.heap.size w1 wx) => part_cells HP1 hp (Nat.le_refl _) hx
      obtain ⟨kb, r, hsk⟩ : ∃ kb r, s.2 = kb :: r := by
        cases h : s.2 with
        | nil => exact absurd h (ok_ne hok)
        | cons a b => exact ⟨a, b, rfl⟩
      have hkb : kb = s.1 := by
        rcases hok with ⟨h1, h2⟩ | ⟨_, _, m, d, h2, _⟩
        · rw [h2] at hsk; injection hsk with e _; rw [← e, h1]
        · rw [h2] at hsk; injection hsk with e _; exact e.symm
      have hxp := part_head hcut hsk
      have hpx : p < x.length := (List.getElem?_eq_some_iff.1 hxp).1
      have hxe : x[p] = s.1 := by rw [← hkb]; exact (List.getElem?_eq_some_iff.1 hxp).2
      have hrd1 := HR.out.keep (Same.ofBelow HB.out fun k hk => hk.2)
      obtain ⟨ad, rfl, hadl, hc0⟩ := byte_at hrd1 hpx
      rw [hxe] at hc0
      have hbyte : ∀ wx, Below w1.heap.size w1 wx → wx.cell? (ad.add p) = some (.int .u8 (s.1.toNat : Int)) := fun wx hx => (hx.cell (by rw [block_of_add]; exact hadl)).trans hc0
      have hi0 : (0 : Int) ≤ k := by omega
      have hi1 : (k : Int) < N := by omega
      have hd0 : decide ((k : Int) < (N : Int)) = true := decide_eq_true (by omega)
      have hd1 : decide (k < N) = true := decide_eq_true hlt
      have hp0 : (0 : Int) ≤ p := by omega
      have hpn : (p : Int) < n := by have := HL.out; omega
      obtain ⟨m, hm⟩ : ∃ m, m = s.2.length := ⟨_, rfl⟩
      obtain ⟨b, hbe⟩ : ∃ b, b = s.1.toNat := ⟨_, rfl⟩
      have hb256 : b < 256 := by rw [hbe]; exact s.1.toNat_lt
      rw [← hm] at hcell hple
      rw [← hbe] at hbyte
      have hopt := high_take hs
      have HOPT := Lib.hid hopt
      have hxl := HL.out
      obtain ⟨x1, x2⟩ := hcell wr HB1.out
      have x3 := hbyte wr HB1.out
      have HCELL := Lib.hid hcell
      have HBYTE := Lib.hid hbyte
      have HHG := Lib.hid hgood
      have HM := Lib.hid hm
      have HBE := Lib.hid hbe
      have HCUT := Lib.hid hcut
      have HOK := Lib.hid hok
      clear hcell hbyte hopt hm hbe hcut hxe hxp hpx hkb hsk hrd1 hc0 hp hs hpf HP1 hgood hxl hok
      have hfl : (flatF (highF ((if goodF x = true then steps x else []).take k))).length ≤ n := by
        rw [if_pos HHG.out]
        have := flat_high_le (steps x) k
        obtain ⟨z, hz⟩ := steps_prefix _ x (Nat.le_refl _)
        have h2 := congrArg List.length hz
        rw [List.length_append] at h2
        have := HL.out
        omega
      by_cases h1 : b < 128
      · have hb1 : decide ((128 : Int) ≤ (b : Int)) = false := decide_eq_false (by omega)
        have hb2 : decide (128 ≤ b) = false := decide_eq_false (by omega)
        have hs1 : ¬ 128 ≤ s.1 := fun e => by have := UInt8.le_iff_toNat_le.1 e; have := HBE.out; simp at *; omega
        have HV2 : Hid (Row8 w1.heap.size wr u5 (flatF (highF ((if goodF x = true then steps x else []).take (k + 1))))) := by
          have := HV.out
          rw [if_pos HHG.out] at this ⊢
          rw [HOPT.out, if_neg hs1, List.append_nil]
          exact this
        go_wp2_with fail
        go_roundw
        case rel => exact ⟨k + 1, by omega, rfl, HV2, HB1.out⟩
        case measure => simp [intOf]; omega
      · have hb1 : decide ((128 : Int) ≤ (b : Int)) = true := decide_eq_true (by omega)
        have hb2 : decide (128 ≤ b) = true := decide_eq_true (by omega)
        have hs1 : 128 ≤ s.1 := UInt8.le_iff_toNat_le.2 (by have := HBE.out; simp; omega)
        obtain ⟨pm, hpm⟩ : ∃ pm, pm = p + m := ⟨_, rfl⟩
        have hpl : p + m ≤ n := by rw [← HL.out]; exact hple
        have hwm : IntKind.i64.wrap ((p : Int) + (m : Int)) = (pm : Int) := by rw [wrap_i64 _ (by omega) (by omega)]; omega
        obtain ⟨ca, hca⟩ : ∃ ca, ca = (if c = p then some ad else (some ad).map (·.add p)) := ⟨_, rfl⟩
        obtain ⟨cn, hcn⟩ : ∃ cn, cn = pm - p := ⟨_, rfl⟩
        obtain ⟨cc, hcc⟩ : ∃ cc, cc = c - p := ⟨_, rfl⟩
        have hcv : Value.slice ca cn cc = Value.slice (if c = p then some ad else (some ad).map (·.add p)) (pm - p) (c - p) := by rw [hca, hcn, hcc]
        have hsl : ∀ wx : World, (Instr.slice 22 (.slice (some ad) n c) (some (.int .i64 (p : Int))) (some (.int .i64 (pm : Int))) none).run Try.prog wx = .ok (.slice ca cn cc) wx := fun wx => by rw [hcv]; exact sl_lohi (some ad) n c wx p pm (by omega) (by omega)
        have hcm : cn = m := by omega
        have hdata : Reads w (fun k => I k ∧ k < w.heap.size) 1 ca cn (bytesV s.2) := by
          have hr := HR.out
          have := cut_lohi (a := p) (b := pm) (cap := c) (x := x) (by rw [HL.out]; exact hr) (by omega) (by rw [HL.out]; omega) (by rw [HL.out]; exact hc)
          have hc0 := HCUT.out 0 m (by omega) (by rw [HM.out]; exact Nat.le_refl _)
          rw [Nat.add_zero, List.drop_zero, List.take_of_length_le (by rw [HM.out]; exact Nat.le_refl _)] at hc0
          rw [← hcv, hpm, hc0] at this
          obtain ⟨e1, _, e3⟩ := this.len
          rw [e1]; exact e3
        have HDATA := Lib.hid hdata
        have HPL := Lib.hid hpl
        obtain ⟨i0, hi, hz0, hz1, hz2⟩ := info_parts info_u8
        have hmx : (flatF (highF ((if goodF x = true then steps x else []).take k))).length + cn ≤ maxLen := by unfold maxLen; omega
        have hmb : ((flatF (highF ((if goodF x = true then steps x else []).take k))).length + cn) * 1 ≤ 140737488355328 := by omega
        have HCM := Lib.hid hcm
        clear hpm hcv hca hcn hcc hdata hpl hcm
        go_wp2_with fail
        clear x1 x2 x3
        refine wp_region_mix [(true, 19), (false, 2)] 0 (by kernel_rfl) (fun wx => Below w1.heap.size w1 wx) (fun _ _ h k => h.trans (k.mono h.size)) (by kernel_rfl) HB1.out (a' := ?_) (fun wz hz => ?_) fun wz hz => ?_
        rotate_left
        · obtain ⟨y1, y2⟩ := HCELL.out wz hz
          have z1 := cell_regrown y1
          have z2 := cell_regrown y2
          clear y1 y2
          simp only [pick_nil, pick_tt, pick_ft, List.take_succ_cons, List.take_zero, List.drop_succ_cons, List.drop_zero, List.append_nil]
          repeat (go_big_quiet_step (fail))
          refine wpQuiet_nil ?_
          rfl
        · simp only [pick_nil, pick_ff, pick_tf, List.take_succ_cons, List.take_zero, List.drop_succ_cons, List.drop_zero, List.append_nil]
          have HZ := Lib.hid (HB1.out.trans (hz.mono HB1.out.size))
          have HVZ := own_below HV.out hz
          have HDZ := HDATA.out.keep (Same.ofBelow (HB.out.trans (HZ.out.mono HB.out.size)) fun k hk => hk.2)
          clear hz
          refine wpMix_append HZ.out rfl (.tmp 27) (.tmp 45) _ rfl rfl w1.heap.size 5 i0 _ 1 1 Try.underlying22 hi hz0 hz1 hz2 rfl (by decide) u5 _ _ rfl HVZ _ ca cn cc _ rfl HDZ (bytesV_one _) hmx hmb HZ.out.size fun v2 w2 h2 hg2 _ => ?_
          have HB2 := Lib.hid (HZ.out.grown hg2 HZ.out.size fun _ hg => (own_lt HVZ hg).1)
          have H2 := Lib.hid h2
          clear h2 hg2 HVZ HDZ
          refine wpMix_plain ?_
          have h4 : Row8 w1.heap.size w2 v2 (flatF (highF ((if goodF x = true then steps x else []).take (k + 1)))) := by
            have h2 := H2.out
            rw [← bytesV_app, HCM.out, HM.out, ← List.length_append] at h2
            rw [if_pos HHG.out] at h2 ⊢
            rw [HOPT.out, if_pos hs1]
            exact h2
          have H4 := Lib.hid h4
          clear h4
          go_wp2_with fail
          go_roundw
          case rel => exact ⟨k + 1, by omega, rfl, H4.out, HB2.out⟩
          case measure => simp [intOf]; omega
    · obtain rfl : k = N := by omega
      have hd0 : decide ((k : Int) < (k : Int)) = false := decide_eq_false (by omega)
      have hd1 : decide (k < k) = false := decide_eq_false (by omega)
      obtain ⟨y, hy⟩ : ∃ y, y = flatF (highF (if goodF x = true then steps x else [])) := ⟨_, rfl⟩
      have hfin : Row8 w1.heap.size wr u5 y := by
        have hd := HV.out
        have hN := HN.out
        unfold partsF at hN
        rw [hy]
        by_cases hg : goodF x = true
        · rw [if_pos hg] at hd hN ⊢
          rw [partsAt_len] at hN
          rw [List.take_of_length_le (by omega)] at hd
          exact hd
        · rw [if_neg hg] at hd hN ⊢
          rw [List.take_nil] at hd
          exact hd
      have hyl : y.length ≤ 1000000 := by
        have h2 := flat_high_le (if goodF x = true then steps x else []) (if goodF x = true then steps x else []).length
        rw [List.take_length] at h2
        obtain ⟨z, hz⟩ := steps_prefix _ x (Nat.le_refl _)
        have h3 := congrArg List.length hz
        rw [List.length_append] at h3
        have := HL.out
        rw [hy]
        by_cases hg : goodF x = true
        · rw [if_pos hg] at h2 ⊢; omega
        · rw [if_neg hg] at h2 ⊢; simp [flatF] at h2 ⊢; omega
      have hcop : copF x = padF y := by
        rw [hy]
        unfold copF
        by_cases hg : goodF x = true
        · rw [if_pos hg, if_pos hg]
        · rw [if_neg hg, if_neg hg]; rfl
      have HF := Lib.hid hfin
      have HCOP := Lib.hid hcop
      obtain ⟨i0, hi, hz0, hz1, hz2⟩ := info_parts info_u8
      clear hfin hd0 hy hcop HV
      go_wp2_with fail
      obtain ⟨wo, hwo⟩ : ∃ wo : World, wo = wr := ⟨_, rfl⟩
      rw [← hwo]
      rw [← hwo] at HF HB1
      clear hwo
      go_loopw [5] (fun v wr => ∃ (j : Nat), j ≤ (4 - y.length % 4) % 4 ∧ Row8 w1.heap.size wr v (y ++ List.replicate j 0) ∧ Below w1.heap.size w1 wr) (fun v _ => 1000010 - lenV v)
      case atStart => exact ⟨0, Nat.zero_le _, by simpa using HF.out, HB1.out⟩
      case round =>
        obtain ⟨j, hj, hv, hb⟩ := hrel
        obtain ⟨q, hq⟩ : ∃ q, q = (4 - y.length % 4) % 4 := ⟨_, rfl⟩
        rw [← hq] at hj ⊢
        obtain ⟨u, hu⟩ : ∃ u, u = y ++ List.replicate j 0 := ⟨_, rfl⟩
        have hul : u.length = y.length + j := by rw [hu]; simp
        rw [← hu] at hv
        obtain ⟨A3, c3, rfl, hc3⟩ := hv.form
        obtain ⟨m, hm⟩ : ∃ m, m = u.length := ⟨_, rfl⟩
        have hv' := hv
        rw [← hm] at hv' hc3 ⊢
        have hm0 : (0 : Int) ≤ m := by omega
        have hml : m ≤ 1000003 := by omega
        have HV := Lib.hid hv'
        have HBW := Lib.hid hb
        by_cases hlt : j < q
        · have h4 : ((m : Int) % 4 != 0) = true := by rw [bne_iff_ne]; omega
          have hnx : u ++ [0] = y ++ List.replicate (j + 1) 0 := by rw [hu, List.append_assoc, List.replicate_succ']
          have HNX := Lib.hid hnx
          have HQ := Lib.hid hq
          have HM := Lib.hid hm
          have hu63 : u.length + 1 ≤ 140737488355328 := by omega
          have hms : j + 1 ≤ q := hlt
          have hmm : 1000010 - (m + 1) < 1000010 - m := by omega
          clear hv hv' hb hu hul hm hq hnx
          go_wp2_with (at_builtin; refine wpList_push8 wr rfl (.tmp 51) (.tmp 52) rfl rfl w1.heap.size _ u 0 0 rfl rfl HV.out rfl hu63 HBW.out.size ?_; intro v2 w2 h2 hg2 _)
          have H2 := Lib.hid h2
          have HB2 := Lib.hid (HBW.out.grown hg2 HBW.out.size fun g hg => (own_lt HV.out hg).1)
          clear h2 hg2
          go_wp2_with fail
          go_roundw
          case rel => exact ⟨j + 1, hms, by rw [← HNX.out]; exact H2.out, HB2.out⟩
          case measure =>
            obtain ⟨A4, c4, e4, _⟩ := H2.out.form
            rw [e4]
            simp only [lenV]
            rw [List.length_append, ← HM.out]
            exact hmm
        · obtain rfl : j = q := by omega
          have h4 : ((m : Int) % 4 != 0) = false := by rw [bne_eq_false_iff_eq]; omega
          have hres : Row8 w1.heap.size wr (.slice A3 m c3) (copF x) := by
            rw [HCOP.out]
            unfold padF
            rw [← hq, ← hu]
            exact hv'
          have HRES := Lib.hid hres
          clear hv hv' hb hu hul hm hq hres hj hlt HV
          go_wp2_with fail
          go_ret
          exact ⟨_, rfl, own_base HRES.out HB.out.size, HB.out.trans (HBW.out.mono HB.out.size)⟩
end Go.Proofs.Ytihfihehiifdkaa
