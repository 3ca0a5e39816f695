/- Layer 16: the document's Missing. -/
import Derived.Test.YtihfihehiifdkaaRzE
import Derived.Test.YtihfihehiifdkaaIpA
namespace Go.Proofs.Ytihfihehiifdkaa
open Go.RowKit Go.Sort Go.BigFrame
def missT (T : List Fl) (k : Key) : List Nat := match T.find? (fun f => f.key == k) with | some f => missF f | none => []
theorem missT_at {R : List Rg} {k : Key} {i : Nat} (h : findK (R.map Rg.f) k = some i) {x : Rg} (hx : R[i]? = some x) : missT (R.map Rg.f) k = missF x.f := by
  have hf : (R.map Rg.f).find? (fun f => f.key == k) = some x.f := by
    unfold findK at h
    obtain ⟨hk, h1, h2⟩ := List.findIdx?_eq_some_iff_getElem.1 h
    rw [List.find?_eq_some_iff_getElem]
    have e : (R.map Rg.f)[i] = x.f := by
      have : (R.map Rg.f)[i]? = some x.f := by rw [List.getElem?_map, hx]; rfl
      exact Option.some.inj ((List.getElem?_eq_getElem hk).symm.trans this)
    refine ⟨by rw [← e]; exact h1, i, hk, e, fun j hj => by have := h2 j hj; simpa using this⟩
  unfold missT
  rw [hf]
theorem missT_no {R : List Rg} {k : Key} (h : findK (R.map Rg.f) k = none) : missT (R.map Rg.f) k = [] := by
  unfold findK at h
  rw [List.findIdx?_eq_none_iff] at h
  have : (R.map Rg.f).find? (fun f => f.key == k) = none := by
    rw [List.find?_eq_none]
    exact fun f hf => by have := h f hf; simpa using this
  unfold missT
  rw [this]
theorem missG_T (G : List GF) (k : Key) : missG G k = missT (G.map GF.f) k := by
  unfold missG findG missT
  rw [List.find?_map]
  show _ = match Option.map GF.f (G.find? (fun g => g.f.key == k)) with | some f => missF f | none => []
  cases G.find? (fun g => g.f.key == k) <;> rfl
theorem endF_le {f : Fl} (hf : FlOk f) : endF f ≤ f.bl ∧ (f.en < 0 → endF f = (f.bl - 1) / 8 * 8) ∧ (0 ≤ f.en → (endF f : Int) = f.en) := by
  have h1 := hf.e1
  unfold endF
  split
  · exact ⟨by omega, fun h => by omega, fun h => by omega⟩
  · exact ⟨by omega, fun h => by omega, fun h => by omega⟩
set_option maxRecDepth 100000 in
set_option maxHeartbeats 8000000 in
attribute [-go_sem] Instr.storeAt Instr.loadAt in
theorem rmiss16_any {w : World} {lo rb : Nat} {v : Value} {R : List Rg} (h : RfM w lo rb v R) (p : Key) :
    Calls Try.prog 56 #[.pointer (some ⟨rb, 0, none⟩), pcV p] w fun e w' => ∃ u, e = .returned u ∧ RowN w.heap.size w' u (missT (R.map Rg.f) p) ∧ Below w.heap.size w w' := by
  obtain ⟨W1, hW1⟩ : ∃ Z, Z = w.alloc (.cells (pcC p) 68) := ⟨_, rfl⟩
  have hb1 : Below w.heap.size w W1 := by rw [hW1]; exact (Below.refl _ _).alloc (Nat.le_refl _) _
  have hkp : Blk W1 w.heap.size 68 (pcC p) := by rw [hW1]; exact Blk.new _ _ _
  have l3 := pc_load hkp rfl
  have hfi := find16_any (h.below hb1) p
  have HF := Lib.hid hfi
  have HW1 := Lib.hid hW1
  have HB1 := Lib.hid hb1
  have HT := Lib.hid (fun wx (hb : Below w.heap.size w wx) => h.below hb)
  have HIC := Lib.hid (idxR_cases R p)
  obtain ⟨z, hz⟩ : ∃ z, z = idxR R p := ⟨_, rfl⟩
  rw [← hz] at HF HIC
  unfold pcV at HF l3 ⊢
  unfold pcC at HF HW1 l3 ⊢
  clear hW1 hb1 hkp h hfi hz
  go_enter Try.func56, Try.ntmps56
  go_upto_region 1 with (fail)
  rw [← HW1.out]
  go_upto_region 2 with (go_at_call 88; refine HF.out.mono ?_; rintro e w2 ⟨rfl, hb2⟩; have HB2 := Lib.hid (HB1.out.trans (hb2.mono HB1.out.size)); clear hb2)
  clear l3
  have hic := HIC.out
  rcases hic with ⟨ez, ek⟩ | ⟨i, gg, ez, hgi, hkk, ek⟩
  · subst ez
    have HM := Lib.hid (missT_no ek)
    clear ek
    go_wp2_with fail
    go_ret
    exact ⟨_, rfl, by rw [HM.out]; exact World.ownsRow_nil _ _ _ _, HB2.out⟩
  subst ez
  have HM := Lib.hid (missT_at ek hgi)
  have ht2 := HT.out w2 HB2.out
  obtain ⟨gr, cr, hvr, _⟩ := ht2.at_ (by have := (List.getElem?_eq_some_iff.1 hgi).1; omega)
  subst hvr
  obtain ⟨nr, hnr⟩ : ∃ z, z = R.length := ⟨_, rfl⟩
  rw [← hnr] at ht2
  have hir : i < nr := by rw [hnr]; exact (List.getElem?_eq_some_iff.1 hgi).1
  have i0 : (0 : Int) ≤ (i : Int) := by omega
  have i1 : (i : Int) < (nr : Int) := by omega
  have l0 := ld_rl (ht2.blk.cell 0)
  have l1 := RfM.ld ht2 hnr hgi
  have hgok := ht2.fl gg (List.mem_of_getElem? hgi)
  obtain ⟨w3, hst3, hb3, hb23, hk3⟩ := fl_var HB2.out HB2.out.size (rgA gg) rfl (rgL_all hgok)
  have HB3 := Lib.hid hb3
  have HK3 := Lib.hid hk3
  have HG3 := Lib.hid (show ∀ wx, Below w3.heap.size w3 wx → RgOk wx lo gg from fun wx hb => (hgok.below hb23).below hb)
  have HOK := Lib.hid hgok.ok
  have hl64 := ht2.len
  clear ek hgi hkk ht2 hgok hb3 hb23 hk3 hnr
  go_upto_region 5 with (fail)
  clear hst3 l0 l1
  obtain ⟨fk, hfk⟩ : ∃ z, z = w2.heap.size := ⟨_, rfl⟩
  rw [← hfk] at HK3 ⊢
  have HFK := Lib.hid (show w.heap.size ≤ fk by rw [hfk]; exact HB2.out.size)
  obtain ⟨f, hf⟩ : ∃ f, f = gg.f := ⟨_, rfl⟩
  have HFE := Lib.hid hf
  obtain ⟨Ah, ch, hhv, hch⟩ := own_form (HG3.out w3 (Below.refl _ _)).h
  rw [← hf] at HOK HM hhv hch
  have hbl := HOK.out.bl
  obtain ⟨hE1, hE2, hE3⟩ := endF_le HOK.out
  have HE2 := Lib.hid hE2
  have HE3 := Lib.hid hE3
  have HLB := Lib.hid (lastF_bl HOK.out)
  have HLK := Lib.hid (fun k => fullF_lack HOK.out k)
  have HHC := Lib.hid (show 0 < f.bl → ∃ ab, Ah = some ⟨ab, 0, none⟩ ∧ ∀ wx, Below w3.heap.size w3 wx → ∀ i, i < f.bl → wx.cell? ⟨ab, i, none⟩ = some (.bool (hasF f i)) from fun hn => by
    obtain ⟨ab, c, e1, _⟩ := (HG3.out w3 (Below.refl _ _)).hcell (by rw [← hf]; exact hn)
    rw [hhv, ← hf] at e1
    injection e1 with e1 _ _
    refine ⟨ab, e1, fun wx hb i hi => ?_⟩
    obtain ⟨ab2, c2, e2, hc2⟩ := (HG3.out wx hb).hcell (by rw [← hf]; exact hn)
    rw [hhv, ← hf, e1] at e2
    injection e2 with e2 _ _
    injection e2 with e2
    injection e2 with e2
    subst e2
    have := hc2 i (by rw [← hf]; exact hi)
    rwa [← hf] at this)
  obtain ⟨bl, hble⟩ : ∃ z, z = f.bl := ⟨_, rfl⟩
  obtain ⟨en, hene⟩ : ∃ z, z = f.en := ⟨_, rfl⟩
  obtain ⟨E, hEe⟩ : ∃ z, z = endF f := ⟨_, rfl⟩
  rw [← hble] at hE1 hbl HHC HLB hhv HE2 hch
  rw [← hene] at HE2 HE3
  rw [← hEe] at hE1 HE2 HE3 HLK
  have HC := Lib.hid (show ∀ wx, Below w3.heap.size w3 wx → wx.cell? ⟨fk, 5, none⟩ = some (.slice Ah bl ch) ∧ wx.cell? ⟨fk, 6, none⟩ = some (.int .i64 en) from fun wx hb => by
    have := HK3.out.below hb HK3.out.lt
    exact ⟨by rw [this.cell, ← hhv]; rfl, by rw [this.cell, hene, hf]; rfl⟩)
  have HEE := Lib.hid hEe
  have hen0 : -1 ≤ en := by rw [hene]; exact HOK.out.e0
  have l6 := ld_int (HC.out w3 (Below.refl _ _)).2
  have l5 := ld_bools (HC.out w3 (Below.refl _ _)).1
  obtain ⟨i0', hi0, hz0, hz1, hz2⟩ := info_parts (show (Try.prog.info? 3).map (fun i => (i.zero, i.size, i.bytes)) = some (some (.int .i64 0), 1, 8) by kernel_rfl)
  clear hf hhv hch hE2 hE3 hble hene hEe hfk
  go_upto_region 6 with (fail)
-- TAIL
  obtain ⟨M, hM⟩ : ∃ M, M = (E + 7) / 8 := ⟨_, rfl⟩
  have HME := Lib.hid hM
  clear hM
  by_cases hneg : en < 0
  · have HEV := Lib.hid (HE2.out hneg)
    go_wp2_with fail
    clear l6
    go_loopw [8, 9] (fun s8 s9 wr => ∃ n : Nat, s8 = .int .i64 ((lastF f n : Nat) : Int) ∧ s9 = .int .i64 (n : Int) ∧ n ≤ bl ∧ wr = w3) (fun _ s9 _ => bl - (intOf s9).toNat)
    case atStart => exact ⟨0, rfl, rfl, Nat.zero_le _, rfl⟩
    case round =>
      obtain ⟨n, rfl, rfl, hn, rfl⟩ := hrel
      obtain ⟨ls, hls⟩ : ∃ z, z = lastF f n := ⟨_, rfl⟩
      have HLS := Lib.hid hls
      rw [← hls]
      clear hls
      by_cases hnl : n < bl
      · obtain ⟨ab, hAe, hcc⟩ := HHC.out (by omega)
        subst hAe
        have ln := ld_bl (hcc wr (Below.refl _ _) n hnl)
        have q0 : (0 : Int) ≤ (n : Int) := by omega
        have q1 : (n : Int) < (bl : Int) := by omega
        have HLN := Lib.hid (show lastF f (n + 1) = if hasF f n = true then n else lastF f n from rfl)
        clear hcc
        cases hh : hasF f n with
        | true =>
          rw [hh] at ln
          have HV := Lib.hid (show lastF f (n + 1) = n by rw [HLN.out, if_pos hh])
          clear hh
          go_wp2_with fail
          go_roundw
          case measure => first | (simp [intOf]; done) | (simp [intOf]; omega)
          case rel => exact ⟨n + 1, by rw [HV.out], by go_num, by omega, trivial⟩
        | false =>
          rw [hh] at ln
          have HV := Lib.hid (show lastF f (n + 1) = ls by rw [HLN.out, if_neg (by rw [hh]; decide), HLS.out])
          clear hh
          go_wp2_with fail
          go_roundw
          case measure => first | (simp [intOf]; done) | (simp [intOf]; omega)
          case rel => exact ⟨n + 1, by rw [HV.out], by go_num, by omega, trivial⟩
      · have q1 : ¬ ((n : Int) < (bl : Int)) := by omega
        have hqe : ((ls : Nat) : Int) / 8 * 8 = (E : Int) := by
          have h1 : ls = bl - 1 := by rw [HLS.out, show n = bl by omega]; exact HLB.out
          have := HEV.out
          omega
        have hls9 : (ls : Int) ≤ 65535 := by
          have h1 : ls = bl - 1 := by rw [HLS.out, show n = bl by omega]; exact HLB.out
          omega
        obtain ⟨wm, rfl⟩ : ∃ z, z = wr := ⟨_, rfl⟩
        go_wp2_with fail
        go_loopw [10, 11] (fun s10 s11 wr => ∃ (k : Nat) (u : Value), s10 = u ∧ s11 = .int .i64 (k : Int) ∧ k ≤ M ∧ RowN wm.heap.size wr u ((List.range k).filter (lackF f)) ∧ Below wm.heap.size wm wr) (fun _ s11 _ => M - (intOf s11).toNat)
        case atStart => exact ⟨0, _, rfl, rfl, Nat.zero_le _, World.ownsRow_nil _ _ _ _, Below.refl _ _⟩
        case round =>
          obtain ⟨wo, rfl⟩ : ∃ z, z = wr := ⟨_, rfl⟩
          obtain ⟨k, u, hs10, rfl, hk, hU, hB⟩ := hrel
          obtain rfl := hs10.symm
          have HU := Lib.hid hU
          have HB := Lib.hid hB
          have hs5 := ld_bools (HC.out wo hB).1
          clear hU hB
          by_cases hlt : 8 * k < E
          · have hk1 : k + 1 ≤ M := by rw [HME.out]; omega
            have hp1 : 8 * (k : Int) < (E : Int) := by omega
            obtain ⟨ab, hAe, hcc⟩ := HHC.out (by omega)
            have HCC := Lib.hid (hcc wo HB.out)
            subst hAe
            obtain ⟨J, hJ⟩ : ∃ J, J = min 8 (E - 8 * k) := ⟨_, rfl⟩
            have HJ := Lib.hid hJ
            have hlk := HLK.out k
            have hlk2 : lackF f k = !fullF f k J := by rw [hlk, hJ, HEE.out]
            have HLK2 := Lib.hid hlk2
            clear hlk hlk2 hcc hJ
            go_wp2_with fail
            go_loopw [12, 13] (fun s12 s13 wr => ∃ (j : Nat) (a : Bool), s12 = .bool a ∧ s13 = .int .i64 (8 * (k : Int) + (j : Int)) ∧ j ≤ J ∧ a = fullF f k j ∧ wr = wo) (fun _ s13 _ => J - (intOf s13 - 8 * (k : Int)).toNat)
            case atStart => exact ⟨0, true, rfl, by simp, Nat.zero_le _, rfl, rfl⟩
            case round =>
              obtain ⟨j, a, rfl, rfl, hj, ha, rfl⟩ := hrel
              have HA := Lib.hid ha
              clear ha
              by_cases hjl : j < J
              · have hJv := HJ.out
                have hj8 : j < 8 := by omega
                have hjE : 8 * k + j < E := by omega
                have q1 : 8 * (k : Int) + (j : Int) < 8 * (k : Int) + 8 := by omega
                have q2 : 8 * (k : Int) + (j : Int) < (E : Int) := by omega
                have q3 : 8 * (k : Int) + (j : Int) < (bl : Int) := by omega
                have q4 : (0 : Int) ≤ 8 * (k : Int) + (j : Int) := by omega
                have hcj := HCC.out (8 * k + j) (by omega)
                have lj := ld_bl hcj
                have hin : (8 * (k : Int) + (j : Int)).toNat = 8 * k + j := by omega
                have HS := Lib.hid (fullF_snoc f k j)
                clear hcj hJv
                cases ha : a with
                | false =>
                  have HF := Lib.hid (show fullF f k (j + 1) = false by rw [HS.out, ← HA.out, ha]; rfl)
                  clear ha lj
                  go_wp2_with fail
                  go_roundw
                  case measure => first | (simp [intOf]; done) | (simp [intOf]; omega)
                  case rel => exact ⟨j + 1, false, rfl, by go_num, by omega, HF.out.symm, trivial⟩
                | true =>
                  have HF := Lib.hid (show fullF f k (j + 1) = hasF f (8 * k + j) by rw [HS.out, ← HA.out, ha, Bool.true_and])
                  clear ha
                  obtain ⟨hb, hhb⟩ : ∃ z, z = hasF f (8 * k + j) := ⟨_, rfl⟩
                  rw [← hhb] at lj
                  have HHB := Lib.hid hhb
                  clear hhb
                  go_wp2_with fail
                  go_roundw
                  case measure => first | (simp [intOf]; done) | (simp [intOf]; omega)
                  case rel => exact ⟨j + 1, hb, rfl, by go_num, by omega, by rw [HF.out]; exact HHB.out, trivial⟩
              · have hjJ : j = J := by omega
                have HFU := Lib.hid (show a = !lackF f k by rw [HLK2.out, HA.out, hjJ]; simp)
                have HMS := Lib.hid (missF_snoc f k)
                have hlen9 := Nat.le_trans (List.length_filter_le (lackF f) (List.range k)) (Nat.le_of_eq List.length_range)
                obtain ⟨nL, hnL⟩ : ∃ z, z = ((List.range k).filter (lackF f)).length := ⟨_, rfl⟩
                have HNL := Lib.hid hnL
                rw [← hnL] at hlen9
                have hmx : nL + 1 ≤ maxLen := by unfold maxLen; have := HME.out; omega
                have hmb : (nL + 1) * 8 ≤ 140737488355328 := by have := HME.out; omega
                have hrw := HU.out
                unfold RowN at hrw
                rw [← hnL] at hrw
                have hbs : wm.heap.size ≤ wr.heap.size := HB.out.size
                have hJv := HJ.out
                clear hnL
                have hex : ¬ (8 * (k : Int) + (j : Int) < 8 * (k : Int) + 8 ∧ 8 * (k : Int) + (j : Int) < (E : Int)) := by omega
                have h8 : ¬ (8 * (k : Int) + (j : Int) < 8 * (k : Int) + 8) := by omega
                all_goals
                  have hE9 : (8 * (k : Int) + (j : Int) < 8 * (k : Int) + 8) → ¬ (8 * (k : Int) + (j : Int) < (E : Int)) := fun h1 h2 => hex ⟨h1, h2⟩
                  clear hex hJv
                  try have hE8 := hE9 h8
                  clear hE9
                  cases ha : a with
                  | true =>
                    have HL0 := Lib.hid (show lackF f k = false by have := HFU.out; rw [ha] at this; cases hl : lackF f k with | false => rfl | true => rw [hl] at this; cases this)
                    clear ha hrw hmx hmb
                    go_wp2_with fail
                    go_roundw
                    case measure => first | (simp [intOf]; done) | (simp [intOf]; omega)
                    case rel => exact ⟨k + 1, u, rfl, by go_num, hk1, by rw [HMS.out, HL0.out, if_neg (by decide), List.append_nil]; exact HU.out, HB.out⟩
                  | false =>
                    have HL0 := Lib.hid (show lackF f k = true by have := HFU.out; rw [ha] at this; cases hl : lackF f k with | true => rfl | false => rw [hl] at this; cases this)
                    clear ha
                    go_wp2_with (at_builtin; refine wpList_pushN _ rfl (.tmp 83) (.tmp 85) _ 3 rfl rfl i0' _ 1 8 Try.underlying57 hi0 hz0 hz1 hz2 rfl (by decide) wm.heap.size _ nL _ [.int .i64 (k : Int)] rfl (fun x hx => by rw [List.mem_singleton.1 hx]; rfl) rfl hrw rfl hmx hmb hbs ?_; intro v2 w9 h9 hg9 _; have H9 := Lib.hid h9; have HB9 := Lib.hid (HB.out.grown hg9 hbs fun b hb => (own_lt hrw hb).1); clear h9 hg9 hrw)
                    go_roundw
                    case measure => first | (simp [intOf]; done) | (simp [intOf]; omega)
                    case rel => exact ⟨k + 1, v2, rfl, by go_num, hk1, by rw [HMS.out, HL0.out, if_pos rfl]; unfold RowN; rw [natV_app, List.length_append, ← HNL.out]; exact H9.out, HB9.out⟩
          · have hp1 : ¬ (8 * (k : Int) < (E : Int)) := by omega
            have hkM : k = M := by have := HME.out; omega
            have HMS := Lib.hid (show (List.range k).filter (lackF f) = missF f by unfold missF; rw [hkM, HME.out, HEE.out])
            have hM9 : M ≤ 8192 := by have := HME.out; omega
            subst hkM
            go_wp2_with fail
            go_ret
            exact ⟨u, rfl, by rw [HM.out, ← HMS.out]; exact own_base HU.out HB3.out.size, HB3.out.trans (HB.out.mono HB3.out.size)⟩

  · have hpos : 0 ≤ en := by omega
    have hEn : en = (E : Int) := (HE3.out hpos).symm
    subst hEn
    go_wp2_with fail
    go_loopw [10, 11] (fun s10 s11 wr => ∃ (k : Nat) (u : Value), s10 = u ∧ s11 = .int .i64 (k : Int) ∧ k ≤ M ∧ RowN w3.heap.size wr u ((List.range k).filter (lackF f)) ∧ Below w3.heap.size w3 wr) (fun _ s11 _ => M - (intOf s11).toNat)
    case atStart => exact ⟨0, _, rfl, rfl, Nat.zero_le _, World.ownsRow_nil _ _ _ _, Below.refl _ _⟩
    case round =>
      obtain ⟨wo, rfl⟩ : ∃ z, z = wr := ⟨_, rfl⟩
      obtain ⟨k, u, hs10, rfl, hk, hU, hB⟩ := hrel
      obtain rfl := hs10.symm
      have HU := Lib.hid hU
      have HB := Lib.hid hB
      have hs5 := ld_bools (HC.out wo hB).1
      clear hU hB
      by_cases hlt : 8 * k < E
      · have hk1 : k + 1 ≤ M := by rw [HME.out]; omega
        have hp1 : 8 * (k : Int) < (E : Int) := by omega
        obtain ⟨ab, hAe, hcc⟩ := HHC.out (by omega)
        have HCC := Lib.hid (hcc wo HB.out)
        subst hAe
        obtain ⟨J, hJ⟩ : ∃ J, J = min 8 (E - 8 * k) := ⟨_, rfl⟩
        have HJ := Lib.hid hJ
        have hlk := HLK.out k
        have hlk2 : lackF f k = !fullF f k J := by rw [hlk, hJ, HEE.out]
        have HLK2 := Lib.hid hlk2
        clear hlk hlk2 hcc hJ
        go_wp2_with fail
        go_loopw [12, 13] (fun s12 s13 wr => ∃ (j : Nat) (a : Bool), s12 = .bool a ∧ s13 = .int .i64 (8 * (k : Int) + (j : Int)) ∧ j ≤ J ∧ a = fullF f k j ∧ wr = wo) (fun _ s13 _ => J - (intOf s13 - 8 * (k : Int)).toNat)
        case atStart => exact ⟨0, true, rfl, by simp, Nat.zero_le _, rfl, rfl⟩
        case round =>
          obtain ⟨j, a, rfl, rfl, hj, ha, rfl⟩ := hrel
          have HA := Lib.hid ha
          clear ha
          by_cases hjl : j < J
          · have hJv := HJ.out
            have hj8 : j < 8 := by omega
            have hjE : 8 * k + j < E := by omega
            have q1 : 8 * (k : Int) + (j : Int) < 8 * (k : Int) + 8 := by omega
            have q2 : 8 * (k : Int) + (j : Int) < (E : Int) := by omega
            have q3 : 8 * (k : Int) + (j : Int) < (bl : Int) := by omega
            have q4 : (0 : Int) ≤ 8 * (k : Int) + (j : Int) := by omega
            have hcj := HCC.out (8 * k + j) (by omega)
            have lj := ld_bl hcj
            have hin : (8 * (k : Int) + (j : Int)).toNat = 8 * k + j := by omega
            have HS := Lib.hid (fullF_snoc f k j)
            clear hcj hJv
            cases ha : a with
            | false =>
              have HF := Lib.hid (show fullF f k (j + 1) = false by rw [HS.out, ← HA.out, ha]; rfl)
              clear ha lj
              go_wp2_with fail
              go_roundw
              case measure => first | (simp [intOf]; done) | (simp [intOf]; omega)
              case rel => exact ⟨j + 1, false, rfl, by go_num, by omega, HF.out.symm, trivial⟩
            | true =>
              have HF := Lib.hid (show fullF f k (j + 1) = hasF f (8 * k + j) by rw [HS.out, ← HA.out, ha, Bool.true_and])
              clear ha
              obtain ⟨hb, hhb⟩ : ∃ z, z = hasF f (8 * k + j) := ⟨_, rfl⟩
              rw [← hhb] at lj
              have HHB := Lib.hid hhb
              clear hhb
              go_wp2_with fail
              go_roundw
              case measure => first | (simp [intOf]; done) | (simp [intOf]; omega)
              case rel => exact ⟨j + 1, hb, rfl, by go_num, by omega, by rw [HF.out]; exact HHB.out, trivial⟩
          · have hjJ : j = J := by omega
            have HFU := Lib.hid (show a = !lackF f k by rw [HLK2.out, HA.out, hjJ]; simp)
            have HMS := Lib.hid (missF_snoc f k)
            have hlen9 := Nat.le_trans (List.length_filter_le (lackF f) (List.range k)) (Nat.le_of_eq List.length_range)
            obtain ⟨nL, hnL⟩ : ∃ z, z = ((List.range k).filter (lackF f)).length := ⟨_, rfl⟩
            have HNL := Lib.hid hnL
            rw [← hnL] at hlen9
            have hmx : nL + 1 ≤ maxLen := by unfold maxLen; have := HME.out; omega
            have hmb : (nL + 1) * 8 ≤ 140737488355328 := by have := HME.out; omega
            have hrw := HU.out
            unfold RowN at hrw
            rw [← hnL] at hrw
            have hbs : w3.heap.size ≤ wr.heap.size := HB.out.size
            have hJv := HJ.out
            clear hnL
            have hex : ¬ (8 * (k : Int) + (j : Int) < 8 * (k : Int) + 8 ∧ 8 * (k : Int) + (j : Int) < (E : Int)) := by omega
            by_cases h8 : 8 * (k : Int) + (j : Int) < 8 * (k : Int) + 8
            all_goals
              have hE9 : (8 * (k : Int) + (j : Int) < 8 * (k : Int) + 8) → ¬ (8 * (k : Int) + (j : Int) < (E : Int)) := fun h1 h2 => hex ⟨h1, h2⟩
              clear hex hJv
              try have hE8 := hE9 h8
              clear hE9
              cases ha : a with
              | true =>
                have HL0 := Lib.hid (show lackF f k = false by have := HFU.out; rw [ha] at this; cases hl : lackF f k with | false => rfl | true => rw [hl] at this; cases this)
                clear ha hrw hmx hmb
                go_wp2_with fail
                go_roundw
                case measure => first | (simp [intOf]; done) | (simp [intOf]; omega)
                case rel => exact ⟨k + 1, u, rfl, by go_num, hk1, by rw [HMS.out, HL0.out, if_neg (by decide), List.append_nil]; exact HU.out, HB.out⟩
              | false =>
                have HL0 := Lib.hid (show lackF f k = true by have := HFU.out; rw [ha] at this; cases hl : lackF f k with | true => rfl | false => rw [hl] at this; cases this)
                clear ha
                go_wp2_with (at_builtin; refine wpList_pushN _ rfl (.tmp 83) (.tmp 85) _ 3 rfl rfl i0' _ 1 8 Try.underlying57 hi0 hz0 hz1 hz2 rfl (by decide) w3.heap.size _ nL _ [.int .i64 (k : Int)] rfl (fun x hx => by rw [List.mem_singleton.1 hx]; rfl) rfl hrw rfl hmx hmb hbs ?_; intro v2 w9 h9 hg9 _; have H9 := Lib.hid h9; have HB9 := Lib.hid (HB.out.grown hg9 hbs fun b hb => (own_lt hrw hb).1); clear h9 hg9 hrw)
                go_roundw
                case measure => first | (simp [intOf]; done) | (simp [intOf]; omega)
                case rel => exact ⟨k + 1, v2, rfl, by go_num, hk1, by rw [HMS.out, HL0.out, if_pos rfl]; unfold RowN; rw [natV_app, List.length_append, ← HNL.out]; exact H9.out, HB9.out⟩
      · have hp1 : ¬ (8 * (k : Int) < (E : Int)) := by omega
        have hkM : k = M := by have := HME.out; omega
        have HMS := Lib.hid (show (List.range k).filter (lackF f) = missF f by unfold missF; rw [hkM, HME.out, HEE.out])
        have hM9 : M ≤ 8192 := by have := HME.out; omega
        subst hkM
        go_wp2_with fail
        go_ret
        exact ⟨u, rfl, by rw [HM.out, ← HMS.out]; exact own_base HU.out HB3.out.size, HB3.out.trans (HB.out.mono HB3.out.size)⟩

end Go.Proofs.Ytihfihehiifdkaa
