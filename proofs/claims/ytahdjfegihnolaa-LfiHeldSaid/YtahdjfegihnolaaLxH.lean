/- Layer 12: LfiHeld, the walk (printed by gen_lxh.py). -/
import Derived.Test.YtahdjfegihnolaaLxG
namespace Go.Proofs.Ytahdjfegihnolaa
open Go.RowKit Go.Sort
set_option maxRecDepth 100000 in
set_option maxHeartbeats 16000000 in
attribute [-go_sem] Instr.storeAt Instr.loadAt Instr.build in
theorem lheld_any (room : Int) (A : Option Addr) (n c : Nat) (lo : List Pf) (B : Option Addr) (m d : Nat) (le : List Ev) (w : World) (r : Reads w (fun k => k < w.heap.size) 2 A n (flatP lo)) (hl : lo.length = n) (hp : ∀ p ∈ lo, p.1 < 2 ^ 32)
    (r2 : Reads w (fun k => k < w.heap.size) 6 B m (le.flatMap evC)) (hl2 : le.length = m) (hp2 : ∀ e ∈ le, e.p.1 < 2 ^ 32) :
    Calls Try.prog 4 #[.int .i64 room, .slice A n c, .slice B m d] w fun e w' => e = .returned (.bool true) ∧ Below w.heap.size w w' := by
  have HN := Lib.hid (core_new room A n c lo w r hl hp)
  have HR2 := Lib.hid r2
  have HL2 := Lib.hid hl2
  have HP2 := Lib.hid hp2
  clear r hl hp r2 hl2 hp2
  by_cases hbig : 150 < m
  · have hd : decide (150 < (m : Int)) = true := decide_eq_true (by omega)
    go_enter Try.func4, Try.ntmps4
    go_wp2_with (go_at_call 10; refine (known12_any _).mono ?_; rintro e w' ⟨rfl, hb⟩)
    go_ret
    exact ⟨rfl, hb⟩
  by_cases hbig2 : 8 < n
  · have hd : decide (150 < (m : Int)) = false := decide_eq_false (by omega)
    have hd2 : decide (8 < (n : Int)) = true := decide_eq_true (by omega)
    go_enter Try.func4, Try.ntmps4
    go_wp2_with (go_at_call 10; refine (known12_any _).mono ?_; rintro e w' ⟨rfl, hb⟩)
    go_ret
    exact ⟨rfl, hb⟩
  by_cases hbig3 : room < 1
  · have hd : decide (150 < (m : Int)) = false := decide_eq_false (by omega)
    have hd2 : decide (8 < (n : Int)) = false := decide_eq_false (by omega)
    have hd3 : decide (room < 1) = true := decide_eq_true (by omega)
    go_enter Try.func4, Try.ntmps4
    go_wp2_with (go_at_call 10; refine (known12_any _).mono ?_; rintro e w' ⟨rfl, hb⟩)
    go_ret
    exact ⟨rfl, hb⟩
  have hd : decide (150 < (m : Int)) = false := decide_eq_false (by omega)
  have hd2 : decide (8 < (n : Int)) = false := decide_eq_false (by omega)
  have hd3 : decide (room < 1) = false := decide_eq_false (by omega)
  have hn := HN.out
  unfold MadeC at hn
  cases hnf : newF room lo with
  | none =>
    rw [hnf] at hn
    have HN' := Lib.hid hn
    clear hn hnf
    go_enter Try.func4, Try.ntmps4
    go_wp2_with (first
      | (go_at_call 11; refine HN'.out.mono ?_; rintro e w1 ⟨rfl, hb1⟩; have HB1 := Lib.hid hb1; clear hb1)
      | (go_at_call 10; refine (known12_any _).mono ?_; rintro e w' ⟨rfl, hb⟩))
    go_ret
    exact ⟨rfl, HB1.out.trans (hb.mono HB1.out.size)⟩
  | some all =>
    rw [hnf] at hn
    have HN' := Lib.hid hn
    clear hn hnf
    go_enter Try.func4, Try.ntmps4
    go_upto_region 7 with (go_at_call 11; refine HN'.out.mono ?_; rintro e w1 ⟨cb, mb, M, rfl, hc⟩; have HC := Lib.hid hc; clear hc)
    obtain ⟨hb, hhb⟩ : ∃ b, b = w1.heap.size := ⟨_, rfl⟩
    rw [← hhb]
    obtain ⟨W1, hW1⟩ : ∃ Z, Z = w1.alloc (.cells (hdC fun _ => none) 51) := ⟨_, rfl⟩
    have eW : w1.alloc (.cells #[.map none, .map none, .map none, .map none, .map none, .map none, .map none, .map none] 51) = W1 := by rw [hW1]; rfl
    rw [eW]
    have HB1 := Lib.hid (show HbK w W1 M cb mb hb (fun _ => none) (fun _ _ => []) 0 ⟨room, pc0, all⟩ from ⟨by rw [hW1]; exact HC.out.later ((Below.refl _ _).alloc (Nat.le_refl _) _), by rw [hW1, hhb]; exact hd_new w w1 HC.out.bel.size, fun q b _ hm => (by cases hm), fun q _ hu => (by cases hu)⟩)
    clear hhb hW1 eW HC HN' HN
    go_wp2_with fail
    go_loopw [10] (fun s10 wr => ∃ (k : Nat) (M : Nat → Prop) (S : Lc) (mq : Nat → Option Nat) (H : Held) (N : Nat), k ≤ m ∧ s10 = .int .i64 (k : Int) ∧ HbK w wr M cb mb hb mq H N S ∧ HI S H ∧ N ≤ k * 20001 ∧ ∀ q p, (H q p).length ≤ k * 40002) (fun s10 _ => m - (intOf s10).toNat)
    case atStart => exact ⟨0, M, _, _, _, 0, Nat.zero_le _, rfl, HB1.out, ⟨fun q hu => (by cases hu)⟩, Nat.zero_le _, fun _ _ => Nat.zero_le _⟩
    case round =>
      clear HB1
      obtain ⟨k, M1, S, mq, H, N, hk, rfl, hC, hI, hN, hLn⟩ := hrel
      have HC := Lib.hid hC
      have HI1 := Lib.hid hI
      have HNB := Lib.hid hN
      have HLB := Lib.hid hLn
      clear hI hN hLn
      by_cases hlt : k < m
      · obtain ⟨e, hek⟩ : ∃ e, le[k]? = some e := ⟨_, List.getElem?_eq_getElem (by rw [HL2.out]; exact hlt)⟩
        obtain ⟨ad, rfl, lv⟩ := ld_evR HR2.out HL2.out hC.core.bel hek
        have HEK := Lib.hid hek
        have k0 : (0 : Int) ≤ k := by omega
        have k1 : (k : Int) < m := by omega
        have HPE := Lib.hid (HP2.out e (List.mem_of_getElem? hek))
        have HDO := Lib.hid (core_do hC.core e HPE.out)
        obtain ⟨wa, hwa⟩ : ∃ Z, Z = wr := ⟨_, rfl⟩
        have HWA := Lib.hid hwa
        clear hC hek hwa
        obtain ⟨⟨T, o, z⟩, hd3⟩ : ∃ x, x = doF S e := ⟨_, rfl⟩
        have HD3 := Lib.hid hd3
        clear hd3
        go_upto_region 11 with (go_at_call 12; refine HDO.out.mono ?_; rintro en w3 ⟨v, rfl, hdc⟩; unfold DoneC at hdc; rw [← HD3.out] at hdc ⊢; obtain ⟨M3, ho3, hc3, hm3, hu3⟩ := hdc; dsimp only at ho3 hc3 ⊢; obtain ⟨Av, cv, rfl, _⟩ := own_form ho3)
        clear lv
        obtain ⟨hh3, hap3⟩ := HC.out.done hm3 hu3
        have HC3 := Lib.hid hc3
        have HO3 := Lib.hid (show OutM w3 w.heap.size (.slice Av o.length cv) o from own_base ho3 HC.out.core.bel.size)
        have HH3 := Lib.hid (And.intro hh3 hap3)
        obtain ⟨no, hno⟩ : ∃ q, q = o.length := ⟨_, rfl⟩
        rw [← hno] at HO3 ⊢
        have HNO := Lib.hid hno
        clear hc3 ho3 hu3 hno hm3 hh3 hap3
        by_cases hz : z = 0
        case neg =>
          have hne : (((z : Nat) : Int) != 0) = true := by rw [bne_iff_ne]; omega
          have hdn := do_nop (c := S) (e := e) (by rw [← HD3.out]; exact hz)
          rw [← HD3.out] at hdn
          injection hdn with h1 h2
          have HT := Lib.hid h1
          clear h1 h2 hz
          go_wp2_with fail
          go_roundw
          case rel => exact ⟨k + 1, M3, T, mq, H, N, by omega, by go_num, ⟨HC3.out, HH3.out.1, HH3.out.2, by rw [HT.out]; exact HC.out.up⟩, by rw [HT.out]; exact HI1.out, by have := HNB.out; omega, fun q p => by have := HLB.out q p; omega⟩
          case measure => simp [intOf]; omega
        case pos =>
          subst hz
          obtain ⟨po, hpo, hpo8⟩ := (tells_plain HC.out.core.ok HD3.out.symm).port
          have hpoN : e.port.toNat = po := by rw [hpo]; rfl
          obtain ⟨ek, el, _⟩ := ev_hfl HR2.out HL2.out HC3.out.bel HEK.out
          rw [hpo] at el
          have HPO := Lib.hid (And.intro hpo (And.intro hpo8 hpoN))
          have p0 : (0 : Int) ≤ po := by omega
          have p1 : (po : Int) < 8 := by omega
          obtain ⟨kd, hkd⟩ : ∃ z, z = e.kind := ⟨_, rfl⟩
          have HKD := Lib.hid hkd
          rw [← hkd] at ek
          clear hpo hpo8 hpoN hkd
          go_upto_region 13 with (fail)
          clear el
          go_cut [92] from 57 to 274 (fun s92 wx => s92 = .bool (kd == 1 || kd == 2) ∧ w3 = wx)
          case first =>
            cases hk1 : (kd == 1) with
            | true =>
              go_wp2_with fail
              go_meet
              case rel => exact ⟨by rw [hk1]; rfl, rfl⟩
            | false =>
              cases hk2 : (kd == 2) with
              | true =>
                go_wp2_with fail
                go_meet
                case rel => exact ⟨by rw [hk1, hk2]; rfl, rfl⟩
              | false =>
                go_wp2_with fail
                go_meet
                case rel => exact ⟨by rw [hk1, hk2]; rfl, rfl⟩
          case rest =>
            obtain ⟨rfl, hwc⟩ := hcut
            subst hwc
            obtain ⟨b12, hb12⟩ : ∃ b, b = (kd == 1 || kd == 2) := ⟨_, rfl⟩
            rw [← hb12]
            have H12 := Lib.hid (show b12 = true ↔ (e.kind = 1 ∨ e.kind = 2) by rw [hb12, HKD.out]; simp)
            clear hb12
            clear ek
            go_upto_if 92 with (fail)
            refine held92 HC3.out HH3.out.1 HH3.out.2 HPO.out.2.1 HPO.out.2.2 HO3.out H12.out (fun q hq hu => by
              rcases up_from HD3.out.symm hu with h | ⟨h1, h⟩
              · exact .inl (HC.out.up q hq h)
              · exact .inr ⟨h1, h.trans HPO.out.2.2⟩) ?_
            intro a0 a1 a2 mq2 w4 h4
            have HB2 := Lib.hid h4.1
            have HO2 := Lib.hid h4.2.1
            have HQ2 := Lib.hid h4.2.2
            clear h4
            obtain ⟨ek, _⟩ := ev_hfl HR2.out HL2.out HB2.out.core.bel HEK.out
            rw [← HKD.out] at ek
            obtain ⟨b5, hb5⟩ : ∃ b, b = (kd == 5) := ⟨_, rfl⟩
            have H5 := Lib.hid (show b5 = true ↔ e.kind = 5 by rw [hb5, HKD.out]; simp)
            have HX5 := Lib.hid (show e.kind = 5 → pfOk e.p ∧ (mq2 po).isSome = true ∧ 2 ≤ (heldA H e po e.p).length ∧ (heldA H e po e.p).length ≤ 100000000 from fun h5 => by
              have hnk : ¬ (e.kind = 1 ∨ e.kind = 2) := by omega
              rw [heldA_not H hnk]
              obtain ⟨H', hH', _⟩ := held_law HC.out.core.ok HI1.out HD3.out.symm
              have h2len := (held_steps hH').2 h5
              have hup := ack_up HD3.out.symm (by omega)
              rw [HPO.out.2.2] at h2len hup
              refine ⟨may_ok ⟨(okE_ack (do_parts HD3.out.symm).1 (by omega) (by omega) (by omega) (by omega)).2, HPE.out⟩, ?_, h2len, by have := HLB.out po e.p; omega⟩
              rcases HQ2.out with h | h
              · exact absurd h hnk
              · rw [h]
                exact HC.out.up po HPO.out.2.1 hup)
            go_upto_if 101 with (fail)
            rw [← hb5]
            clear ek hb5
            refine held101 HB2.out HR2.out HL2.out HEK.out HPO.out.2.1 HPO.out.2.2 HO2.out H5.out (by have := HNB.out; omega) HX5.out ?_
            intro b0 b1 b2 b3 b4 b5 b6 b7 b8 b9 b10 b11 b12 b13 b14 b15 b16 b17 b18 b19 b20 b21 b22 w5 h5
            have hcut := h5
            clear h5
            obtain ⟨hB3, hO3⟩ := hcut
            have HB3 := Lib.hid hB3
            have HO4 := Lib.hid hO3
            obtain ⟨H', hH', hI'⟩ := held_law HC.out.core.ok HI1.out HD3.out.symm
            have hst := (held_steps hH').1
            have hno := do_out HC.out.core.ok e
            rw [← HD3.out] at hno
            have hln : ∀ q p, (H' q p).length ≤ (k + 1) * 40002 := fun q p => by
              rw [hst]
              have := tells_len o (heldB (heldA H e) e) (fun q p => heldB_len (heldA_len HLB.out e) e q p) q p
              dsimp only at hno
              omega
            have HI3 := Lib.hid hI'
            have HST := Lib.hid hst
            have HLN := Lib.hid hln
            have HNO2 := Lib.hid (show no ≤ 20000 by rw [HNO.out]; exact hno)
            have HTU := Lib.hid (tells_plain HC.out.core.ok HD3.out.symm).up
            have HTM := Lib.hid (tells_may HC.out.core.ok (fun x hx => (HC.out.core.mayx x hx).2) HPE.out HD3.out.symm)
            clear hB3 hO3 hH' hI' hst hno hln
            go_upto_block 2 with fail
            refine held2 HB3.out.hd HO4.out ⟨HNO.out, HNO2.out⟩ (fun t ht => ⟨(HTU.out t ht).1, HB3.out.up _ (HTU.out t ht).1 (HTU.out t ht).2, may_ok (HTM.out t ht)⟩) (by have := HNB.out; omega) (KL := k * 40002) (fun q p => heldB_len (heldA_len HLB.out e) e q p) (by omega) HB3.out.core.bel.size ?_
            intro y0 y1 y2 y3 y4 y5 y6 y7 y8 y9 y10 y11 y12 y13 y14 y15 y16 y17 y18 y19 y20 y21 y22 y23 y24 y25 y26 y27 y28 y29 y30 y31 y32 y33 y34 y35 y36 y37 y38 y39 y40 y41 y42 y43 y44 y45 w6 hm6 hu6
            have hb6 := HB3.out.maps hm6 hu6
            rw [← HST.out] at hb6
            have HB6 := Lib.hid hb6
            have HRC := Lib.hid (core_routes hb6.core)
            clear hm6 hu6 hb6
            go_upto_region 29 with (go_at_call 13; refine HRC.out.mono ?_; rintro en w7 ⟨v7, rfl, hr7, hb7⟩; obtain ⟨L, hL, hrl⟩ := hr7; obtain ⟨Ar, cr, rfl, _⟩ := own_form hrl.1; have HRL := Lib.hid hrl; have HL7 := Lib.hid hL; have HB7 := Lib.hid (HB6.out.later hb7); clear hb7 hL hrl)
            obtain ⟨q, hq⟩ : ∃ q, q = L.length := ⟨_, rfl⟩
            rw [← hq]
            have hrl := HRL.out
            rw [← hq] at hrl
            have HR7 := Lib.hid hrl
            have HQ := Lib.hid hq
            have HRK := Lib.hid (show HrK w w7 cb hb mq2 H' (N + 1 + no) T from ⟨⟨M3, mb, HB7.out.core⟩, HB7.out.hd, HI3.out, fun q p => by have := HLN.out q p; omega⟩)
            clear hq hrl HRL
            go_upto_block 4 with fail
            refine held4 HRK.out HR7.out HL7.out HQ.out ?_
            intro x0 x1 x2 x3 x4 x5 x6 x7 x8 x9 x10 x11 x12 x13 x14 x15 x16 x17 x18 x19 x20 x21 x22 x23 x24 x25 x26 x27 x28 x29 x30 x31 x32 x33 x34 x35 x36 x37 x38 x39 x40 x41 x42 x43 x44 x45 x46 x47 x48 x49 x50 x51 x52 x53 x54 x55 x56 x57 x58 x59 x60 x61 x62 x63 x64 x65 x66 x67 x68 x69 x70 x71 w8 hb8
            have HK8 := Lib.hid (HRK.out.later hb8)
            have HB8 := Lib.hid (HB7.out.later hb8)
            clear hb8
            go_upto_block 10 with fail
            refine held10 HK8.out ?_
            intro v0 v1 v2 v3 v4 v5 v6 v7 v8 v9 v10 v11 v12 v13 v14 v15 v16 v17 v18 v19 v20 v21 v22 v23 v24 v25 v26 v27 v28 v29 v30 v31 v32 v33 v34 v35 v36 v37 v38 v39 v40 v41 v42 v43 v44 v45 v46 v47 v48 v49 v50 v51 w9 hb9
            have HB9 := Lib.hid (HB8.out.later hb9)
            clear hb9
            go_wp2_with fail
            go_roundw
            case rel => exact ⟨k + 1, M3, T, mq2, H', N + 1 + no, by omega, by go_num, HB9.out, HI3.out, by have := HNB.out; have := HNO2.out; omega, HLN.out⟩
            case measure => simp [intOf]; omega
      · obtain rfl : k = m := by omega
        clear hC
        go_wp2_with (go_at_call 10; refine (known12_any _).mono ?_; rintro e w' ⟨rfl, hb⟩)
        go_ret
        exact ⟨rfl, HC.out.core.bel.trans (hb.mono HC.out.core.bel.size)⟩
end Go.Proofs.Ytahdjfegihnolaa
