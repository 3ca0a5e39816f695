/- Layer 12: LfiTells, the walk. -/
import Derived.Test.YtahdjfegihnolaaLwU
import Derived.Test.YtahdjfegihnolaaLwI
namespace Go.Proofs.Ytahdjfegihnolaa
open Go.RowKit Go.Sort
theorem own_max {w : World} {base : Nat} {e : TypeId} {size n : Nat} {v : Value} {xs : List Value} (h : w.ownsRow base e size v n xs) : n ≤ maxLen := by
  rcases h.2 with ⟨_, rfl⟩ | ⟨g, cap, cur, _, _, _, hnc, hcm, _⟩
  · exact Nat.zero_le _
  · exact Nat.le_trans hnc hcm
set_option maxRecDepth 100000 in
set_option maxHeartbeats 16000000 in
attribute [-go_sem] Instr.storeAt Instr.loadAt Instr.build in
theorem tells_any (room : Int) (A : Option Addr) (n c : Nat) (lo : List Pf) (B : Option Addr) (m d : Nat) (le : List Ev) (w : World) (r : Reads w (fun k => k < w.heap.size) 2 A n (flatP lo)) (hl : lo.length = n) (hp : ∀ p ∈ lo, p.1 < 2 ^ 32)
    (r2 : Reads w (fun k => k < w.heap.size) 6 B m (le.flatMap evC)) (hl2 : le.length = m) (hp2 : ∀ e ∈ le, e.p.1 < 2 ^ 32) :
    Calls Try.prog 7 #[.int .i64 room, .slice A n c, .slice B m d] w fun e w' => e = .returned (.bool true) ∧ Below w.heap.size w w' := by
  have HN := Lib.hid (core_new room A n c lo w r hl hp)
  have HR2 := Lib.hid r2
  have HL2 := Lib.hid hl2
  have HP2 := Lib.hid hp2
  clear r hl hp r2 hl2 hp2
  by_cases hbig : 150 < m
  · have hd : decide (150 < (m : Int)) = true := decide_eq_true (by omega)
    go_enter Try.func7, Try.ntmps7
    go_wp2_with (go_at_call 10; refine (known12_any _).mono ?_; rintro e w' ⟨rfl, hb⟩)
    go_ret
    exact ⟨rfl, hb⟩
  by_cases hbig2 : 8 < n
  · have hd : decide (150 < (m : Int)) = false := decide_eq_false (by omega)
    have hd2 : decide (8 < (n : Int)) = true := decide_eq_true (by omega)
    go_enter Try.func7, Try.ntmps7
    go_wp2_with (go_at_call 10; refine (known12_any _).mono ?_; rintro e w' ⟨rfl, hb⟩)
    go_ret
    exact ⟨rfl, hb⟩
  have hd : decide (150 < (m : Int)) = false := decide_eq_false (by omega)
  have hd2 : decide (8 < (n : Int)) = false := decide_eq_false (by omega)
  have hn := HN.out
  unfold MadeC at hn
  cases hnf : newF room lo with
  | none =>
    rw [hnf] at hn
    have HN' := Lib.hid hn
    clear hn hnf
    go_enter Try.func7, Try.ntmps7
    go_wp2_with (first
      | (go_at_call 11; refine HN'.out.mono ?_; rintro e w1 ⟨rfl, hb1⟩; have HB1 := Lib.hid hb1; clear hb1)
      | (go_at_call 10; refine (known12_any _).mono ?_; rintro e w' ⟨rfl, hb⟩))
    go_ret
    exact ⟨rfl, HB1.out.trans (hb.mono HB1.out.size)⟩
  | some all =>
    rw [hnf] at hn
    have HN' := Lib.hid hn
    clear hn hnf
    go_enter Try.func7, Try.ntmps7
    go_upto_region 6 with (go_at_call 11; refine HN'.out.mono ?_; rintro e w1 ⟨cb, mb, M, rfl, hc⟩; have HC := Lib.hid hc; clear hc)
    go_wp2_with fail
    go_loopw [9] (fun s9 wr => ∃ (k : Nat) (M : Nat → Prop) (S : Lc), k ≤ m ∧ s9 = .int .i64 (k : Int) ∧ Core w wr M cb mb S) (fun s9 _ => m - (intOf s9).toNat)
    case atStart => exact ⟨0, M, _, Nat.zero_le _, rfl, HC.out⟩
    case round =>
      clear HC
      obtain ⟨k, M1, S, hk, rfl, hC⟩ := hrel
      have HC := Lib.hid hC
      by_cases hlt : k < m
      · obtain ⟨e, hek⟩ : ∃ e, le[k]? = some e := ⟨_, List.getElem?_eq_getElem (by rw [HL2.out]; exact hlt)⟩
        have HCP := Lib.hid (core_copy hC)
        obtain ⟨ad, rfl, _⟩ := ld_evR HR2.out HL2.out hC.bel hek
        have HEK := Lib.hid hek
        have k0 : (0 : Int) ≤ k := by omega
        have k1 : (k : Int) < m := by omega
        clear hC hek
        go_upto_region 10 with (go_at_call 20; refine HCP.out.mono ?_; rintro en w2 ⟨cbw, mbw, M2, rfl, hcw, hb2, hm2⟩; have HCW := Lib.hid hcw; have HB2 := Lib.hid hb2; have HM2 := Lib.hid hm2; clear hcw hb2 hm2)
        have hc2 := HC.out.later HB2.out
        obtain ⟨ad', e1, lv⟩ := ld_evR HR2.out HL2.out hc2.bel HEK.out
        injection e1 with e1
        subst e1
        have HPE := Lib.hid (HP2.out e (List.mem_of_getElem? HEK.out))
        have HDO := Lib.hid (core_do hc2 e HPE.out)
        have HC2 := Lib.hid hc2
        clear hc2
        obtain ⟨⟨T, o, z⟩, hd3⟩ : ∃ x, x = doF S e := ⟨_, rfl⟩
        have HD3 := Lib.hid hd3
        clear hd3
        go_upto_region 11 with (go_at_call 12; refine HDO.out.mono ?_; rintro en w3 ⟨v, rfl, hdc⟩; unfold DoneC at hdc; rw [← HD3.out] at hdc ⊢; obtain ⟨M3, ho3, hc3, _, hu3⟩ := hdc; dsimp only at ho3 hc3 ⊢; obtain ⟨Av, cv, rfl, _⟩ := own_form ho3)
        clear lv
        have HC3 := Lib.hid hc3
        have HO3 := Lib.hid ho3
        have HW3 := Lib.hid (show Core w w3 M2 cbw mbw S from HCW.out.keep hu3 (fun b hb hb2 => by have h1 := HC.out.lt b hb; have h2 := HM2.out b hb2; omega) fun b hb => HC.out.own b hb)
        obtain ⟨no, hno⟩ : ∃ q, q = o.length := ⟨_, rfl⟩
        rw [← hno]
        have HNO := Lib.hid hno
        clear hc3 ho3 hu3 hno
        by_cases hz : z = 0
        case neg =>
          have hne : (((z : Nat) : Int) != 0) = true := by rw [bne_iff_ne]; omega
          have hdn := do_nop (c := S) (e := e) (by rw [← HD3.out]; exact hz)
          rw [← HD3.out] at hdn
          injection hdn with h1 h2
          injection h2 with h2 h3
          have hn0 : no = 0 := by rw [HNO.out, h2]; rfl
          subst hn0
          have HZ := Lib.hid (And.intro hz (And.intro h1 (And.intro h2 h3)))
          clear hz h1 h2 h3
          go_wp2_with fail
          go_roundw
          case rel => exact ⟨k + 1, M3, T, by omega, by go_num, HC3.out⟩
          case measure => simp [intOf]; omega
        case pos =>
          subst hz
          obtain ⟨ek, _⟩ := ev_flds HR2.out HL2.out HC3.out.bel HEK.out
          obtain ⟨al, hal⟩ : ∃ b, b = (e.kind == 1) := ⟨_, rfl⟩
          have HAL := Lib.hid hal
          have HTS := Lib.hid (show TsK w w3 cb cbw T S Av no cv o from ⟨⟨M3, mb, HC3.out⟩, ⟨M2, mbw, HW3.out⟩, by rw [HNO.out]; exact own_base HO3.out HC2.out.bel.size, HNO.out, by have := own_max HO3.out; rw [HNO.out]; unfold maxLen at this; omega⟩)
          have HTP := Lib.hid (tells_plain HC.out.ok HD3.out.symm)
          have HTM := Lib.hid (tells_may HC.out.ok (fun x hx => (HC.out.mayx x hx).2) HPE.out HD3.out.symm)
          clear hal
          go_upto_region 15 with (fail)
          rw [← HAL.out]
          clear ek
          go_upto_block 2 with fail
          refine tells2 HTS.out HR2.out HL2.out HEK.out HAL.out HTP.out HTM.out ?_
          intro y0 y1 y2 y3 y4 y5 y6 y7 y8 y9 y10 y11 y12 y13 y14 y15 y16 y17 y18 y19 y20 y21 y22 y23 y24 y25 y26 y27 y28 y29 y30 y31 y32 y33 y34 y35 y36 y37 y38 y39 y40 y41 y42 y43 y44 y45 y46 y47 y48 y49 y50 y51 y52 y53 y54 y55 y56 y57 y58 y59 y60 y61 y62 y63 y64 y65 y66 y67 y68 y69 y70 y71 y72 y73 y74 y75 y76 y77 y78 y79 y80 y81 y82 y83 y84 y85 y86 y87 y88 y89 y90 y91 y92 y93 y94 y95 y96 y97 y98 y99 y100 y101 y102 y103 y104 y105 y106 y107 y108 y109 y110 y111 y112 y113 y114 y115 y116 y117 y118 y119 y120 y121 y122 y123 y124 y125 y126 y127 y128 y129 y130 y131 w4 hb4
          have HB4 := Lib.hid hb4
          have HC4 := Lib.hid (HC3.out.later hb4)
          have HT4 := Lib.hid (HTS.out.later hb4)
          have HRC := Lib.hid (core_routes HC4.out)
          clear hb4
          go_upto_region 39 with (go_at_call 13; refine HRC.out.mono ?_; rintro en w5 ⟨v5, rfl, hr5, hb5⟩; obtain ⟨L, hL, hrl⟩ := hr5; obtain ⟨Ar, cr, rfl, _⟩ := own_form hrl.1; have HRL := Lib.hid hrl; have HL5 := Lib.hid hL; have HC5 := Lib.hid (HC4.out.later hb5); have HT5 := Lib.hid (HT4.out.later hb5); clear hb5 hL hrl)
          obtain ⟨q, hq⟩ : ∃ q, q = L.length := ⟨_, rfl⟩
          rw [← hq]
          have hrl := HRL.out
          rw [← hq] at hrl
          have HR6 := Lib.hid hrl
          have HQ := Lib.hid hq
          clear hq hrl HRL
          go_upto_block 8 with fail
          refine tells5 HT5.out HR6.out HL5.out HQ.out HTP.out ?_
          intro x0 x1 x2 x3 x4 x5 x6 x7 x8 x9 x10 x11 x12 x13 x14 x15 x16 x17 x18 x19 x20 x21 x22 x23 x24 x25 x26 x27 x28 x29 x30 x31 x32 x33 x34 x35 x36 x37 x38 x39 x40 x41 x42 x43 x44 x45 x46 x47 x48 x49 x50 x51 x52 x53 w6 hb6
          have HC6 := Lib.hid (HC5.out.later hb6)
          clear hb6
          go_wp2_with fail
          go_roundw
          case rel => exact ⟨k + 1, M3, T, by omega, by go_num, HC6.out⟩
          case measure => simp [intOf]; omega
      · obtain rfl : k = m := by omega
        clear hC
        go_wp2_with (go_at_call 10; refine (known12_any _).mono ?_; rintro e w' ⟨rfl, hb⟩)
        go_ret
        exact ⟨rfl, HC.out.bel.trans (hb.mono HC.out.bel.size)⟩
end Go.Proofs.Ytahdjfegihnolaa
