/- FibMakes' walk. -/
import Derived.Test.YthlommalbkhcjaaGreatFxS
namespace Go.Proofs.YthlommalbkhcjaaGreat
open Go.RowKit Go.Sort Go.BigFrame
attribute [local go_sem] comesV_value comesV_skip comesV_enter
variable {dc : Int → Array Value}
theorem ld_adX {w : World} {ad : Addr} {x : Int} (h : w.cell? ad = some (.int .u32 x)) : (Instr.loadAt 35 (.pointer (some ad))).run Tryz.prog w = .ok (.int .u32 x) w := by
  simp [go_sem, h]
theorem rmake_full (A : Option Addr) (n c : Nat) (w : World) (hn : 1024 < n) : Calls Tryz.prog 12 #[.slice A n c] w fun e w' => e = .returned (.tuple #[.slice none 0 0, .int .i64 5]) ∧ w = w' := by
  have h1 : decide ((1024 : Int) < (n : Int)) = true := decide_eq_true (by omega)
  go_enter Tryz.func12, Tryz.ntmps12
  go_wp2_with fail
  go_ret2
  exact ⟨rfl, rfl⟩
set_option maxRecDepth 20000 in
set_option maxHeartbeats 16000000 in
attribute [-go_sem] Instr.storeAt Instr.loadAt Instr.alloc Instr.build in
theorem makes_any (A : Option Addr) (n c : Nat) (l : List Rt) (B : Option Addr) (m d : Nat) (ats : List Nat) (hash : Nat) (lv : Int) (w : World) (hr : Reads w (fun k => k < w.heap.size) 6 A n (l.flatMap rtC)) (hl : l.length = n) (hg : ∀ r ∈ l, RtRd w r) (hB : Reads w (fun k => k < w.heap.size) 1 B m (ats.map fun a : Nat => Value.int .u32 (a : Int))) (hm : ats.length = m) (ha : ∀ a ∈ ats, a < 2 ^ 32) :
    Calls Tryz.prog 3 #[.slice A n c, .slice B m d, .int .u32 (hash : Int), .int .i64 lv] w fun e w' => e = .returned (.bool true) ∧ Below w.heap.size w w' := by
  have HKN := Lib.hid (fun wx => known14_any wx)
  have HR := Lib.hid hr
  have HL := Lib.hid hl
  have HG := Lib.hid hg
  have HBR := Lib.hid hB
  have HM := Lib.hid hm
  have HA := Lib.hid ha
  clear hr hl hg hB hm ha
  go_enter Tryz.func3, Tryz.ntmps3
  go_wp2_with fail
  refine (much14_any A n c l w HR.out HL.out).mono ?_
  rintro e w1 ⟨b, rfl, hmb, rfl⟩
  cases b with
  | true =>
    clear hmb
    go_wp2_with fail
    refine (HKN.out _).mono ?_
    rintro e w2 ⟨rfl, hb2⟩
    have HB2 := Lib.hid hb2
    clear hb2
    go_wp2_with fail
    go_ret
    exact ⟨rfl, HB2.out⟩
  | false =>
    obtain ⟨hn2, h9⟩ := hmb rfl
    have H9 := Lib.hid h9
    clear hmb h9
    by_cases hbig : 100 < m
    · have d1 : decide ((100 : Int) < (m : Int)) = true := decide_eq_true (by omega)
      clear hbig
      go_wp2_with fail
      refine (HKN.out _).mono ?_
      rintro e w2 ⟨rfl, hb2⟩
      have HB2 := Lib.hid hb2
      clear hb2
      go_wp2_with fail
      go_ret
      exact ⟨rfl, HB2.out⟩
    have d1 : decide ((100 : Int) < (m : Int)) = false := decide_eq_false (by omega)
    have HM1 := Lib.hid (show m ≤ 100 by omega)
    have hrts : RtsM w (fun k => k < w.heap.size) A n l := ⟨HR.out, HL.out, fun r hr => ⟨(HG.out r hr).a, (HG.out r hr).l, Nat.le_trans (H9.out r hr) (by decide), (HG.out r hr).rd⟩⟩
    have HRTS := Lib.hid (fun (wx : World) (hb : Below w.heap.size w wx) => (hrts.keep (Same.ofBelow hb fun k hk => hk)).mono fun k hk => Nat.lt_of_lt_of_le hk hb.size)
    clear hrts
    by_cases h1024 : 1024 < n
    · go_wp2_with fail
      refine (fmake_full A n c w h1024).mono ?_
      rintro e w1 ⟨rfl, rfl⟩
      go_wp2_with fail
      refine (rmake_full A n c w h1024).mono ?_
      rintro e w1 ⟨rfl, rfl⟩
      go_wp2_with fail
      refine (num14_any _ _).mono ?_
      rintro e w1 ⟨rfl, rfl⟩
      go_wp2_with fail
      refine (HKN.out _).mono ?_
      rintro e w2 ⟨rfl, hb2⟩
      have HB2 := Lib.hid hb2
      clear hb2
      go_wp2_with fail
      go_ret
      exact ⟨rfl, HB2.out⟩
    have hn3 : n ≤ 1024 := by omega
    have HMK := Lib.hid (fmake_any (dcL_ok l) vk A n c l w (HRTS.out w (Below.refl _ _)) hn3 (fun i r h hm => dcL_at i r h hm))
    have HRM := Lib.hid (fun (wx : World) (hb : Below w.heap.size w wx) => rmake_any (dcL_ok l) vk A n c l wx (HRTS.out wx hb) hn3 (fun i r h hm => dcL_at i r h hm))
    obtain ⟨hml, hwf⟩ := mkT_list (vf := vk) (l := l) (k := 0) (T := .nil) trivial (fun r hr => (HG.out r hr).a)
    cases hmk : mkT vk 0 l .nil with
    | none =>
      rw [hmk] at HMK hml
      have HML := Lib.hid (show mkL vk 0 l [] = none from hml.symm)
      rw [HML.out] at HRM
      clear hml hwf hmk h1024 hbig
      go_wp2_with fail
      refine HMK.out.mono ?_
      rintro e w1 ⟨rfl, hb1⟩
      have HB1 := Lib.hid hb1
      clear hb1
      go_wp2_with fail
      refine (HRM.out _ HB1.out).mono ?_
      rintro e w2 ⟨rfl, hb2⟩
      have HB2 := Lib.hid (HB1.out.trans (hb2.mono HB1.out.size))
      clear hb2
      go_wp2_with fail
      refine (num14_any _ _).mono ?_
      rintro e w1 ⟨rfl, rfl⟩
      go_wp2_with fail
      refine (HKN.out _).mono ?_
      rintro e w3 ⟨rfl, hb3⟩
      have HB3 := Lib.hid (HB2.out.trans (hb3.mono HB2.out.size))
      clear hb3
      go_wp2_with fail
      go_ret
      exact ⟨rfl, HB3.out⟩
    | some T =>
      rw [hmk] at HMK hml
      obtain ⟨L, hL⟩ : ∃ L, L = T.list := ⟨_, rfl⟩
      have hml2 : mkL vk 0 l [] = some L := by rw [hL]; exact hml.symm
      have hin := mkL_in (List.Pairwise.nil : SortedB []) hml2
      have hT : T.wf [] := hwf T hmk
      have h32 : ∀ e ∈ L, e.1.length ≤ 32 := fun e he => by
        rcases (hin.2.2.2 e).1 he with h | ⟨i, r, hi, rfl⟩
        · simp at h
        · have hrm := List.mem_of_getElem? hi
          exact (rB_may (HG.out r hrm).a (hin.2.2.1 r hrm)).1
      have hln : L.length = n := by rw [hin.2.1]; simp [HL.out]
      rw [hml2] at HRM
      have HLE := Lib.hid hL
      have HML := Lib.hid hml2
      have HLS := Lib.hid hin.1
      have H32 := Lib.hid h32
      have HLN := Lib.hid hln
      have HTW := Lib.hid hT
      clear hml hwf hmk h1024 hbig hL hml2 hin h32 hln hT
      go_wp2_with fail
      refine HMK.out.mono ?_
      rintro e w1 ⟨fb, rfl, hkf⟩
      have HB1 := Lib.hid hkf.below
      have HK1 := Lib.hid hkf
      clear hkf
      go_wp2_with fail
      refine (HRM.out _ HB1.out).mono ?_
      rintro e w2 ⟨RA, rc, rfl, hrow, hb2⟩
      rw [HLN.out] at hrow ⊢
      have HB2 := Lib.hid (HB1.out.trans (hb2.mono HB1.out.size))
      have HKF := Lib.hid (fun (V : World) (hV : Below w2.heap.size w2 V) => HK1.out.later (hb2.trans (hV.mono hb2.size)))
      have HWL := Lib.hid (fun (V : World) (hV : Below w2.heap.size w2 V) => (want_own (dcL_ok l) hrow HLN.out).later hV)
      clear hb2 hrow
      go_wp2_with fail
      refine (num14_any _ _).mono ?_
      rintro e w3 ⟨rfl, rfl⟩
      go_wp2_with fail
      have a1 := px_alloc
      have a2 := way_alloc
      go_loopw [13] (fun i wr => ∃ k : Nat, k ≤ m ∧ i = .int .i64 (k : Int) ∧ Below w2.heap.size w2 wr) (fun i _ => m - (intOf i).toNat)
      case atStart => exact ⟨0, Nat.zero_le _, rfl, Below.refl _ _⟩
      case round =>
        obtain ⟨k, hk, rfl, hbr⟩ := hrel
        have HBW := Lib.hid hbr
        clear hbr
        by_cases hkm : k < m
        · have hd0 : decide ((k : Int) < m) = true := decide_eq_true (by omega)
          have hki : ¬ (k : Int) < 0 ∧ (k : Int) < m := ⟨by omega, by omega⟩
          have HKM := Lib.hid hkm
          obtain ⟨a, hak⟩ : ∃ a, ats[k]? = some a := ⟨_, List.getElem?_eq_getElem (by rw [HM.out]; exact hkm)⟩
          have ha := HA.out a (List.mem_of_getElem? hak)
          have hHAD : ∃ bd : Addr, B = some bd ∧ ∀ V, Below w.heap.size w V → (Instr.loadAt 35 (.pointer (some (bd.add k)))).run Tryz.prog V = .ok (.int .u32 (a : Int)) V := by
            obtain ⟨bd, e, hj, _, hc⟩ := HBR.out.2 (by omega)
            refine ⟨bd, e, fun V hV => ld_adX ((hV.cell (p := bd.add k) (by rw [block_of_add]; exact hj)).trans (hc k _ (by simp [hak])))⟩
          obtain ⟨bd, rfl, had⟩ := hHAD
          have HAD := Lib.hid (fun (V : World) (hV : Below w2.heap.size w2 V) => had V (HB2.out.trans (hV.mono HB2.out.size)))
          obtain ⟨E, hE⟩ : ∃ E, E = covS (bitsB a 32) L := ⟨_, rfl⟩
          have hTE : T.cov (bitsB a 32) = E := by rw [TT.cov_list HTW.out, ← HLE.out, hE]
          obtain ⟨wz, hwz⟩ : ∃ z, z = wkL l (lastE E).2 := ⟨_, rfl⟩
          have hsmL : L.length ≤ 1000000 := by rw [HLN.out]; omega
          have hsmT : T.list.length ≤ 1000000 := by rw [← HLE.out]; exact hsmL
          obtain ⟨pa, hpa⟩ : ∃ z, z = padB (lastE E).1 := ⟨_, rfl⟩
          obtain ⟨pn, hpn⟩ : ∃ z, z = (lastE E).1.length := ⟨_, rfl⟩
          obtain ⟨cs, hcs⟩ : ∃ z, z = dcL l (lastE E).2 := ⟨_, rfl⟩
          obtain ⟨eb, heb⟩ : ∃ z, z = !E.isEmpty := ⟨_, rfl⟩
          have hc1 : cs.size = 257 := by rw [hcs]; exact (dcL_ok l).sz _
          have hc2 : cs.all (·.oneCell') = true := by rw [hcs]; exact (dcL_ok l).one _
          obtain ⟨pk, pp, hpv⟩ : ∃ x y : Int, pickV (wkL l) E hash = .tuple #[.int .i64 x, .int .i64 y] := by
            unfold pickV
            split
            · exact ⟨_, _, rfl⟩
            · exact ⟨_, _, rfl⟩
          have HLK := Lib.hid (fun (V : World) (hV : Below w2.heap.size w2 V) => (show Calls Tryz.prog 14 #[.pointer (some ⟨fb, 0, none⟩), .int .u32 (a : Int)] V fun e w' => e = .returned (.tuple #[.agg #[.int .u32 (pa : Int), .int .i64 (pn : Int)], .agg cs, .bool eb]) ∧ Below V.heap.size V w' by
            refine (kf_look (dcL_ok l) a (HKF.out V hV) ha hsmT).mono fun e w' ⟨h, _⟩ => ?_
            rw [hTE] at h
            unfold MatchPost pxV at h
            rw [← hpa, ← hpn, ← hcs, ← heb] at h
            exact h))
          have HLR := Lib.hid (fun (V : World) (hV : Below w2.heap.size w2 V) => (show Calls Tryz.prog 15 #[.slice RA n rc, .int .u32 (a : Int)] V fun e w' => e = .returned (.tuple #[.agg #[.int .u32 (pa : Int), .int .i64 (pn : Int)], .agg cs, .bool eb]) ∧ Below V.heap.size V w' by
            have h := rlook14_any (dcL_ok l) RA n rc a L V HLS.out H32.out HLN.out (by rw [← HLN.out]; exact hsmL) (HWL.out V hV) ha
            rw [← hE] at h
            unfold MatchPost pxV at h
            rw [← hpa, ← hpn, ← hcs, ← heb] at h
            exact h))
          have HPK := Lib.hid (fun (V : World) (hV : Below w2.heap.size w2 V) => (show Calls Tryz.prog 16 #[.pointer (some ⟨fb, 0, none⟩), .int .u32 (a : Int), .int .u32 (hash : Int)] V fun e w' => e = .returned (.tuple #[.int .i64 pk, .int .i64 pp]) ∧ Below V.heap.size V w' by
            refine (kf_pick (dcL_ok l) (dcL_wk l) a hash (HKF.out V hV) ha hsmT).mono fun e w' ⟨h, _, hb⟩ => ⟨?_, hb⟩
            rw [h, hTE, hpv]))
          have HPR := Lib.hid (fun (V : World) (hV : Below w2.heap.size w2 V) => (show Calls Tryz.prog 17 #[.slice RA n rc, .int .u32 (a : Int), .int .u32 (hash : Int)] V fun e w' => e = .returned (.tuple #[.int .i64 pk, .int .i64 pp]) ∧ Below V.heap.size V w' by
            refine (rpick14_any (dcL_ok l) (dcL_wk l) (wkL_ok l) RA n rc a hash L V HLS.out H32.out HLN.out (by rw [← HLN.out]; exact hsmL) (HWL.out V hV) ha).mono fun e w' ⟨h, hb⟩ => ⟨?_, hb⟩
            rw [h, ← hE, hpv]))
          have HPO := Lib.hid (fun (V : World) (hV : Below w2.heap.size w2 V) => fports_any (dcL_ok l) (dcL_wk l) a (HKF.out V hV) ha hsmT wz (by rw [hTE, hwz]))
          have HPQ := Lib.hid (fun (V : World) (hV : Below w2.heap.size w2 V) => rports14_any (dcL_ok l) (dcL_wk l) (wkL_ok l) RA n rc a L V HLS.out H32.out HLN.out (by rw [← HLN.out]; exact hsmL) (HWL.out V hV) ha wz (by rw [← hE, hwz]))
          have hplen : (portsOf wz).length ≤ 1000 := by
            by_cases h3 : wz.1 = 3
            · rw [← prt_ports (by rw [hwz]; exact wkL_ok l _) h3]
              have := prt_len wz.2 8
              omega
            · unfold portsOf
              rw [if_neg h3]
              simp
          obtain ⟨PO, hPO⟩ : ∃ z, z = portsOf wz := ⟨_, rfl⟩
          rw [← hPO] at HPO HPQ hplen
          clear hPO
          have e1 : ∀ w, (binOp .neq 37 (.agg #[.int .u32 (pa : Int), .int .i64 (pn : Int)]) (.agg #[.int .u32 (pa : Int), .int .i64 (pn : Int)])).run Tryz.prog w = .ok (.bool false) w := fun w => by
            have := neq_px pa pa pn pn w
            simpa [pxV] using this
          have e2 : ∀ w, (Op.equalIn 10000 41 (.agg cs) (.agg cs)).run Tryz.prog w = .ok true w := fun w => by rw [hcs]; exact eqs_wy _ (wkL_len l _) w
          have e3 : ∀ w, (binOp .neq 41 (.agg cs) (.agg cs)).run Tryz.prog w = .ok (.bool false) w := fun w => by rw [run_neq_struct, e2]; rfl
          have E1 := Lib.hid e1
          have E3 := Lib.hid e3
          have HPL := Lib.hid hplen
          clear hak ha had hE hTE hwz hsmL hsmT hpa hpn hcs heb hpv hplen e1 e2 e3
          have l1 := HAD.out _ HBW.out
          go_wp2_with fail
          refine (HLK.out _ HBW.out).mono ?_
          rintro e w3 ⟨rfl, hb3⟩
          have HB3 := Lib.hid (HBW.out.trans (hb3.mono HBW.out.size))
          obtain ⟨v1, v2, st1, st2, hp1, hv1, hb4⟩ := box_pw w3 (pa : Int) (pn : Int) cs hc1 hc2
          have HB4 := Lib.hid (HB3.out.trans (hb4.mono HB3.out.size))
          have HP1 := Lib.hid hp1
          have HV1 := Lib.hid hv1
          clear hb3 hp1 hv1 hb4 l1
          have l1 := HAD.out _ HB4.out
          go_wp2_with fail
          clear st1 st2
          refine (HLR.out _ HB4.out).mono ?_
          rintro e w4 ⟨rfl, hb5⟩
          have hp1 := HP1.out.below hb5 HP1.out.lt
          have hv1 := HV1.out.below hb5 HV1.out.lt
          have HB5 := Lib.hid (HB4.out.trans (hb5.mono HB4.out.size))
          obtain ⟨v3, v4, st3, st4, hp2, hv2, hb6⟩ := box_pw w4 (pa : Int) (pn : Int) cs hc1 hc2
          have HB6 := Lib.hid (HB5.out.trans (hb6.mono HB5.out.size))
          have HQ1 := Lib.hid (hp1.below hb6 hp1.lt)
          have HW1 := Lib.hid (hv1.below hb6 hv1.lt)
          have HQ2 := Lib.hid hp2
          have HW2 := Lib.hid hv2
          clear hb5 hp1 hv1 hp2 hv2 hb6 l1
          have l1 := HAD.out _ HB6.out
          go_wp2_with fail
          clear st3 st4
          refine (HPK.out _ HB6.out).mono ?_
          rintro e w5 ⟨rfl, hb7⟩
          have HB7 := Lib.hid (HB6.out.trans (hb7.mono HB6.out.size))
          have hb7' := hb7
          clear hb7 l1
          have l1 := HAD.out _ HB7.out
          go_wp2_with fail
          refine (HPR.out _ HB7.out).mono ?_
          rintro e w6 ⟨rfl, hb8⟩
          have hb78 := hb7'.trans (hb8.mono hb7'.size)
          have HB8 := Lib.hid (HB7.out.trans (hb8.mono HB7.out.size))
          have HQ3 := Lib.hid (HQ1.out.below hb78 HQ1.out.lt)
          have HW3 := Lib.hid (HW1.out.below hb78 HW1.out.lt)
          have HQ4 := Lib.hid (HQ2.out.below hb78 HQ2.out.lt)
          have HW4 := Lib.hid (HW2.out.below hb78 HW2.out.lt)
          clear hb7' hb8 hb78 l1
          go_wp2_with fail
          refine wp_region_mix [(true, 29), (false, 1), (true, 5), (false, 4)] 1 (by kernel_rfl) (fun V => Below w6.heap.size w6 V) (fun _ _ h k => h.trans (k.mono h.size)) (by kernel_rfl) (Below.refl _ _) (a' := ?_) (fun wz hz => ?_) fun wz hz => ?_
          rotate_left
          · have hb := fun (dd : Nat) (os : Array Obj) => hz.trans ((below_regrown wz dd os).mono hz.size)
            have q0 := fun (dd : Nat) (os : Array Obj) => ld_pxB (HQ3.out.below (hb dd os) HQ3.out.lt)
            have q1 := fun (dd : Nat) (os : Array Obj) => ld_pxB (HQ4.out.below (hb dd os) HQ4.out.lt)
            have q2 := fun (dd : Nat) (os : Array Obj) => ld_wyB (HW3.out.below (hb dd os) HW3.out.lt) hc1
            have q3 := fun (dd : Nat) (os : Array Obj) => ld_wyB (HW4.out.below (hb dd os) HW4.out.lt) hc1
            have q4 := fun (dd : Nat) (os : Array Obj) => HAD.out _ (HB8.out.trans ((hb dd os).mono HB8.out.size))
            have e1 := E1.out
            have e3 := E3.out
            clear hz hb
            simp only [pick_nil, pick_tt, pick_ft, List.take_succ_cons, List.take_zero, List.drop_succ_cons, List.drop_zero, List.append_nil, List.cons_append, List.nil_append]
            repeat (go_big_quiet_step (fail))
            refine wpQuiet_nil ?_
            rfl
          simp only [pick_nil, pick_ff, pick_tf, List.take_succ_cons, List.take_zero, List.drop_succ_cons, List.drop_zero, List.append_nil, List.cons_append, List.nil_append]
          have HZ := Lib.hid hz
          clear hz
          refine wpMix_step HZ.out fun wa hwa => ?_
          have HWA := Lib.hid (HZ.out.trans (hwa.mono HZ.out.size))
          clear hwa
          go_wp2_with fail
          refine (HPO.out wa (HB8.out.trans (HWA.out.mono HB8.out.size))).mono ?_
          rintro e wb ⟨x1, rfl, ho1, hbb⟩
          obtain ⟨P1, c1, rfl, _⟩ := own_form ho1
          have HWB := Lib.hid (HWA.out.trans (hbb.mono HWA.out.size))
          have HO1 := Lib.hid ho1
          clear hbb ho1
          go_wp2_with fail
          refine wpMix_step HWB.out fun wc hwc => ?_
          have HWC := Lib.hid (HWB.out.trans (hwc.mono HWB.out.size))
          have HO2 := Lib.hid (own_below HO1.out hwc)
          clear hwc
          go_wp2_with fail
          refine (HPQ.out wc (HB8.out.trans (HWC.out.mono HB8.out.size))).mono ?_
          rintro e we ⟨x2, rfl, ho3, hbe⟩
          obtain ⟨P2, c2, rfl, _⟩ := own_form ho3
          have HWE := Lib.hid (HWC.out.trans (hbe.mono HWC.out.size))
          have HO3 := Lib.hid ho3
          have HO4 := Lib.hid (own_below HO2.out hbe)
          clear hbe ho3
          go_wp2_with fail
          refine wpMix_plain ?_
          go_wp2_with fail
          refine (same14_any P1 P2 c1 c2 PO (fun k => k < we.heap.size) (fun k => k < we.heap.size) we HPL.out (fun _ h => h) (fun _ h => h) (Reads.of_own HO4.out fun g hg => (own_lt HO4.out hg).2) (Reads.of_own HO3.out fun g hg => (own_lt HO3.out hg).2)).mono ?_
          rintro e wf ⟨rfl, hbf⟩
          have HWF := Lib.hid (HB8.out.trans ((HWE.out.trans (hbf.mono HWE.out.size)).mono HB8.out.size))
          clear hbf
          have hm1 := HM1.out
          have hkm1 := HKM.out
          have hk100 : (k : Int) < 100 := by omega
          go_wp2_with fail
          go_roundw
          case rel => exact ⟨k + 1, hkm1, by go_num, HWF.out⟩
          case measure => simp [intOf]; omega
        · have e1 : k = m := by omega
          subst e1
          clear a1 a2
          obtain ⟨i0, hi, hz0, hz1, hz2⟩ := info_parts rt_infox
          have hmx : 0 + n ≤ maxLen := by unfold maxLen; omega
          have hmb : (0 + n) * 56 ≤ 140737488355328 := by omega
          have hrdl := (HRTS.out wr (HB2.out.trans (HBW.out.mono HB2.out.size))).row
          have hone := rtC_one l
          go_wp2_with (at_builtin; refine wpList_append_any wr rfl (.const (.slice none 0 0)) (.tmp 142) _ rfl wr.heap.size 54 i0 _ 6 56 Tryz.underlying22 hi hz0 hz1 hz2 rfl (by decide) (.slice none 0 0) 0 [] rfl (World.ownsRow_nil _ _ _ _) _ A n c _ rfl hrdl hone hmx hmb (Nat.le_refl _) ?_; intro tv w3 ho3 hg3 _; rw [List.nil_append, Nat.zero_add] at ho3; have HO3 := Lib.hid ho3; have HG3 := Lib.hid ((Below.refl wr.heap.size wr).grown hg3 (Nat.le_refl _) fun j hj => by cases hj); clear ho3 hg3 hrdl hone hi hz0 hz1 hz2 hmx hmb)
          obtain ⟨TA, tc, rfl, _⟩ := own_form HO3.out
          have HTM := Lib.hid (TurnM.of_own HO3.out HL.out HG3.out)
          have HBX := Lib.hid (HBW.out)
          obtain ⟨wk1, rfl⟩ : ∃ z, z = wr := ⟨_, rfl⟩
          clear HO3
          obtain ⟨q, hq⟩ : ∃ q, q = n / 2 := ⟨_, rfl⟩
          have hqi : (n : Int) / 2 = (q : Int) := by omega
          have hqt : (n : Int).tdiv 2 = (q : Int) := by rw [Int.tdiv_eq_ediv_of_nonneg (by omega)]; exact hqi
          have HQQ := Lib.hid hq
          clear hq
          go_loopw [25] (fun i wr2 => ∃ (k : Nat) (X : List Rt), k ≤ q ∧ i = .int .i64 (k : Int) ∧ TurnM wk1 wr2 TA n X ∧ Turned l X k) (fun i _ => q - (intOf i).toNat)
          case atStart => exact ⟨0, l, Nat.zero_le _, rfl, HTM.out, turned_0 l⟩
          case round =>
            obtain ⟨k, X, hk, rfl, htm, htd⟩ := hrel
            obtain ⟨wt, rfl⟩ : ∃ z, z = wr := ⟨_, rfl⟩
            have HT := Lib.hid htm
            have HTD := Lib.hid htd
            clear htm htd
            by_cases hkq : k < q
            · have hd0 : decide ((k : Int) < q) = true := decide_eq_true (by omega)
              have hqn := HQQ.out
              obtain ⟨j, hj⟩ : ∃ j, j = n - 1 - k := ⟨_, rfl⟩
              have hjn : (n : Int) - 1 - (k : Int) = (j : Int) := by omega
              have hjl : j < n := by omega
              have hkl : k < n := by omega
              obtain ⟨r, hr⟩ : ∃ r, X[j]? = some r := ⟨_, List.getElem?_eq_getElem (by rw [HT.out.len]; exact hjl)⟩
              obtain ⟨s, hs⟩ : ∃ s, X[k]? = some s := ⟨_, List.getElem?_eq_getElem (by rw [HT.out.len]; exact hkl)⟩
              obtain ⟨ad, hTA, hcr⟩ := rt_cells HT.out.reads (fun _ hj => hj) hjl hr
              obtain ⟨ad2, e2, hcs⟩ := rt_cells HT.out.reads (fun _ hj => hj) hkl hs
              rw [hTA] at e2
              injection e2 with e2
              subst e2
              subst hTA
              have HCR := Lib.hid hcr
              have HCS := Lib.hid hcs
              have HTD2 := Lib.hid (show Turned l ((X.set k r).set j s) (k + 1) by
                have := turned_step HTD.out (by rw [HL.out, ← hqn]; exact hkq) (r := r) (s := s) (by rw [HL.out, ← hj]; exact hr) hs
                rwa [HL.out, ← hj] at this)
              have hji : ¬ (j : Int) < 0 ∧ (j : Int) < n := ⟨by omega, by omega⟩
              have hki : ¬ (k : Int) < 0 ∧ (k : Int) < n := ⟨by omega, by omega⟩
              have HJ := Lib.hid hj
              have HWN := Lib.hid (show IntKind.i64.wrap ((n : Int) - 1) = (n : Int) - 1 from IntWalk.i64_in _ ⟨by omega, by omega⟩)
              have HWJ := Lib.hid (show IntKind.i64.wrap (j : Int) = (j : Int) from IntWalk.i64_in _ ⟨by omega, by omega⟩)
              have HFR := Lib.hid (show ∀ i, SwΨ wk1 ad n k j X r s i { wt with drawn := wt.drawn + 1 } from fun i => by
                have hb0 : Below wt.heap.size wt { wt with drawn := wt.drawn + 1 } := ⟨rfl, rfl, rfl, Nat.le_refl _, fun _ _ => rfl⟩
                unfold SwΨ
                split
                · exact HCR.out _ hb0
                · exact HCS.out _ hb0
                · exact HT.out.later hb0
                · trivial)
              clear hcr hcs hr hs hj hqn
              go_wp2_with fail
              have hfr := HFR.out
              refine wp_region_psi (by kernel_rfl) (fun p q => Below wk1.heap.size p q) (SwΦ wk1 ad n tc k j X r s) 24 (fun _ _ => True) swDead (SwΨ wk1 ad n k j X r s) (by kernel_rfl) (fun p => Below.refl _ p) (fun h k => h.trans k) hfr (oblp_of ?_) (fun o h => by cases h) ?_
              · refine ⟨fun _ => ?_, fun _ => ?_, fun _ => ?_, fun _ => ?_, fun _ => ?_, fun _ => ?_, fun _ => ?_, fun _ => ?_, fun _ => ?_, fun _ => ?_, fun _ => ?_, fun _ => ?_, fun _ => ?_, fun _ => ?_, fun _ => ?_, fun _ => ?_, fun _ => ?_, fun _ => ?_, fun _ => ?_, fun _ => ?_, fun _ => ?_, fun _ => ?_, fun _ => ?_, fun _ => ?_, trivial⟩
                · -- 0
                  intro val wx hg hψ hd hb hs K hK
                  generalize hρ : rhoV _ _ val = ρ
                  have cc : ∀ u, ρ (.const u) = u := fun u => by rw [← hρ]; rfl
                  have ff : ∀ u, ρ (.func u) = .func (.func u) #[] #[] := fun u => by rw [← hρ]; rfl
                  have r24 : ρ (.tmp 24) = .slice (some ad) n tc := by rw [← hρ]; rfl
                  clear hρ hd hb hs hψ
                  refine ifv rfl ?_
                  go_simp
                  exact hK _ _ (Below.refl _ _) rfl (fun _ _ _ _ h => h) fun _ _ _ h => h
                · -- 1
                  intro val wx hg hψ hd hb hs K hK
                  generalize hρ : rhoV _ _ val = ρ
                  have cc : ∀ u, ρ (.const u) = u := fun u => by rw [← hρ]; rfl
                  have ff : ∀ u, ρ (.func u) = .func (.func u) #[] #[] := fun u => by rw [← hρ]; rfl
                  have r25 : ρ (.tmp 25) = .int .i64 (k : Int) := by rw [← hρ]; rfl
                  clear hρ hd hb hs hψ
                  refine ifv rfl ?_
                  go_simp
                  exact hK _ _ (Below.refl _ _) rfl (fun _ _ _ _ h => h) fun _ _ _ h => h
                · -- 2
                  intro val wx hg hψ hd hb hs K hK
                  generalize hρ : rhoV _ _ val = ρ
                  have cc : ∀ u, ρ (.const u) = u := fun u => by rw [← hρ]; rfl
                  have ff : ∀ u, ρ (.func u) = .func (.func u) #[] #[] := fun u => by rw [← hρ]; rfl
                  have r24 : ρ (.tmp 24) = .slice (some ad) n tc := by rw [← hρ]; rfl
                  clear hρ hd hb hs hψ
                  refine ifv rfl ?_
                  go_simp
                  exact hK _ _ (Below.refl _ _) rfl (fun _ _ _ _ h => h) fun _ _ _ h => h
                · -- 3
                  intro val wx hg hψ hd hb hs K hK
                  generalize hρ : rhoV _ _ val = ρ
                  have cc : ∀ u, ρ (.const u) = u := fun u => by rw [← hρ]; rfl
                  have ff : ∀ u, ρ (.func u) = .func (.func u) #[] #[] := fun u => by rw [← hρ]; rfl
                  have r24 : ρ (.tmp 24) = .slice (some ad) n tc := by rw [← hρ]; rfl
                  clear hρ hd hb hs hψ
                  refine ifv rfl ?_
                  go_simp
                  exact hK _ _ (Below.refl _ _) rfl (fun _ _ _ _ h => h) fun _ _ _ h => h
                · -- 4
                  intro val wx hg hψ hd hb hs K hK
                  generalize hρ : rhoV _ _ val = ρ
                  have cc : ∀ u, ρ (.const u) = u := fun u => by rw [← hρ]; rfl
                  have ff : ∀ u, ρ (.func u) = .func (.func u) #[] #[] := fun u => by rw [← hρ]; rfl
                  have r154 : ρ (.tmp 154) = .slice (some ad) n tc := by rw [← hρ]; exact hd 3 rfl rfl
                  clear hρ hd hb hs hψ
                  refine ifv rfl ?_
                  go_simp
                  exact hK _ _ (Below.refl _ _) rfl (fun _ _ _ _ h => h) fun _ _ _ h => h
                · -- 5
                  intro val wx hg hψ hd hb hs K hK
                  generalize hρ : rhoV _ _ val = ρ
                  have cc : ∀ u, ρ (.const u) = u := fun u => by rw [← hρ]; rfl
                  have ff : ∀ u, ρ (.func u) = .func (.func u) #[] #[] := fun u => by rw [← hρ]; rfl
                  have r155 : ρ (.tmp 155) = .int .i64 (n : Int) := by rw [← hρ]; exact hd 4 rfl rfl
                  have hw1 := HWN.out
                  clear hρ hd hb hs hψ
                  refine ifv rfl ?_
                  go_simp
                  exact hK _ _ (Below.refl _ _) rfl (fun _ _ _ _ h => h) fun _ _ _ h => h
                · -- 6
                  intro val wx hg hψ hd hb hs K hK
                  generalize hρ : rhoV _ _ val = ρ
                  have cc : ∀ u, ρ (.const u) = u := fun u => by rw [← hρ]; rfl
                  have ff : ∀ u, ρ (.func u) = .func (.func u) #[] #[] := fun u => by rw [← hρ]; rfl
                  have r25 : ρ (.tmp 25) = .int .i64 (k : Int) := by rw [← hρ]; rfl
                  clear hρ hd hb hs hψ
                  refine ifv rfl ?_
                  go_simp
                  exact hK _ _ (Below.refl _ _) rfl (fun _ _ _ _ h => h) fun _ _ _ h => h
                · -- 7
                  intro val wx hg hψ hd hb hs K hK
                  generalize hρ : rhoV _ _ val = ρ
                  have cc : ∀ u, ρ (.const u) = u := fun u => by rw [← hρ]; rfl
                  have ff : ∀ u, ρ (.func u) = .func (.func u) #[] #[] := fun u => by rw [← hρ]; rfl
                  have r156 : ρ (.tmp 156) = .int .i64 ((n : Int) - 1) := by rw [← hρ]; exact hd 5 rfl rfl
                  have r157 : ρ (.tmp 157) = .int .i64 (k : Int) := by rw [← hρ]; exact hd 6 rfl rfl
                  have hw1 := HWJ.out
                  clear hρ hd hb hs hψ
                  refine ifv rfl ?_
                  go_simp
                  exact hK _ _ (Below.refl _ _) rfl (fun _ _ _ _ h => h) fun _ _ _ h => h
                · -- 8
                  intro val wx hg hψ hd hb hs K hK
                  generalize hρ : rhoV _ _ val = ρ
                  have cc : ∀ u, ρ (.const u) = u := fun u => by rw [← hρ]; rfl
                  have ff : ∀ u, ρ (.func u) = .func (.func u) #[] #[] := fun u => by rw [← hρ]; rfl
                  have r24 : ρ (.tmp 24) = .slice (some ad) n tc := by rw [← hρ]; rfl
                  clear hρ hd hb hs hψ
                  refine ifv rfl ?_
                  go_simp
                  exact hK _ _ (Below.refl _ _) rfl (fun _ _ _ _ h => h) fun _ _ _ h => h
                · -- 9
                  intro val wx hg hψ hd hb hs K hK
                  generalize hρ : rhoV _ _ val = ρ
                  have cc : ∀ u, ρ (.const u) = u := fun u => by rw [← hρ]; rfl
                  have ff : ∀ u, ρ (.func u) = .func (.func u) #[] #[] := fun u => by rw [← hρ]; rfl
                  have r24 : ρ (.tmp 24) = .slice (some ad) n tc := by rw [← hρ]; rfl
                  clear hρ hd hb hs hψ
                  refine ifv rfl ?_
                  go_simp
                  exact hK _ _ (Below.refl _ _) rfl (fun _ _ _ _ h => h) fun _ _ _ h => h
                · -- 10
                  intro val wx hg hψ hd hb hs K hK
                  generalize hρ : rhoV _ _ val = ρ
                  have cc : ∀ u, ρ (.const u) = u := fun u => by rw [← hρ]; rfl
                  have ff : ∀ u, ρ (.func u) = .func (.func u) #[] #[] := fun u => by rw [← hρ]; rfl
                  have r160 : ρ (.tmp 160) = .slice (some ad) n tc := by rw [← hρ]; exact hd 9 rfl rfl
                  clear hρ hd hb hs hψ
                  refine ifv rfl ?_
                  go_simp
                  exact hK _ _ (Below.refl _ _) rfl (fun _ _ _ _ h => h) fun _ _ _ h => h
                · -- 11
                  intro val wx hg hψ hd hb hs K hK
                  generalize hρ : rhoV _ _ val = ρ
                  have cc : ∀ u, ρ (.const u) = u := fun u => by rw [← hρ]; rfl
                  have ff : ∀ u, ρ (.func u) = .func (.func u) #[] #[] := fun u => by rw [← hρ]; rfl
                  have r161 : ρ (.tmp 161) = .int .i64 (n : Int) := by rw [← hρ]; exact hd 10 rfl rfl
                  have hw1 := HWN.out
                  clear hρ hd hb hs hψ
                  refine ifv rfl ?_
                  go_simp
                  exact hK _ _ (Below.refl _ _) rfl (fun _ _ _ _ h => h) fun _ _ _ h => h
                · -- 12
                  intro val wx hg hψ hd hb hs K hK
                  generalize hρ : rhoV _ _ val = ρ
                  have cc : ∀ u, ρ (.const u) = u := fun u => by rw [← hρ]; rfl
                  have ff : ∀ u, ρ (.func u) = .func (.func u) #[] #[] := fun u => by rw [← hρ]; rfl
                  have r25 : ρ (.tmp 25) = .int .i64 (k : Int) := by rw [← hρ]; rfl
                  clear hρ hd hb hs hψ
                  refine ifv rfl ?_
                  go_simp
                  exact hK _ _ (Below.refl _ _) rfl (fun _ _ _ _ h => h) fun _ _ _ h => h
                · -- 13
                  intro val wx hg hψ hd hb hs K hK
                  generalize hρ : rhoV _ _ val = ρ
                  have cc : ∀ u, ρ (.const u) = u := fun u => by rw [← hρ]; rfl
                  have ff : ∀ u, ρ (.func u) = .func (.func u) #[] #[] := fun u => by rw [← hρ]; rfl
                  have r162 : ρ (.tmp 162) = .int .i64 ((n : Int) - 1) := by rw [← hρ]; exact hd 11 rfl rfl
                  have r163 : ρ (.tmp 163) = .int .i64 (k : Int) := by rw [← hρ]; exact hd 12 rfl rfl
                  have hw1 := HWJ.out
                  clear hρ hd hb hs hψ
                  refine ifv rfl ?_
                  go_simp
                  exact hK _ _ (Below.refl _ _) rfl (fun _ _ _ _ h => h) fun _ _ _ h => h
                · -- 14
                  intro val wx hg hψ hd hb hs K hK
                  generalize hρ : rhoV _ _ val = ρ
                  have cc : ∀ u, ρ (.const u) = u := fun u => by rw [← hρ]; rfl
                  have ff : ∀ u, ρ (.func u) = .func (.func u) #[] #[] := fun u => by rw [← hρ]; rfl
                  have r159 : ρ (.tmp 159) = .slice (some ad) n tc := by rw [← hρ]; exact hd 8 rfl rfl
                  have r164 : ρ (.tmp 164) = .int .i64 (j : Int) := by rw [← hρ]; exact hd 13 rfl rfl
                  clear hρ hd hb hs hψ
                  refine ifv rfl ?_
                  go_simp
                  exact hK _ _ (Below.refl _ _) rfl (fun _ _ _ _ h => h) fun _ _ _ h => h
                · -- 15
                  intro val wx hg hψ hd hb hs K hK
                  generalize hρ : rhoV _ _ val = ρ
                  have cc : ∀ u, ρ (.const u) = u := fun u => by rw [← hρ]; rfl
                  have ff : ∀ u, ρ (.func u) = .func (.func u) #[] #[] := fun u => by rw [← hρ]; rfl
                  have r165 : ρ (.tmp 165) = .pointer (some (ad.add (j * 6))) := by rw [← hρ]; exact hd 14 rfl rfl
                  have h15 : (Instr.loadAt 54 (.pointer (some (ad.add (j * 6))))).run Tryz.prog wx = .ok (rtV r) wx := hψ
                  clear hρ hd hb hs hψ
                  refine ifv rfl ?_
                  go_simp
                  exact hK _ _ (Below.refl _ _) rfl (fun _ _ _ _ h => h) fun _ _ _ h => h
                · -- 16
                  intro val wx hg hψ hd hb hs K hK
                  generalize hρ : rhoV _ _ val = ρ
                  have cc : ∀ u, ρ (.const u) = u := fun u => by rw [← hρ]; rfl
                  have ff : ∀ u, ρ (.func u) = .func (.func u) #[] #[] := fun u => by rw [← hρ]; rfl
                  have r24 : ρ (.tmp 24) = .slice (some ad) n tc := by rw [← hρ]; rfl
                  clear hρ hd hb hs hψ
                  refine ifv rfl ?_
                  go_simp
                  exact hK _ _ (Below.refl _ _) rfl (fun _ _ _ _ h => h) fun _ _ _ h => h
                · -- 17
                  intro val wx hg hψ hd hb hs K hK
                  generalize hρ : rhoV _ _ val = ρ
                  have cc : ∀ u, ρ (.const u) = u := fun u => by rw [← hρ]; rfl
                  have ff : ∀ u, ρ (.func u) = .func (.func u) #[] #[] := fun u => by rw [← hρ]; rfl
                  have r25 : ρ (.tmp 25) = .int .i64 (k : Int) := by rw [← hρ]; rfl
                  clear hρ hd hb hs hψ
                  refine ifv rfl ?_
                  go_simp
                  exact hK _ _ (Below.refl _ _) rfl (fun _ _ _ _ h => h) fun _ _ _ h => h
                · -- 18
                  intro val wx hg hψ hd hb hs K hK
                  generalize hρ : rhoV _ _ val = ρ
                  have cc : ∀ u, ρ (.const u) = u := fun u => by rw [← hρ]; rfl
                  have ff : ∀ u, ρ (.func u) = .func (.func u) #[] #[] := fun u => by rw [← hρ]; rfl
                  have r167 : ρ (.tmp 167) = .slice (some ad) n tc := by rw [← hρ]; exact hd 16 rfl rfl
                  have r168 : ρ (.tmp 168) = .int .i64 (k : Int) := by rw [← hρ]; exact hd 17 rfl rfl
                  clear hρ hd hb hs hψ
                  refine ifv rfl ?_
                  go_simp
                  exact hK _ _ (Below.refl _ _) rfl (fun _ _ _ _ h => h) fun _ _ _ h => h
                · -- 19
                  intro val wx hg hψ hd hb hs K hK
                  generalize hρ : rhoV _ _ val = ρ
                  have cc : ∀ u, ρ (.const u) = u := fun u => by rw [← hρ]; rfl
                  have ff : ∀ u, ρ (.func u) = .func (.func u) #[] #[] := fun u => by rw [← hρ]; rfl
                  have r169 : ρ (.tmp 169) = .pointer (some (ad.add (k * 6))) := by rw [← hρ]; exact hd 18 rfl rfl
                  have h19 : (Instr.loadAt 54 (.pointer (some (ad.add (k * 6))))).run Tryz.prog wx = .ok (rtV s) wx := hψ
                  clear hρ hd hb hs hψ
                  refine ifv rfl ?_
                  go_simp
                  exact hK _ _ (Below.refl _ _) rfl (fun _ _ _ _ h => h) fun _ _ _ h => h
                · -- 20
                  intro val wx hg hψ hd hb hs K hK
                  generalize hρ : rhoV _ _ val = ρ
                  have cc : ∀ u, ρ (.const u) = u := fun u => by rw [← hρ]; rfl
                  have ff : ∀ u, ρ (.func u) = .func (.func u) #[] #[] := fun u => by rw [← hρ]; rfl
                  have r151 : ρ (.tmp 151) = .slice (some ad) n tc := by rw [← hρ]; exact hd 0 rfl rfl
                  have r152 : ρ (.tmp 152) = .int .i64 (k : Int) := by rw [← hρ]; exact hd 1 rfl rfl
                  clear hρ hd hb hs hψ
                  refine ifv rfl ?_
                  go_simp
                  exact hK _ _ (Below.refl _ _) rfl (fun _ _ _ _ h => h) fun _ _ _ h => h
                · -- 21
                  intro val wx hg hψ hd hb hs K hK
                  generalize hρ : rhoV _ _ val = ρ
                  have cc : ∀ u, ρ (.const u) = u := fun u => by rw [← hρ]; rfl
                  have ff : ∀ u, ρ (.func u) = .func (.func u) #[] #[] := fun u => by rw [← hρ]; rfl
                  have r171 : ρ (.tmp 171) = .pointer (some (ad.add (k * 6))) := by rw [← hρ]; exact hd 20 rfl rfl
                  have r166 : ρ (.tmp 166) = rtV r := by rw [← hρ]; exact hd 15 rfl rfl
                  have hcur : TurnM wk1 wx (some ad) n X := hψ
                  obtain ⟨ad9, W9, hA9, st9, ht9, hlw⟩ := TurnM.put2 hcur hkl r
                  injection hA9 with hA9
                  subst hA9
                  clear hρ hd hb hs hψ
                  refine ifv rfl ?_
                  go_simp
                  exact hK _ _ hlw ht9 (fun i hi hdd hbk h => SwΦ.bare i (by rintro (e | e); exact hi e; subst e; exact Bool.noConfusion ((hbk _ rfl).symm.trans rfl)) h) fun i hi hbk h => SwΨ.bare i (by rintro (e | e | e) <;> first | exact hi e | (subst e; exact Bool.noConfusion (hbk.symm.trans rfl))) h
                · -- 22
                  intro val wx hg hψ hd hb hs K hK
                  generalize hρ : rhoV _ _ val = ρ
                  have cc : ∀ u, ρ (.const u) = u := fun u => by rw [← hρ]; rfl
                  have ff : ∀ u, ρ (.func u) = .func (.func u) #[] #[] := fun u => by rw [← hρ]; rfl
                  have r153 : ρ (.tmp 153) = .slice (some ad) n tc := by rw [← hρ]; exact hd 2 rfl rfl
                  have r158 : ρ (.tmp 158) = .int .i64 (j : Int) := by rw [← hρ]; exact hd 7 rfl rfl
                  clear hρ hd hb hs hψ
                  refine ifv rfl ?_
                  go_simp
                  exact hK _ _ (Below.refl _ _) rfl (fun _ _ _ _ h => h) fun _ _ _ h => h
                · -- 23
                  intro val wx hg hψ hd hb hs K hK
                  generalize hρ : rhoV _ _ val = ρ
                  have cc : ∀ u, ρ (.const u) = u := fun u => by rw [← hρ]; rfl
                  have ff : ∀ u, ρ (.func u) = .func (.func u) #[] #[] := fun u => by rw [← hρ]; rfl
                  have r172 : ρ (.tmp 172) = .pointer (some (ad.add (j * 6))) := by rw [← hρ]; exact hd 22 rfl rfl
                  have r170 : ρ (.tmp 170) = rtV s := by rw [← hρ]; exact hd 19 rfl rfl
                  have hcur : TurnM wk1 wx (some ad) n (X.set k r) := hd 21 rfl rfl
                  obtain ⟨ad9, W9, hA9, st9, ht9, hlw⟩ := TurnM.put2 hcur hjl s
                  injection hA9 with hA9
                  subst hA9
                  clear hρ hd hb hs hψ
                  refine ifv rfl ?_
                  go_simp
                  exact hK _ _ hlw ht9 (fun i hi hdd hbk h => SwΦ.bare i (by rintro (e | e); (subst e; exact absurd hdd (by decide)); exact hi e) h) fun i hi hbk h => SwΨ.bare i (by rintro (e | e | e) <;> (subst e; exact Bool.noConfusion (hbk.symm.trans rfl))) h
              · intro val w9 h9
                rw [if_neg (by decide)] at h9
                have hT9 : TurnM wk1 w9 (some ad) n ((X.set k r).set j s) := h9.2 23 (by decide) fun i _ => by simp [swDead]
                have HT9 := Lib.hid hT9
                clear h9 hT9 hfr
                simp only [putAll]
                go_wp2_with fail
                exact ⟨⟨k + 1, _, by omega, by go_num, HT9.out, HTD2.out⟩, by simp [intOf]; omega⟩
            · have e1 : k = q := by omega
              subst e1
              have hX : X = l.reverse := turned_end (by rw [HL.out, ← HQQ.out]; exact HTD.out)
              subst hX
              have HBT := Lib.hid (HBX.out.trans (HT.out.b.mono HBX.out.size))
              have HB0 := Lib.hid (HB2.out.trans (HBT.out.mono HB2.out.size))
              have hrts : RtsM wt (fun k => k < wt.heap.size) TA n l.reverse := ⟨HT.out.reads, HT.out.len, fun r hr => (HRTS.out wt HB0.out).each r (List.mem_reverse.1 hr)⟩
              obtain ⟨vg, hvg⟩ : ∃ f : Nat → Int, f = fun i => vk (l.length - 1 - i) := ⟨_, rfl⟩
              have hmt : mkL vg 0 l.reverse [] = some L := mkL_turned (fun i _ => by rw [hvg]) HML.out
              obtain ⟨hq1, hq2⟩ := mkT_list (vf := vg) (l := l.reverse) (k := 0) (T := .nil) trivial (fun r hr => (HG.out r (List.mem_reverse.1 hr)).a)
              rw [show TT.list .nil = [] from rfl, hmt] at hq1
              obtain ⟨T2, hT2, hL2⟩ : ∃ T2, mkT vg 0 l.reverse .nil = some T2 ∧ T2.list = L := by
                cases hz : mkT vg 0 l.reverse .nil with
                | none => rw [hz] at hq1; cases hq1
                | some T2 =>
                  rw [hz] at hq1
                  injection hq1 with hq1
                  exact ⟨T2, rfl, hq1⟩
              have hmk2 := fmake_any (dcL_ok l) vg TA n tc l.reverse wt hrts hn3 (fun i r h hm => by
                have hi : i < l.length := by
                  have := (List.getElem?_eq_some_iff.1 h).1
                  simpa using this
                rw [List.getElem?_reverse hi] at h
                rw [hvg]
                exact dcL_at _ r h hm)
              rw [hT2] at hmk2
              have HMK2 := Lib.hid hmk2
              have HL2 := Lib.hid hL2
              clear hrts hvg hmt hq1 hq2 hT2 hL2 hmk2
              have hdk : decide ((k : Int) < (k : Int)) = false := decide_eq_false (by omega)
              go_wp2_with fail
              clear hqi hqt hdk
              refine HMK2.out.mono ?_
              rintro e w7 ⟨gb, rfl, hkg⟩
              have hb7 := hkg.below
              have HB7 := Lib.hid (HBT.out.trans (hb7.mono HBT.out.size))
              have HKG := Lib.hid (fun (V : World) (hV : Below w7.heap.size w7 V) => hkg.later hV)
              have HKF7 := Lib.hid (fun (V : World) (hV : Below w7.heap.size w7 V) => HKF.out V (HB7.out.trans (hV.mono HB7.out.size)))
              have HWL7 := Lib.hid (fun (V : World) (hV : Below w7.heap.size w7 V) => HWL.out V (HB7.out.trans (hV.mono HB7.out.size)))
              have HSM := Lib.hid (show T.list.length ≤ 1000000 by rw [← HLE.out, HLN.out]; omega)
              clear hkg hb7
              go_wp2_with fail
              refine (num14_any _ _).mono ?_
              rintro e w8 ⟨rfl, rfl⟩
              go_wp2_with fail
              refine (fsame_any (dcL_ok l) (dcL_wk l) (HKF7.out w7 (Below.refl _ _)) (HKG.out w7 (Below.refl _ _)) (HL2.out.trans HLE.out) HSM.out (by rw [← HLE.out]; exact H32.out)).mono ?_
              rintro e w8 ⟨rfl, hb8⟩
              have HB8 := Lib.hid hb8
              clear hb8
              go_wp2_with fail
              refine (fsame_any (dcL_ok l) (dcL_wk l) (HKG.out w8 HB8.out) (HKF7.out w8 HB8.out) (HLE.out.symm.trans HL2.out.symm) (by rw [HL2.out, HLE.out]; exact HSM.out) (by rw [HL2.out]; exact H32.out)).mono ?_
              rintro e w9 ⟨rfl, hb9⟩
              have HB9 := Lib.hid (HB8.out.trans (hb9.mono HB8.out.size))
              clear hb9
              go_wp2_with fail
              refine (flen_any (HKF7.out w9 HB9.out) n (by rw [← HLE.out]; exact HLN.out)).mono ?_
              rintro e w10 ⟨rfl, rfl⟩
              go_wp2_with fail
              refine (once_of (dcL_ok l) (dcL_wk l) _ 192 eg_over w9 RA n rc lv L HLN.out (by omega) (by rw [HLE.out]; exact allgives_kf (dcL_ok l) (HKF7.out w9 HB9.out) HSM.out) (HWL7.out w9 HB9.out).at_).mono ?_
              rintro e w10 ⟨rfl, hb10⟩
              have HB10 := Lib.hid (HB9.out.trans (hb10.mono HB9.out.size))
              clear hb10
              go_wp2_with fail
              refine (once_of (dcL_ok l) (dcL_wk l) _ 192 eg_over w10 RA n rc 0 L HLN.out (by omega) (by rw [HLE.out]; exact allgives_kf (dcL_ok l) (HKF7.out w10 HB10.out) HSM.out) (HWL7.out w10 HB10.out).at_).mono ?_
              rintro e w11 ⟨rfl, hb11⟩
              have HB11 := Lib.hid (HB10.out.trans (hb11.mono HB10.out.size))
              clear hb11
              go_wp2_with fail
              refine (HKN.out _).mono ?_
              rintro e w12 ⟨rfl, hb12⟩
              have HB12 := Lib.hid (HB11.out.trans (hb12.mono HB11.out.size))
              clear hb12
              go_wp2_with fail
              go_ret
              exact ⟨rfl, (HB2.out.trans (HB7.out.mono HB2.out.size)).trans (HB12.out.mono (HB2.out.trans (HB7.out.mono HB2.out.size)).size)⟩
end Go.Proofs.YthlommalbkhcjaaGreat
