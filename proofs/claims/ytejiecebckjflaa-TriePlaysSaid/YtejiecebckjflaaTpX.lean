/- The walk of TriePlays, put together. -/
import Derived.Test.YtejiecebckjflaaTpW
namespace Go.Proofs.Ytejiecebckjflaa
open Go.RowKit Go.Sort Go.BigFrame
set_option maxRecDepth 100000 in
set_option maxHeartbeats 16000000 in
theorem plays_any (lim : Int) (A : Option Addr) (n c : Nat) (l : List AcT) (A2 : Option Addr) (n2 c2 : Nat) (l2 : List Nat) (lv : Int) (w : World) (r : Reads w (fun k => k < w.heap.size) 4 A n (l.flatMap AcT.cells)) (hl : l.length = n) (hg : ∀ x ∈ l, x.p.a < 2 ^ 32)
    (r2 : Reads w (fun k => k < w.heap.size) 1 A2 n2 (l2.map fun (a : Nat) => Value.int .u32 (a : Int))) (hl2 : l2.length = n2) (hg2 : ∀ x ∈ l2, x < 2 ^ 32) :
    Calls Try.prog 7 #[.int .i64 lim, .slice A n c, .slice A2 n2 c2, .int .i64 lv] w fun e w' => e = .returned (.bool true) ∧ Below w.heap.size w w' := by
  have R := Lib.hid r
  have HG := Lib.hid hg
  have HL := Lib.hid hl
  have R2 := Lib.hid r2
  have HG2 := Lib.hid hg2
  have HL2 := Lib.hid hl2
  clear r hg hl r2 hg2 hl2
  by_cases hbig : 100 < n
  · have hd : decide (100 < n) = true := decide_eq_true hbig
    have hd1 : decide ((100 : Int) < (n : Int)) = true := decide_eq_true (by omega)
    go_enter Try.func7, Try.ntmps7
    go_wp2_with fail
    refine (known_any _).mono ?_
    rintro e w2 ⟨rfl, hb2⟩
    go_wp2_with fail
    go_ret
    exact ⟨rfl, hb2⟩
  have hd : decide (100 < n) = false := decide_eq_false hbig
  have hd1 : decide ((100 : Int) < (n : Int)) = false := decide_eq_false (by omega)
  by_cases hbig2 : 100 < n2
  · have hd2 : decide (100 < n2) = true := decide_eq_true hbig2
    have hd3 : decide ((100 : Int) < (n2 : Int)) = true := decide_eq_true (by omega)
    go_enter Try.func7, Try.ntmps7
    go_wp2_with fail
    refine (known_any _).mono ?_
    rintro e w2 ⟨rfl, hb2⟩
    go_wp2_with fail
    go_ret
    exact ⟨rfl, hb2⟩
  have hd2 : decide (100 < n2) = false := decide_eq_false hbig2
  have hd3 : decide ((100 : Int) < (n2 : Int)) = false := decide_eq_false (by omega)
  go_enter Try.func7, Try.ntmps7
  go_wp2_with fail
  refine (new_any lim _).mono ?_
  rintro e w1 ⟨rfl, rfl⟩
  have hn := hu_new lim w
  go_wp2_with fail
  generalize (w.alloc (.cells #[.pointer none, .int .i64 (max 0 lim), .int .i64 0, .bool true] 71)).alloc (.cells #[.slice none 0 0, .int .i64 lim] 48) = wz at hn ⊢
  obtain ⟨db, hdb⟩ : ∃ db, db = w.heap.size + 1 := ⟨_, rfl⟩
  obtain ⟨tb, htb⟩ : ∃ tb, tb = w.heap.size := ⟨_, rfl⟩
  rw [← hdb] at hn ⊢
  rw [← htb] at hn ⊢
  have HN := Lib.hid (show HU lim w (fun _ => False) w tb db .nil TT.nil.list wz from hn)
  clear hn hdb htb
  refine (hu_copy HN.out).mono ?_
  rintro e wa ⟨cb, MC, rfl, htc, hba, hMC⟩
  have HA := Lib.hid (HN.out.later hba)
  have HTC := Lib.hid htc
  have HBA := Lib.hid hba
  have HMC := Lib.hid hMC
  clear htc hba hMC
  go_wp2_with fail
  refine (hu_tcopy HA.out (Nat.zero_le _)).mono ?_
  rintro e wb ⟨u, rfl, ⟨vb, NC, rfl, hnc, hNC⟩, hbb⟩
  obtain ⟨J0, w50, hu0, hc0⟩ := hu_copied HN.out HTC.out HBA.out HMC.out hnc hbb hNC
  have HU0 := Lib.hid hu0
  have HC0 := Lib.hid hc0
  clear hnc hNC hbb hu0 hc0 HTC HBA HMC HA HN
  go_wp2_with fail
  go_loopg [11, 12, 13] n (fun g s11 s12 s13 wr => ∃ (k : Nat) (T U : TT) (J : Nat → Prop) (w5 : World) (cb vb : Nat), k + g = n ∧ s11 = .pointer (some ⟨cb, 0, none⟩) ∧ s12 = .pointer (some ⟨vb, 0, none⟩) ∧ s13 = .int .i64 (k : Int) ∧ HU lim w J w5 tb db T T.list wr ∧ CpOf lim w J w5 cb vb U ∧ T.list.length ≤ k ∧ U.list.length ≤ 100)
  case atStart => exact ⟨0, .nil, .nil, J0, w50, cb, vb, by omega, rfl, rfl, rfl, HU0.out, HC0.out, Nat.le_refl _, Nat.zero_le _⟩
  case round =>
    clear HU0 HC0
    obtain ⟨k, T, U, J, w5, cb, vb, hk, rfl, rfl, rfl, hT0, hcp, hlen, hlu⟩ := hrel
    have HT0 := Lib.hid hT0
    have HCP := Lib.hid hcp
    have HLEN := Lib.hid hlen
    have HLU := Lib.hid hlu
    clear hT0 hcp hlen hlu
    by_cases hlt : k < n
    · skip
      obtain ⟨x, hak⟩ : ∃ x, l[k]? = some x := ⟨l[k]'(by rw [HL.out]; exact hlt), List.getElem?_eq_getElem _⟩
      obtain ⟨ad, rfl, _, hadl, hc⟩ := R.out.2 (by omega)
      obtain ⟨e0, e1, e2, e3⟩ := acs_get l k _ hak
      have hcc := fun (wx : World) (hbl : Below w.heap.size w wx) => (⟨(hbl.cell (by rw [block_of_add]; exact hadl)).trans (hc _ _ e0), by
          rw [← add_after ad (k * 4) 1 (by omega)]
          exact (hbl.cell (by rw [block_of_add]; exact hadl)).trans (hc _ _ e1), by
          rw [← add_after ad (k * 4) 2 (by omega)]
          exact (hbl.cell (by rw [block_of_add]; exact hadl)).trans (hc _ _ e2), by
          rw [← add_after ad (k * 4) 3 (by omega)]
          exact (hbl.cell (by rw [block_of_add]; exact hadl)).trans (hc _ _ e3)⟩ :
        wx.cell? (ad.add (k * 4)) = some (.bool x.del) ∧ wx.cell? ⟨(ad.add (k * 4)).block, (ad.add (k * 4)).off + 1, none⟩ = some (.int .u32 (x.p.a : Int)) ∧ wx.cell? ⟨(ad.add (k * 4)).block, (ad.add (k * 4)).off + 2, none⟩ = some (.int .i64 x.p.n) ∧ wx.cell? ⟨(ad.add (k * 4)).block, (ad.add (k * 4)).off + 3, none⟩ = some (.int .i64 x.v))
      have HC := Lib.hid hcc
      have hxa := HG.out x (List.mem_of_getElem? hak)
      have HXA := Lib.hid hxa
      have hi0 : (0 : Int) ≤ k := by omega
      have hi1 : (k : Int) < n := by omega
      have hdk : decide (k < n) = true := decide_eq_true hlt
      have hdk1 : decide ((k : Int) < (n : Int)) = true := decide_eq_true hi1
      clear hak e0 e1 e2 e3 hc hadl hxa hcc
      obtain ⟨dl, pxx, vv⟩ := x
      obtain ⟨pa, pn⟩ := pxx
      go_wp2_with fail
      refine wp_region_stages [(true, 6), (false, 1), (true, 19)] (by kernel_rfl) (by kernel_rfl) fun wz hz hz2 => ?_
      have HZ := Lib.hid (HT0.out.later hz)
      obtain ⟨d0, d1, d2, d3⟩ := HC.out wz HZ.out.below
      have x0 := cell_regrown d0
      have x1 := cell_regrown d1
      have x2 := cell_regrown d2
      have x3 := cell_regrown d3
      clear d0 d1 d2 d3 hz hz2
      refine wpSt_q ?_
      simp only [List.take_succ_cons, List.take_zero, List.drop_succ_cons, List.drop_zero]
      repeat (go_big_quiet_step (fail))
      refine wpQuiet_nil ?_
      intro _ hw'
      obtain ⟨⟨dq, osq⟩, hw''⟩ := hw'
      subst hw''
      have hbq := below_regrown wz dq osq
      generalize grow (redrawn wz dq) osq = wq at hbq ⊢
      have HQ := Lib.hid (HZ.out.later hbq)
      clear hbq x0 x1 x2 x3
      refine wpSt_l ?_
      simp only [List.take_succ_cons, List.take_zero, List.drop_succ_cons, List.drop_zero]
      have hdo := du_any ⟨dl, ⟨pa, pn⟩, vv⟩ wq HQ.out HXA.out (by have := HLEN.out; omega)
      have HDO := Lib.hid hdo
      clear hdo
      go_wp2_with fail
      refine HDO.out.mono ?_
      rintro e w2 ⟨rfl, h2⟩
      have HD := Lib.hid h2
      have hln := stepU_len (lim := lim) ⟨dl, ⟨pa, pn⟩, vv⟩ HQ.out.wf HXA.out
      have HLN := Lib.hid hln
      clear h2 hln HDO
      go_wp2_with fail
      obtain ⟨d0, d1, d2, d3⟩ := HC.out w2 HD.out.below
      have x0 := cell_regrown d0
      have x1 := cell_regrown d1
      have x2 := cell_regrown d2
      have x3 := cell_regrown d3
      have k1 : ∀ (d : Nat) (os : Array Obj), Calls Try.prog 29 #[.pointer (some ⟨tb, 0, none⟩), .pointer (some ⟨db, 0, none⟩), .agg #[.int .u32 (pa : Int), .int .i64 pn], .int .u32 (pa : Int), .int .i64 lv] (grow (redrawn w2 d) os) (fun e w'' => e = .returned (.bool true) ∧ ∃ p : Regrown, w'' = grow (redrawn w2 p.d) p.os) := fun d os => Calls.regrown_of (hu_looks (HD.out.later (below_regrown w2 d os)) ⟨pa, pn⟩ pa lv HXA.out HXA.out (by have := HLEN.out; have := HLN.out; omega))
      clear d0 d1 d2 d3
      refine wpSt_q ?_
      simp only [List.take_succ_cons, List.take_zero, List.drop_succ_cons, List.drop_zero]
      repeat (go_big_quiet_step (with_reducible exact k1 _ _))
      refine wpQuiet_nil ?_
      intro _ hw'
      obtain ⟨⟨dq, osq⟩, hw''⟩ := hw'
      subst hw''
      have hbq := below_regrown w2 dq osq
      generalize grow (redrawn w2 dq) osq = wq2 at hbq ⊢
      have HQ2 := Lib.hid (HD.out.later hbq)
      clear hbq x0 x1 x2 x3 k1
      refine wpSt_end ?_
      by_cases hmid : k = n / 2
      · have hm1 : decide ((k : Int) = (n : Int) / 2) = true := decide_eq_true (by omega)
        have hm2 : decide (k = n / 2) = true := decide_eq_true hmid
        go_wp2_with fail
        refine (hu_copy HQ2.out).mono ?_
        rintro e wa ⟨cb, MC, rfl, htc, hba, hMC⟩
        have HA := Lib.hid (HQ2.out.later hba)
        have HTC := Lib.hid htc
        have HBA := Lib.hid hba
        have HMC := Lib.hid hMC
        clear htc hba hMC
        go_wp2_with fail
        refine (hu_tcopy HA.out (by have := HLEN.out; have := HLN.out; omega)).mono ?_
        rintro e wb ⟨u, rfl, ⟨vb, NC, rfl, hnc, hNC⟩, hbb⟩
        obtain ⟨J0, w50, hu0, hc0⟩ := hu_copied HQ2.out HTC.out HBA.out HMC.out hnc hbb hNC
        have HU0 := Lib.hid hu0
        have HC0 := Lib.hid hc0
        clear hnc hNC hbb hu0 hc0 HTC HBA HMC HA
        go_wp2_with fail
        go_roundg (n - (k + 1))
        case measure => omega
        case rel => exact ⟨k + 1, _, _, J0, w50, cb, vb, by omega, rfl, rfl, congrArg (Value.int .i64) (by omega), HU0.out, HC0.out, by have := HLEN.out; have := HLN.out; omega, by have := HLEN.out; have := HLN.out; omega⟩
      · have hm1 : decide ((k : Int) = (n : Int) / 2) = false := decide_eq_false (by omega)
        have hm2 : decide (k = n / 2) = false := decide_eq_false hmid
        go_wp2_with fail
        go_roundg (n - (k + 1))
        case measure => omega
        case rel => exact ⟨k + 1, _, U, J, w5, cb, vb, by omega, rfl, rfl, by simp, HQ2.out, HCP.out, by have := HLEN.out; have := HLN.out; omega, HLU.out⟩
    · obtain rfl : k = n := by omega
      have hdk : decide (k < k) = false := by simp
      have hdk2 : decide ((k : Int) < (k : Int)) = false := by simp
      have HTL := Lib.hid (show T.list.length ≤ 100 by have := HLEN.out; omega)
      go_wp2_with fail
      go_loopg [14] n2 (fun g s14 wr => ∃ (j : Nat), j + g = n2 ∧ s14 = .int .i64 (j : Int) ∧ HU lim w J w5 tb db T T.list wr)
      case atStart => exact ⟨0, by omega, rfl, HT0.out⟩
      case round =>
        obtain ⟨j, hj, rfl, hT1⟩ := hrel
        have HT1 := Lib.hid hT1
        clear hT1
        by_cases hlt : j < n2
        · obtain ⟨a, haj⟩ : ∃ a, l2[j]? = some a := ⟨l2[j]'(by rw [HL2.out]; exact hlt), List.getElem?_eq_getElem _⟩
          obtain ⟨ad, rfl, _, hadl, hc⟩ := R2.out.2 (by omega)
          have e0 : (l2.map fun (a : Nat) => Value.int .u32 (a : Int))[j]? = some (.int .u32 (a : Int)) := by rw [List.getElem?_map, haj]; rfl
          have hcc := fun (wx : World) (hbl : Below w.heap.size w wx) => (hbl.cell (p := ad.add j) (by rw [block_of_add]; exact hadl)).trans (hc _ _ e0)
          have HCC := Lib.hid hcc
          have hd0 := hcc wr HT1.out.below
          have ha := HG2.out a (List.mem_of_getElem? haj)
          have hi0 : (0 : Int) ≤ j := by omega
          have hi1 : (j : Int) < n2 := by omega
          have hdj : decide (j < n2) = true := decide_eq_true hlt
          have hdj1 : decide ((j : Int) < (n2 : Int)) = true := decide_eq_true hi1
          have L1 := Lib.hid (hu_looks HT1.out ⟨0, 0⟩ a lv (by decide) ha (by have := HTL.out; omega))
          have HAA := Lib.hid ha
          clear haj hadl hc e0 hcc ha
          go_wp2_with fail
          refine L1.out.mono ?_
          rintro e w2 ⟨rfl, hb2⟩
          have HT2 := Lib.hid (HT1.out.later hb2)
          have hd1 := HCC.out w2 HT2.out.below
          have L2 := Lib.hid (cp_looks HT2.out HCP.out ⟨0, 0⟩ a 0 (by decide) HAA.out (by have := HLU.out; omega))
          clear hb2 hd0 L1
          go_wp2_with fail
          refine L2.out.mono ?_
          rintro e w3 ⟨rfl, hb3⟩
          have HT3 := Lib.hid (HT2.out.later hb3)
          clear hb3 hd1 L2
          go_wp2_with fail
          go_roundg (n2 - (j + 1))
          case measure => omega
          case rel => exact ⟨j + 1, by omega, by simp, HT3.out⟩
        · obtain rfl : j = n2 := by omega
          have hdj : decide (j < j) = false := by simp
          have hdj2 : decide ((j : Int) < (j : Int)) = false := by simp
          obtain ⟨J2, hs1, hs2⟩ := hu_swap HT1.out HCP.out
          obtain ⟨wm, hwm⟩ : ∃ wm, wm = wr := ⟨_, rfl⟩
          have HS1 := Lib.hid (show HU lim w J2 wm cb vb U U.list wr by rw [hwm]; exact hs1)
          have HS2 := Lib.hid (show CpOf lim w J2 wm tb db T by rw [hwm]; exact hs2)
          clear hs1 hs2 hwm HT1 HT0 HCP
          go_wp2_with fail
          go_loopg [15] k (fun g s15 wr => ∃ (i : Nat) (U : TT), i + g = k ∧ s15 = .int .i64 (i : Int) ∧ HU lim w J2 wm cb vb U U.list wr ∧ U.list.length ≤ 100 + i)
          case atStart => exact ⟨0, U, by omega, rfl, HS1.out, by have := HLU.out; omega⟩
          case round =>
            clear HS1 HLU HLEN
            obtain ⟨i, U, hi, rfl, hT0, hlen⟩ := hrel
            have HT0 := Lib.hid hT0
            have HLEN := Lib.hid hlen
            clear hT0 hlen
            by_cases hlt : i < k
            · skip
              obtain ⟨x, hak⟩ : ∃ x, l[i]? = some x := ⟨l[i]'(by rw [HL.out]; exact hlt), List.getElem?_eq_getElem _⟩
              obtain ⟨ad, rfl, _, hadl, hc⟩ := R.out.2 (by omega)
              obtain ⟨e0, e1, e2, e3⟩ := acs_get l i _ hak
              have hcc := fun (wx : World) (hbl : Below w.heap.size w wx) => (⟨(hbl.cell (by rw [block_of_add]; exact hadl)).trans (hc _ _ e0), by
                  rw [← add_after ad (i * 4) 1 (by omega)]
                  exact (hbl.cell (by rw [block_of_add]; exact hadl)).trans (hc _ _ e1), by
                  rw [← add_after ad (i * 4) 2 (by omega)]
                  exact (hbl.cell (by rw [block_of_add]; exact hadl)).trans (hc _ _ e2), by
                  rw [← add_after ad (i * 4) 3 (by omega)]
                  exact (hbl.cell (by rw [block_of_add]; exact hadl)).trans (hc _ _ e3)⟩ :
                wx.cell? (ad.add (i * 4)) = some (.bool x.del) ∧ wx.cell? ⟨(ad.add (i * 4)).block, (ad.add (i * 4)).off + 1, none⟩ = some (.int .u32 (x.p.a : Int)) ∧ wx.cell? ⟨(ad.add (i * 4)).block, (ad.add (i * 4)).off + 2, none⟩ = some (.int .i64 x.p.n) ∧ wx.cell? ⟨(ad.add (i * 4)).block, (ad.add (i * 4)).off + 3, none⟩ = some (.int .i64 x.v))
              have HC := Lib.hid hcc
              have hxa := HG.out x (List.mem_of_getElem? hak)
              have HXA := Lib.hid hxa
              have hi0 : (0 : Int) ≤ i := by omega
              have hi1 : (i : Int) < k := by omega
              have hdk : decide (i < k) = true := decide_eq_true hlt
              have hdk1 : decide ((i : Int) < (k : Int)) = true := decide_eq_true hi1
              clear hak e0 e1 e2 e3 hc hadl hxa hcc
              obtain ⟨dl, pxx, vv⟩ := x
              obtain ⟨pa, pn⟩ := pxx
              go_wp2_with fail
              refine wp_region_stages [(true, 6), (false, 1), (true, 35)] (by kernel_rfl) (by kernel_rfl) fun wz hz hz2 => ?_
              have HZ := Lib.hid (HT0.out.later hz)
              obtain ⟨d0, d1, d2, d3⟩ := HC.out wz HZ.out.below
              have x0 := cell_regrown d0
              have x1 := cell_regrown d1
              have x2 := cell_regrown d2
              have x3 := cell_regrown d3
              clear d0 d1 d2 d3 hz hz2
              refine wpSt_q ?_
              simp only [List.take_succ_cons, List.take_zero, List.drop_succ_cons, List.drop_zero]
              repeat (go_big_quiet_step (fail))
              refine wpQuiet_nil ?_
              intro _ hw'
              obtain ⟨⟨dq, osq⟩, hw''⟩ := hw'
              subst hw''
              have hbq := below_regrown wz dq osq
              generalize grow (redrawn wz dq) osq = wq at hbq ⊢
              have HQ := Lib.hid (HZ.out.later hbq)
              clear hbq x0 x1 x2 x3
              refine wpSt_l ?_
              simp only [List.take_succ_cons, List.take_zero, List.drop_succ_cons, List.drop_zero]
              have hdo := du_any ⟨dl, ⟨pa, pn⟩, vv⟩ wq HQ.out HXA.out (by have := HLEN.out; omega)
              have HDO := Lib.hid hdo
              clear hdo
              go_wp2_with fail
              refine HDO.out.mono ?_
              rintro e w2 ⟨rfl, h2⟩
              have HD := Lib.hid h2
              have hln := stepU_len (lim := lim) ⟨dl, ⟨pa, pn⟩, vv⟩ HQ.out.wf HXA.out
              have HLN := Lib.hid hln
              clear h2 hln HDO
              go_wp2_with fail
              obtain ⟨d0, d1, d2, d3⟩ := HC.out w2 HD.out.below
              have x0 := cell_regrown d0
              have x1 := cell_regrown d1
              have x2 := cell_regrown d2
              have x3 := cell_regrown d3
              have k1 : ∀ (d : Nat) (os : Array Obj), Calls Try.prog 29 #[.pointer (some ⟨cb, 0, none⟩), .pointer (some ⟨vb, 0, none⟩), .agg #[.int .u32 (pa : Int), .int .i64 pn], .int .u32 (pa : Int), .int .i64 0] (grow (redrawn w2 d) os) (fun e w'' => e = .returned (.bool true) ∧ ∃ p : Regrown, w'' = grow (redrawn w2 p.d) p.os) := fun d os => Calls.regrown_of (hu_looks (HD.out.later (below_regrown w2 d os)) ⟨pa, pn⟩ pa 0 HXA.out HXA.out (by have := HLEN.out; have := HLN.out; omega))
              have k2 : ∀ (d : Nat) (os : Array Obj), Calls Try.prog 29 #[.pointer (some ⟨tb, 0, none⟩), .pointer (some ⟨db, 0, none⟩), .agg #[.int .u32 (pa : Int), .int .i64 pn], .int .u32 (pa : Int), .int .i64 0] (grow (redrawn w2 d) os) (fun e w'' => e = .returned (.bool true) ∧ ∃ p : Regrown, w'' = grow (redrawn w2 p.d) p.os) := fun d os => Calls.regrown_of (cp_looks (HD.out.later (below_regrown w2 d os)) HS2.out ⟨pa, pn⟩ pa 0 HXA.out HXA.out (by have := HTL.out; omega))
              clear d0 d1 d2 d3
              refine wpSt_q ?_
              simp only [List.take_succ_cons, List.take_zero, List.drop_succ_cons, List.drop_zero]
              repeat (go_big_quiet_step (first | with_reducible exact k1 _ _ | with_reducible exact k2 _ _))
              refine wpQuiet_nil ?_
              intro _ hw'
              obtain ⟨⟨dq, osq⟩, hw''⟩ := hw'
              subst hw''
              have hbq := below_regrown w2 dq osq
              generalize grow (redrawn w2 dq) osq = wq2 at hbq ⊢
              have HQ2 := Lib.hid (HD.out.later hbq)
              clear hbq x0 x1 x2 x3 k1 k2
              refine wpSt_end ?_
              go_wp2_with fail
              go_roundg (k - (i + 1))
              case measure => omega
              case rel => exact ⟨i + 1, _, by omega, by simp, HQ2.out, by have := HLEN.out; have := HLN.out; omega⟩
            · obtain rfl : i = k := by omega
              have hdk : decide (i < i) = false := by simp
              have hdk2 : decide ((i : Int) < (i : Int)) = false := by simp
              go_wp2_with fail
              refine (known_any _).mono ?_
              rintro e w9 ⟨rfl, hb9⟩
              have HB9 := Lib.hid (HT0.out.below.trans (hb9.mono HT0.out.below.size))
              clear hb9
              go_wp2_with fail
              go_ret
              exact ⟨rfl, HB9.out⟩
end Go.Proofs.Ytejiecebckjflaa
