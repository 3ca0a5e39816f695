/- The walk of FibMeans. -/
import Derived.Test.YthlommalbkhcjaaFuZ
namespace Go.Proofs.Ythlommalbkhcjaa
open Go.RowKit Go.Sort Go.Maps
theorem pick_eq (l : List Rt) (E : List (Bs × Int)) (hash : Nat) : pickV (wkL l) E hash = .tuple #[.int .i64 (wkL l (lastE E).2).1, .int .i64 ((wkL l (lastE E).2).2.getD (hash % 256) 0)] := by
  unfold pickV
  split
  · rename_i h
    have : E = [] := List.isEmpty_iff.1 h
    rw [this, show (lastE []).2 = 0 from rfl, wkL_0, (wkL_ok l 0).at_no (by rw [wkL_0]; decide)]
  · rfl
theorem take_mem_succ {zs : List Int} {h : Nat} (hh : h < zs.length) {y : Int} : y ∈ zs.take (h + 1) ↔ y = zs.getD h 0 ∨ y ∈ zs.take h := by
  rw [List.take_succ_eq_append_getElem hh, List.mem_append, List.mem_singleton]
  have : zs.getD h 0 = zs[h] := by simp [List.getD_eq_getElem?_getD, hh]
  rw [this]
  exact Or.comm
theorem bd_seen (w : World) : (Instr.build 57 #[(0, .bool true)]).run Try.prog w = .ok (.agg #[.bool true]) w := by kernel_rfl
theorem fd_seen (w : World) : (Instr.field 57 (.agg #[.bool true]) 0).run Try.prog w = .ok (.bool true) w := by kernel_rfl
theorem own_laterI {w w' : World} {base : Nat} {e : TypeId} {size n : Nat} {v : Value} {xs : List Value} (h : w.ownsRow base e size v n xs) (hb : Below w.heap.size w w') : w'.ownsRow base e size v n xs := own_below h hb
set_option maxRecDepth 20000 in
set_option maxHeartbeats 16000000 in
attribute [-go_sem] Instr.storeAt Instr.loadAt Instr.alloc Instr.build in
theorem means14_any (A : Option Addr) (n c : Nat) (l : List Rt) (a : Nat) (w : World) (hr : Reads w (fun k => k < w.heap.size) 6 A n (l.flatMap rtC)) (hl : l.length = n) (hg : ∀ r ∈ l, RtRd w r) (ha : a < 2 ^ 32) :
    Calls Try.prog 5 #[.slice A n c, .int .u32 (a : Int)] w fun e w' => e = .returned (.bool true) ∧ Below w.heap.size w w' := by
  have HR := Lib.hid (fun (wx : World) (hb : Below w.heap.size w wx) => (show Reads wx (fun k => k < wx.heap.size) 6 A n (l.flatMap rtC) from (hr.keep (Same.ofBelow hb fun k hk => hk)).mono fun k hk => Nat.lt_of_lt_of_le hk hb.size))
  have HG := Lib.hid hg
  have HL := Lib.hid hl
  have HA := Lib.hid ha
  clear hr hg hl ha
  go_enter Try.func5, Try.ntmps5
  go_wp2_with fail
  refine (known14_any _).mono ?_
  rintro e w0 ⟨rfl, hb0⟩
  have HB0 := Lib.hid hb0
  clear hb0
  by_cases hbig : 300 < n
  · have d1 : decide ((300 : Int) < (n : Int)) = true := decide_eq_true (by omega)
    clear hbig
    go_wp2_with fail
    go_ret
    exact ⟨rfl, HB0.out⟩
  have d1 : decide ((300 : Int) < (n : Int)) = false := decide_eq_false (by omega)
  go_wp2_with fail
  refine (much14_any A n c l w0 (HR.out w0 HB0.out) HL.out).mono ?_
  rintro e w1 ⟨b, rfl, hmb, rfl⟩
  cases b with
  | true =>
    clear hmb
    go_wp2_with fail
    go_ret
    exact ⟨rfl, HB0.out⟩
  | false =>
    have hrts : RtsM w0 (fun k => k < w0.heap.size) A n l := ⟨HR.out w0 HB0.out, HL.out, fun r hr => ⟨(HG.out r hr).a, (HG.out r hr).l, Nat.le_trans ((hmb rfl).2 r hr) (by decide), ((HG.out r hr).rd.keep (Same.ofBelow HB0.out fun k hk => hk)).mono fun k hk => Nat.lt_of_lt_of_le hk HB0.out.size⟩⟩
    have HMK := Lib.hid (fmake_any (dcL_ok l) vk A n c l w0 hrts (by omega) (fun i r h hm => dcL_at i r h hm))
    have HN := Lib.hid (show n ≤ 300 by omega)
    clear hrts hmb hbig
    cases hmk : mkT vk 0 l .nil with
    | none =>
      rw [hmk] at HMK
      go_wp2_with fail
      refine HMK.out.mono ?_
      rintro e w1 ⟨rfl, hb1⟩
      have HB1 := Lib.hid (HB0.out.trans (hb1.mono HB0.out.size))
      clear hb1
      go_wp2_with fail
      refine (num14_any _ _).mono ?_
      rintro e w1 ⟨rfl, rfl⟩
      go_wp2_with fail
      go_ret
      exact ⟨rfl, HB1.out⟩
    | some T =>
      rw [hmk] at HMK
      have hsl : T.list.length ≤ 300 := by
        obtain ⟨h1, h2⟩ := mkT_list (vf := vk) (l := l) (k := 0) (T := .nil) trivial (fun r hr => (HG.out r hr).a)
        rw [hmk] at h1
        have := (mkL_in (List.Pairwise.nil : SortedB []) h1.symm).2.1
        rw [this]
        show 0 + l.length ≤ 300
        have := HL.out
        have := HN.out
        omega
      have HSL := Lib.hid (show T.list.length ≤ 1000000 by omega)
      clear hsl hmk
      go_wp2_with fail
      refine HMK.out.mono ?_
      rintro e w1 ⟨fb, rfl, hk1⟩
      have HB1 := Lib.hid (HB0.out.trans (hk1.below.mono HB0.out.size))
      have HK1 := Lib.hid hk1
      clear hk1
      go_wp2_with fail
      refine (num14_any _ _).mono ?_
      rintro e w1 ⟨rfl, rfl⟩
      go_wp2_with fail
      refine (kf_look (dcL_ok l) a HK1.out HA.out HSL.out).mono ?_
      rintro e w2 ⟨⟨rfl, hb2⟩, hk2⟩
      obtain ⟨E, hE⟩ : ∃ E, E = T.cov (bitsB a 32) := ⟨_, rfl⟩
      rw [← hE]
      obtain ⟨pa, hpa⟩ : ∃ z : Int, z = (padB (lastE E).1 : Int) := ⟨_, rfl⟩
      obtain ⟨pn, hpn⟩ : ∃ z : Int, z = ((lastE E).1.length : Int) := ⟨_, rfl⟩
      obtain ⟨wz, hwz⟩ : ∃ z, z = wkL l (lastE E).2 := ⟨_, rfl⟩
      obtain ⟨X, hX⟩ : ∃ X, X = wyC wz.1 wz.2 := ⟨_, rfl⟩
      obtain ⟨bi, hbi⟩ : ∃ z, z = !E.isEmpty := ⟨_, rfl⟩
      have hcs : dcL l (lastE E).2 = X := by rw [hX, hwz]; rfl
      unfold pxV
      rw [← hpa, ← hpn, ← hbi, hcs]
      have hok : WkOk wz := by rw [hwz]; exact wkL_ok l _
      have hx1 : X.size = 257 := by rw [hX]; exact wyC_size hok.len
      have hx2 : X.all (·.oneCell') = true := by rw [hX]; exact wyC_one _ _
      have hb0 : bi = false → wz.1 = 0 := fun h => by
        have : E = [] := by
          cases he : E.isEmpty with
          | true => exact List.isEmpty_iff.1 he
          | false => rw [hbi, he] at h; cases h
        rw [hwz, this]
        exact wkL_0 l
      have HPK := Lib.hid (fun (hash : Nat) (wx : World) (h : KF (dcL l) w0 wx fb T n) => (show Calls Try.prog 19 #[.pointer (some ⟨fb, 0, none⟩), .int .u32 (a : Int), .int .u32 (hash : Int)] wx fun e w' => e = .returned (.tuple #[.int .i64 wz.1, .int .i64 (wz.2.getD (hash % 256) 0)]) ∧ Below wx.heap.size wx w' by
        refine (kf_pick (dcL_ok l) (dcL_wk l) a hash h HA.out HSL.out).mono fun e w' ⟨h1, _, h3⟩ => ⟨?_, h3⟩
        rw [h1, ← hE, pick_eq, ← hwz]))
      have HPT := Lib.hid (fun (wx : World) (h : KF (dcL l) w0 wx fb T n) => fports_any (dcL_ok l) (dcL_wk l) a h HA.out HSL.out wz (by rw [hwz, hE]))
      have HOK := Lib.hid hok
      have HB0' := Lib.hid hb0
      have HX := Lib.hid hX
      have HB2 := Lib.hid (HB1.out.trans (hb2.mono HB1.out.size))
      have HK2 := Lib.hid hk2
      clear hb2 hk2 hE hpa hpn hwz hX hbi hcs hok hb0
      obtain ⟨v1, v2, st1, st2, hp3, hv3, hb3⟩ := box_pw w2 pa pn X hx1 hx2
      rw [HX.out] at hv3
      have HV3 := Lib.hid hv3
      have HK3 := Lib.hid (HK2.out.later hb3)
      have HB3 := Lib.hid (HB2.out.trans (hb3.mono HB2.out.size))
      have a1 := px_alloc
      have a2 := way_alloc
      clear hp3 hv3 hb3
      go_wp2_with fail
      refine (HPT.out v2 HK3.out).mono ?_
      rintro e w4 ⟨pv, rfl, ho4, hb4⟩
      have HV4 := Lib.hid (HV3.out.below hb4 HV3.out.lt)
      have HK4 := Lib.hid (HK3.out.later hb4)
      have HB4 := Lib.hid (HB3.out.trans (hb4.mono HB3.out.size))
      obtain ⟨P, hP⟩ : ∃ P, P = portsOf wz := ⟨_, rfl⟩
      rw [← hP] at ho4
      have HP := Lib.hid hP
      obtain ⟨m, hm⟩ : ∃ m, m = P.length := ⟨_, rfl⟩
      rw [← hm] at ho4
      have HM := Lib.hid hm
      obtain ⟨Ap, cp, rfl, _⟩ := own_form ho4
      have HO4 := Lib.hid ho4
      clear ho4 hb4 hP hm a1 a2 st1 st2
      have mk := fun (w : World) => run_makeMap (P := Try.prog) 54 w
      obtain ⟨w5, hw5⟩ : ∃ Z, Z = w4.alloc (.map #[] 0) := ⟨_, rfl⟩
      obtain ⟨mb, hmb⟩ : ∃ b, b = w4.heap.size := ⟨_, rfl⟩
      have mk4 := mk w4
      rw [← hw5, ← hmb] at mk4
      have HS5 := Lib.hid (show SeenM w5 mb [] by rw [hw5, hmb]; exact seen_new w4)
      have HB5 := Lib.hid (show Below w4.heap.size w4 w5 by rw [hw5]; exact (Below.refl _ _).alloc (Nat.le_refl _) _)
      have HMB := Lib.hid hmb
      clear hw5 hmb mk
      have bds := bd_seen
      go_wp2_with fail
      obtain ⟨Y, hY⟩ : ∃ Y, Y = Value.bool bi := ⟨_, rfl⟩
      rw [← hY]
      have hnot : ∀ (b : Bool), bi = b → ∀ w, (Op.unary .not Y).run Try.prog w = .ok (.bool (!b)) w := fun b e w => by rw [hY, e]; simp [go_sem]
      have HNOT := Lib.hid hnot
      clear hY hnot
      go_loopw [12] (fun i wr => ∃ (h : Nat) (S : List Int), h ≤ 256 ∧ i = .int .i64 (h : Int) ∧ Below w4.heap.size w4 wr ∧ SeenM wr mb S ∧ (∀ y, y ∈ S ↔ wz.1 = 3 ∧ y ∈ wz.2.take h)) (fun i _ => 256 - (intOf i).toNat)
      case atStart => exact ⟨0, [], Nat.zero_le _, rfl, HB5.out, HS5.out, fun y => by simp⟩
      case round =>
        obtain ⟨h, S, hh, rfl, hbr, hsm, hS⟩ := hrel
        have HSM := Lib.hid hsm
        have HBR := Lib.hid hbr
        have HSS := Lib.hid hS
        clear hsm hbr hS
        by_cases hlt : h < 256
        · have hd0 : decide ((h : Int) < 256) = true := decide_eq_true (by omega)
          have i0 : (0 : Int) ≤ h := by omega
          have i1 : (h : Int) < 256 := by omega
          obtain ⟨x, hx⟩ : ∃ x, x = wz.2.getD h 0 := ⟨_, rfl⟩
          have hxp : 0 ≤ x ∧ x < 8 := by rw [hx]; exact HOK.out.at_port h
          have hxno : wz.1 ≠ 3 → x = 0 := fun h3 => by rw [hx]; exact HOK.out.at_no h3 h
          have HP1 := Lib.hid (fun (wx : World) (hk : KF (dcL l) w0 wx fb T n) => (show Calls Try.prog 19 #[.pointer (some ⟨fb, 0, none⟩), .int .u32 (a : Int), .int .u32 (h : Int)] wx fun e w' => e = .returned (.tuple #[.int .i64 wz.1, .int .i64 x]) ∧ Below wx.heap.size wx w' by
            have := HPK.out h wx hk
            rw [Nat.mod_eq_of_lt hlt, ← hx] at this
            exact this))
          have HP2 := Lib.hid (fun (wx : World) (hk : KF (dcL l) w0 wx fb T n) => (show Calls Try.prog 19 #[.pointer (some ⟨fb, 0, none⟩), .int .u32 (a : Int), .int .u32 ((h : Int) + 1048576)] wx fun e w' => e = .returned (.tuple #[.int .i64 wz.1, .int .i64 x]) ∧ Below wx.heap.size wx w' by
            have := HPK.out (h + 1048576) wx hk
            rw [show (h + 1048576) % 256 = h by omega, ← hx] at this
            exact this))
          have HXX := Lib.hid hx
          have HXP := Lib.hid hxp
          have HXN := Lib.hid hxno
          clear hx hxp hxno
          go_wp2_with fail
          refine (HP1.out wr (HK4.out.later HBR.out)).mono ?_
          rintro e w6 ⟨rfl, hb6⟩
          have HB6 := Lib.hid (HBR.out.trans (hb6.mono HBR.out.size))
          have HS6 := Lib.hid (HSM.out.below hb6)
          clear hb6
          go_wp2_with fail
          refine (HP2.out w6 (HK4.out.later HB6.out)).mono ?_
          rintro e w7 ⟨rfl, hb7⟩
          have HB7 := Lib.hid (HB6.out.trans (hb7.mono HB6.out.size))
          have HS7 := Lib.hid (HS6.out.below hb7)
          clear hb7
          have lk := ld_kd (HV4.out.below HB7.out HV4.out.lt)
          by_cases hk : wz.1 = 3
          · have hbt : bi = true := by
              cases hb : bi with
              | true => rfl
              | false => have := HB0'.out hb; rw [hk] at this; cases this
            obtain ⟨w8, S8, hmu, hs8, hmem, hu8⟩ := HS7.out.add HXP.out
            have HN8 := Lib.hid (show ∀ y, y ∈ S8 ↔ wz.1 = 3 ∧ y ∈ wz.2.take (h + 1) from fun y => by
              rw [hmem, HSS.out, take_mem_succ (by rw [HOK.out.len]; exact hlt), ← HXX.out]
              exact ⟨fun h => h.elim (fun e => ⟨hk, .inl e⟩) fun h => ⟨h.1, .inr h.2⟩, fun h => h.2.elim .inl fun e => .inr ⟨hk, e⟩⟩)
            have HS8 := Lib.hid hs8
            have HB8 := Lib.hid (HB7.out.trans (hu8.below (fun k (e : k = mb) => by rw [e, HMB.out]; exact Nat.le_refl _) HB7.out.size))
            rw [hk] at lk
            have HK := Lib.hid hk
            clear hk hmem hs8 hu8
            have hnt := HNOT.out true hbt
            rw [HK.out]
            clear hbt
            have hc1 : ((x : Int) != x) = false := by simp
            go_wp2_with fail
            go_roundw
            case rel => exact ⟨h + 1, S8, by omega, by go_num, HB8.out, HS8.out, HN8.out⟩
            case measure => simp [intOf]; omega
          · obtain rfl := HXN.out hk
            have hk1 : (wz.1 != 3) = true := by simpa using hk
            have hk2 : (wz.1 == 3) = false := by simpa using hk
            have HN8 := Lib.hid (show ∀ y, y ∈ S ↔ wz.1 = 3 ∧ y ∈ wz.2.take (h + 1) from fun y => by
              rw [HSS.out]
              exact ⟨fun h => absurd h.1 hk, fun h => absurd h.1 hk⟩)
            rcases (by cases bi; exact .inr rfl; exact .inl rfl : bi = true ∨ bi = false) with hb | hb
            · have hnt := HNOT.out true hb
              clear hk hb
              go_wp2_with fail
              go_roundw
              case rel => exact ⟨h + 1, S, by omega, by go_num, HB7.out, HS7.out, HN8.out⟩
              case measure => simp [intOf]; omega
            · have hk0 := HB0'.out hb
              have hnt := HNOT.out false hb
              rw [hk0] at lk
              rw [hk0]
              clear hk hk1 hk2 hk0 hb
              go_wp2_with fail
              go_roundw
              case rel => exact ⟨h + 1, S, by omega, by go_num, HB7.out, HS7.out, HN8.out⟩
              case measure => simp [intOf]; omega
        · obtain rfl : h = 256 := by omega
          have hSS := HSS.out
          rw [List.take_of_length_le (by rw [HOK.out.len]; exact Nat.le_refl _)] at hSS
          have HSZ := Lib.hid (show S.length = m by
            obtain ⟨F, _, h2, _⟩ := HSM.out
            rw [HM.out, HP.out]
            exact seen_ports h2 hSS)
          have HS2 := Lib.hid hSS
          have hlen := fun (w : World) (h : SeenM w mb S) (ty : TypeId) => h.size ty
          have HLEN := Lib.hid hlen
          clear hlen hSS
          go_wp2_with fail
          have hml : m ≤ 8 := by
            obtain ⟨F, _, h2, h3, _⟩ := HSM.out
            have := HSM.out.len
            have := HSZ.out
            omega
          have HRW := Lib.hid (Reads.of_own (I := fun _ => True) (own_laterI HO4.out HBR.out) fun _ _ => trivial)
          go_loop [17] (fun i => ∃ j : Nat, j ≤ m ∧ i = .int .i64 (j : Int)) (fun i => m - (intOf i).toNat)
          case atStart => exact ⟨0, Nat.zero_le _, rfl⟩
          case round =>
            obtain ⟨j, hj, rfl⟩ := hrel
            by_cases hlt2 : j < m
            · have hd1 : decide ((j : Int) < (m : Int)) = true := decide_eq_true (by omega)
              have hd2 : decide (j < m) = true := decide_eq_true hlt2
              have i0 : (0 : Int) ≤ j := by omega
              have i1 : (j : Int) < m := by omega
              obtain ⟨x, hx⟩ : ∃ x, P[j]? = some x := ⟨_, List.getElem?_eq_getElem (by rw [← HM.out]; exact hlt2)⟩
              obtain ⟨ad, rfl, _, _, hc⟩ := HRW.out.2 (by omega)
              have hcell : wr.cell? (ad.add j) = some (.int .i64 x) := hc j _ (by unfold inV; rw [List.getElem?_map, hx]; rfl)
              have hxP : x ∈ P := List.mem_of_getElem? hx
              rw [HP.out, ports_mem] at hxP
              have hld := ld_intA hcell
              have hfd := fd_seen
              have hlk := HSM.out.look (x := x) (HOK.out.port x hxP.2)
              rw [decide_eq_true ((HS2.out x).2 hxP)] at hlk
              clear hcell hc hx hxP
              go_wp2_with fail
              go_round
              case rel => exact ⟨j + 1, by omega, by go_num⟩
              case measure => simp [intOf]; omega
            · obtain rfl : j = m := by omega
              have hd1 : decide ((j : Int) < (j : Int)) = false := decide_eq_false (by omega)
              have hd2 : decide (j < j) = false := decide_eq_false (by omega)
              have hln := HLEN.out wr HSM.out
              rw [HSZ.out] at hln
              clear hlt2
              go_wp2_with fail
              go_ret
              exact ⟨by simp, HB4.out.trans (HBR.out.mono HB4.out.size)⟩
end Go.Proofs.Ythlommalbkhcjaa
