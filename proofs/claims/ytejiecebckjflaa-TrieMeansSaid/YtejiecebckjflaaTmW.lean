/- The walk of TrieMeans. -/
import Derived.Test.YtejiecebckjflaaTmM
import Derived.Test.YtejiecebckjflaaTqF
import Derived.Test.YtejiecebckjflaaTgW
import Derived.StillTailTactics
namespace Go.Proofs.Ytejiecebckjflaa
open Go.RowKit Go.Sort Go.BigFrame

/-- A trie of the call's own, apart from the blocks of R. -/
def KR (w wx : World) (tb : Nat) (lim : Int) (T : TT) (R : Nat → Prop) : Prop := ∃ M, IsTr wx M tb lim T ∧ (∀ k, M k → w.heap.size ≤ k ∧ ¬ R k) ∧ (∀ k, R k → k < wx.heap.size) ∧ Below w.heap.size w wx
section
variable {w wx wy : World} {tb : Nat} {lim : Int} {T : TT} {R : Nat → Prop}
theorem KR.kg (h : KR w wx tb lim T R) : KG w wx tb lim T := h.elim fun M h => ⟨M, h.1, fun k hk => (h.2.1 k hk).1, h.2.2.2⟩
theorem KR.below (h : KR w wx tb lim T R) : Below w.heap.size w wx := h.kg.below
theorem KR.wf (h : KR w wx tb lim T R) : T.wf [] := h.kg.wf
theorem KR.later (h : KR w wx tb lim T R) (hb : Below wx.heap.size wx wy) : KR w wy tb lim T R := by
  obtain ⟨M, h1, h2, h3, h4⟩ := h
  exact ⟨M, h1.keep ⟨hb.size, fun k hm _ => hb.block k (h1.lt k hm)⟩, h2, fun k hk => Nat.lt_of_lt_of_le (h3 k hk) hb.size, h4.trans (hb.mono h4.size)⟩
theorem KR.other (h : KR w wx tb lim T R) (hu : Upd R wx wy) (hR : ∀ k, R k → w.heap.size ≤ k) : KR w wy tb lim T R := by
  obtain ⟨M, h1, h2, h3, h4⟩ := h
  exact ⟨M, h1.keep (hu.same fun k hr hm => (h2 k hm).2 hr), h2, fun k hk => Nat.lt_of_lt_of_le (h3 k hk) hu.size, h4.trans (hu.below hR h4.size)⟩
theorem KR.yes {M : Nat → Prop} {T2 : TT} (h2 : ∀ k, M k → w.heap.size ≤ k ∧ ¬ R k) (h3 : ∀ k, R k → k < wx.heap.size) (h4 : Below w.heap.size w wx) (h : InsYes wx M tb lim T2 wy) : KR w wy tb lim T2 R ∧ Same R wx wy := by
  obtain ⟨M3, ht, hu, hm⟩ := h
  refine ⟨⟨M3, ht, fun k hk => ?_, fun k hk => Nat.lt_of_lt_of_le (h3 k hk) hu.size, h4.trans (hu.below (fun k hk => (h2 k hk).1) h4.size)⟩, hu.same fun k hk hr => (h2 k hk).2 hr⟩
  rcases hm k hk with hk | hk
  · exact h2 k hk
  · exact ⟨Nat.le_trans h4.size hk, fun hr => absurd (h3 k hr) (Nat.not_lt.mpr hk)⟩
theorem kr_ins (h : KR w wx tb lim T R) (x : Px) (v : Int) (ha : x.a < 2 ^ 32) (hsm : T.list.length ≤ 1000000) :
    Calls Try.prog 14 #[.pointer (some ⟨tb, 0, none⟩), pxV x.a x.n, .int .i64 v] wx fun e w' => e = .returned (.int .i64 (insP lim x v T).1) ∧ KR w w' tb lim (insP lim x v T).2 R ∧ Same R wx w' := by
  obtain ⟨M, h1, h2, h3, h4⟩ := h
  exact (ins_any x v tb M lim T wx h1 ha hsm).mono fun e w' ⟨he, hy⟩ => ⟨he, KR.yes h2 h3 h4 hy⟩
theorem kr_del (h : KR w wx tb lim T R) (x : Px) (ha : x.a < 2 ^ 32) (hsm : T.list.length ≤ 1000000) :
    Calls Try.prog 13 #[.pointer (some ⟨tb, 0, none⟩), pxV x.a x.n] wx fun e w' => e = .returned (.int .i64 (delP x T).1) ∧ KR w w' tb lim (delP x T).2 R ∧ Same R wx w' := by
  obtain ⟨M, h1, h2, h3, h4⟩ := h
  exact (del_any x tb M lim T wx h1 ha hsm).mono fun e w' ⟨he, hy⟩ => ⟨he, KR.yes h2 h3 h4 hy⟩
end
theorem drew_below (w : World) : Below w.heap.size w w.drew := ⟨rfl, rfl, rfl, Nat.le_refl _, fun _ _ => rfl⟩
theorem MO.same {w w' : World} {b k : Nat} {T : TT} (h : MO w b T k) (hs : Same (fun i => i = b) w w') : MO w' b T k := h.block (hs.2 b rfl h.lt)

set_option maxRecDepth 100000 in
set_option maxHeartbeats 16000000 in
theorem means_any (A : Option Addr) (n c : Nat) (l : List AcT) (b : Nat) (w : World) (r : Reads w (fun k => k < w.heap.size) 4 A n (l.flatMap AcT.cells)) (hl : l.length = n) (hg : ∀ x ∈ l, x.p.ok ∧ (Lit.int .i64 x.v).wf = true) (hb : b < 2 ^ 32) :
    Calls Try.prog 3 #[.slice A n c, .int .u32 (b : Int)] w fun e w' => e = .returned (.bool true) ∧ Below w.heap.size w w' := by
  have R := Lib.hid r
  have HG := Lib.hid hg
  have HL := Lib.hid hl
  have HBB := Lib.hid hb
  clear r hg hl hb
  by_cases hbig : 100 < n
  · go_enter Try.func3, Try.ntmps3
    go_wp2_with fail
    refine (known_any _).mono ?_
    rintro e w2 ⟨rfl, hb2⟩
    go_wp2_with fail
    go_ret
    exact ⟨rfl, hb2⟩
  go_enter Try.func3, Try.ntmps3
  go_wp2_with fail
  refine (known_any _).mono ?_
  rintro e w1 ⟨rfl, hb1⟩
  have HB1 := Lib.hid hb1
  clear hb1
  go_wp2_with fail
  refine (new_any 200 _).mono ?_
  rintro e w2 ⟨rfl, rfl⟩
  have hmm := @run_makeMap Try.prog
  go_wp2_with fail
  obtain ⟨W0, hW0⟩ : ∃ W0, W0 = (w1.alloc (.cells #[.pointer none, .int .i64 (max 0 200), .int .i64 0, .bool true] 71)).alloc (.map #[] 0) := ⟨_, rfl⟩
  rw [← hW0]
  obtain ⟨tb, htb⟩ : ∃ tb, tb = w1.heap.size := ⟨_, rfl⟩
  obtain ⟨mb, hmb⟩ : ∃ mb, mb = w1.heap.size + 1 := ⟨_, rfl⟩
  have hsz1 := HB1.out.size
  have hmo : MO W0 mb .nil 0 := by
    have := mo_new (w1.alloc (.cells #[.pointer none, .int .i64 (max 0 200), .int .i64 0, .bool true] 71))
    rw [hW0, hmb]
    simpa using this
  have hkr : KR w W0 tb 200 .nil (fun k => k = mb) := by
    have h1 : Below w1.heap.size w1 W0 := by rw [hW0]; exact ((Below.refl _ _).alloc (Nat.le_refl _) _).alloc (by simp) _
    have h2 : Blk W0 tb 71 #[.pointer none, .int .i64 200, .int .i64 0, .bool true] := by
      rw [hW0, htb]
      exact (Blk.new w1 _ _).alloc _
    refine ⟨fun k => k = tb, ⟨⟨.pointer none, h2, rfl⟩, rfl, trivial, fun k hk => by rw [hk]; exact h2.lt⟩, fun k hk => ⟨by omega, by omega⟩, fun k hk => by rw [hk]; exact hmo.lt, HB1.out.trans (h1.mono HB1.out.size)⟩
  have hmw : w.heap.size ≤ mb := by omega
  rw [← hmb, ← htb]
  have HKR := Lib.hid hkr
  have HMO := Lib.hid hmo
  clear hmm hW0 htb hmb hkr hmo hsz1
  go_loopw [7] (fun i wr => ∃ (k : Nat) (T : TT), i = .int .i64 (k : Int) ∧ k ≤ n ∧ KR w wr tb 200 T (fun k => k = mb) ∧ MO wr mb T k ∧ T.list.length ≤ k) (fun i _ => n - (intOf i).toNat)
  case atStart => exact ⟨0, .nil, rfl, Nat.zero_le _, HKR.out, HMO.out, Nat.le_refl _⟩
  case round =>
    clear HKR HMO
    obtain ⟨k, T, rfl, hk, hK, hM, hT⟩ := hrel
    have KK := Lib.hid hK
    have MM := Lib.hid hM
    have TT0 := Lib.hid hT
    clear hK hM hT
    by_cases hlt : k < n
    · obtain ⟨x, hak⟩ : ∃ x, l[k]? = some x := ⟨l[k]'(by rw [HL.out]; exact hlt), List.getElem?_eq_getElem _⟩
      obtain ⟨ad, rfl, _, hadl, hc⟩ := R.out.2 (by omega)
      obtain ⟨e0, e1, e2, e3⟩ := acs_get l k _ hak
      have hcells : ∀ {wx : World}, Below w.heap.size w wx → wx.cell? (ad.add (k * 4)) = some (.bool x.del) ∧ wx.cell? ⟨(ad.add (k * 4)).block, (ad.add (k * 4)).off + 1, none⟩ = some (.int .u32 (x.p.a : Int)) ∧ wx.cell? ⟨(ad.add (k * 4)).block, (ad.add (k * 4)).off + 1 + 1, none⟩ = some (.int .i64 x.p.n) ∧ wx.cell? ⟨(ad.add (k * 4)).block, (ad.add (k * 4)).off + 3, none⟩ = some (.int .i64 x.v) := fun {wx} hbl => by
        refine ⟨(hbl.cell (by rw [block_of_add]; exact hadl)).trans (hc _ _ e0), ?_, ?_, ?_⟩
        · rw [← add_after ad (k * 4) 1 (by omega)]
          exact (hbl.cell (by rw [block_of_add]; exact hadl)).trans (hc _ _ e1)
        · have := (hbl.cell (p := ad.add (k * 4 + 2)) (by rw [block_of_add]; exact hadl)).trans (hc _ _ e2)
          rw [add_after ad (k * 4) 2 (by omega)] at this
          exact this
        · rw [← add_after ad (k * 4) 3 (by omega)]
          exact (hbl.cell (by rw [block_of_add]; exact hadl)).trans (hc _ _ e3)
      have HC := Lib.hid (fun (wx : World) (h : Below w.heap.size w wx) => hcells h)
      have HX := Lib.hid (HG.out x (List.mem_of_getElem? hak))
      have hi0 : (0 : Int) ≤ k := by omega
      have hi1 : (k : Int) < n := by omega
      obtain ⟨hcc0, hcc1, hcc2, hcc3⟩ := HC.out _ KK.out.below
      have HMP := Lib.hid (mayp_any x.p wr HX.out.1.1)
      clear hak e0 e1 e2 e3 hc hadl hcells
      cases hmay : x.p.may with
      | false =>
        rw [hmay] at HMP
        clear hmay
        go_wp2_with fail
        refine HMP.out.mono ?_
        rintro e w2 ⟨rfl, hb2⟩
        have K2 := Lib.hid (KK.out.later hb2)
        have M2 := Lib.hid (MM.out.below hb2)
        clear hb2 hcc0 hcc1 hcc2 hcc3
        go_wp2_with fail
        go_roundw
        case rel => exact ⟨k + 1, T, by simp, by omega, K2.out, M2.out.mono (by omega), by have := TT0.out; omega⟩
        case measure => simp [intOf]; omega
      | true =>
        rw [hmay] at HMP
        have HMAY := Lib.hid hmay
        clear hmay
        go_wp2_with fail
        refine HMP.out.mono ?_
        rintro e w2 ⟨rfl, hb2⟩
        have K2 := Lib.hid (KK.out.later hb2)
        have M2 := Lib.hid (MM.out.below hb2)
        clear hb2 hcc0 hcc1 hcc2 hcc3
        obtain ⟨hcc0, hcc1, hcc2, hcc3⟩ := HC.out _ K2.out.below
        cases hdel : x.del with
        | true =>
          rw [hdel] at hcc0
          have hlk := M2.out.look HX.out.1
          have hgp : getP x.p T = T.get (pB x.p) := by unfold getP; rw [if_pos HMAY.out]
          have hci := kr_del K2.out x.p HX.out.1.1 (by have := TT0.out; omega)
          have hlen := delP_len (x := x.p) K2.out.wf
          have HLEN := Lib.hid hlen
          clear hdel hlen
          cases hs : (getP x.p T).isSome with
          | true =>
            have hcode : (delP x.p T).1 = 0 := by unfold delP; rw [if_pos HMAY.out, if_pos (by rw [← hgp]; exact hs)]
            rw [hcode] at hci
            rw [hs] at hlk
            have CI := Lib.hid hci
            clear hci hcode hgp hs
            go_wp2_with fail
            refine CI.out.mono ?_
            rintro e w3 ⟨rfl, h3, hs3⟩
            have K3 := Lib.hid h3
            have M3 := Lib.hid (M2.out.same hs3)
            clear h3 hs3 CI hlk hcc0 hcc1 hcc2 hcc3
            obtain ⟨_, hcc1, hcc2, _⟩ := HC.out _ K3.out.below
            obtain ⟨w4, hrun, hM4, hu4⟩ := M3.out.drop K2.out.wf HX.out.1 HMAY.out 0
            have M4 := Lib.hid hM4
            have K4 := Lib.hid (K3.out.other hu4 (fun i (hi : i = mb) => by omega))
            clear hM4 hu4
            go_wp2_with fail
            refine (num_any _ _).mono ?_
            rintro e w' ⟨rfl, rfl⟩
            go_wp2_with fail
            go_roundw
            case rel => exact ⟨k + 1, _, by simp, by omega, K4.out, M4.out.mono (by omega), by have := TT0.out; have := HLEN.out; omega⟩
            case measure => simp [intOf]; omega
          | false =>
            have hcode : (delP x.p T).1 = 6 := by unfold delP; rw [if_pos HMAY.out, if_neg (by rw [← hgp, hs]; decide)]
            rw [hcode] at hci
            rw [hs] at hlk
            have CI := Lib.hid hci
            clear hci hcode hgp hs
            go_wp2_with fail
            refine CI.out.mono ?_
            rintro e w3 ⟨rfl, h3, hs3⟩
            have K3 := Lib.hid h3
            have M3 := Lib.hid (M2.out.same hs3)
            clear h3 hs3 CI hlk hcc0 hcc1 hcc2 hcc3
            obtain ⟨_, hcc1, hcc2, _⟩ := HC.out _ K3.out.below
            obtain ⟨w4, hrun, hM4, hu4⟩ := M3.out.drop K2.out.wf HX.out.1 HMAY.out 0
            have M4 := Lib.hid hM4
            have K4 := Lib.hid (K3.out.other hu4 (fun i (hi : i = mb) => by omega))
            clear hM4 hu4
            go_wp2_with fail
            refine (num_any _ _).mono ?_
            rintro e w' ⟨rfl, rfl⟩
            go_wp2_with fail
            go_roundw
            case rel => exact ⟨k + 1, _, by simp, by omega, K4.out, M4.out.mono (by omega), by have := TT0.out; have := HLEN.out; omega⟩
            case measure => simp [intOf]; omega
        | false =>
          rw [hdel] at hcc0
          have hins : insP 200 x.p x.v T = (0, T.ins (pB x.p) x.v) := by unfold insP; rw [if_pos HMAY.out, if_pos (.inr (by have := TT0.out; omega))]
          have hci := kr_ins (K2.out.later (drew_below w2)) x.p x.v HX.out.1.1 (by have := TT0.out; omega)
          rw [hins] at hci
          have hlen := insP_len (lim := 200) (x := x.p) (v := x.v) K2.out.wf HX.out.1.1
          rw [hins] at hlen
          have CI := Lib.hid hci
          have HLEN := Lib.hid hlen
          clear hdel hci hins hlen
          go_wp2_with fail
          go_still_tail 11, (by kernel_rfl)
          go_wp2_with fail
          refine CI.out.mono ?_
          rintro e w3 ⟨rfl, h3, hs3⟩
          have K3 := Lib.hid h3
          have M3 := Lib.hid (((M2.out.below (drew_below w2)).same hs3).below (drew_below w3))
          clear h3 hs3 CI hcc0 hcc1 hcc2 hcc3
          obtain ⟨_, hcc1, hcc2, hcc3⟩ := HC.out _ K3.out.below
          obtain ⟨w4, hrun, hM4, hu4⟩ := M3.out.store K2.out.wf (by omega) HX.out.1 HMAY.out HX.out.2
          have M4 := Lib.hid hM4
          have K4 := Lib.hid ((K3.out.later (drew_below w3)).other hu4 (fun i (hi : i = mb) => by omega))
          clear hM4 hu4
          go_wp2_with fail
          refine (num_any _ _).mono ?_
          rintro e w' ⟨rfl, rfl⟩
          go_wp2_with fail
          go_still_tail 11, (by kernel_rfl)
          go_wp2_with fail
          go_roundw
          case rel => exact ⟨k + 1, _, by simp, by omega, K4.out, M4.out, Nat.le_trans HLEN.out (by have := TT0.out; omega)⟩
          case measure => simp [intOf]; omega
    · obtain rfl : k = n := by omega
      have hca := HBB.out
      obtain ⟨M0, hT0, hM0, hR0, hB0⟩ := KK.out
      have hcm := match_any b tb M0 200 T wr hT0 hca (by have := TT0.out; omega)
      have HCM := Lib.hid hcm
      clear hcm hca hT0 hM0 hR0 hB0
      go_wp2_with fail
      refine HCM.out.mono ?_
      rintro e w5 ⟨rfl, hb5⟩
      have K5 := Lib.hid (KK.out.later hb5)
      have M5 := Lib.hid (MM.out.below hb5)
      clear hb5 HCM
      by_cases hce : T.cov (bitsB b 32) = []
      · have hl0 : lastE (T.cov (bitsB b 32)) = ([], 0) := by rw [hce]; rfl
        have hie : (T.cov (bitsB b 32)).isEmpty = true := by rw [hce]; rfl
        have HCE := Lib.hid hce
        rw [hl0, hie]
        clear hl0 hie hce
        have hb6 : Below w5.heap.size w5 (w5.alloc (.cells #[.int .u32 0, .int .i64 0] 31)) := (Below.refl _ _).alloc (Nat.le_refl _) _
        have K6 := Lib.hid (K5.out.later hb6)
        have M6 := Lib.hid (M5.out.below hb6)
        have HP6 := Lib.hid (Blk.new w5 31 #[.int .u32 0, .int .i64 0])
        have hlk : (Instr.lookup 28 (.map (some mb)) (.agg #[.int .u32 0, .int .i64 0]) true).run Try.prog (w5.alloc (.cells #[.int .u32 0, .int .i64 0] 31)) = _ := M6.out.look (x := ⟨0, 0⟩) ⟨by decide, by decide⟩
        obtain ⟨gg, hgg⟩ : ∃ gg, gg = getP ⟨0, 0⟩ T := ⟨_, rfl⟩
        rw [← hgg] at hlk
        have hpd : padB [] = 0 := by simp [padB, valB]
        rw [hpd]
        clear hb6 hpd hgg
        go_wp2_with fail
        obtain ⟨w6, hw6⟩ : ∃ w6, w6 = w5.alloc (.cells #[.int .u32 0, .int .i64 0] 31) := ⟨_, rfl⟩
        rw [← hw6] at K6 M6 HP6 ⊢
        clear hlk hw6
        go_loopw [15] (fun i wz => ∃ (j : Nat), i = .int .i64 (j : Int) ∧ j ≤ k ∧ Below w6.heap.size w6 wz) (fun i _ => k - (intOf i).toNat)
        case atStart => exact ⟨0, rfl, Nat.zero_le _, Below.refl _ _⟩
        case round =>
          obtain ⟨j, rfl, hj, hbz⟩ := hrel
          obtain ⟨wz, rfl⟩ : ∃ wz : World, wz = wr := ⟨_, rfl⟩
          have KZ := Lib.hid (K6.out.later hbz)
          have MZ := Lib.hid (M6.out.below hbz)
          have HPZ := Lib.hid (HP6.out.below hbz HP6.out.lt)
          have HBZ := Lib.hid hbz
          clear hbz
          by_cases hltj : j < k
          · obtain ⟨x, hak⟩ : ∃ x, l[j]? = some x := ⟨l[j]'(by rw [HL.out]; exact hltj), List.getElem?_eq_getElem _⟩
            obtain ⟨ad, rfl, _, hadl, hc⟩ := R.out.2 (by omega)
            obtain ⟨e0, e1, e2, e3⟩ := acs_get l j _ hak
            have hcells : ∀ {wx : World}, Below w.heap.size w wx → wx.cell? ⟨(ad.add (j * 4)).block, (ad.add (j * 4)).off + 1, none⟩ = some (.int .u32 (x.p.a : Int)) ∧ wx.cell? ⟨(ad.add (j * 4)).block, (ad.add (j * 4)).off + 1 + 1, none⟩ = some (.int .i64 x.p.n) := fun {wx} hbl => by
              refine ⟨?_, ?_⟩
              · rw [← add_after ad (j * 4) 1 (by omega)]
                exact (hbl.cell (by rw [block_of_add]; exact hadl)).trans (hc _ _ e1)
              · have := (hbl.cell (p := ad.add (j * 4 + 2)) (by rw [block_of_add]; exact hadl)).trans (hc _ _ e2)
                rw [add_after ad (j * 4) 2 (by omega)] at this
                exact this
            have HC := Lib.hid (fun (wx : World) (h : Below w.heap.size w wx) => hcells h)
            have HX := Lib.hid (HG.out x (List.mem_of_getElem? hak))
            have hi0 : (0 : Int) ≤ j := by omega
            have hi1 : (j : Int) < k := by omega
            obtain ⟨hcc1, hcc2⟩ := HC.out _ KZ.out.below
            obtain ⟨Mz, hTz, _, _, _⟩ := KZ.out
            have CI := Lib.hid (get_any x.p tb Mz 200 T wz hTz HX.out.1.1)
            clear hak e0 e1 e2 e3 hc hadl hcells hTz
            go_wp2_with fail
            refine CI.out.mono ?_
            rintro e w7 ⟨rfl, hb7⟩
            have K7 := Lib.hid (KZ.out.later hb7)
            have M7 := Lib.hid (MZ.out.below hb7)
            have HB7 := Lib.hid hb7
            have p7 : w7.cell? ⟨w5.heap.size, 1, none⟩ = some (.int .i64 0) := (HPZ.out.below hb7 HPZ.out.lt).cell 1
            clear hb7 hcc1 hcc2 CI
            obtain ⟨hcd1, hcd2⟩ := HC.out _ K7.out.below
            have hlk := M7.out.look HX.out.1
            cases hgx : getP x.p T with
            | none =>
              rw [hgx] at hlk
              simp only [Option.getD_none, Option.isSome_none] at hlk ⊢
              clear hgx
              go_wp2_with fail
              have k1 := cell_regrown hcd1
              have k2 := cell_regrown hcd2
              have k3 := cell_regrown p7
              refine wp_region_quiet_below (by kernel_rfl) (by kernel_rfl) ?_
              repeat (go_big_quiet_step (fail))
              refine wpQuiet_nil ?_
              intro _ hw'
              obtain ⟨⟨dq, osq⟩, hw''⟩ := hw'
              subst hw''
              have hbq := below_regrown w7 dq osq
              generalize grow (redrawn w7 dq) osq = wq at hbq
              clear k1 k2 k3 hcd1 hcd2 p7 hlk
              have B8 := HB7.out.trans (hbq.mono HB7.out.size)
              go_wp2_with fail
              go_roundw
              case rel => exact ⟨j + 1, by simp, by omega, HBZ.out.trans (B8.mono HBZ.out.size)⟩
              case measure => simp [intOf]; omega
            | some v =>
              rw [hgx] at hlk
              simp only [Option.getD_some, Option.isSome_some] at hlk ⊢
              have hhas := fun wx => has_any x.p b wx HX.out.1.1 HBB.out
              cases hh : hasP x.p b with
              | false =>
                rw [hh] at hhas
                have HH := Lib.hid hhas
                clear hgx hh hhas
                go_wp2_with fail
                have k1 := cell_regrown hcd1
                have k2 := cell_regrown hcd2
                have k3 := cell_regrown p7
                have hcm := fun (d : Nat) (os : Array Obj) => Calls.regrown_of (HH.out (grow (redrawn w7 d) os))
                refine wp_region_quiet_below (by kernel_rfl) (by kernel_rfl) ?_
                repeat (go_big_quiet_step (exact hcm _ _))
                refine wpQuiet_nil ?_
                intro _ hw'
                obtain ⟨⟨dq, osq⟩, hw''⟩ := hw'
                subst hw''
                have hbq := below_regrown w7 dq osq
                generalize grow (redrawn w7 dq) osq = wq at hbq
                clear k1 k2 k3 hcd1 hcd2 p7 hlk hcm
                have B8 := HB7.out.trans (hbq.mono HB7.out.size)
                go_wp2_with fail
                go_roundw
                case rel => exact ⟨j + 1, by simp, by omega, HBZ.out.trans (B8.mono HBZ.out.size)⟩
                case measure => simp [intOf]; omega
              | true =>
                exact absurd HCE.out (cov_longest KZ.out.wf HX.out.1.1 HBB.out hgx hh).1
          · obtain rfl : j = k := by omega
            obtain ⟨N, hN⟩ : ∃ N, N = T.list.length := ⟨_, rfl⟩
            have hle := (TT.keys_le KZ.out.wf).1
            have hml := fun ty => MZ.out.len ty
            have CL := Lib.hid (kg_len KZ.out.kg N hN.symm)
            obtain ⟨Mz, hTz, _, _, _⟩ := KZ.out
            have CN := Lib.hid (nodes_any tb Mz 200 T wz hTz (by have := TT0.out; omega))
            have hmw : ∀ {wx : World}, Below wz.heap.size wz wx → ∀ ty, (Builtin.len_ #[28] ty #[.map (some mb)]).run Try.prog wx = .ok (.int .i64 (N : Int)) wx := fun {wx} hb ty => by rw [hN]; exact (MZ.out.below hb).len ty
            have HMW := Lib.hid (fun (wx : World) (h : Below wz.heap.size wz wx) => hmw h)
            rw [← hN] at hml hle
            have hN0 : N ≤ 1000 := by have := TT0.out; omega
            have hK0 : T.keys.length ≤ 2000 := by omega
            obtain ⟨kn, hkn⟩ : ∃ kn, kn = T.keys.length := ⟨_, rfl⟩
            rw [← hkn] at CN hle hK0
            clear hN hkn hmw hTz
            go_wp2_with fail
            refine CL.out.mono ?_
            rintro e w7 ⟨rfl, rfl⟩
            go_wp2_with fail
            refine CN.out.mono ?_
            rintro e w8 ⟨rfl, hb8⟩
            have hml8 := HMW.out w8 hb8
            have hB9 := HBZ.out.trans (hb8.mono HBZ.out.size)
            have hB10 := K6.out.below.trans (hB9.mono K6.out.below.size)
            clear hml hb8 hB9
            by_cases hz : N = 0
            · subst hz
              obtain rfl : kn = 0 := by omega
              clear hle hN0 hK0
              go_wp2_with fail
              go_ret
              exact ⟨rfl, hB10⟩
            · have g1 : (0 : Int) ≤ (N : Int) := by omega
              have g2 : (N : Int) ≤ 1000 := by omega
              have g3 : (0 : Int) < 2 * (N : Int) - 1 := by omega
              have g4 : (0 : Int) ≤ 2 * (N : Int) - 1 := by omega
              have g5 : (kn : Int) ≤ 2 * (N : Int) - 1 := by omega
              clear hle hN0 hK0 hz
              go_wp2_with fail
              go_ret
              exact ⟨ret_boolT (decide_eq_true (Int.le_trans g5 (Int.le_max_right _ _))), hB10⟩
      · have hlm := lastE_mem hce
        have hcv : T.cov (bitsB b 32) = covS (bitsB b 32) T.list := TT.cov_list KK.out.wf
        have hmm := hlm
        rw [hcv] at hmm
        have hmem := covS_mem hmm
        rw [← hcv] at hmem
        have h32 := (TT.keys_pre KK.out.wf _ hmem.1).2
        have hgp := getP_pxE KK.out.wf hmem.1
        have hok := pxE_ok h32
        have hie : (T.cov (bitsB b 32)).isEmpty = false := by
          cases hh : T.cov (bitsB b 32) with
          | nil => exact absurd hh hce
          | cons a r => rfl
        have hha := fun wx => has_any (pxE (lastE (T.cov (bitsB b 32)))) b wx (pxE_lt h32) HBB.out
        rw [hasP_pxE h32 HBB.out, decide_eq_true hmem.2] at hha
        rw [hie]
        obtain ⟨pa, hpa⟩ : ∃ pa, pa = padB (lastE (T.cov (bitsB b 32))).1 := ⟨_, rfl⟩
        obtain ⟨pn, hpn⟩ : ∃ pn : Int, pn = ((lastE (T.cov (bitsB b 32))).1.length : Int) := ⟨_, rfl⟩
        obtain ⟨pv, hpv⟩ : ∃ pv, pv = (lastE (T.cov (bitsB b 32))).2 := ⟨_, rfl⟩
        have hpx : pxE (lastE (T.cov (bitsB b 32))) = ⟨pa, pn⟩ := by rw [hpa, hpn]; rfl
        rw [hpx] at hgp hok hha
        rw [← hpv] at hgp
        rw [← hpa, ← hpn, ← hpv]
        have HPN := Lib.hid hpn
        have HHA := Lib.hid hha
        have hb6 : Below w5.heap.size w5 (w5.alloc (.cells #[.int .u32 (pa : Int), .int .i64 pn] 31)) := (Below.refl _ _).alloc (Nat.le_refl _) _
        have K6 := Lib.hid (K5.out.later hb6)
        have M6 := Lib.hid (M5.out.below hb6)
        have HP6 := Lib.hid (Blk.new w5 31 #[.int .u32 (pa : Int), .int .i64 pn])
        have hlk := M6.out.look hok
        rw [hgp] at hlk
        simp only [Option.getD_some, Option.isSome_some, pxV] at hlk
        simp only [Bool.not_false]
        clear hb6 hlm hcv hmm hmem h32 hgp hok hie hha hpa hpn hpv hpx hce
        go_wp2_with fail
        obtain ⟨w6, hw6⟩ : ∃ w6, w6 = w5.alloc (.cells #[.int .u32 (pa : Int), .int .i64 pn] 31) := ⟨_, rfl⟩
        rw [← hw6] at K6 M6 HP6 ⊢
        clear hlk hw6
        refine (HHA.out _).mono ?_
        rintro e w6b ⟨rfl, hb6b⟩
        have K6b := Lib.hid (K6.out.later hb6b)
        have M6b := Lib.hid (M6.out.below hb6b)
        have HP6b := Lib.hid (HP6.out.below hb6b HP6.out.lt)
        clear hb6b K6 M6 HP6
        obtain ⟨w6, rfl⟩ : ∃ w6 : World, w6 = w6b := ⟨_, rfl⟩
        have K6 := K6b
        have M6 := M6b
        have HP6 := HP6b
        clear K6b M6b HP6b
        go_wp2_with fail
        go_loopw [15] (fun i wz => ∃ (j : Nat), i = .int .i64 (j : Int) ∧ j ≤ k ∧ Below w6.heap.size w6 wz) (fun i _ => k - (intOf i).toNat)
        case atStart => exact ⟨0, rfl, Nat.zero_le _, Below.refl _ _⟩
        case round =>
          obtain ⟨j, rfl, hj, hbz⟩ := hrel
          obtain ⟨wz, rfl⟩ : ∃ wz : World, wz = wr := ⟨_, rfl⟩
          have KZ := Lib.hid (K6.out.later hbz)
          have MZ := Lib.hid (M6.out.below hbz)
          have HPZ := Lib.hid (HP6.out.below hbz HP6.out.lt)
          have HBZ := Lib.hid hbz
          clear hbz
          by_cases hltj : j < k
          · obtain ⟨x, hak⟩ : ∃ x, l[j]? = some x := ⟨l[j]'(by rw [HL.out]; exact hltj), List.getElem?_eq_getElem _⟩
            obtain ⟨ad, rfl, _, hadl, hc⟩ := R.out.2 (by omega)
            obtain ⟨e0, e1, e2, e3⟩ := acs_get l j _ hak
            have hcells : ∀ {wx : World}, Below w.heap.size w wx → wx.cell? ⟨(ad.add (j * 4)).block, (ad.add (j * 4)).off + 1, none⟩ = some (.int .u32 (x.p.a : Int)) ∧ wx.cell? ⟨(ad.add (j * 4)).block, (ad.add (j * 4)).off + 1 + 1, none⟩ = some (.int .i64 x.p.n) := fun {wx} hbl => by
              refine ⟨?_, ?_⟩
              · rw [← add_after ad (j * 4) 1 (by omega)]
                exact (hbl.cell (by rw [block_of_add]; exact hadl)).trans (hc _ _ e1)
              · have := (hbl.cell (p := ad.add (j * 4 + 2)) (by rw [block_of_add]; exact hadl)).trans (hc _ _ e2)
                rw [add_after ad (j * 4) 2 (by omega)] at this
                exact this
            have HC := Lib.hid (fun (wx : World) (h : Below w.heap.size w wx) => hcells h)
            have HX := Lib.hid (HG.out x (List.mem_of_getElem? hak))
            have hi0 : (0 : Int) ≤ j := by omega
            have hi1 : (j : Int) < k := by omega
            obtain ⟨hcc1, hcc2⟩ := HC.out _ KZ.out.below
            obtain ⟨Mz, hTz, _, _, _⟩ := KZ.out
            have CI := Lib.hid (get_any x.p tb Mz 200 T wz hTz HX.out.1.1)
            clear hak e0 e1 e2 e3 hc hadl hcells hTz
            go_wp2_with fail
            refine CI.out.mono ?_
            rintro e w7 ⟨rfl, hb7⟩
            have K7 := Lib.hid (KZ.out.later hb7)
            have M7 := Lib.hid (MZ.out.below hb7)
            have HB7 := Lib.hid hb7
            have p7 : w7.cell? ⟨w5.heap.size, 1, none⟩ = some (.int .i64 pn) := (HPZ.out.below hb7 HPZ.out.lt).cell 1
            clear hb7 hcc1 hcc2 CI
            obtain ⟨hcd1, hcd2⟩ := HC.out _ K7.out.below
            have hlk := M7.out.look HX.out.1
            cases hgx : getP x.p T with
            | none =>
              rw [hgx] at hlk
              simp only [Option.getD_none, Option.isSome_none] at hlk ⊢
              clear hgx
              go_wp2_with fail
              have k1 := cell_regrown hcd1
              have k2 := cell_regrown hcd2
              have k3 := cell_regrown p7
              refine wp_region_quiet_below (by kernel_rfl) (by kernel_rfl) ?_
              repeat (go_big_quiet_step (fail))
              refine wpQuiet_nil ?_
              intro _ hw'
              obtain ⟨⟨dq, osq⟩, hw''⟩ := hw'
              subst hw''
              have hbq := below_regrown w7 dq osq
              generalize grow (redrawn w7 dq) osq = wq at hbq
              clear k1 k2 k3 hcd1 hcd2 p7 hlk
              have B8 := HB7.out.trans (hbq.mono HB7.out.size)
              go_wp2_with fail
              go_roundw
              case rel => exact ⟨j + 1, by simp, by omega, HBZ.out.trans (B8.mono HBZ.out.size)⟩
              case measure => simp [intOf]; omega
            | some v =>
              rw [hgx] at hlk
              simp only [Option.getD_some, Option.isSome_some] at hlk ⊢
              have hhas := fun wx => has_any x.p b wx HX.out.1.1 HBB.out
              cases hh : hasP x.p b with
              | false =>
                rw [hh] at hhas
                have HH := Lib.hid hhas
                clear hgx hh hhas
                go_wp2_with fail
                have k1 := cell_regrown hcd1
                have k2 := cell_regrown hcd2
                have k3 := cell_regrown p7
                have hcm := fun (d : Nat) (os : Array Obj) => Calls.regrown_of (HH.out (grow (redrawn w7 d) os))
                refine wp_region_quiet_below (by kernel_rfl) (by kernel_rfl) ?_
                repeat (go_big_quiet_step (exact hcm _ _))
                refine wpQuiet_nil ?_
                intro _ hw'
                obtain ⟨⟨dq, osq⟩, hw''⟩ := hw'
                subst hw''
                have hbq := below_regrown w7 dq osq
                generalize grow (redrawn w7 dq) osq = wq at hbq
                clear k1 k2 k3 hcd1 hcd2 p7 hlk hcm
                have B8 := HB7.out.trans (hbq.mono HB7.out.size)
                go_wp2_with fail
                go_roundw
                case rel => exact ⟨j + 1, by simp, by omega, HBZ.out.trans (B8.mono HBZ.out.size)⟩
                case measure => simp [intOf]; omega
              | true =>
                have hpn : x.p.n ≤ pn := by rw [HPN.out]; exact (cov_longest KZ.out.wf HX.out.1.1 HBB.out hgx hh).2
                have hd : decide (pn < x.p.n) = false := decide_eq_false (by omega)
                rw [hh] at hhas
                have HH := Lib.hid hhas
                clear hgx hh hhas
                go_wp2_with fail
                have k1 := cell_regrown hcd1
                have k2 := cell_regrown hcd2
                have k3 := cell_regrown p7
                have hcm := fun (d : Nat) (os : Array Obj) => Calls.regrown_of (HH.out (grow (redrawn w7 d) os))
                refine wp_region_quiet_below (by kernel_rfl) (by kernel_rfl) ?_
                repeat (go_big_quiet_step (exact hcm _ _))
                refine wpQuiet_nil ?_
                intro _ hw'
                obtain ⟨⟨dq, osq⟩, hw''⟩ := hw'
                subst hw''
                have hbq := below_regrown w7 dq osq
                generalize grow (redrawn w7 dq) osq = wq at hbq
                clear k1 k2 k3 hcd1 hcd2 p7 hlk hcm
                have B8 := HB7.out.trans (hbq.mono HB7.out.size)
                go_wp2_with fail
                go_roundw
                case rel => exact ⟨j + 1, by simp, by omega, HBZ.out.trans (B8.mono HBZ.out.size)⟩
                case measure => simp [intOf]; omega
          · obtain rfl : j = k := by omega
            obtain ⟨N, hN⟩ : ∃ N, N = T.list.length := ⟨_, rfl⟩
            have hle := (TT.keys_le KZ.out.wf).1
            have hml := fun ty => MZ.out.len ty
            have CL := Lib.hid (kg_len KZ.out.kg N hN.symm)
            obtain ⟨Mz, hTz, _, _, _⟩ := KZ.out
            have CN := Lib.hid (nodes_any tb Mz 200 T wz hTz (by have := TT0.out; omega))
            have hmw : ∀ {wx : World}, Below wz.heap.size wz wx → ∀ ty, (Builtin.len_ #[28] ty #[.map (some mb)]).run Try.prog wx = .ok (.int .i64 (N : Int)) wx := fun {wx} hb ty => by rw [hN]; exact (MZ.out.below hb).len ty
            have HMW := Lib.hid (fun (wx : World) (h : Below wz.heap.size wz wx) => hmw h)
            rw [← hN] at hml hle
            have hN0 : N ≤ 1000 := by have := TT0.out; omega
            have hK0 : T.keys.length ≤ 2000 := by omega
            obtain ⟨kn, hkn⟩ : ∃ kn, kn = T.keys.length := ⟨_, rfl⟩
            rw [← hkn] at CN hle hK0
            clear hN hkn hmw hTz
            go_wp2_with fail
            refine CL.out.mono ?_
            rintro e w7 ⟨rfl, rfl⟩
            go_wp2_with fail
            refine CN.out.mono ?_
            rintro e w8 ⟨rfl, hb8⟩
            have hml8 := HMW.out w8 hb8
            have hB9 := HBZ.out.trans (hb8.mono HBZ.out.size)
            have hB10 := K6.out.below.trans (hB9.mono K6.out.below.size)
            clear hml hb8 hB9
            by_cases hz : N = 0
            · subst hz
              obtain rfl : kn = 0 := by omega
              clear hle hN0 hK0
              go_wp2_with fail
              go_ret
              exact ⟨rfl, hB10⟩
            · have g1 : (0 : Int) ≤ (N : Int) := by omega
              have g2 : (N : Int) ≤ 1000 := by omega
              have g3 : (0 : Int) < 2 * (N : Int) - 1 := by omega
              have g4 : (0 : Int) ≤ 2 * (N : Int) - 1 := by omega
              have g5 : (kn : Int) ≤ 2 * (N : Int) - 1 := by omega
              clear hle hN0 hK0 hz
              go_wp2_with fail
              go_ret
              exact ⟨ret_boolT (decide_eq_true (Int.le_trans g5 (Int.le_max_right _ _))), hB10⟩
end Go.Proofs.Ytejiecebckjflaa
