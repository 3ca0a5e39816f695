/- The walk of TrieGone. -/
import Derived.Test.YtejiecebckjflaaRowT
import Derived.Test.YtejiecebckjflaaTrL
import Derived.Test.YtejiecebckjflaaTrF
namespace Go.Proofs.Ytejiecebckjflaa
open Go.RowKit

/-- A trie of the call's own. -/
def KG (w wx : World) (tb : Nat) (lim : Int) (T : TT) : Prop := ∃ M, IsTr wx M tb lim T ∧ (∀ k, M k → w.heap.size ≤ k) ∧ Below w.heap.size w wx
theorem KG.below {w wx : World} {tb : Nat} {lim : Int} {T : TT} (h : KG w wx tb lim T) : Below w.heap.size w wx := h.elim fun _ h => h.2.2
theorem KG.wf {w wx : World} {tb : Nat} {lim : Int} {T : TT} (h : KG w wx tb lim T) : T.wf [] := h.elim fun _ h => h.1.wf
theorem KG.later {w wx wy : World} {tb : Nat} {lim : Int} {T : TT} (h : KG w wx tb lim T) (hb : Below wx.heap.size wx wy) : KG w wy tb lim T := by
  obtain ⟨M, h1, h2, h3⟩ := h
  exact ⟨M, h1.keep ⟨hb.size, fun k hm _ => hb.block k (h1.lt k hm)⟩, h2, h3.trans (hb.mono h3.size)⟩
theorem KG.yes {w wx w' : World} {M : Nat → Prop} {tb : Nat} {lim : Int} {T : TT} (h2 : ∀ k, M k → w.heap.size ≤ k) (h3 : Below w.heap.size w wx) (h : InsYes wx M tb lim T w') : KG w w' tb lim T := by
  obtain ⟨M3, ht, hu, hm⟩ := h
  exact ⟨M3, ht, fun k hk => (hm k hk).elim (h2 k) fun h => Nat.le_trans h3.size h, h3.trans (hu.below h2 h3.size)⟩
theorem kg_new (w : World) (lim : Int) : KG w (w.alloc (.cells #[.pointer none, .int .i64 lim, .int .i64 0, .bool true] 71)) w.heap.size lim .nil :=
  ⟨fun k => k = w.heap.size, ⟨⟨.pointer none, Blk.new _ _ _, rfl⟩, rfl, trivial, fun k hk => by rw [hk]; simp⟩, fun k hk => by rw [hk]; exact Nat.le_refl _, (Below.refl _ _).alloc (Nat.le_refl _) _⟩
theorem kg_ins {w wx : World} {tb : Nat} {lim : Int} {T : TT} (h : KG w wx tb lim T) (x : Px) (v : Int) (ha : x.a < 2 ^ 32) (hsm : T.list.length ≤ 1000000) :
    Calls Try.prog 14 #[.pointer (some ⟨tb, 0, none⟩), pxV x.a x.n, .int .i64 v] wx fun e w' => e = .returned (.int .i64 (insP lim x v T).1) ∧ KG w w' tb lim (insP lim x v T).2 := by
  obtain ⟨M, h1, h2, h3⟩ := h
  exact (ins_any x v tb M lim T wx h1 ha hsm).mono fun e w' ⟨he, hy⟩ => ⟨he, KG.yes h2 h3 hy⟩
theorem kg_del {w wx : World} {tb : Nat} {lim : Int} {T : TT} (h : KG w wx tb lim T) (x : Px) (ha : x.a < 2 ^ 32) (hsm : T.list.length ≤ 1000000) :
    Calls Try.prog 13 #[.pointer (some ⟨tb, 0, none⟩), pxV x.a x.n] wx fun e w' => e = .returned (.int .i64 (delP x T).1) ∧ KG w w' tb lim (delP x T).2 := by
  obtain ⟨M, h1, h2, h3⟩ := h
  exact (del_any x tb M lim T wx h1 ha hsm).mono fun e w' ⟨he, hy⟩ => ⟨he, KG.yes h2 h3 hy⟩
theorem kg_get {w wx : World} {tb : Nat} {lim : Int} {T : TT} (h : KG w wx tb lim T) (x : Px) (ha : x.a < 2 ^ 32) :
    Calls Try.prog 17 #[.pointer (some ⟨tb, 0, none⟩), pxV x.a x.n] wx fun e w' => e = .returned (.tuple #[.int .i64 ((getP x T).getD 0), .bool (getP x T).isSome]) ∧ KG w w' tb lim T := by
  have h0 := h
  obtain ⟨M, h1, h2, h3⟩ := h
  exact (get_any x tb M lim T wx h1 ha).mono fun e w' ⟨he, hb⟩ => ⟨he, h0.later hb⟩
theorem kg_none {w wx : World} {tb : Nat} {lim : Int} {T : TT} (h : KG w wx tb lim T) (x : Px) (ha : x.a < 2 ^ 32) (hn : getP x T = none) :
    Calls Try.prog 17 #[.pointer (some ⟨tb, 0, none⟩), pxV x.a x.n] wx fun e w' => e = .returned (.tuple #[.int .i64 0, .bool false]) ∧ KG w w' tb lim T := by
  have := kg_get h x ha
  rw [hn] at this
  exact this
theorem kg_match0 {w wx : World} {tb : Nat} {lim : Int} (h : KG w wx tb lim .nil) (a : Nat) (ha : a < 2 ^ 32) :
    Calls Try.prog 15 #[.pointer (some ⟨tb, 0, none⟩), .int .u32 (a : Int)] wx fun e w' => e = .returned (.tuple #[pxV 0 0, .int .i64 0, .bool false]) ∧ KG w w' tb lim .nil := by
  have h0 := h
  obtain ⟨M, h1, h2, h3⟩ := h
  have h := match_any a tb M lim .nil wx h1 ha (by simp [TT.list])
  unfold MatchPost at h
  rw [show TT.cov (bitsB a 32) .nil = [] from rfl, show lastE [] = ([], 0) from rfl] at h
  refine h.mono fun e w' ⟨he, hb⟩ => ⟨?_, h0.later hb⟩
  rw [he]
  simp [padB, valB]
theorem kg_len {w wx : World} {tb : Nat} {lim : Int} {T : TT} (h : KG w wx tb lim T) (n : Nat) (hn : T.list.length = n) :
    Calls Try.prog 18 #[.pointer (some ⟨tb, 0, none⟩)] wx fun e w' => e = .returned (.int .i64 (n : Int)) ∧ wx = w' := by
  obtain ⟨M, h1, h2, h3⟩ := h
  obtain ⟨pv, hk, _⟩ := h1.ex
  rw [hn] at hk
  exact len_any tb _ _ _ wx hk
theorem kg_nodes {w wx : World} {tb : Nat} {lim : Int} {T : TT} (h : KG w wx tb lim T) (n : Nat) (hn : T.keys.length = n) (hsm : n ≤ 1000000) :
    Calls Try.prog 19 #[.pointer (some ⟨tb, 0, none⟩)] wx fun e w' => e = .returned (.int .i64 (n : Int)) ∧ KG w w' tb lim T := by
  have h0 := h
  obtain ⟨M, h1, h2, h3⟩ := h
  subst hn
  exact (nodes_any tb M lim T wx h1 (by omega)).mono fun e w' ⟨he, hb⟩ => ⟨he, h0.later hb⟩
theorem SeqOf.lt {w : World} {I : Nat → Prop} {f : Value} {L : List (Bs × Int)} (h : SeqOf w I f L) : SeqOf w (fun k => I k ∧ k < w.heap.size) f L := by
  obtain ⟨Bx, A, cap, h1, h2, h3, h4⟩ := h
  exact ⟨Bx, A, cap, h1, h2, ⟨h3, h2.lt⟩, h4.lt⟩
theorem kg_all {w wx : World} {tb : Nat} {lim : Int} {T : TT} (h : KG w wx tb lim T) (hsm : T.list.length ≤ 1000000) :
    Calls Try.prog 21 #[.pointer (some ⟨tb, 0, none⟩)] wx fun e w' => ∃ f, e = .returned f ∧ SeqOf w' (fun k => wx.heap.size ≤ k ∧ k < w'.heap.size) f T.list ∧ KG w w' tb lim T := by
  have h0 := h
  obtain ⟨M, h1, h2, h3⟩ := h
  exact (all_any tb M lim T wx h1 hsm).mono fun e w' ⟨f, he, hs, hb⟩ => ⟨f, he, hs.lt, h0.later hb⟩

set_option maxRecDepth 100000 in
set_option maxHeartbeats 8000000 in
theorem gone_any (A : Option Addr) (n c : Nat) (l : List Px) (B : Option Addr) (m d : Nat) (zs : List Int) (w : World) (r : Reads w (fun k => k < w.heap.size) 2 A n (l.flatMap Px.cells)) (hl : l.length = n) (hg : ∀ x ∈ l, x.a < 2 ^ 32)
    (r2 : Reads w (fun k => k < w.heap.size) 1 B m (zs.map (Value.int .i64))) (hl2 : zs.length = m) :
    Calls Try.prog 6 #[.slice A n c, .slice B m d] w fun e w' => e = .returned (.bool true) ∧ Below w.heap.size w w' := by
  have R := Lib.hid r
  have R2 := Lib.hid r2
  have HG := Lib.hid hg
  have HL := Lib.hid hl
  have HL2 := Lib.hid hl2
  clear r r2 hg hl hl2
  by_cases hbig : 60 < n
  · go_enter Try.func6, Try.ntmps6
    go_wp2_with (go_at_call 9; refine (known_any _).mono ?_; rintro e w' ⟨rfl, hb⟩)
    go_ret
    exact ⟨rfl, hb⟩
  by_cases hbig2 : 300 < m
  · go_enter Try.func6, Try.ntmps6
    go_wp2_with (go_at_call 9; refine (known_any _).mono ?_; rintro e w' ⟨rfl, hb⟩)
    go_ret
    exact ⟨rfl, hb⟩
  have HK0 := Lib.hid (kg_new w 100)
  go_enter Try.func6, Try.ntmps6
  go_wp2_with fail
  refine (new_any 100 _).mono ?_
  rintro e w1 ⟨rfl, rfl⟩
  have HK1 := Lib.hid (show KG w (w.alloc (.cells #[.pointer none, .int .i64 (max 0 100), .int .i64 0, .bool true] 71)) w.heap.size 100 .nil from HK0.out)
  generalize w.alloc (.cells #[.pointer none, .int .i64 (max 0 100), .int .i64 0, .bool true] 71) = w1 at HK1 ⊢
  clear HK0
  go_wp2_with fail
  go_loopw [6] (fun i wr => ∃ (k : Nat) (T : TT), i = .int .i64 (k : Int) ∧ k ≤ n ∧ KG w wr w.heap.size 100 T ∧ Among l T ∧ T.list.length ≤ k) (fun i _ => n - (intOf i).toNat)
  case atStart => exact ⟨0, .nil, rfl, Nat.zero_le _, HK1.out, (fun e he => by cases he), Nat.le_refl _⟩
  case round =>
    obtain ⟨k, T, rfl, hk, hK, hA, hT⟩ := hrel
    have KK := Lib.hid hK
    have AA := Lib.hid hA
    have TT0 := Lib.hid hT
    clear hK hA hT
    by_cases hlt : k < n
    · obtain ⟨x, hak⟩ : ∃ x, l[k]? = some x := ⟨l[k]'(by rw [HL.out]; exact hlt), List.getElem?_eq_getElem _⟩
      obtain ⟨ad, rfl, _, hadl, hc⟩ := R.out.2 (by omega)
      obtain ⟨e0, e1⟩ := pxs_get l k _ hak
      have hbl := KK.out.below
      have hcc0 : wr.cell? (ad.add (k * 2)) = some (.int .u32 (x.a : Int)) := (hbl.cell (by rw [block_of_add]; exact hadl)).trans (hc _ _ e0)
      have hcc1 : wr.cell? ⟨(ad.add (k * 2)).block, (ad.add (k * 2)).off + 1, none⟩ = some (.int .i64 x.n) := by
        rw [← add_after ad (k * 2) 1 (by omega)]
        exact (hbl.cell (by rw [block_of_add]; exact hadl)).trans (hc _ _ e1)
      have HX := Lib.hid (List.mem_of_getElem? hak)
      have hi0 : (0 : Int) ≤ k := by omega
      have hi1 : (k : Int) < n := by omega
      have CI := Lib.hid (kg_ins KK.out x (k : Int) (HG.out x HX.out) (by have := TT0.out; omega))
      clear hak e0 e1 hbl hc hadl
      go_wp2_with fail
      refine CI.out.mono ?_
      rintro e w2 ⟨rfl, h2⟩
      have H2 := Lib.hid h2
      clear h2 hcc0 hcc1 CI
      go_wp2_with fail
      go_roundw
      case rel => exact ⟨k + 1, _, by simp, by omega, H2.out, among_ins AA.out KK.out.wf (HG.out x HX.out) HX.out, Nat.le_trans (insP_len KK.out.wf (HG.out x HX.out)) (by have := TT0.out; omega)⟩
      case measure => simp [intOf]; omega
    · obtain rfl : k = n := by omega
      go_wp2_with fail
      go_loopw [7] (fun i wr => ∃ (k : Nat) (T : TT), i = .int .i64 (k : Int) ∧ k ≤ m ∧ KG w wr w.heap.size 100 T ∧ Among l T ∧ T.list.length ≤ 60) (fun i _ => m - (intOf i).toNat)
      case atStart => exact ⟨0, T, rfl, Nat.zero_le _, KK.out, AA.out, by have := TT0.out; omega⟩
      case round =>
        clear KK AA TT0
        obtain ⟨j, T, rfl, hj, hK, hA, hT⟩ := hrel
        have KK := Lib.hid hK
        have AA := Lib.hid hA
        have TT0 := Lib.hid hT
        clear hK hA hT
        by_cases hltj : j < m
        · obtain ⟨z, hzj⟩ : ∃ z, zs[j]? = some z := ⟨zs[j]'(by rw [HL2.out]; exact hltj), List.getElem?_eq_getElem _⟩
          obtain ⟨ad2, rfl, _, hadl2, hc2⟩ := R2.out.2 (by omega)
          have hbl := KK.out.below
          have hcz : wr.cell? (ad2.add j) = some (.int .i64 z) := (hbl.cell (by rw [block_of_add]; exact hadl2)).trans (hc2 j _ (by rw [List.getElem?_map, hzj]; rfl))
          have hj0 : (0 : Int) ≤ j := by omega
          have hj1 : (j : Int) < m := by omega
          clear hzj hc2 hadl2
          by_cases hz0 : 0 ≤ z
          · obtain ⟨i, rfl⟩ : ∃ i : Nat, z = (i : Int) := ⟨z.toNat, by omega⟩
            by_cases hz1 : i < k
            · obtain ⟨x, hak⟩ : ∃ x, l[i]? = some x := ⟨l[i]'(by rw [HL.out]; exact hz1), List.getElem?_eq_getElem _⟩
              obtain ⟨ad, rfl, _, hadl, hc⟩ := R.out.2 (by omega)
              obtain ⟨e0, e1⟩ := pxs_get l i _ hak
              have hcc0 : wr.cell? (ad.add (i * 2)) = some (.int .u32 (x.a : Int)) := (hbl.cell (by rw [block_of_add]; exact hadl)).trans (hc _ _ e0)
              have hcc1 : wr.cell? ⟨(ad.add (i * 2)).block, (ad.add (i * 2)).off + 1, none⟩ = some (.int .i64 x.n) := by
                rw [← add_after ad (i * 2) 1 (by omega)]
                exact (hbl.cell (by rw [block_of_add]; exact hadl)).trans (hc _ _ e1)
              have HX := Lib.hid (List.mem_of_getElem? hak)
              have CI := Lib.hid (kg_del KK.out x (HG.out x HX.out) (by have := TT0.out; omega))
              have hi1 : (i : Int) < k := by omega
              clear hak e0 e1 hbl hc hadl
              go_wp2_with fail
              refine CI.out.mono ?_
              rintro e w2 ⟨rfl, h2⟩
              have H2 := Lib.hid h2
              clear h2 hcc0 hcc1 CI hcz
              go_wp2_with fail
              go_roundw
              case rel => exact ⟨j + 1, _, by simp, by omega, H2.out, among_del AA.out KK.out.wf, Nat.le_trans (delP_len KK.out.wf) TT0.out⟩
              case measure => simp [intOf]; omega
            · have hi1 : ¬ (i : Int) < k := by omega
              have hi2 : decide (i < k) = false := decide_eq_false hz1
              clear hbl
              go_wp2_with fail
              go_roundw
              case rel => exact ⟨j + 1, T, by simp, by omega, KK.out, AA.out, TT0.out⟩
              case measure => simp [intOf]; omega
          · clear hbl
            go_wp2_with fail
            go_roundw
            case rel => exact ⟨j + 1, T, by simp, by omega, KK.out, AA.out, TT0.out⟩
            case measure => simp [intOf]; omega
        · obtain rfl : j = m := by omega
          go_wp2_with fail
          go_loopw [8] (fun i wr => ∃ (i0 : Nat) (T : TT), i = .int .i64 (i0 : Int) ∧ i0 ≤ k ∧ KG w wr w.heap.size 100 T ∧ Among (l.drop i0) T ∧ T.list.length ≤ 60) (fun i _ => k - (intOf i).toNat)
          case atStart => exact ⟨0, T, rfl, Nat.zero_le _, KK.out, AA.out, TT0.out⟩
          case round =>
            clear KK AA TT0
            obtain ⟨i, T, rfl, hi, hK, hA, hT⟩ := hrel
            have KK := Lib.hid hK
            have AA := Lib.hid hA
            have TT0 := Lib.hid hT
            clear hK hA hT
            by_cases hlti : i < k
            · obtain ⟨x, hak⟩ : ∃ x, l[i]? = some x := ⟨l[i]'(by rw [HL.out]; exact hlti), List.getElem?_eq_getElem _⟩
              obtain ⟨ad, rfl, _, hadl, hc⟩ := R.out.2 (by omega)
              obtain ⟨e0, e1⟩ := pxs_get l i _ hak
              have hbl := KK.out.below
              have hcc0 : wr.cell? (ad.add (i * 2)) = some (.int .u32 (x.a : Int)) := (hbl.cell (by rw [block_of_add]; exact hadl)).trans (hc _ _ e0)
              have hcc1 : wr.cell? ⟨(ad.add (i * 2)).block, (ad.add (i * 2)).off + 1, none⟩ = some (.int .i64 x.n) := by
                rw [← add_after ad (i * 2) 1 (by omega)]
                exact (hbl.cell (by rw [block_of_add]; exact hadl)).trans (hc _ _ e1)
              have HX := Lib.hid (List.mem_of_getElem? hak)
              have CI := Lib.hid (kg_del KK.out x (HG.out x HX.out) (by have := TT0.out; omega))
              have hdr : l.drop i = x :: l.drop (i + 1) := by
                have hlen : i < l.length := (List.getElem?_eq_some_iff.1 hak).1
                rw [List.drop_eq_getElem_cons hlen]
                congr 1
                exact (List.getElem?_eq_some_iff.1 hak).2
              have A2 := AA.out
              rw [hdr] at A2
              have AG := Lib.hid (among_gone A2 KK.out.wf)
              have GN := Lib.hid (getP_gone (x := x) KK.out.wf)
              have LN := Lib.hid (Nat.le_trans (delP_len (x := x) KK.out.wf) TT0.out)
              have hi0 : (0 : Int) ≤ i := by omega
              have hi1 : (i : Int) < k := by omega
              clear hak e0 e1 hdr A2
              go_wp2_with fail
              refine CI.out.mono ?_
              rintro e w2 ⟨rfl, h2⟩
              have H2 := Lib.hid h2
              have hbl2 := H2.out.below
              have hcd0 : w2.cell? (ad.add (i * 2)) = some (.int .u32 (x.a : Int)) := ((hbl2.cell (by rw [block_of_add]; exact hadl)).trans (hbl.cell (by rw [block_of_add]; exact hadl)).symm).trans hcc0
              have hcd1 : w2.cell? ⟨(ad.add (i * 2)).block, (ad.add (i * 2)).off + 1, none⟩ = some (.int .i64 x.n) := ((hbl2.cell (by show (ad.add (i * 2)).block < _; rw [block_of_add]; exact hadl)).trans (hbl.cell (by show (ad.add (i * 2)).block < _; rw [block_of_add]; exact hadl)).symm).trans hcc1
              have CG := Lib.hid (kg_none H2.out x (HG.out x HX.out) GN.out)
              clear h2 hcc0 hcc1 CI hbl hbl2 hc hadl
              go_wp2_with fail
              refine CG.out.mono ?_
              rintro e w3 ⟨rfl, h3⟩
              have H3 := Lib.hid h3
              clear h3 hcd0 hcd1 CG
              go_wp2_with fail
              go_roundw
              case rel => exact ⟨i + 1, _, by simp, by omega, H3.out, AG.out, LN.out⟩
              case measure => simp [intOf]; omega
            · obtain rfl : i = k := by omega
              have hnil : T = .nil := among_none (by have := AA.out; rwa [List.drop_eq_nil_of_le (by rw [HL.out]; exact Nat.le_refl _)] at this) KK.out.wf
              subst hnil
              have CM := Lib.hid (kg_match0 KK.out 0 (by decide))
              go_wp2_with fail
              refine CM.out.mono ?_
              rintro e w2 ⟨rfl, h2⟩
              have H2 := Lib.hid (show KG w _ w.heap.size 100 .nil from h2.later ((Below.refl _ _).alloc (Nat.le_refl _) (.cells #[.int .u32 0, .int .i64 0] 31)))
              clear h2 CM
              go_wp2_with fail
              refine (kg_len H2.out 0 rfl).mono ?_
              rintro e w3 ⟨rfl, rfl⟩
              go_wp2_with fail
              refine (kg_nodes H2.out 0 rfl (Nat.zero_le _)).mono ?_
              rintro e w3 ⟨rfl, h3⟩
              have H3 := Lib.hid h3
              clear h3
              go_wp2_with fail
              refine (kg_all H3.out (by simp [TT.list])).mono ?_
              rintro e w4 ⟨f, rfl, hs, h4⟩
              have H4 := Lib.hid h4
              have HS := Lib.hid hs
              clear h4 hs
              go_wp2_with fail
              refine (once_nil f w4 _ (fun k hk => hk.2) HS.out).mono ?_
              rintro e w5 ⟨rfl, hb5⟩
              have H5 := Lib.hid (H4.out.later hb5)
              clear hb5
              go_wp2_with fail
              refine (known_any _).mono ?_
              rintro e w6 ⟨rfl, hb6⟩
              go_wp2_with fail
              go_ret
              exact ⟨rfl, (H5.out.later hb6).below⟩
end Go.Proofs.Ytejiecebckjflaa
