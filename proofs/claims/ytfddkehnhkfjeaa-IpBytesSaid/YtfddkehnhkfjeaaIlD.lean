/- IpOptionsMean's walk. -/
import Derived.Test.YtfddkehnhkfjeaaIlC
namespace Go.Proofs.Ytfddkehnhkfjeaa
open Go.RowKit
def IomΦ (B : Nat) (Av A5 : Option Addr) (ad : Addr) (ny cv N1 c1 k m5 c5 p5 : Nat) (kb mb : UInt8) (y z : By) : Nat → Value → World → Prop
  | 0, u, _ => u = .slice Av ny cv
  | 1, u, _ => u = .slice (some ad) N1 c1
  | 2, u, _ => u = .int .i64 (k : Int)
  | 3, u, _ => u = .pointer (some (ad.add (k * 2)))
  | 4, u, _ => u = .pointer (some (ad.add (k * 2)))
  | 5, u, _ => u = .int .u8 (kb.toNat : Int)
  | 6, u, _ => u = .slice (some ad) N1 c1
  | 7, u, _ => u = .int .i64 (k : Int)
  | 8, u, _ => u = .pointer (some (ad.add (k * 2)))
  | 9, u, _ => u = .pointer (some ⟨(ad.add (k * 2)).block, (ad.add (k * 2)).off + 1, none⟩)
  | 10, u, _ => u = .slice A5 m5 c5
  | 11, u, _ => u = .int .i64 (m5 : Int)
  | 12, u, _ => u = .int .i64 (p5 : Int)
  | 13, u, _ => u = .int .u8 (mb.toNat : Int)
  | 14, u, w => ∃ g, u = .slice (some ⟨g, 0, none⟩) 2 2 ∧ Blk w g 5 #[.int .u8 (kb.toNat : Int), .int .u8 (mb.toNat : Int)]
  | 15, u, w => Row8 B w u (y ++ [kb, mb])
  | 16, u, _ => u = .slice (some ad) N1 c1
  | 17, u, _ => u = .int .i64 (k : Int)
  | 18, u, _ => u = .pointer (some (ad.add (k * 2)))
  | 19, u, _ => u = .pointer (some ⟨(ad.add (k * 2)).block, (ad.add (k * 2)).off + 1, none⟩)
  | 20, u, _ => u = .slice A5 m5 c5
  | 21, u, w => Row8 B w u z
  | 22, u, w => Row8 B w u z
  | _, _, _ => True
theorem IomΦ.keep {B : Nat} {Av A5 : Option Addr} {ad : Addr} {ny cv N1 c1 k m5 c5 p5 : Nat} {kb mb : UInt8} {y z : By} {wx wy : World} (hb : Below wx.heap.size wx wy) : ∀ j u, IomΦ B Av A5 ad ny cv N1 c1 k m5 c5 p5 kb mb y z j u wx → IomΦ B Av A5 ad ny cv N1 c1 k m5 c5 p5 kb mb y z j u wy := by
  intro j u h
  unfold IomΦ at h ⊢
  split at h
  all_goals first
    | exact h
    | exact Row8.below h hb
    | (obtain ⟨g, h1, h2⟩ := h; exact ⟨g, h1, h2.below hb h2.lt⟩)
theorem IomΦ.bare {B : Nat} {Av A5 : Option Addr} {ad : Addr} {ny cv N1 c1 k m5 c5 p5 : Nat} {kb mb : UInt8} {y z : By} {wx wy : World} {u : Value} : ∀ j, ¬ (j = 14 ∨ j = 15 ∨ j = 21 ∨ j = 22) → IomΦ B Av A5 ad ny cv N1 c1 k m5 c5 p5 kb mb y z j u wx → IomΦ B Av A5 ad ny cv N1 c1 k m5 c5 p5 kb mb y z j u wy := by
  intro j hj h
  unfold IomΦ at h ⊢
  split at h
  all_goals first
    | exact h
    | (exfalso; omega)
def IomΨ (B : Nat) (v : Value) (y : By) (j : Nat) (w : World) : Prop := if j = 15 then Row8 B w v y else True
theorem IomΨ.keep {B : Nat} {v : Value} {y : By} {wx wy : World} (hb : Below wx.heap.size wx wy) (j : Nat) (h : IomΨ B v y j wx) : IomΨ B v y j wy := by
  unfold IomΨ at h ⊢
  split
  · rename_i hj; rw [if_pos hj] at h; exact h.below hb
  · trivial
def iomDead (i j : Nat) : Bool := (i == 15 && j == 14) || (i == 21 && (j == 14 || j == 15))
/-- The options that are told. -/
theorem opts_ok {x : By} (h : goodF x = true) : ∀ s ∈ optsF x, 2 ≤ s.1.toNat ∧ s.2.length ≤ 253 := by
  unfold optsF
  rw [if_pos h]
  intro s hs
  obtain ⟨t, ht, rfl⟩ := List.mem_map.1 hs
  obtain ⟨ht1, ht2⟩ := List.mem_filter.1 ht
  have := ok_opt (good_ok h t ht1) (by simpa using ht2)
  exact ⟨this.2.1, this.2.2⟩
theorem whole_snoc {L : List (UInt8 × By)} {k : Nat} {s : UInt8 × By} (hs : L[k]? = some s) : wholeF (L.take (k + 1)) = wholeF (L.take k) ++ [s.1, UInt8.ofNat (2 + s.2.length)] ++ s.2 := by
  obtain ⟨hl, e⟩ := List.getElem?_eq_some_iff.1 hs
  rw [List.take_succ_eq_append_getElem hl, e]
  unfold wholeF
  rw [List.flatMap_append]
  simp
theorem any_snoc {α : Type} {p : α → Bool} {L : List α} {k : Nat} {s : α} (hs : L[k]? = some s) : (L.take (k + 1)).any p = ((L.take k).any p || p s) := by
  obtain ⟨hl, e⟩ := List.getElem?_eq_some_iff.1 hs
  rw [List.take_succ_eq_append_getElem hl, e, List.any_append]
  simp
theorem whole_le {L : List (UInt8 × By)} (h : ∀ s ∈ L, s.2.length ≤ 253) : (wholeF L).length ≤ 255 * L.length := by
  induction L with
  | nil => exact Nat.le_refl _
  | cons a r ih =>
    have h1 := ih fun s hs => h s (List.mem_cons_of_mem _ hs)
    have h2 := h a List.mem_cons_self
    have e : wholeF (a :: r) = (a.1 :: UInt8.ofNat (2 + a.2.length) :: a.2) ++ wholeF r := rfl
    rw [e, List.length_append]
    simp only [List.length_cons]
    omega
theorem opt_reads {D : Nat} {w : World} {J : Nat → Prop} {ad : Addr} {N : Nat} {us : List (UInt8 × Value)} {L : List (UInt8 × By)} (hr : Reads w J 2 (some ad) N (us.flatMap optC)) (he : OptE J w us L) (hJ : ∀ k, J k → k < D) {k : Nat} {s : UInt8 × By} (hs : L[k]? = some s) (hk : k < N) :
    ∃ A2 c2, ∀ wx, Below D w wx → wx.cell? (ad.add (k * 2)) = some (.int .u8 (s.1.toNat : Int)) ∧ wx.cell? ⟨(ad.add (k * 2)).block, (ad.add (k * 2)).off + 1, none⟩ = some (.slice A2 s.2.length c2) ∧ Reads wx (fun _ => True) 1 A2 s.2.length (bytesV s.2) := by
  obtain ⟨u, hu, hsl⟩ := he.get hs
  obtain ⟨A2, c2, rfl, _, hr2⟩ := hsl
  obtain ⟨g0, g1⟩ := optC_get hu
  simp only at g0 g1
  obtain ⟨ad', e, hj, hadl, hc⟩ := hr.2 (by omega)
  injection e with e
  subst e
  refine ⟨A2, c2, fun wx hx => ⟨(hx.cell (by rw [block_of_add]; exact hJ _ hj)).trans (hc _ _ g0), ?_, (hr2.keep (Same.ofBelow hx hJ)).mono fun _ _ => trivial⟩⟩
  have e : ad.add (k * 2 + 1) = ⟨(ad.add (k * 2)).block, (ad.add (k * 2)).off + 1, none⟩ := by rw [← add_of_add, add_pos _ 1 (by decide)]
  rw [← e]
  exact (hx.cell (by rw [block_of_add]; exact hJ _ hj)).trans (hc _ _ g1)
def rtF (s : UInt8 × By) : Bool := s.1 == 131 || s.1 == 137
set_option maxRecDepth 20000 in
set_option maxHeartbeats 1600000 in
theorem ipoptionsmean_any (A : Option Addr) (n c : Nat) (x : By) (w : World) (h : Reads w (fun k => k < w.heap.size) 1 A n (bytesV x)) (hn : x.length = n) (hc : n ≤ c) :
    Calls Try.prog 5 #[.slice A n c] w fun e w' => e = .returned (.bool true) ∧ Below w.heap.size w w' := by
  have HN := Lib.hid hn
  have HC := Lib.hid hc
  have HK := Lib.hid (fun wx => known_any wx)
  have HH := Lib.hid h
  clear h hn hc
  go_enter Try.func5, Try.ntmps5
  by_cases hbig : 300 < n
  · have hg : decide ((300 : Int) < (n : Int)) = true := decide_eq_true (by omega)
    go_wp2_with fail
    refine (HK.out _).mono ?_
    rintro e w1 ⟨rfl, hb⟩
    have HB := Lib.hid hb
    clear hb
    go_wp2_with fail
    go_ret
    exact ⟨rfl, HB.out⟩
  have hg : decide ((300 : Int) < (n : Int)) = false := decide_eq_false (by omega)
  have HS := Lib.hid (show n ≤ 300 by omega)
  clear hbig
  have HA := Lib.hid (show ∀ wx, Below w.heap.size w wx → Sl8 wx (fun k => k < w.heap.size) (.slice A n c) x from fun wx hb => ⟨A, c, by rw [HN.out], by rw [HN.out]; exact HC.out, by rw [HN.out]; exact HH.out.keep (Same.ofBelow hb fun k hk => hk)⟩)
  have HX := Lib.hid (show x.length ≤ 1000000 by have := HN.out; have := HS.out; omega)
  obtain ⟨gd, hgd⟩ : ∃ g, g = goodF x := ⟨_, rfl⟩
  obtain ⟨L, hL⟩ : ∃ g, g = optsF x := ⟨_, rfl⟩
  have HGD := Lib.hid hgd
  have HL := Lib.hid hL
  clear hgd hL
  have ho := options_any (.slice A n c) x _ w (HA.out w (Below.refl _ _)) HX.out
  unfold OptPost at ho
  rw [← HGD.out, ← HL.out] at ho
  have HO := Lib.hid ho
  clear ho
  go_wp2_with fail
  refine HO.out.mono ?_
  rintro e w1 ⟨v1, rfl, h1, hb1⟩
  have h1' := h1
  obtain ⟨us1, hu1, hd1⟩ := h1'
  obtain ⟨A1, c1, rfl, _⟩ := own_form hu1
  have hl1 : us1.length = L.length := hd1.len
  rw [hl1] at h1
  have HO1 := Lib.hid h1
  rw [hl1]
  have HB1 := Lib.hid hb1
  obtain ⟨N1, hN1⟩ : ∃ k, k = L.length := ⟨_, rfl⟩
  rw [← hN1] at HO1 ⊢
  have HN1 := Lib.hid hN1
  clear h1 hu1 hd1 hl1 hb1 hN1
  cases gd with
  | false =>
    have hL0 : L = [] := by rw [HL.out]; unfold optsF; rw [if_neg (by rw [← HGD.out]; decide)]
    have hn0 : N1 = 0 := by rw [HN1.out, hL0]; rfl
    subst hn0
    have hcp := copied_any (.slice A n c) x _ w1 (HA.out w1 HB1.out) HX.out
    have hc0 : copF x = [] := by unfold copF; rw [if_neg (by rw [← HGD.out]; decide)]
    unfold CopPost at hcp
    rw [hc0] at hcp
    have HCP := Lib.hid hcp
    have hr0 : routedF x = false := by unfold routedF; rw [← HL.out, hL0]; rfl
    have HR0 := Lib.hid hr0
    clear hcp hc0 hr0 hL0
    go_wp2_with fail
    refine HCP.out.mono ?_
    rintro e w2 ⟨v2, rfl, h2, hb2⟩
    have HB2 := Lib.hid (HB1.out.trans (hb2.mono HB1.out.size))
    obtain ⟨A2, c2, rfl, _⟩ := h2.form
    have hrt := routed_any (.slice A n c) x _ w2 (HA.out w2 HB2.out) HX.out
    rw [HR0.out] at hrt
    have HRT := Lib.hid hrt
    simp only [List.length_nil]
    clear h2 hb2 hrt
    go_wp2_with fail
    refine HRT.out.mono ?_
    rintro e w3 ⟨rfl, hb3⟩
    have HB3 := Lib.hid (HB2.out.trans (hb3.mono HB2.out.size))
    clear hb3
    go_wp2_with fail
    refine (HK.out _).mono ?_
    rintro e w4 ⟨rfl, hb4⟩
    have HB4 := Lib.hid (HB3.out.trans (hb4.mono HB3.out.size))
    clear hb4
    go_wp2_with fail
    go_ret
    exact ⟨rfl, HB4.out⟩
  | true =>
  obtain ⟨B, hB⟩ : ∃ B, B = w1.heap.size := ⟨_, rfl⟩
  have HBE := Lib.hid hB
  have hv1 : OptV w1 (fun k => k < w1.heap.size) (.slice A1 N1 c1) L := HO1.out.view fun k _ hk => hk
  obtain ⟨A1', c1', us1', e1, hr1, he1⟩ := hv1
  injection e1 with e11 e12 e13
  subst e11 e13
  rw [← HN1.out] at hr1
  have HR1 := Lib.hid hr1
  have HE1 := Lib.hid he1
  have HOK := Lib.hid (show ∀ s ∈ L, 2 ≤ s.1.toNat ∧ s.2.length ≤ 253 from by rw [HL.out]; exact opts_ok HGD.out.symm)
  have HLN := Lib.hid (show N1 ≤ 300 by have := opts_le x; have := HN.out; have := HS.out; rw [HN1.out, HL.out]; omega)
  obtain ⟨i0, hi, hz0, hz1, hz2⟩ := info_parts info_u8
  clear hr1 he1 e12 hB
  go_wp2_with fail
  go_loopw [5, 6, 7] (fun v r i wr => ∃ k : Nat, k ≤ N1 ∧ i = .int .i64 (k : Int) ∧ r = .bool ((L.take k).any rtF) ∧ Row8 B wr v (wholeF (L.take k)) ∧ Below w1.heap.size w1 wr) (fun _ _ i _ => N1 - (intOf i).toNat)
  case atStart => exact ⟨0, Nat.zero_le _, rfl, rfl, Row8.nil _ _, Below.refl _ _⟩
  case round =>
    obtain ⟨k, hk, rfl, rfl, hv, hb⟩ := hrel
    have HB0 := Lib.hid hb
    obtain ⟨y, hy⟩ : ∃ y, y = wholeF (L.take k) := ⟨_, rfl⟩
    have HY := Lib.hid hy
    rw [← hy] at hv
    obtain ⟨Av, cv, rfl, _⟩ := hv.form
    have hyl : y.length ≤ 255 * N1 := by
      rw [hy]
      refine Nat.le_trans (whole_le fun s hs => (HOK.out s (List.mem_of_mem_take hs)).2) ?_
      rw [List.length_take]
      omega
    have HBW := Lib.hid (show B ≤ wr.heap.size by rw [HBE.out]; exact hb.size)
    obtain ⟨rq, hrq⟩ : ∃ r, r = (L.take k).any rtF := ⟨_, rfl⟩
    have HRQ := Lib.hid hrq
    rw [← hrq]
    have HV := Lib.hid hv
    obtain ⟨ny, hny⟩ : ∃ m, m = y.length := ⟨_, rfl⟩
    have HNY := Lib.hid (show ny = y.length ∧ y.length ≤ 76500 from ⟨hny, by have := HLN.out; omega⟩)
    rw [← hny] at HV ⊢
    clear hb hy hv hyl hrq hny
    by_cases hlt : k < N1
    · obtain ⟨s, hs⟩ : ∃ s, L[k]? = some s := ⟨L[k]'(by rw [← HN1.out]; exact hlt), List.getElem?_eq_getElem _⟩
      obtain ⟨ad, rfl, _, _⟩ := HR1.out.2 (by omega)
      obtain ⟨A5, c5, hc5⟩ := opt_reads HR1.out HE1.out (fun k hk => hk) hs hlt
      have hso := HOK.out s (List.mem_of_getElem? hs)
      have HWS := Lib.hid (whole_snoc hs)
      have HAS := Lib.hid (any_snoc (p := rtF) hs)
      obtain ⟨kb, hkb⟩ : ∃ b, b = s.1 := ⟨_, rfl⟩
      obtain ⟨x5, hx5⟩ : ∃ x, x = s.2 := ⟨_, rfl⟩
      obtain ⟨m5, hm5⟩ : ∃ m, m = s.2.length := ⟨_, rfl⟩
      obtain ⟨mb, hmb⟩ : ∃ m, m = UInt8.ofNat (2 + s.2.length) := ⟨_, rfl⟩
      obtain ⟨p5, hp5⟩ : ∃ m, m = 2 + m5 := ⟨_, rfl⟩
      rw [← hkb, ← hm5, ← hx5] at hc5
      obtain ⟨z, hz⟩ : ∃ z, z = y ++ [kb, mb] ++ x5 := ⟨_, rfl⟩
      have HZ := Lib.hid hz
      have HX5 := Lib.hid (show x5.length = m5 by rw [hx5, hm5])
      have HM5 := Lib.hid (show m5 ≤ 253 by rw [hm5]; exact hso.2)
      have HCL := Lib.hid (show ∀ wx, Below w1.heap.size w1 wx → wx.cell? (ad.add (k * 2)) = some (.int .u8 (kb.toNat : Int)) ∧ wx.cell? ⟨(ad.add (k * 2)).block, (ad.add (k * 2)).off + 1, none⟩ = some (.slice A5 m5 c5) ∧ Reads wx (fun _ => True) 1 A5 m5 (bytesV x5) from hc5)
      have HW1 := Lib.hid (show IntKind.i64.wrap ((2 : Int) + (m5 : Int)) = (p5 : Int) by rw [hp5]; have := HM5.out; simp [IntKind.wrap, IntKind.bits, IntKind.signed]; omega)
      have HW2 := Lib.hid (show IntKind.u8.wrap (p5 : Int) = (mb.toNat : Int) by rw [hp5, hmb, ← hm5]; have := HM5.out; simp [IntKind.wrap, IntKind.bits, IntKind.signed])
      have HKB := Lib.hid hkb
      have HMB := Lib.hid hmb
      have HSX := Lib.hid hx5
      have hkb2 : 2 ≤ kb.toNat := by rw [hkb]; exact hso.1
      have HKB2 := Lib.hid hkb2
      obtain ⟨n2, hn2⟩ : ∃ m, m = y.length + 2 := ⟨_, rfl⟩
      have hi0 : (0 : Int) ≤ k := by omega
      have hi1 : (k : Int) < N1 := by omega
      have hi2 : (k : Int) < 300 := by have := HLN.out; omega
      have hd0 : decide ((k : Int) < (N1 : Int)) = true := decide_eq_true (by omega)
      have hd1 : decide (k < N1) = true := decide_eq_true hlt
      clear hs hc5 hso hkb hx5 hm5 hmb hp5 hz hkb2 hn2
      go_wp2_with fail
      refine wp_region_psi (by kernel_rfl) (fun p q => Below B p q) (IomΦ B Av A5 ad ny cv N1 c1 k m5 c5 p5 kb mb y z) 23 (fun _ _ => True) iomDead (IomΨ B (.slice Av ny cv) y) (by kernel_rfl) (fun p => Below.refl _ p) (fun h k => h.trans k) (fun j => ?_) (oblp_of ?_) (fun o h => by cases h) ?_
      · unfold IomΨ
        split
        · exact HV.out
        · trivial
      · refine ⟨fun _ => ?_, fun _ => ?_, fun _ => ?_, fun _ => ?_, fun _ => ?_, fun _ => ?_, fun _ => ?_, fun _ => ?_, fun _ => ?_, fun _ => ?_, fun _ => ?_, fun _ => ?_, fun _ => ?_, fun _ => ?_, fun _ => ?_, fun _ => ?_, fun _ => ?_, fun _ => ?_, fun _ => ?_, fun _ => ?_, fun _ => ?_, fun _ => ?_, fun _ => ?_, trivial⟩
        · -- 0
          intro val wx hg hψ hd hb hs K hK
          generalize hρ : rhoV _ _ val = ρ
          have cc : ∀ u, ρ (.const u) = u := fun u => by rw [← hρ]; rfl
          have ff : ∀ u, ρ (.func u) = .func (.func u) #[] #[] := fun u => by rw [← hρ]; rfl
          have r5 : ρ (.tmp 5) = .slice Av ny cv := by rw [← hρ]; exact hb 22 _ rfl rfl
          clear hρ hd hb hs hψ
          refine ifv rfl ?_
          go_simp
          exact hK _ _ (Below.refl _ _) rfl (fun _ _ _ _ h => h) fun _ _ _ h => h
        · -- 1
          intro val wx hg hψ hd hb hs K hK
          generalize hρ : rhoV _ _ val = ρ
          have cc : ∀ u, ρ (.const u) = u := fun u => by rw [← hρ]; rfl
          have ff : ∀ u, ρ (.func u) = .func (.func u) #[] #[] := fun u => by rw [← hρ]; rfl
          have r3 : ρ (.tmp 3) = .slice (some ad) N1 c1 := by rw [← hρ]; rfl
          clear hρ hd hb hs hψ
          refine ifv rfl ?_
          go_simp
          exact hK _ _ (Below.refl _ _) rfl (fun _ _ _ _ h => h) fun _ _ _ h => h
        · -- 2
          intro val wx hg hψ hd hb hs K hK
          generalize hρ : rhoV _ _ val = ρ
          have cc : ∀ u, ρ (.const u) = u := fun u => by rw [← hρ]; rfl
          have ff : ∀ u, ρ (.func u) = .func (.func u) #[] #[] := fun u => by rw [← hρ]; rfl
          have r7 : ρ (.tmp 7) = .int .i64 (k : Int) := by rw [← hρ]; rfl
          clear hρ hd hb hs hψ
          refine ifv rfl ?_
          go_simp
          exact hK _ _ (Below.refl _ _) rfl (fun _ _ _ _ h => h) fun _ _ _ h => h
        · -- 3
          intro val wx hg hψ hd hb hs K hK
          generalize hρ : rhoV _ _ val = ρ
          have cc : ∀ u, ρ (.const u) = u := fun u => by rw [← hρ]; rfl
          have ff : ∀ u, ρ (.func u) = .func (.func u) #[] #[] := fun u => by rw [← hρ]; rfl
          have r45 : ρ (.tmp 45) = .slice (some ad) N1 c1 := by rw [← hρ]; exact hd 1 rfl rfl
          have r46 : ρ (.tmp 46) = .int .i64 (k : Int) := by rw [← hρ]; exact hd 2 rfl rfl
          clear hρ hd hb hs hψ
          refine ifv rfl ?_
          go_simp
          exact hK _ _ (Below.refl _ _) rfl (fun _ _ _ _ h => h) fun _ _ _ h => h
        · -- 4
          intro val wx hg hψ hd hb hs K hK
          generalize hρ : rhoV _ _ val = ρ
          have cc : ∀ u, ρ (.const u) = u := fun u => by rw [← hρ]; rfl
          have ff : ∀ u, ρ (.func u) = .func (.func u) #[] #[] := fun u => by rw [← hρ]; rfl
          have r47 : ρ (.tmp 47) = .pointer (some (ad.add (k * 2))) := by rw [← hρ]; exact hd 3 rfl rfl
          clear hρ hd hb hs hψ
          refine ifv rfl ?_
          go_simp
          exact hK _ _ (Below.refl _ _) rfl (fun _ _ _ _ h => h) fun _ _ _ h => h
        · -- 5
          intro val wx hg hψ hd hb hs K hK
          generalize hρ : rhoV _ _ val = ρ
          have cc : ∀ u, ρ (.const u) = u := fun u => by rw [← hρ]; rfl
          have ff : ∀ u, ρ (.func u) = .func (.func u) #[] #[] := fun u => by rw [← hρ]; rfl
          have r48 : ρ (.tmp 48) = .pointer (some (ad.add (k * 2))) := by rw [← hρ]; exact hd 4 rfl rfl
          have hcl := HCL.out wx (HB0.out.trans (Below.mono (show Below B wr wx from ⟨hg.os, hg.tape, hg.output, hg.size, hg.block⟩) (Nat.le_of_eq HBE.out.symm)))
          have a1 := hcl.1
          clear hρ hd hb hs hψ
          refine ifv rfl ?_
          go_simp
          exact hK _ _ (Below.refl _ _) rfl (fun _ _ _ _ h => h) fun _ _ _ h => h
        · -- 6
          intro val wx hg hψ hd hb hs K hK
          generalize hρ : rhoV _ _ val = ρ
          have cc : ∀ u, ρ (.const u) = u := fun u => by rw [← hρ]; rfl
          have ff : ∀ u, ρ (.func u) = .func (.func u) #[] #[] := fun u => by rw [← hρ]; rfl
          have r3 : ρ (.tmp 3) = .slice (some ad) N1 c1 := by rw [← hρ]; rfl
          clear hρ hd hb hs hψ
          refine ifv rfl ?_
          go_simp
          exact hK _ _ (Below.refl _ _) rfl (fun _ _ _ _ h => h) fun _ _ _ h => h
        · -- 7
          intro val wx hg hψ hd hb hs K hK
          generalize hρ : rhoV _ _ val = ρ
          have cc : ∀ u, ρ (.const u) = u := fun u => by rw [← hρ]; rfl
          have ff : ∀ u, ρ (.func u) = .func (.func u) #[] #[] := fun u => by rw [← hρ]; rfl
          have r7 : ρ (.tmp 7) = .int .i64 (k : Int) := by rw [← hρ]; rfl
          clear hρ hd hb hs hψ
          refine ifv rfl ?_
          go_simp
          exact hK _ _ (Below.refl _ _) rfl (fun _ _ _ _ h => h) fun _ _ _ h => h
        · -- 8
          intro val wx hg hψ hd hb hs K hK
          generalize hρ : rhoV _ _ val = ρ
          have cc : ∀ u, ρ (.const u) = u := fun u => by rw [← hρ]; rfl
          have ff : ∀ u, ρ (.func u) = .func (.func u) #[] #[] := fun u => by rw [← hρ]; rfl
          have r50 : ρ (.tmp 50) = .slice (some ad) N1 c1 := by rw [← hρ]; exact hd 6 rfl rfl
          have r51 : ρ (.tmp 51) = .int .i64 (k : Int) := by rw [← hρ]; exact hd 7 rfl rfl
          clear hρ hd hb hs hψ
          refine ifv rfl ?_
          go_simp
          exact hK _ _ (Below.refl _ _) rfl (fun _ _ _ _ h => h) fun _ _ _ h => h
        · -- 9
          intro val wx hg hψ hd hb hs K hK
          generalize hρ : rhoV _ _ val = ρ
          have cc : ∀ u, ρ (.const u) = u := fun u => by rw [← hρ]; rfl
          have ff : ∀ u, ρ (.func u) = .func (.func u) #[] #[] := fun u => by rw [← hρ]; rfl
          have r52 : ρ (.tmp 52) = .pointer (some (ad.add (k * 2))) := by rw [← hρ]; exact hd 8 rfl rfl
          clear hρ hd hb hs hψ
          refine ifv rfl ?_
          go_simp
          exact hK _ _ (Below.refl _ _) rfl (fun _ _ _ _ h => h) fun _ _ _ h => h
        · -- 10
          intro val wx hg hψ hd hb hs K hK
          generalize hρ : rhoV _ _ val = ρ
          have cc : ∀ u, ρ (.const u) = u := fun u => by rw [← hρ]; rfl
          have ff : ∀ u, ρ (.func u) = .func (.func u) #[] #[] := fun u => by rw [← hρ]; rfl
          have r53 : ρ (.tmp 53) = .pointer (some ⟨(ad.add (k * 2)).block, (ad.add (k * 2)).off + 1, none⟩) := by rw [← hρ]; exact hd 9 rfl rfl
          have hcl := HCL.out wx (HB0.out.trans (Below.mono (show Below B wr wx from ⟨hg.os, hg.tape, hg.output, hg.size, hg.block⟩) (Nat.le_of_eq HBE.out.symm)))
          have a2 := hcl.2.1
          clear hρ hd hb hs hψ
          refine ifv rfl ?_
          go_simp
          exact hK _ _ (Below.refl _ _) rfl (fun _ _ _ _ h => h) fun _ _ _ h => h
        · -- 11
          intro val wx hg hψ hd hb hs K hK
          generalize hρ : rhoV _ _ val = ρ
          have cc : ∀ u, ρ (.const u) = u := fun u => by rw [← hρ]; rfl
          have ff : ∀ u, ρ (.func u) = .func (.func u) #[] #[] := fun u => by rw [← hρ]; rfl
          have r54 : ρ (.tmp 54) = .slice A5 m5 c5 := by rw [← hρ]; exact hd 10 rfl rfl
          clear hρ hd hb hs hψ
          refine ifv rfl ?_
          go_simp
          exact hK _ _ (Below.refl _ _) rfl (fun _ _ _ _ h => h) fun _ _ _ h => h
        · -- 12
          intro val wx hg hψ hd hb hs K hK
          generalize hρ : rhoV _ _ val = ρ
          have cc : ∀ u, ρ (.const u) = u := fun u => by rw [← hρ]; rfl
          have ff : ∀ u, ρ (.func u) = .func (.func u) #[] #[] := fun u => by rw [← hρ]; rfl
          have r55 : ρ (.tmp 55) = .int .i64 (m5 : Int) := by rw [← hρ]; exact hd 11 rfl rfl
          have hw1 := HW1.out
          clear hρ hd hb hs hψ
          refine ifv rfl ?_
          go_simp
          exact hK _ _ (Below.refl _ _) rfl (fun _ _ _ _ h => h) fun _ _ _ h => h
        · -- 13
          intro val wx hg hψ hd hb hs K hK
          generalize hρ : rhoV _ _ val = ρ
          have cc : ∀ u, ρ (.const u) = u := fun u => by rw [← hρ]; rfl
          have ff : ∀ u, ρ (.func u) = .func (.func u) #[] #[] := fun u => by rw [← hρ]; rfl
          have r56 : ρ (.tmp 56) = .int .i64 (p5 : Int) := by rw [← hρ]; exact hd 12 rfl rfl
          have hw2 := HW2.out
          clear hρ hd hb hs hψ
          refine ifv rfl ?_
          go_simp
          exact hK _ _ (Below.refl _ _) rfl (fun _ _ _ _ h => h) fun _ _ _ h => h
        · -- 14
          intro val wx hg hψ hd hb hs K hK
          generalize hρ : rhoV _ _ val = ρ
          have cc : ∀ u, ρ (.const u) = u := fun u => by rw [← hρ]; rfl
          have ff : ∀ u, ρ (.func u) = .func (.func u) #[] #[] := fun u => by rw [← hρ]; rfl
          have r49 : ρ (.tmp 49) = .int .u8 (kb.toNat : Int) := by rw [← hρ]; exact hd 5 rfl rfl
          have r57 : ρ (.tmp 57) = .int .u8 (mb.toNat : Int) := by rw [← hρ]; exact hd 13 rfl rfl
          have hal : Below wx.heap.size wx (wx.alloc (.cells #[.int .u8 (kb.toNat : Int), .int .u8 (mb.toNat : Int)] 5)) := (Below.refl _ _).alloc (Nat.le_refl _) _
          have hsz : B ≤ wx.heap.size := Nat.le_trans HBW.out hg.size
          clear hρ hd hb hs hψ
          refine ifv rfl ?_
          go_simp
          exact hK _ _ (hal.mono hsz) ⟨_, rfl, Blk.new _ _ _⟩ (fun j _ _ _ h => IomΦ.keep hal j _ h) fun j _ _ h => IomΨ.keep hal j h
        · -- 15
          intro val wx hg hψ hd hb hs K hK
          generalize hρ : rhoV _ _ val = ρ
          have cc : ∀ u, ρ (.const u) = u := fun u => by rw [← hρ]; rfl
          have ff : ∀ u, ρ (.func u) = .func (.func u) #[] #[] := fun u => by rw [← hρ]; rfl
          have r44 : ρ (.tmp 44) = .slice Av ny cv := by rw [← hρ]; exact hd 0 rfl rfl
          have r58 : ρ (.tmp 58) = val 14 := by rw [← hρ]; rfl
          have p14 := hd 14 rfl rfl
          have hψy : Row8 B wx (.slice Av ny cv) y := by unfold IomΨ at hψ; rw [if_pos rfl] at hψ; exact hψ
          obtain ⟨g, h14, hbg⟩ : ∃ g, val 14 = .slice (some ⟨g, 0, none⟩) 2 2 ∧ Blk wx g 5 #[.int .u8 (kb.toNat : Int), .int .u8 (mb.toNat : Int)] := p14
          rw [h14] at r58
          have hrx : Reads wx (fun _ => True) 1 (some ⟨g, 0, none⟩) 2 (bytesV [kb, mb]) := reads_blk hbg rfl
          have hsz : B ≤ wx.heap.size := Nat.le_trans HBW.out hg.size
          refine ifv rfl ?_
          refine insRow wx (.tmp 44) (.tmp 58) 22 (by rfl) B 5 i0 _ 1 1 Try.underlying22 hi hz0 hz1 hz2 rfl (by decide) r44 (show wx.ownsRow B 5 1 (.slice Av ny cv) y.length (bytesV y) from hψy) (A := some ⟨g, 0, none⟩) (m := 2) (c := 2) (news := bytesV [kb, mb]) r58 hrx (bytesV_one _) (by unfold maxLen; have := HNY.out; have := HM5.out; omega) (by have := HNY.out; have := HM5.out; omega) hsz ?_
          intro v2 w2 h2 hg2 _
          have hb2 : Below B wx w2 := (Below.refl B wx).grown hg2 hsz fun g hg => (own_lt (show wx.ownsRow B 5 1 (.slice Av ny cv) y.length (bytesV y) from hψy) hg).1
          clear hρ hd hb hs hψ
          exact hK _ _ hb2 (show Row8 B w2 v2 (y ++ [kb, mb]) by unfold Row8; rw [bytesV_app, List.length_append]; exact h2) (fun j hj hdd hbk h => by
              rcases Classical.em (j = 21) with e | e
              · subst e; exact Bool.noConfusion ((hbk _ rfl).symm.trans rfl)
              rcases Classical.em (j = 22) with e2 | e2
              · subst e2; exact Bool.noConfusion ((hbk _ rfl).symm.trans rfl)
              rcases Classical.em (j = 14) with e3 | e3
              · subst e3; exact absurd hdd (by decide)
              exact IomΦ.bare j (by omega) h) fun j hj hbk h => by unfold IomΨ; rw [if_neg hj]; trivial
        · -- 16
          intro val wx hg hψ hd hb hs K hK
          generalize hρ : rhoV _ _ val = ρ
          have cc : ∀ u, ρ (.const u) = u := fun u => by rw [← hρ]; rfl
          have ff : ∀ u, ρ (.func u) = .func (.func u) #[] #[] := fun u => by rw [← hρ]; rfl
          have r3 : ρ (.tmp 3) = .slice (some ad) N1 c1 := by rw [← hρ]; rfl
          clear hρ hd hb hs hψ
          refine ifv rfl ?_
          go_simp
          exact hK _ _ (Below.refl _ _) rfl (fun _ _ _ _ h => h) fun _ _ _ h => h
        · -- 17
          intro val wx hg hψ hd hb hs K hK
          generalize hρ : rhoV _ _ val = ρ
          have cc : ∀ u, ρ (.const u) = u := fun u => by rw [← hρ]; rfl
          have ff : ∀ u, ρ (.func u) = .func (.func u) #[] #[] := fun u => by rw [← hρ]; rfl
          have r7 : ρ (.tmp 7) = .int .i64 (k : Int) := by rw [← hρ]; rfl
          clear hρ hd hb hs hψ
          refine ifv rfl ?_
          go_simp
          exact hK _ _ (Below.refl _ _) rfl (fun _ _ _ _ h => h) fun _ _ _ h => h
        · -- 18
          intro val wx hg hψ hd hb hs K hK
          generalize hρ : rhoV _ _ val = ρ
          have cc : ∀ u, ρ (.const u) = u := fun u => by rw [← hρ]; rfl
          have ff : ∀ u, ρ (.func u) = .func (.func u) #[] #[] := fun u => by rw [← hρ]; rfl
          have r60 : ρ (.tmp 60) = .slice (some ad) N1 c1 := by rw [← hρ]; exact hd 16 rfl rfl
          have r61 : ρ (.tmp 61) = .int .i64 (k : Int) := by rw [← hρ]; exact hd 17 rfl rfl
          clear hρ hd hb hs hψ
          refine ifv rfl ?_
          go_simp
          exact hK _ _ (Below.refl _ _) rfl (fun _ _ _ _ h => h) fun _ _ _ h => h
        · -- 19
          intro val wx hg hψ hd hb hs K hK
          generalize hρ : rhoV _ _ val = ρ
          have cc : ∀ u, ρ (.const u) = u := fun u => by rw [← hρ]; rfl
          have ff : ∀ u, ρ (.func u) = .func (.func u) #[] #[] := fun u => by rw [← hρ]; rfl
          have r62 : ρ (.tmp 62) = .pointer (some (ad.add (k * 2))) := by rw [← hρ]; exact hd 18 rfl rfl
          clear hρ hd hb hs hψ
          refine ifv rfl ?_
          go_simp
          exact hK _ _ (Below.refl _ _) rfl (fun _ _ _ _ h => h) fun _ _ _ h => h
        · -- 20
          intro val wx hg hψ hd hb hs K hK
          generalize hρ : rhoV _ _ val = ρ
          have cc : ∀ u, ρ (.const u) = u := fun u => by rw [← hρ]; rfl
          have ff : ∀ u, ρ (.func u) = .func (.func u) #[] #[] := fun u => by rw [← hρ]; rfl
          have r63 : ρ (.tmp 63) = .pointer (some ⟨(ad.add (k * 2)).block, (ad.add (k * 2)).off + 1, none⟩) := by rw [← hρ]; exact hd 19 rfl rfl
          have hcl := HCL.out wx (HB0.out.trans (Below.mono (show Below B wr wx from ⟨hg.os, hg.tape, hg.output, hg.size, hg.block⟩) (Nat.le_of_eq HBE.out.symm)))
          have a2 := hcl.2.1
          clear hρ hd hb hs hψ
          refine ifv rfl ?_
          go_simp
          exact hK _ _ (Below.refl _ _) rfl (fun _ _ _ _ h => h) fun _ _ _ h => h
        · -- 21
          intro val wx hg hψ hd hb hs K hK
          generalize hρ : rhoV _ _ val = ρ
          have cc : ∀ u, ρ (.const u) = u := fun u => by rw [← hρ]; rfl
          have ff : ∀ u, ρ (.func u) = .func (.func u) #[] #[] := fun u => by rw [← hρ]; rfl
          have r59 : ρ (.tmp 59) = val 15 := by rw [← hρ]; rfl
          have p15 := hd 15 rfl rfl
          have r64 : ρ (.tmp 64) = .slice A5 m5 c5 := by rw [← hρ]; exact hd 20 rfl rfl
          have hl2 : (y ++ [kb, mb]).length = y.length + 2 := by simp
          have q15 : Row8 B wx (val 15) (y ++ [kb, mb]) := p15
          have hbx := (show Below B wr wx from ⟨hg.os, hg.tape, hg.output, hg.size, hg.block⟩)
          have hrx := (HCL.out wx (HB0.out.trans (hbx.mono (Nat.le_of_eq HBE.out.symm)))).2.2
          have hsz : B ≤ wx.heap.size := Nat.le_trans HBW.out hg.size
          refine ifv rfl ?_
          refine insRow wx (.tmp 59) (.tmp 64) 22 (by rfl) B 5 i0 _ 1 1 Try.underlying22 hi hz0 hz1 hz2 rfl (by decide) r59 (show wx.ownsRow B 5 1 (val 15) (y ++ [kb, mb]).length (bytesV (y ++ [kb, mb])) from q15) (A := A5) (m := m5) (c := c5) (news := bytesV x5) r64 hrx (bytesV_one _) (by unfold maxLen; have := HNY.out; have := HM5.out; omega) (by have := HNY.out; have := HM5.out; omega) hsz ?_
          intro v2 w2 h2 hg2 _
          have hb2 : Below B wx w2 := (Below.refl B wx).grown hg2 hsz fun g hg => (own_lt (show wx.ownsRow B 5 1 (val 15) (y ++ [kb, mb]).length (bytesV (y ++ [kb, mb])) from q15) hg).1
          clear hρ hd hb hs hψ
          exact hK _ _ hb2 (show Row8 B w2 v2 z by unfold Row8; rw [HZ.out, bytesV_app, List.length_append, HX5.out]; exact h2) (fun j hj hdd hbk h => by
              rcases Classical.em (j = 22) with e2 | e2
              · subst e2; exact Bool.noConfusion ((hbk _ rfl).symm.trans rfl)
              rcases Classical.em (j = 14) with e3 | e3
              · subst e3; exact absurd hdd (by decide)
              rcases Classical.em (j = 15) with e4 | e4
              · subst e4; exact absurd hdd (by decide)
              exact IomΦ.bare j (by omega) h) fun j hj hbk h => by
              rcases Classical.em (j = 15) with e3 | e3
              · subst e3; exact Bool.noConfusion (hbk.symm.trans rfl)
              unfold IomΨ; rw [if_neg e3]; trivial
        · -- 22
          intro val wx hg hψ hd hb hs K hK
          generalize hρ : rhoV _ _ val = ρ
          have cc : ∀ u, ρ (.const u) = u := fun u => by rw [← hρ]; rfl
          have ff : ∀ u, ρ (.func u) = .func (.func u) #[] #[] := fun u => by rw [← hρ]; rfl
          have r65 : ρ (.tmp 65) = val 21 := by rw [← hρ]; rfl
          have p21 := hd 21 rfl rfl
          have q21 : Row8 B wx (val 21) z := p21
          clear hρ hd hb hs hψ p21
          refine ifv rfl ?_
          go_simp
          exact hK _ _ (Below.refl _ _) q21 (fun _ _ _ _ h => h) fun _ _ _ h => h
      · intro val w9 h9
        rw [if_neg (by decide)] at h9
        obtain ⟨hb9, h9⟩ := h9
        have p22 : Row8 B w9 (val 22) z := h9 22 (by decide) (by decide)
        have HB9 := Lib.hid (show Below w1.heap.size w1 w9 from HB0.out.trans (Below.mono (show Below B wr w9 from ⟨hb9.os, hb9.tape, hb9.output, hb9.size, hb9.block⟩) (Nat.le_of_eq HBE.out.symm)))
        obtain ⟨Az, cz, ez, _⟩ := p22.form
        rw [ez] at p22
        have HZW := Lib.hid (show wholeF (L.take (k + 1)) = z by rw [HWS.out, HZ.out, HY.out, HKB.out, HMB.out, HSX.out])
        have HP22 := Lib.hid p22
        have a1 := (HCL.out w9 HB9.out).1
        have HCZ := Lib.hid (show Below w1.heap.size w1 w9 from HB9.out)
        simp only [putAll, ez]
        simp only [Act.put, List.setIfInBounds_toArray, List.set_cons_succ, List.set_cons_zero]
        clear hb9 h9 ez p22
        generalize val 0 = y0, val 1 = y1, val 2 = y2, val 3 = y3, val 4 = y4, val 5 = y5, val 6 = y6, val 7 = y7, val 8 = y8, val 9 = y9, val 10 = y10, val 11 = y11, val 12 = y12, val 13 = y13, val 14 = y14, val 15 = y15, val 16 = y16, val 17 = y17, val 18 = y18, val 19 = y19, val 20 = y20, val 21 = y21
        have c2 : decide ((kb.toNat : Int) < 2) = false := decide_eq_false (by have := HKB2.out; omega)
        obtain ⟨zn, hzn⟩ : ∃ m, m = z.length := ⟨_, rfl⟩
        rw [← hzn] at HP22 ⊢
        have hkt : ∀ m : UInt8, kb.toNat = m.toNat ↔ s.1 = m := fun m => by rw [HKB.out]; exact UInt8.toNat_inj
        have HRR := Lib.hid (show (L.take (k + 1)).any rtF = (rq || (decide (kb.toNat = 131) || decide (kb.toNat = 137))) by
          rw [HAS.out, ← HRQ.out]
          congr 1
          unfold rtF
          have h1 := hkt 131
          have h2 := hkt 137
          rw [Bool.eq_iff_iff, Bool.or_eq_true, Bool.or_eq_true, beq_iff_eq, beq_iff_eq, decide_eq_true_eq, decide_eq_true_eq, ← h1, ← h2]
          rfl)
        clear hzn hkt
        cases rq with
        | true =>
          have HRN := Lib.hid (show (L.take (k + 1)).any rtF = true by rw [HRR.out]; rfl)
          go_wp2_with fail
          go_roundw
          case rel => exact ⟨k + 1, hlt, rfl, by rw [HRN.out], by rw [HZW.out]; exact HP22.out, HCZ.out⟩
          case measure => simp [intOf]; omega
        | false =>
          by_cases e1 : kb.toNat = 131
          · have d1 : ((kb.toNat : Int) == 131) = true := by rw [beq_iff_eq]; omega
            have HRN := Lib.hid (show (L.take (k + 1)).any rtF = true by rw [HRR.out, decide_eq_true e1]; rfl)
            clear e1
            go_wp2_with fail
            go_roundw
            case rel => exact ⟨k + 1, hlt, rfl, by rw [HRN.out], by rw [HZW.out]; exact HP22.out, HCZ.out⟩
            case measure => simp [intOf]; omega
          · have d1 : ((kb.toNat : Int) == 131) = false := by rw [beq_eq_false_iff_ne]; omega
            by_cases e2 : kb.toNat = 137
            · have d2 : ((kb.toNat : Int) == 137) = true := by rw [beq_iff_eq]; omega
              have HRN := Lib.hid (show (L.take (k + 1)).any rtF = true by rw [HRR.out, decide_eq_true e2, decide_eq_false e1]; rfl)
              clear e1 e2
              go_wp2_with fail
              go_roundw
              case rel => exact ⟨k + 1, hlt, rfl, by rw [HRN.out], by rw [HZW.out]; exact HP22.out, HCZ.out⟩
              case measure => simp [intOf]; omega
            · have d2 : ((kb.toNat : Int) == 137) = false := by rw [beq_eq_false_iff_ne]; omega
              have HRN := Lib.hid (show (L.take (k + 1)).any rtF = false by rw [HRR.out, decide_eq_false e2, decide_eq_false e1]; rfl)
              clear e1 e2
              go_wp2_with fail
              go_roundw
              case rel => exact ⟨k + 1, hlt, rfl, by rw [HRN.out], by rw [HZW.out]; exact HP22.out, HCZ.out⟩
              case measure => simp [intOf]; omega
    · obtain rfl : k = N1 := by omega
      have hd0 : decide ((k : Int) < (k : Int)) = false := decide_eq_false (by omega)
      have hd1 : decide (k < k) = false := decide_eq_false (by omega)
      have htk : L.take k = L := by rw [HN1.out, List.take_length]
      have hrx : routedF x = rq := by rw [HRQ.out, htk, HL.out]; rfl
      have hyw : y = wholeF (optsF x) := by rw [HY.out, htk, HL.out]
      obtain ⟨o1, o2⟩ := opts_whole HGD.out.symm
      have ho := options_any (.slice Av ny cv) y _ wr HV.out.sl (by have := HNY.out; omega)
      unfold OptPost at ho
      rw [hyw, o1, o2, ← HL.out] at ho
      have HO := Lib.hid ho
      have HRX := Lib.hid hrx
      have HBR := Lib.hid (HB1.out.trans (HB0.out.mono HB1.out.size))
      clear htk hrx hyw o1 o2 ho
      go_wp2_with fail
      refine HO.out.mono ?_
      rintro e w3 ⟨v3, rfl, h3, hb3⟩
      have hb3' := HB0.out.trans (hb3.mono HB0.out.size)
      have hv3 : OptV w3 (fun k => k < w3.heap.size) v3 L := h3.view fun k _ hk => hk
      have hv1 : OptV w3 (fun k => k < w3.heap.size) (.slice A1 k c1) L := (HO1.out.below hb3').view fun k _ hk => hk
      have hso := sameopts_any _ _ L L (fun k => k < w3.heap.size) (fun k => k < w3.heap.size) w3 hv1 hv3 (fun k hk => hk) (fun k hk => hk) (by rw [← HN1.out]; have := HLN.out; omega)
      rw [decide_eq_true rfl] at hso
      have HSO := Lib.hid hso
      obtain ⟨us3, hu3, hd3⟩ := h3
      obtain ⟨A3, c3, rfl, _⟩ := own_form hu3
      have HB3 := Lib.hid (HB1.out.trans (hb3'.mono HB1.out.size))
      clear hb3 hb3' hv3 hv1 hso hu3 hd3
      go_wp2_with fail
      refine HSO.out.mono ?_
      rintro e w4 ⟨rfl, hb4⟩
      have HB4 := Lib.hid (HB3.out.trans (hb4.mono HB3.out.size))
      have hrt := routed_any (.slice A n c) x _ w4 (HA.out w4 HB4.out) HX.out
      rw [HRX.out] at hrt
      have HRT := Lib.hid hrt
      clear hb4 hrt
      go_wp2_with fail
      refine HRT.out.mono ?_
      rintro e w5 ⟨rfl, hb5⟩
      have HB5 := Lib.hid (HB4.out.trans (hb5.mono HB4.out.size))
      have hcp := copied_any (.slice A n c) x _ w5 (HA.out w5 HB5.out) HX.out
      unfold CopPost at hcp
      obtain ⟨x2, hx2⟩ : ∃ x2, x2 = copF x := ⟨_, rfl⟩
      rw [← hx2] at hcp
      have HCP := Lib.hid hcp
      have HX2 := Lib.hid (show x2.length % 4 = 0 by rw [hx2]; unfold copF; rw [if_pos HGD.out.symm]; exact padF_len _)
      have hrr : (rq == rq) = true := beq_self_eq_true rq
      clear hb5 hcp hx2
      go_wp2_with fail
      refine HCP.out.mono ?_
      rintro e w6 ⟨v6, rfl, h6, hb6⟩
      have HB6 := Lib.hid (HB5.out.trans (hb6.mono HB5.out.size))
      obtain ⟨A6, c6, rfl, _⟩ := h6.form
      obtain ⟨m6, hm6⟩ : ∃ m, m = x2.length := ⟨_, rfl⟩
      rw [← hm6]
      have h40 : (m6 : Int) % 4 = 0 := by have := HX2.out; omega
      have h41 : (m6 : Int).tmod 4 = 0 := by rw [Int.tmod_eq_emod_of_nonneg (by omega)]; exact h40
      clear h6 hb6 hm6
      go_wp2_with fail
      refine (HK.out _).mono ?_
      rintro e w9 ⟨rfl, hb9⟩
      have HB10 := Lib.hid (HB6.out.trans (hb9.mono HB6.out.size))
      clear hb9
      go_wp2_with fail
      go_ret
      exact ⟨rfl, HB10.out⟩
end Go.Proofs.Ytfddkehnhkfjeaa
