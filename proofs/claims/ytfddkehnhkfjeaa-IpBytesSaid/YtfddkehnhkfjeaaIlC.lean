/- IpOptions' walk. -/
import Derived.Test.YtfddkehnhkfjeaaIlB
import Derived.Test.YtfddkehnhkfjeaaRgX
namespace Go.Proofs.Ytfddkehnhkfjeaa
open Go.RowKit
theorem wanted_of {o : Oper} {val : Nat → Value} {g : Nat} {b : Bool} (hg : o.guard = some (g, b)) (hv : val g = .bool b) : wantedV o val = true := by
  unfold wantedV
  rw [hg]
  simp [hv]
def IopΦ (w0 : World) (A A1 A2 : Option Addr) (n c N1 c1 c2 : Nat) (gd rt : Bool) (x2 : By) : Nat → Value → World → Prop
  | 0, u, _ => u = .bool gd
  | 1, u, _ => u = .bool gd
  | 2, u, _ => u = .bool false
  | 3, u, _ => u = .bool false
  | 4, u, _ => u = .slice A1 N1 c1
  | 5, u, _ => u = .slice A2 N1 c2
  | 6, u, _ => u = .bool true
  | 7, u, _ => u = .bool false
  | 8, u, _ => u = .bool false
  | 9, u, _ => u = .bool false
  | 10, u, _ => u = .slice A n c
  | 11, u, w => Row8 w0.heap.size w u x2
  | 12, u, _ => u = .string ⟨x2.toArray⟩
  | 13, u, _ => u = .slice A n c
  | 14, u, w => Row8 w0.heap.size w u x2
  | 15, u, _ => u = .string ⟨x2.toArray⟩
  | 16, u, _ => u = .bool false
  | 17, u, _ => u = .bool false
  | 18, u, _ => u = .bool false
  | 19, u, _ => u = .slice A n c
  | 20, u, _ => u = .bool rt
  | 21, u, _ => u = .slice A n c
  | 22, u, _ => u = .bool rt
  | 23, u, _ => u = .bool false
  | 24, u, _ => u = .bool false
  | _, _, _ => True
theorem IopΦ.keep {w0 : World} {A A1 A2 : Option Addr} {n c N1 c1 c2 : Nat} {gd rt : Bool} {x2 : By} {wx wy : World} (hb : Below wx.heap.size wx wy) : ∀ j u, IopΦ w0 A A1 A2 n c N1 c1 c2 gd rt x2 j u wx → IopΦ w0 A A1 A2 n c N1 c1 c2 gd rt x2 j u wy := by
  intro j u h
  unfold IopΦ at h ⊢
  split at h
  all_goals first
    | exact h
    | exact Row8.below h hb
theorem opts_le (x : By) : (optsF x).length ≤ x.length := by
  unfold optsF
  split
  · unfold optsOf
    rw [List.length_map]
    exact Nat.le_trans (List.length_filter_le _ _) (steps_len x.length x (Nat.le_refl _))
  · exact Nat.zero_le _
theorem cop_le (x : By) : (copF x).length ≤ x.length + 3 := by
  unfold copF
  split
  · obtain ⟨z, hz⟩ := steps_prefix x.length x (Nat.le_refl _)
    have h1 := flat_high_le (steps x) (steps x).length
    rw [List.take_length] at h1
    have h2 : (flatF (steps x)).length ≤ x.length := by
      conv => rhs; rw [hz]
      simp
    unfold padF
    rw [List.length_append, List.length_replicate]
    omega
  · exact Nat.zero_le _
theorem filter_at {α : Type} {p : α → Bool} {L : List α} {k : Nat} {s : α} (hs : L[k]? = some s) : (p s = true → (L.filter p)[((L.take k).filter p).length]? = some s) ∧ ((L.take (k + 1)).filter p).length = ((L.take k).filter p).length + (if p s = true then 1 else 0) := by
  obtain ⟨hl, e⟩ := List.getElem?_eq_some_iff.1 hs
  constructor
  · intro hp
    have h1 : L.filter p = (L.take k).filter p ++ s :: (L.drop (k + 1)).filter p := by
      conv => lhs; rw [← List.take_append_drop k L, List.filter_append, List.drop_eq_getElem_cons hl, e, List.filter_cons_of_pos hp]
    rw [h1, List.getElem?_append_right (Nat.le_refl _), Nat.sub_self]
    rfl
  · rw [List.take_succ_eq_append_getElem hl, e, List.filter_append, List.length_append]
    congr 1
    by_cases hp : p s = true
    · rw [if_pos hp, List.filter_cons_of_pos hp]; rfl
    · rw [if_neg hp, List.filter_cons_of_neg hp]; rfl
set_option maxRecDepth 20000 in
set_option maxHeartbeats 1600000 in
theorem ipoptions_any (A : Option Addr) (n c : Nat) (x : By) (w : World) (h : Reads w (fun k => k < w.heap.size) 1 A n (bytesV x)) (hn : x.length = n) (hc : n ≤ c) :
    Calls Try.prog 4 #[.slice A n c] w fun e w' => e = .returned (.bool true) ∧ Below w.heap.size w w' := by
  have HN := Lib.hid hn
  have HC := Lib.hid hc
  have HK := Lib.hid (fun wx => known_any wx)
  have HH := Lib.hid h
  clear h hn hc
  go_enter Try.func4, Try.ntmps4
  by_cases hbig : 300 < n
  · have hg : decide ((300 : Int) < (n : Int)) = true := decide_eq_true (by omega)
    go_wp2_with fail
    refine (HK.out _).mono ?_
    rintro e w1 ⟨rfl, hb⟩
    have HB := Lib.hid hb
    clear hb
    go_wp2_with fail
    go_ret
    exact ⟨rfl, HB.out⟩
  have hg : decide ((300 : Int) < (n : Int)) = false := decide_eq_false (by omega)
  have HS := Lib.hid (show n ≤ 300 by omega)
  clear hbig
  have HA := Lib.hid (show ∀ wx, Below w.heap.size w wx → Sl8 wx (fun k => k < w.heap.size) (.slice A n c) x from fun wx hb => ⟨A, c, by rw [HN.out], by rw [HN.out]; exact HC.out, by rw [HN.out]; exact HH.out.keep (Same.ofBelow hb fun k hk => hk)⟩)
  have HX := Lib.hid (show x.length ≤ 1000000 by have := HN.out; have := HS.out; omega)
  obtain ⟨gd, hgd⟩ : ∃ g, g = goodF x := ⟨_, rfl⟩
  obtain ⟨rt, hrt⟩ : ∃ g, g = routedF x := ⟨_, rfl⟩
  obtain ⟨x2, hx2⟩ : ∃ g, g = copF x := ⟨_, rfl⟩
  obtain ⟨L, hL⟩ : ∃ g, g = optsF x := ⟨_, rfl⟩
  have HGD := Lib.hid hgd
  have HRT := Lib.hid hrt
  have HX2 := Lib.hid hx2
  have HL := Lib.hid hL
  clear hgd hrt hx2 hL
  have ho := options_any (.slice A n c) x _ w (HA.out w (Below.refl _ _)) HX.out
  unfold OptPost at ho
  rw [← HGD.out, ← HL.out] at ho
  have HO := Lib.hid ho
  clear ho
  go_wp2_with fail
  refine HO.out.mono ?_
  rintro e w1 ⟨v1, rfl, h1, hb1⟩
  have h1' := h1
  obtain ⟨us1, hu1, hd1⟩ := h1'
  obtain ⟨A1, c1, rfl, _⟩ := own_form hu1
  have hl1 : us1.length = L.length := hd1.len
  rw [hl1] at h1
  have HO1 := Lib.hid h1
  rw [hl1]
  have HB1 := Lib.hid hb1
  have hro := roptions_any A n c x _ w1 (HH.out.keep (Same.ofBelow hb1 fun k hk => hk)) HN.out HC.out (by have := HS.out; omega)
  unfold ROptPost at hro
  rw [← HGD.out, ← HL.out] at hro
  have HRO := Lib.hid hro
  clear h1 hu1 hd1 hl1 hb1 hro
  go_wp2_with fail
  refine HRO.out.mono ?_
  rintro e w2 ⟨v2, us2, rfl, hu2, he2, hb2⟩
  obtain ⟨A2, c2, rfl, _⟩ := own_form hu2
  have hl2 : us2.length = L.length := he2.len
  rw [hl2]
  have HB2 := Lib.hid (HB1.out.trans (hb2.mono HB1.out.size))
  have HO2 := Lib.hid (show OptR w.heap.size w2 (.slice A1 L.length c1) L from HO1.out.below hb2)
  have hv2 : OptV w2 (fun k => k < w2.heap.size) (.slice A2 L.length c2) L := by
    rw [hl2] at hu2
    refine ⟨A2, c2, us2, rfl, Reads.of_own hu2 fun g hg => (own_lt hu2 hg).2, he2.mono fun k hk => ?_⟩
    exact Nat.lt_of_lt_of_le hk.2 hb2.size
  have HV2 := Lib.hid hv2
  have hv1 : OptV w2 (fun k => k < w2.heap.size) (.slice A1 L.length c1) L := HO2.out.view fun k _ hk => hk
  have HV1 := Lib.hid hv1
  obtain ⟨N1, hN1⟩ : ∃ k, k = L.length := ⟨_, rfl⟩
  rw [← hN1]
  rw [← hN1] at HV1 HV2
  have HN1 := Lib.hid hN1
  have hLn : N1 ≤ 300 := by have := opts_le x; have := HN.out; have := HS.out; rw [hN1, HL.out]; omega
  have HLN := Lib.hid hLn
  have HS5 := Lib.hid (show ∀ wx, Below w2.heap.size w2 wx → Calls Try.prog 21 #[.slice A1 N1 c1, .slice A2 N1 c2] wx fun e w' => e = .returned (.bool true) ∧ Below wx.heap.size wx w' from fun wx hb => by
    have := sameopts_any _ _ L L (fun k => k < w2.heap.size) (fun k => k < w2.heap.size) wx (HV1.out.keep (Same.ofBelow hb fun k hk => hk)) (HV2.out.keep (Same.ofBelow hb fun k hk => hk)) (fun k hk => Nat.lt_of_lt_of_le hk hb.size) (fun k hk => Nat.lt_of_lt_of_le hk hb.size) (by rw [← HN1.out]; have := HLN.out; omega)
    rwa [decide_eq_true rfl] at this)
  have HA2 := Lib.hid (show ∀ wx, Below w2.heap.size w2 wx → Sl8 wx (fun k => k < w.heap.size) (.slice A n c) x from fun wx hb => HA.out wx (HB2.out.trans (hb.mono HB2.out.size)))
  have HC1 := Lib.hid (show ∀ wx, Below w2.heap.size w2 wx → Calls Try.prog 22 #[.slice A n c] wx (fun e w' => ∃ v, e = .returned v ∧ Row8 wx.heap.size w' v x2 ∧ Below wx.heap.size wx w') from fun wx hb => by rw [HX2.out]; exact copied_any _ x _ wx (HA2.out wx hb) HX.out)
  have HC2 := Lib.hid (show ∀ wx, Below w2.heap.size w2 wx → Calls Try.prog 23 #[.slice A n c] wx (fun e w' => ∃ v, e = .returned v ∧ Row8 wx.heap.size w' v x2 ∧ Below wx.heap.size wx w') from fun wx hb => by
    have h8 := ((by have := HA2.out wx hb; exact this.len.2.2) : Reads wx (fun k => k < w.heap.size) 1 A x.length (bytesV x))
    rw [HN.out] at h8
    rw [HX2.out]; exact rcopied_any A n c x _ wx h8 HN.out HC.out (by have := HS.out; omega))
  have HR1 := Lib.hid (show ∀ wx, Below w2.heap.size w2 wx → Calls Try.prog 24 #[.slice A n c] wx (fun e w' => e = .returned (.bool rt) ∧ Below wx.heap.size wx w') from fun wx hb => by rw [HRT.out]; exact routed_any _ x _ wx (HA2.out wx hb) HX.out)
  have HR2 := Lib.hid (show ∀ wx, Below w2.heap.size w2 wx → Calls Try.prog 25 #[.slice A n c] wx (fun e w' => e = .returned (.bool rt) ∧ Below wx.heap.size wx w') from fun wx hb => by
    have h8 := ((by have := HA2.out wx hb; exact this.len.2.2) : Reads wx (fun k => k < w.heap.size) 1 A x.length (bytesV x))
    rw [HN.out] at h8
    rw [HRT.out]; exact rrouted_any A n c x _ wx h8 HN.out (by have := HS.out; omega))
  have HLE := HS
  have HS := HS5
  clear hu2 he2 hb2 hl2 hv1 hv2 hN1 hLn HS5
  go_wp2_with fail
  refine wp_region_rel (by kernel_rfl) (fun p q => Below w2.heap.size p q) (IopΦ w2 A A1 A2 n c N1 c1 c2 gd rt x2) 25 (fun _ _ => True) (fun _ _ => false) (by kernel_rfl) (fun p => Below.refl _ p) (fun h k => h.trans k) (obl_of ?_) (fun o h => by cases h) ?_
  · refine ⟨fun _ => ?_, fun _ => ?_, fun _ => ?_, fun _ => ?_, fun _ => ?_, fun _ => ?_, fun _ => ?_, fun _ => ?_, fun _ => ?_, fun _ => ?_, fun _ => ?_, fun _ => ?_, fun _ => ?_, fun _ => ?_, fun _ => ?_, fun _ => ?_, fun _ => ?_, fun _ => ?_, fun _ => ?_, fun _ => ?_, fun _ => ?_, fun _ => ?_, fun _ => ?_, fun _ => ?_, fun _ => ?_, trivial⟩
    · -- 0
      intro val wx hg hd hb hs K hK
      generalize hρ : rhoV _ _ val = ρ
      have cc : ∀ u, ρ (.const u) = u := fun u => by rw [← hρ]; rfl
      have ff : ∀ u, ρ (.func u) = .func (.func u) #[] #[] := fun u => by rw [← hρ]; rfl
      have r4 : ρ (.tmp 4) = .bool gd := by rw [← hρ]; rfl
      clear hρ hd hb hs
      refine ifv rfl ?_
      go_simp
      exact hK _ _ (Below.refl _ _) rfl fun _ _ _ _ h => h
    · -- 1
      intro val wx hg hd hb hs K hK
      generalize hρ : rhoV _ _ val = ρ
      have cc : ∀ u, ρ (.const u) = u := fun u => by rw [← hρ]; rfl
      have ff : ∀ u, ρ (.func u) = .func (.func u) #[] #[] := fun u => by rw [← hρ]; rfl
      have r6 : ρ (.tmp 6) = .bool gd := by rw [← hρ]; rfl
      clear hρ hd hb hs
      refine ifv rfl ?_
      go_simp
      exact hK _ _ (Below.refl _ _) rfl fun _ _ _ _ h => h
    · -- 2
      intro val wx hg hd hb hs K hK
      generalize hρ : rhoV _ _ val = ρ
      have cc : ∀ u, ρ (.const u) = u := fun u => by rw [← hρ]; rfl
      have ff : ∀ u, ρ (.func u) = .func (.func u) #[] #[] := fun u => by rw [← hρ]; rfl
      have r25 : ρ (.tmp 25) = .bool gd := by rw [← hρ]; exact hd 0 rfl rfl
      have r26 : ρ (.tmp 26) = .bool gd := by rw [← hρ]; exact hd 1 rfl rfl
      have hgd : (gd != gd) = false := bne_self_eq_false gd
      clear hρ hd hb hs
      refine ifv rfl ?_
      go_simp
      exact hK _ _ (Below.refl _ _) rfl fun _ _ _ _ h => h
    · -- 3
      intro val wx hg hd hb hs K hK
      generalize hρ : rhoV _ _ val = ρ
      have cc : ∀ u, ρ (.const u) = u := fun u => by rw [← hρ]; rfl
      have ff : ∀ u, ρ (.func u) = .func (.func u) #[] #[] := fun u => by rw [← hρ]; rfl
      have r27 : ρ (.tmp 27) = .bool false := by rw [← hρ]; exact hd 2 rfl rfl
      clear hρ hd hb hs
      refine ifv rfl ?_
      go_simp
      exact hK _ _ (Below.refl _ _) rfl fun _ _ _ _ h => h
    · -- 4
      intro val wx hg hd hb hs K hK
      generalize hρ : rhoV _ _ val = ρ
      have cc : ∀ u, ρ (.const u) = u := fun u => by rw [← hρ]; rfl
      have ff : ∀ u, ρ (.func u) = .func (.func u) #[] #[] := fun u => by rw [← hρ]; rfl
      have r3 : ρ (.tmp 3) = .slice A1 N1 c1 := by rw [← hρ]; rfl
      have hgv : val 3 = .bool false := hd 3 rfl rfl
      clear hρ hd hb hs
      refine ifv (wanted_of (g := 3) (b := false) rfl hgv) ?_
      go_simp
      exact hK _ _ (Below.refl _ _) rfl fun _ _ _ _ h => h
    · -- 5
      intro val wx hg hd hb hs K hK
      generalize hρ : rhoV _ _ val = ρ
      have cc : ∀ u, ρ (.const u) = u := fun u => by rw [← hρ]; rfl
      have ff : ∀ u, ρ (.func u) = .func (.func u) #[] #[] := fun u => by rw [← hρ]; rfl
      have r5 : ρ (.tmp 5) = .slice A2 N1 c2 := by rw [← hρ]; rfl
      have hgv : val 3 = .bool false := hd 3 rfl rfl
      clear hρ hd hb hs
      refine ifv (wanted_of (g := 3) (b := false) rfl hgv) ?_
      go_simp
      exact hK _ _ (Below.refl _ _) rfl fun _ _ _ _ h => h
    · -- 6
      intro val wx hg hd hb hs K hK
      generalize hρ : rhoV _ _ val = ρ
      have cc : ∀ u, ρ (.const u) = u := fun u => by rw [← hρ]; rfl
      have ff : ∀ u, ρ (.func u) = .func (.func u) #[] #[] := fun u => by rw [← hρ]; rfl
      have r29 : ρ (.tmp 29) = .slice A1 N1 c1 := by rw [← hρ]; exact hd 4 rfl rfl
      have r30 : ρ (.tmp 30) = .slice A2 N1 c2 := by rw [← hρ]; exact hd 5 rfl rfl
      have hgv : val 3 = .bool false := hd 3 rfl rfl
      have hc := HS.out wx (show Below w2.heap.size w2 wx from ⟨hg.os, hg.tape, hg.output, hg.size, hg.block⟩)
      clear hρ hd hb hs
      refine ifv (wanted_of (g := 3) (b := false) rfl hgv) ?_
      go_simp
      refine hc.mono ?_
      rintro e w2 ⟨rfl, hb2⟩
      exact ⟨_, rfl, hK _ _ (hb2.mono hg.size) rfl fun j _ _ _ h => IopΦ.keep hb2 j _ h⟩
    · -- 7
      intro val wx hg hd hb hs K hK
      generalize hρ : rhoV _ _ val = ρ
      have cc : ∀ u, ρ (.const u) = u := fun u => by rw [← hρ]; rfl
      have ff : ∀ u, ρ (.func u) = .func (.func u) #[] #[] := fun u => by rw [← hρ]; rfl
      have r31 : ρ (.tmp 31) = .bool true := by rw [← hρ]; exact hd 6 rfl rfl
      have hgv : val 3 = .bool false := hd 3 rfl rfl
      clear hρ hd hb hs
      refine ifv (wanted_of (g := 3) (b := false) rfl hgv) ?_
      go_simp
      exact hK _ _ (Below.refl _ _) rfl fun _ _ _ _ h => h
    · -- 8
      intro val wx hg hd hb hs K hK
      generalize hρ : rhoV _ _ val = ρ
      have cc : ∀ u, ρ (.const u) = u := fun u => by rw [← hρ]; rfl
      have ff : ∀ u, ρ (.func u) = .func (.func u) #[] #[] := fun u => by rw [← hρ]; rfl
      have r28 : ρ (.tmp 28) = .bool false := by rw [← hρ]; exact hd 3 rfl rfl
      have r32 : ρ (.tmp 32) = .bool false := by rw [← hρ]; exact hd 7 rfl rfl
      clear hρ hd hb hs
      refine ifv rfl ?_
      go_simp
      exact hK _ _ (Below.refl _ _) rfl fun _ _ _ _ h => h
    · -- 9
      intro val wx hg hd hb hs K hK
      generalize hρ : rhoV _ _ val = ρ
      have cc : ∀ u, ρ (.const u) = u := fun u => by rw [← hρ]; rfl
      have ff : ∀ u, ρ (.func u) = .func (.func u) #[] #[] := fun u => by rw [← hρ]; rfl
      have r33 : ρ (.tmp 33) = .bool false := by rw [← hρ]; exact hd 8 rfl rfl
      clear hρ hd hb hs
      refine ifv rfl ?_
      go_simp
      exact hK _ _ (Below.refl _ _) rfl fun _ _ _ _ h => h
    · -- 10
      intro val wx hg hd hb hs K hK
      generalize hρ : rhoV _ _ val = ρ
      have cc : ∀ u, ρ (.const u) = u := fun u => by rw [← hρ]; rfl
      have ff : ∀ u, ρ (.func u) = .func (.func u) #[] #[] := fun u => by rw [← hρ]; rfl
      have r0 : ρ (.tmp 0) = .slice A n c := by rw [← hρ]; rfl
      have hgv : val 9 = .bool false := hd 9 rfl rfl
      clear hρ hd hb hs
      refine ifv (wanted_of (g := 9) (b := false) rfl hgv) ?_
      go_simp
      exact hK _ _ (Below.refl _ _) rfl fun _ _ _ _ h => h
    · -- 11
      intro val wx hg hd hb hs K hK
      generalize hρ : rhoV _ _ val = ρ
      have cc : ∀ u, ρ (.const u) = u := fun u => by rw [← hρ]; rfl
      have ff : ∀ u, ρ (.func u) = .func (.func u) #[] #[] := fun u => by rw [← hρ]; rfl
      have r35 : ρ (.tmp 35) = .slice A n c := by rw [← hρ]; exact hd 10 rfl rfl
      have hgv : val 9 = .bool false := hd 9 rfl rfl
      have hc := HC1.out wx (show Below w2.heap.size w2 wx from ⟨hg.os, hg.tape, hg.output, hg.size, hg.block⟩)
      have hsz := hg.size
      clear hρ hd hb hs
      refine ifv (wanted_of (g := 9) (b := false) rfl hgv) ?_
      go_simp
      refine hc.mono ?_
      rintro e w2 ⟨v2, rfl, h2, hb2⟩
      exact ⟨_, rfl, hK _ _ (hb2.mono hsz) (own_base h2 hsz) fun j _ _ _ h => IopΦ.keep hb2 j _ h⟩
    · -- 12
      intro val wx hg hd hb hs K hK
      generalize hρ : rhoV _ _ val = ρ
      have cc : ∀ u, ρ (.const u) = u := fun u => by rw [← hρ]; rfl
      have ff : ∀ u, ρ (.func u) = .func (.func u) #[] #[] := fun u => by rw [← hρ]; rfl
      have r36 : ρ (.tmp 36) = val 11 := by rw [← hρ]; rfl
      have p11 := hd 11 rfl rfl
      have hgv : val 9 = .bool false := hd 9 rfl rfl
      have q : Row8 w2.heap.size wx (val 11) x2 := p11
      obtain ⟨Aq, cq, eq, _⟩ := q.form
      rw [eq] at q r36
      have hs8 := run_str wx _ Aq x2 cq (row_reads q)
      clear hρ hd hb hs p11 q
      refine ifv (wanted_of (g := 9) (b := false) rfl hgv) ?_
      go_simp
      exact hK _ _ (Below.refl _ _) rfl fun _ _ _ _ h => h
    · -- 13
      intro val wx hg hd hb hs K hK
      generalize hρ : rhoV _ _ val = ρ
      have cc : ∀ u, ρ (.const u) = u := fun u => by rw [← hρ]; rfl
      have ff : ∀ u, ρ (.func u) = .func (.func u) #[] #[] := fun u => by rw [← hρ]; rfl
      have r0 : ρ (.tmp 0) = .slice A n c := by rw [← hρ]; rfl
      have hgv : val 9 = .bool false := hd 9 rfl rfl
      clear hρ hd hb hs
      refine ifv (wanted_of (g := 9) (b := false) rfl hgv) ?_
      go_simp
      exact hK _ _ (Below.refl _ _) rfl fun _ _ _ _ h => h
    · -- 14
      intro val wx hg hd hb hs K hK
      generalize hρ : rhoV _ _ val = ρ
      have cc : ∀ u, ρ (.const u) = u := fun u => by rw [← hρ]; rfl
      have ff : ∀ u, ρ (.func u) = .func (.func u) #[] #[] := fun u => by rw [← hρ]; rfl
      have r38 : ρ (.tmp 38) = .slice A n c := by rw [← hρ]; exact hd 13 rfl rfl
      have hgv : val 9 = .bool false := hd 9 rfl rfl
      have hc := HC2.out wx (show Below w2.heap.size w2 wx from ⟨hg.os, hg.tape, hg.output, hg.size, hg.block⟩)
      have hsz := hg.size
      clear hρ hd hb hs
      refine ifv (wanted_of (g := 9) (b := false) rfl hgv) ?_
      go_simp
      refine hc.mono ?_
      rintro e w2 ⟨v2, rfl, h2, hb2⟩
      exact ⟨_, rfl, hK _ _ (hb2.mono hsz) (own_base h2 hsz) fun j _ _ _ h => IopΦ.keep hb2 j _ h⟩
    · -- 15
      intro val wx hg hd hb hs K hK
      generalize hρ : rhoV _ _ val = ρ
      have cc : ∀ u, ρ (.const u) = u := fun u => by rw [← hρ]; rfl
      have ff : ∀ u, ρ (.func u) = .func (.func u) #[] #[] := fun u => by rw [← hρ]; rfl
      have r39 : ρ (.tmp 39) = val 14 := by rw [← hρ]; rfl
      have p14 := hd 14 rfl rfl
      have hgv : val 9 = .bool false := hd 9 rfl rfl
      have q : Row8 w2.heap.size wx (val 14) x2 := p14
      obtain ⟨Aq, cq, eq, _⟩ := q.form
      rw [eq] at q r39
      have hs8 := run_str wx _ Aq x2 cq (row_reads q)
      clear hρ hd hb hs p14 q
      refine ifv (wanted_of (g := 9) (b := false) rfl hgv) ?_
      go_simp
      exact hK _ _ (Below.refl _ _) rfl fun _ _ _ _ h => h
    · -- 16
      intro val wx hg hd hb hs K hK
      generalize hρ : rhoV _ _ val = ρ
      have cc : ∀ u, ρ (.const u) = u := fun u => by rw [← hρ]; rfl
      have ff : ∀ u, ρ (.func u) = .func (.func u) #[] #[] := fun u => by rw [← hρ]; rfl
      have r37 : ρ (.tmp 37) = .string ⟨x2.toArray⟩ := by rw [← hρ]; exact hd 12 rfl rfl
      have r40 : ρ (.tmp 40) = .string ⟨x2.toArray⟩ := by rw [← hρ]; exact hd 15 rfl rfl
      have hgv : val 9 = .bool false := hd 9 rfl rfl
      clear hρ hd hb hs
      refine ifv (wanted_of (g := 9) (b := false) rfl hgv) ?_
      go_simp
      exact hK _ _ (Below.refl _ _) rfl fun _ _ _ _ h => h
    · -- 17
      intro val wx hg hd hb hs K hK
      generalize hρ : rhoV _ _ val = ρ
      have cc : ∀ u, ρ (.const u) = u := fun u => by rw [← hρ]; rfl
      have ff : ∀ u, ρ (.func u) = .func (.func u) #[] #[] := fun u => by rw [← hρ]; rfl
      have r34 : ρ (.tmp 34) = .bool false := by rw [← hρ]; exact hd 9 rfl rfl
      have r41 : ρ (.tmp 41) = .bool false := by rw [← hρ]; exact hd 16 rfl rfl
      clear hρ hd hb hs
      refine ifv rfl ?_
      go_simp
      exact hK _ _ (Below.refl _ _) rfl fun _ _ _ _ h => h
    · -- 18
      intro val wx hg hd hb hs K hK
      generalize hρ : rhoV _ _ val = ρ
      have cc : ∀ u, ρ (.const u) = u := fun u => by rw [← hρ]; rfl
      have ff : ∀ u, ρ (.func u) = .func (.func u) #[] #[] := fun u => by rw [← hρ]; rfl
      have r42 : ρ (.tmp 42) = .bool false := by rw [← hρ]; exact hd 17 rfl rfl
      clear hρ hd hb hs
      refine ifv rfl ?_
      go_simp
      exact hK _ _ (Below.refl _ _) rfl fun _ _ _ _ h => h
    · -- 19
      intro val wx hg hd hb hs K hK
      generalize hρ : rhoV _ _ val = ρ
      have cc : ∀ u, ρ (.const u) = u := fun u => by rw [← hρ]; rfl
      have ff : ∀ u, ρ (.func u) = .func (.func u) #[] #[] := fun u => by rw [← hρ]; rfl
      have r0 : ρ (.tmp 0) = .slice A n c := by rw [← hρ]; rfl
      have hgv : val 18 = .bool false := hd 18 rfl rfl
      clear hρ hd hb hs
      refine ifv (wanted_of (g := 18) (b := false) rfl hgv) ?_
      go_simp
      exact hK _ _ (Below.refl _ _) rfl fun _ _ _ _ h => h
    · -- 20
      intro val wx hg hd hb hs K hK
      generalize hρ : rhoV _ _ val = ρ
      have cc : ∀ u, ρ (.const u) = u := fun u => by rw [← hρ]; rfl
      have ff : ∀ u, ρ (.func u) = .func (.func u) #[] #[] := fun u => by rw [← hρ]; rfl
      have r44 : ρ (.tmp 44) = .slice A n c := by rw [← hρ]; exact hd 19 rfl rfl
      have hgv : val 18 = .bool false := hd 18 rfl rfl
      have hc := HR1.out wx (show Below w2.heap.size w2 wx from ⟨hg.os, hg.tape, hg.output, hg.size, hg.block⟩)
      clear hρ hd hb hs
      refine ifv (wanted_of (g := 18) (b := false) rfl hgv) ?_
      go_simp
      refine hc.mono ?_
      rintro e w2 ⟨rfl, hb2⟩
      exact ⟨_, rfl, hK _ _ (hb2.mono hg.size) rfl fun j _ _ _ h => IopΦ.keep hb2 j _ h⟩
    · -- 21
      intro val wx hg hd hb hs K hK
      generalize hρ : rhoV _ _ val = ρ
      have cc : ∀ u, ρ (.const u) = u := fun u => by rw [← hρ]; rfl
      have ff : ∀ u, ρ (.func u) = .func (.func u) #[] #[] := fun u => by rw [← hρ]; rfl
      have r0 : ρ (.tmp 0) = .slice A n c := by rw [← hρ]; rfl
      have hgv : val 18 = .bool false := hd 18 rfl rfl
      clear hρ hd hb hs
      refine ifv (wanted_of (g := 18) (b := false) rfl hgv) ?_
      go_simp
      exact hK _ _ (Below.refl _ _) rfl fun _ _ _ _ h => h
    · -- 22
      intro val wx hg hd hb hs K hK
      generalize hρ : rhoV _ _ val = ρ
      have cc : ∀ u, ρ (.const u) = u := fun u => by rw [← hρ]; rfl
      have ff : ∀ u, ρ (.func u) = .func (.func u) #[] #[] := fun u => by rw [← hρ]; rfl
      have r46 : ρ (.tmp 46) = .slice A n c := by rw [← hρ]; exact hd 21 rfl rfl
      have hgv : val 18 = .bool false := hd 18 rfl rfl
      have hc := HR2.out wx (show Below w2.heap.size w2 wx from ⟨hg.os, hg.tape, hg.output, hg.size, hg.block⟩)
      clear hρ hd hb hs
      refine ifv (wanted_of (g := 18) (b := false) rfl hgv) ?_
      go_simp
      refine hc.mono ?_
      rintro e w2 ⟨rfl, hb2⟩
      exact ⟨_, rfl, hK _ _ (hb2.mono hg.size) rfl fun j _ _ _ h => IopΦ.keep hb2 j _ h⟩
    · -- 23
      intro val wx hg hd hb hs K hK
      generalize hρ : rhoV _ _ val = ρ
      have cc : ∀ u, ρ (.const u) = u := fun u => by rw [← hρ]; rfl
      have ff : ∀ u, ρ (.func u) = .func (.func u) #[] #[] := fun u => by rw [← hρ]; rfl
      have r45 : ρ (.tmp 45) = .bool rt := by rw [← hρ]; exact hd 20 rfl rfl
      have r47 : ρ (.tmp 47) = .bool rt := by rw [← hρ]; exact hd 22 rfl rfl
      have hgv : val 18 = .bool false := hd 18 rfl rfl
      have hgd : (rt != rt) = false := bne_self_eq_false rt
      clear hρ hd hb hs
      refine ifv (wanted_of (g := 18) (b := false) rfl hgv) ?_
      go_simp
      exact hK _ _ (Below.refl _ _) rfl fun _ _ _ _ h => h
    · -- 24
      intro val wx hg hd hb hs K hK
      generalize hρ : rhoV _ _ val = ρ
      have cc : ∀ u, ρ (.const u) = u := fun u => by rw [← hρ]; rfl
      have ff : ∀ u, ρ (.func u) = .func (.func u) #[] #[] := fun u => by rw [← hρ]; rfl
      have r43 : ρ (.tmp 43) = .bool false := by rw [← hρ]; exact hd 18 rfl rfl
      have r48 : ρ (.tmp 48) = .bool false := by rw [← hρ]; exact hd 23 rfl rfl
      clear hρ hd hb hs
      refine ifv rfl ?_
      go_simp
      exact hK _ _ (Below.refl _ _) rfl fun _ _ _ _ h => h
  · intro val w9 h9
    rw [if_neg (by decide)] at h9
    obtain ⟨hb9, h9⟩ := h9
    have p9 : val 24 = .bool false := h9 24 (by decide) fun _ _ => rfl
    have HB9 := Lib.hid (show Below w2.heap.size w2 w9 from ⟨hb9.os, hb9.tape, hb9.output, hb9.size, hb9.block⟩)
    clear hb9 h9
    simp only [putAll, p9]
    simp only [Act.put, List.setIfInBounds_toArray, List.set_cons_succ, List.set_cons_zero]
    clear p9
    generalize val 0 = y0, val 1 = y1, val 2 = y2, val 3 = y3, val 4 = y4, val 5 = y5, val 6 = y6, val 7 = y7, val 8 = y8, val 9 = y9, val 10 = y10, val 11 = y11, val 12 = y12, val 13 = y13, val 14 = y14, val 15 = y15, val 16 = y16, val 17 = y17, val 18 = y18, val 19 = y19, val 20 = y20, val 21 = y21, val 22 = y22, val 23 = y23
    go_wp2_with fail
    refine (HC1.out _ HB9.out).mono ?_
    rintro e w3 ⟨vc, rfl, hvc, hb3⟩
    have hb3' := HB9.out.trans (hb3.mono HB9.out.size)
    have hx2l : x2.length ≤ 1000000 := by have := cop_le x; have := HN.out; have := HLE.out; rw [HX2.out]; omega
    have hoc := options_any vc x2 _ w3 hvc.sl hx2l
    unfold OptPost at hoc
    have hg2 : goodF x2 = true := by rw [HX2.out]; exact good_cop x
    have ho2 : optsF x2 = L.filter fun s => decide (128 ≤ s.1) := by rw [HX2.out, HL.out]; exact opts_cop x
    rw [hg2, ho2] at hoc
    have HOC := Lib.hid hoc
    have HB3 := Lib.hid hb3'
    obtain ⟨Ac, cc, rfl, _⟩ := hvc.form
    clear hb3 hb3' hx2l hoc hg2 ho2 hvc
    go_wp2_with fail
    refine HOC.out.mono ?_
    rintro e w4 ⟨va, rfl, h4, hb4⟩
    obtain ⟨M, hM⟩ : ∃ M, M = L.filter fun s => decide (128 ≤ s.1) := ⟨_, rfl⟩
    rw [← hM] at h4
    have h4' := h4
    obtain ⟨us4, hu4, hd4⟩ := h4'
    obtain ⟨A4, c4, rfl, _⟩ := own_form hu4
    have hl4 : us4.length = M.length := hd4.len
    rw [hl4] at h4
    rw [hl4]
    have hb4' := HB3.out.trans (hb4.mono HB3.out.size)
    have hv4 : OptV w4 (fun k => k < w4.heap.size) (.slice A4 M.length c4) M := h4.view fun k _ hk => hk
    have hv14 : OptV w4 (fun k => k < w4.heap.size) (.slice A1 N1 c1) L := (HV1.out.keep (Same.ofBelow hb4' fun k hk => hk)).mono fun k hk => Nat.lt_of_lt_of_le hk hb4'.size
    have HB4 := Lib.hid (HB2.out.trans (hb4'.mono HB2.out.size))
    obtain ⟨N4, hN4⟩ : ∃ k, k = M.length := ⟨_, rfl⟩
    rw [← hN4] at hv4
    rw [← hN4]
    obtain ⟨A4', c4', us4', e4, hr4, he4⟩ := hv4
    injection e4 with e41 e42 e43
    subst e41 e43
    rw [← hN4] at hr4
    obtain ⟨A1', c1', us1', e1, hr1, he1⟩ := hv14
    injection e1 with e11 e12 e13
    subst e11 e13
    rw [← HN1.out] at hr1
    have HR4 := Lib.hid hr4
    have HE4 := Lib.hid he4
    have HR1 := Lib.hid hr1
    have HE1 := Lib.hid he1
    have HM := Lib.hid hM
    have HN4 := Lib.hid hN4
    clear hb4 hb4' h4 hu4 hd4 hl4 hM hN4 hr4 he4 hr1 he1 e42 e12
    have hN4 : N4 ≤ 300 := by have := List.length_filter_le (fun s : UInt8 × By => decide (128 ≤ s.1)) L; rw [HN4.out, HM.out]; have := HLN.out; have := HN1.out; omega
    have HN4L := Lib.hid hN4
    clear hN4
    go_wp2_with fail
    go_loopw [9, 10] (fun m i wr => ∃ k : Nat, k ≤ N1 ∧ i = .int .i64 (k : Int) ∧ m = .int .i64 ((((L.take k).filter fun s => decide (128 ≤ s.1)).length : Nat) : Int) ∧ Below w4.heap.size w4 wr) (fun _ i _ => N1 - (intOf i).toNat)
    case atStart => exact ⟨0, Nat.zero_le _, rfl, rfl, Below.refl _ _⟩
    case round =>
      obtain ⟨k, hk, rfl, rfl, hb⟩ := hrel
      have HB := Lib.hid hb
      clear hb
      by_cases hlt : k < N1
      · obtain ⟨s, hs⟩ : ∃ s, L[k]? = some s := ⟨L[k]'(by rw [← HN1.out]; exact hlt), List.getElem?_eq_getElem _⟩
        obtain ⟨ad, rfl, _, _⟩ := HR1.out.2 (by omega)
        obtain ⟨A5, c5, hc5⟩ := opt_cells HR1.out HE1.out (fun k hk => hk) hs hlt
        obtain ⟨f1, f2⟩ := filter_at (p := fun s : UInt8 × By => decide (128 ≤ s.1)) hs
        obtain ⟨q, hq⟩ : ∃ q, q = ((L.take k).filter fun s => decide (128 ≤ s.1)).length := ⟨_, rfl⟩
        rw [← hq] at f1 f2 ⊢
        have hw : ∀ q, Below w4.heap.size w4 (wr.drewN q) := fun q => ⟨HB.out.os, HB.out.tape, HB.out.output, HB.out.size, HB.out.block⟩
        obtain ⟨m5, hm5⟩ : ∃ m, m = s.2.length := ⟨_, rfl⟩
        obtain ⟨b5, hb5⟩ : ∃ b, b = s.1.toNat := ⟨_, rfl⟩
        obtain ⟨x5, hx5⟩ : ∃ x, x = s.2 := ⟨_, rfl⟩
        rw [← hb5, ← hm5, ← hx5] at hc5
        have a1 := (hc5 wr HB.out).1
        have a2 := (hc5 wr HB.out).2.1
        have a3 := fun q => (hc5 _ (hw q)).2.2
        have hi0 : (0 : Int) ≤ k := by omega
        have hi1 : (k : Int) < N1 := by omega
        have hi2 : (k : Int) < 300 := by have := HLN.out; omega
        have hd0 : decide ((k : Int) < (N1 : Int)) = true := decide_eq_true (by omega)
        have hd1 : decide (k < N1) = true := decide_eq_true hlt
        have h128 : (128 ≤ s.1) ↔ 128 ≤ b5 := by rw [hb5, UInt8.le_iff_toNat_le]; rfl
        by_cases h8 : 128 ≤ b5
        · have d8 : decide ((128 : Int) ≤ (b5 : Int)) = true := decide_eq_true (by omega)
          have hp : decide (128 ≤ s.1) = true := decide_eq_true (h128.2 h8)
          have f3 := f1 hp
          rw [if_pos hp] at f2
          rw [← HM.out] at f3
          have hqN : q < N4 := by rw [HN4.out]; exact (List.getElem?_eq_some_iff.1 f3).1
          have hq63 : (q : Int) < 300 := by have := HN4L.out; omega
          obtain ⟨ae, rfl, _, _⟩ := HR4.out.2 (by omega)
          obtain ⟨A6, c6, hc6⟩ := opt_cells HR4.out HE4.out (fun k hk => hk) f3 hqN
          rw [← hb5, ← hm5, ← hx5] at hc6
          have a4 := (hc6 wr HB.out).1
          have a5 := (hc6 wr HB.out).2.1
          have a6 := fun q => (hc6 _ (hw q)).2.2
          have hj0 : (0 : Int) ≤ q := by omega
          have hj1 : (q : Int) < N4 := by omega
          have hj2 : decide ((N4 : Int) ≤ (q : Int)) = false := decide_eq_false (by omega)
          have hj3 : decide (N4 ≤ q) = false := decide_eq_false (by omega)
          have HF2 := Lib.hid f2
          have HBQ := Lib.hid hw
          clear f1 f2 f3 hs hc5 hc6 hw hm5 hb5 hx5 h128 hp hq
          go_wp2_with fail
          go_quiet (fail)
          have HB2 := Lib.hid (HBQ.out nq)
          go_wp2_with fail
          go_roundw
          case rel => exact ⟨k + 1, by omega, rfl, by rw [HF2.out]; rfl, HB2.out⟩
          case measure => simp [intOf]; omega
        · have d8 : decide ((128 : Int) ≤ (b5 : Int)) = false := decide_eq_false (by omega)
          have hp : ¬ decide (128 ≤ s.1) = true := fun e => h8 (h128.1 (of_decide_eq_true e))
          rw [if_neg hp] at f2
          have HF2 := Lib.hid f2
          clear f1 f2 hs hc5 hw hm5 hb5 hx5 h128 hp hq
          go_wp2_with fail
          go_roundw
          case rel => exact ⟨k + 1, by omega, rfl, by rw [HF2.out]; rfl, HB.out⟩
          case measure => simp [intOf]; omega
      · obtain rfl : k = N1 := by omega
        have hd0 : decide ((k : Int) < (k : Int)) = false := decide_eq_false (by omega)
        have hd1 : decide (k < k) = false := decide_eq_false (by omega)
        have hq : ((L.take k).filter fun s => decide (128 ≤ s.1)).length = N4 := by rw [HN1.out, List.take_length, HN4.out, HM.out]
        rw [hq]
        have hB5 := HB4.out.trans (HB.out.mono HB4.out.size)
        have HB5 := Lib.hid hB5
        clear hq hB5
        go_wp2_with fail
        refine (HK.out _).mono ?_
        rintro e w9 ⟨rfl, hb9⟩
        have HB10 := Lib.hid (HB5.out.trans (hb9.mono HB5.out.size))
        clear hb9
        go_wp2_with fail
        go_ret
        exact ⟨rfl, HB10.out⟩
end Go.Proofs.Ytfddkehnhkfjeaa
