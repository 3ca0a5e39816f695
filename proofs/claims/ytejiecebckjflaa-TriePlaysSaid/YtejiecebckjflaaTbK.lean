/- The document's table: Delete. -/
import Derived.Test.YtejiecebckjflaaTbJ
namespace Go.Proofs.Ytejiecebckjflaa
open Go.RowKit Go.Sort Go.BigFrame
attribute [local go_sem] comesV_value comesV_skip comesV_enter
/-- What the operations of Delete's region leave. -/
def DelΦ (B wb : Nat) (A : Option Addr) (n cap k : Nat) (xs : List Value) : Nat → Value → World → Prop
  | 0, u, _ => u = .pointer (some ⟨wb, 0, none⟩)
  | 1, u, _ => u = .pointer (some ⟨wb, 0, none⟩)
  | 2, u, _ => u = .pointer (some ⟨wb, 0, none⟩)
  | 3, u, _ => u = .pointer (some ⟨wb, 0, none⟩)
  | 4, u, _ => u = .slice A n cap
  | 5, u, _ => u = .int .i64 (k : Int)
  | 6, u, _ => u = .slice A k cap
  | 7, u, w => w.ownsRow B 91 3 u k (xs.take (k * 3))
  | 8, u, _ => u = .pointer (some ⟨wb, 0, none⟩)
  | 9, u, _ => u = .pointer (some ⟨wb, 0, none⟩)
  | 10, u, _ => u = .pointer (some ⟨wb, 0, none⟩)
  | 11, u, _ => u = .slice A n cap
  | 12, u, _ => u = .int .i64 (k : Int)
  | 13, u, _ => u = .int .i64 ((k + 1 : Nat) : Int)
  | 14, u, _ => u = .slice (if cap = k + 1 then A else A.map (·.add ((k + 1) * 3))) (n - (k + 1)) (cap - (k + 1))
  | 15, u, w => w.ownsRow B 91 3 u (k + (n - (k + 1))) (xs.take (k * 3) ++ xs.drop ((k + 1) * 3))
  | 16, u, _ => u = .pointer (some ⟨wb, 0, none⟩)
  | 17, u, _ => u = .pointer (some ⟨wb, 0, none⟩)
  | _, _, _ => True
def delDead (i j : Nat) : Bool := i == 15 && j == 7
theorem DelΦ.keep {B wb : Nat} {A : Option Addr} {n cap k : Nat} {xs : List Value} {wx wy : World} (hb : Below wx.heap.size wx wy) : ∀ j u, DelΦ B wb A n cap k xs j u wx → DelΦ B wb A n cap k xs j u wy := by
  intro j u h
  unfold DelΦ at h ⊢
  split at h
  all_goals first
    | exact h
    | exact own_belowB h hb
theorem DelΦ.bare {B wb : Nat} {A : Option Addr} {n cap k : Nat} {xs : List Value} {w wy : World} {u : Value} : ∀ j, ¬ (j = 7 ∨ j = 15) → DelΦ B wb A n cap k xs j u w → DelΦ B wb A n cap k xs j u wy := by
  intro j hj h
  unfold DelΦ at h ⊢
  split at h
  all_goals first
    | exact h
    | (exfalso; omega)
theorem delS_mem {p : Bs} : ∀ {L : List (Bs × Int)} {e : Bs × Int}, e ∈ delS p L → e ∈ L := fun h => (List.mem_filter.1 h).1
theorem del_flat {L : List (Bs × Int)} {x : Px} (ha : x.a < 2 ^ 32) (hm : x.may = true) (hs : SortedB L) (h32 : ∀ e ∈ L, e.1.length ≤ 32) (hin : inP x L = true) :
    (L.flatMap entC).take (atP x L * 3) ++ (L.flatMap entC).drop ((atP x L + 1) * 3) = (delS (pB x) L).flatMap entC ∧ atP x L + (L.length - (atP x L + 1)) = (delS (pB x) L).length := by
  obtain ⟨b, hb, _⟩ := in_get hin
  have hlt := (List.getElem?_eq_some_iff.1 hb).1
  rw [delS_eq hs (by rw [← inP_may ha hm h32]; exact hin), ← atP_may ha hm h32, flat_take, flat_drop]
  constructor
  · rw [List.flatMap_append]
  · simp only [List.length_append, List.length_take, List.length_drop]
    omega

set_option maxRecDepth 100000 in
set_option maxHeartbeats 4000000 in
theorem tabdel_no (x : Px) (wb : Nat) (N : Nat → Prop) (lim : Int) (L : List (Bs × Int)) (w : World) (h : IsTab w N wb lim L) (ha : x.a < 2 ^ 32) (hm : x.may = false) :
    Calls Try.prog 41 #[.pointer (some ⟨wb, 0, none⟩), pxV x.a x.n] w fun e w' => e = .returned (.int .i64 2) ∧ TabYes w N wb lim (L) w' := by
  have HH := Lib.hid h
  have hb0 : Below w.heap.size w (w.alloc (.cells #[.int .u32 (x.a : Int), .int .i64 x.n] 31)) := (Below.refl _ _).alloc (Nat.le_refl _) _
  have hk0 : Blk (w.alloc (.cells #[.int .u32 (x.a : Int), .int .i64 x.n] 31)) w.heap.size 31 #[.int .u32 (x.a : Int), .int .i64 x.n] := Blk.new _ _ _
  have HB0 := Lib.hid hb0
  have HK0 := Lib.hid hk0
  have hmp := fun wx => mayp_any x wx ha
  rw [hm] at hmp
  have HMP := Lib.hid hmp
  have HM := Lib.hid hm
  clear hmp hb0 hk0 hm
  clear h
  go_enter Try.func41, Try.ntmps41
  go_wp2_with fail
  refine (HMP.out _).mono ?_
  rintro e w2 ⟨rfl, hb2⟩
  have HB2 := Lib.hid (HB0.out.trans (hb2.mono HB0.out.size))
  clear hb2
  go_wp2_with fail
  go_ret
  exact ⟨rfl, tabYes_below HH.out HB2.out⟩

set_option maxRecDepth 100000 in
set_option maxHeartbeats 4000000 in
theorem tabdel_none (x : Px) (wb : Nat) (N : Nat → Prop) (lim : Int) (L : List (Bs × Int)) (w : World) (h : IsTab w N wb lim L) (hsm : L.length ≤ 1000000) (ha : x.a < 2 ^ 32) (hm : x.may = true) (hin : inP x L = false) :
    Calls Try.prog 41 #[.pointer (some ⟨wb, 0, none⟩), pxV x.a x.n] w fun e w' => e = .returned (.int .i64 6) ∧ TabYes w N wb lim (L) w' := by
  have HH := Lib.hid h
  have hb0 : Below w.heap.size w (w.alloc (.cells #[.int .u32 (x.a : Int), .int .i64 x.n] 31)) := (Below.refl _ _).alloc (Nat.le_refl _) _
  have hk0 : Blk (w.alloc (.cells #[.int .u32 (x.a : Int), .int .i64 x.n] 31)) w.heap.size 31 #[.int .u32 (x.a : Int), .int .i64 x.n] := Blk.new _ _ _
  have HB0 := Lib.hid hb0
  have HK0 := Lib.hid hk0
  have hmp := fun wx => mayp_any x wx ha
  rw [hm] at hmp
  have HMP := Lib.hid hmp
  have HM := Lib.hid hm
  clear hmp hb0 hk0 hm
  have HAT := Lib.hid (fun (wx : World) (hx : Below w.heap.size w wx) => at_any x wb N lim L wx (h.below hx) hsm)
  have HIN := Lib.hid hin
  clear h hin
  go_enter Try.func41, Try.ntmps41
  go_wp2_with fail
  refine (HMP.out _).mono ?_
  rintro e w2 ⟨rfl, hb2⟩
  have hbx2 := HK0.out.below hb2 HK0.out.lt
  have HB2 := Lib.hid (HB0.out.trans (hb2.mono HB0.out.size))
  have y0 : w2.cell? ⟨w.heap.size, 0, none⟩ = some (.int .u32 (x.a : Int)) := hbx2.cell 0
  have y1 : w2.cell? ⟨w.heap.size, 1, none⟩ = some (.int .i64 x.n) := hbx2.cell 1
  clear hb2
  go_wp2_with fail
  refine (HAT.out _ HB2.out).mono ?_
  rintro e w3 ⟨rfl, hb3⟩
  have HB3 := Lib.hid (HB2.out.trans (hb3.mono HB2.out.size))
  have h3 := HH.out.below HB3.out
  rw [HIN.out]
  clear hb3 hbx2 y0 y1 h3
  go_wp2_with fail
  go_ret
  exact ⟨rfl, tabYes_below HH.out HB3.out⟩

set_option maxRecDepth 100000 in
set_option maxHeartbeats 4000000 in
theorem tabdel_yes (x : Px) (wb : Nat) (N : Nat → Prop) (lim : Int) (L : List (Bs × Int)) (w : World) (h : IsTab w N wb lim L) (hsm : L.length ≤ 1000000) (ha : x.a < 2 ^ 32) (hm : x.may = true) (hin : inP x L = true) :
    Calls Try.prog 41 #[.pointer (some ⟨wb, 0, none⟩), pxV x.a x.n] w fun e w' => e = .returned (.int .i64 0) ∧ TabYes w N wb lim (delS (pB x) L) w' := by
  have HH := Lib.hid h
  have hb0 : Below w.heap.size w (w.alloc (.cells #[.int .u32 (x.a : Int), .int .i64 x.n] 31)) := (Below.refl _ _).alloc (Nat.le_refl _) _
  have hk0 : Blk (w.alloc (.cells #[.int .u32 (x.a : Int), .int .i64 x.n] 31)) w.heap.size 31 #[.int .u32 (x.a : Int), .int .i64 x.n] := Blk.new _ _ _
  have HB0 := Lib.hid hb0
  have HK0 := Lib.hid hk0
  have hmp := fun wx => mayp_any x wx ha
  rw [hm] at hmp
  have HMP := Lib.hid hmp
  have HM := Lib.hid hm
  clear hmp hb0 hk0 hm
  have HAT := Lib.hid (fun (wx : World) (hx : Below w.heap.size w wx) => at_any x wb N lim L wx (h.below hx) hsm)
  have HIN := Lib.hid hin
  clear h hin
  go_enter Try.func41, Try.ntmps41
  go_wp2_with fail
  refine (HMP.out _).mono ?_
  rintro e w2 ⟨rfl, hb2⟩
  have hbx2 := HK0.out.below hb2 HK0.out.lt
  have HB2 := Lib.hid (HB0.out.trans (hb2.mono HB0.out.size))
  have y0 : w2.cell? ⟨w.heap.size, 0, none⟩ = some (.int .u32 (x.a : Int)) := hbx2.cell 0
  have y1 : w2.cell? ⟨w.heap.size, 1, none⟩ = some (.int .i64 x.n) := hbx2.cell 1
  clear hb2
  go_wp2_with fail
  refine (HAT.out _ HB2.out).mono ?_
  rintro e w3 ⟨rfl, hb3⟩
  have HB3 := Lib.hid (HB2.out.trans (hb3.mono HB2.out.size))
  have h3 := HH.out.below HB3.out
  obtain ⟨A, cap, hkw, hcap, hown, hrd, hnb⟩ := h3.form
  obtain ⟨b, hbb, _⟩ := in_get HIN.out
  obtain ⟨k, hk⟩ : ∃ k, k = atP x L := ⟨_, rfl⟩
  have hkl : k < L.length := by rw [hk]; exact (List.getElem?_eq_some_iff.1 hbb).1
  rw [HIN.out, ← hk]
  obtain ⟨n, hn⟩ : ∃ n, n = L.length := ⟨_, rfl⟩
  rw [← hn] at hkw hcap hown hrd hkl hsm
  have t0 : w3.cell? ⟨wb, 0, none⟩ = some (.slice A n cap) := hkw.cell 0
  have HKK := Lib.hid hk
  have HNN := Lib.hid hn
  have HRD := Lib.hid hrd
  have HKW := Lib.hid hkw
  clear hb3 hbx2 y0 y1 hk hn hrd hkw hown hnb hbb
  go_wp2_with fail
  have T0 : w3.cell? ⟨wb, 0, none⟩ = some (.slice A n cap) := t0
  have RD : Reads w3 (fun i => i < w3.heap.size) 3 A n (L.flatMap entC) := HRD.out.lt.mono fun _ h => h.2
  have B3 : Below w.heap.size w w3 := HB3.out
  have I3 : IsTab w3 N wb lim L := h3
  have K3 : Blk w3 wb 48 #[.slice A n cap, .int .i64 lim] := HKW.out
  generalize w3 = wq at T0 RD B3 I3 K3 ⊢
  clear t0 h3
  obtain ⟨i0, hin, hz0, hz1, hz2⟩ := info_parts info_entR
  have one1 : ∀ u ∈ (L.flatMap entC).take (k * 3), u.oneCell' = true := fun u hu => ent_one L u (List.mem_of_mem_take hu)
  have one2 : ∀ u ∈ (L.flatMap entC).drop ((k + 1) * 3), u.oneCell' = true := fun u hu => ent_one L u (List.mem_of_mem_drop hu)
  have wbl : wb < wq.heap.size := K3.lt
  refine wp_region_rel (by kernel_rfl) (fun p q => Below wq.heap.size p q) (DelΦ wq.heap.size wb A n cap k (L.flatMap entC)) 18 (fun val w9 => TabYes w N wb lim (delS (pB x) L) w9) delDead (by kernel_rfl) (fun p => Below.refl _ p) (fun h k => h.trans k) (obl_of ?_) ?_ ?_
  · refine ⟨fun _ => ?_, fun _ => ?_, fun _ => ?_, fun _ => ?_, fun _ => ?_, fun _ => ?_, fun _ => ?_, fun _ => ?_, fun _ => ?_, fun _ => ?_, fun _ => ?_, fun _ => ?_, fun _ => ?_, fun _ => ?_, fun _ => ?_, fun _ => ?_, fun _ => ?_, fun _ => ?_, fun h => absurd rfl h, trivial⟩
    · -- 0
      intro val wx hg hd hb hs K hK
      generalize hρ : rhoV _ _ val = ρ
      have cc : ∀ u, ρ (.const u) = u := fun u => by rw [← hρ]; rfl
      have r0 : ρ (.tmp 0) = .pointer (some ⟨wb, 0, none⟩) := by rw [← hρ]; rfl
      clear hρ hd hb hs
      refine ifv rfl ?_
      go_simp
      exact hK _ _ (Below.refl _ _) rfl fun _ _ _ _ h => h
    · -- 1
      intro val wx hg hd hb hs K hK
      generalize hρ : rhoV _ _ val = ρ
      have cc : ∀ u, ρ (.const u) = u := fun u => by rw [← hρ]; rfl
      have r0 : ρ (.tmp 0) = .pointer (some ⟨wb, 0, none⟩) := by rw [← hρ]; rfl
      clear hρ hd hb hs
      refine ifv rfl ?_
      go_simp
      exact hK _ _ (Below.refl _ _) rfl fun _ _ _ _ h => h
    · -- 2
      intro val wx hg hd hb hs K hK
      generalize hρ : rhoV _ _ val = ρ
      have cc : ∀ u, ρ (.const u) = u := fun u => by rw [← hρ]; rfl
      have r19 : ρ (.tmp 19) = .pointer (some ⟨wb, 0, none⟩) := by rw [← hρ]; exact hd 1 rfl rfl
      clear hρ hd hb hs
      refine ifv rfl ?_
      go_simp
      exact hK _ _ (Below.refl _ _) rfl fun _ _ _ _ h => h
    · -- 3
      intro val wx hg hd hb hs K hK
      generalize hρ : rhoV _ _ val = ρ
      have cc : ∀ u, ρ (.const u) = u := fun u => by rw [← hρ]; rfl
      have r20 : ρ (.tmp 20) = .pointer (some ⟨wb, 0, none⟩) := by rw [← hρ]; exact hd 2 rfl rfl
      clear hρ hd hb hs
      refine ifv rfl ?_
      go_simp
      exact hK _ _ (Below.refl _ _) rfl fun _ _ _ _ h => h
    · -- 4
      intro val wx hg hd hb hs K hK
      generalize hρ : rhoV _ _ val = ρ
      have cc : ∀ u, ρ (.const u) = u := fun u => by rw [← hρ]; rfl
      have r21 : ρ (.tmp 21) = .pointer (some ⟨wb, 0, none⟩) := by rw [← hρ]; exact hd 3 rfl rfl
      have g0 : wx.cell? ⟨wb, 0, none⟩ = some (.slice A n cap) := (hg.cell (p := ⟨wb, 0, none⟩) wbl).trans T0
      clear hρ hd hb hs
      refine ifv rfl ?_
      go_simp
      exact hK _ _ (Below.refl _ _) rfl fun _ _ _ _ h => h
    · -- 5
      intro val wx hg hd hb hs K hK
      generalize hρ : rhoV _ _ val = ρ
      have cc : ∀ u, ρ (.const u) = u := fun u => by rw [← hρ]; rfl
      have r0 : ρ (.tmp 5) = .int .i64 (k : Int) := by rw [← hρ]; rfl
      clear hρ hd hb hs
      refine ifv rfl ?_
      go_simp
      exact hK _ _ (Below.refl _ _) rfl fun _ _ _ _ h => h
    · -- 6
      intro val wx hg hd hb hs K hK
      generalize hρ : rhoV _ _ val = ρ
      have cc : ∀ u, ρ (.const u) = u := fun u => by rw [← hρ]; rfl
      have r22 : ρ (.tmp 22) = .slice A n cap := by rw [← hρ]; exact hd 4 rfl rfl
      have r23 : ρ (.tmp 23) = .int .i64 (k : Int) := by rw [← hρ]; exact hd 5 rfl rfl
      have hsl := sl_take A n cap k wx (by omega)
      clear hρ hd hb hs
      refine ifv rfl ?_
      go_simp
      exact hK _ _ (Below.refl _ _) rfl fun _ _ _ _ h => h
    · -- 7
      intro val wx hg hd hb hs K hK
      generalize hρ : rhoV _ _ val = ρ
      have cc : ∀ u, ρ (.const u) = u := fun u => by rw [← hρ]; rfl
      have r24 : ρ (.tmp 24) = .slice A k cap := by rw [← hρ]; exact hd 6 rfl rfl
      have rd := (RD.take (Nat.le_of_lt hkl)).keep (w2 := wx) (Same.ofBelow (w := wq) ⟨hg.os, hg.tape, hg.output, hg.size, hg.block⟩ fun k hk => hk)
      clear hρ hd hb hs
      refine ifv rfl ?_
      refine insRow wx (.const (.slice none 0 0)) (.tmp 24) 46 (by rfl) wq.heap.size 91 i0 _ 3 24 Try.underlying46 hin hz0 hz1 hz2 rfl (by decide) (cc _) (World.ownsRow_nil _ _ _ _) r24 rd one1 (by unfold maxLen; omega) (by omega) hg.size ?_
      intro v2 w2 h2 h3 h4
      have hbl : Below wx.heap.size wx w2 := ⟨h3.os, h3.tape, h3.output, h3.size, fun g hg => h3.block g hg (by simp [Value.ownBlock])⟩
      exact hK _ _ (hbl.mono hg.size) (by simpa [DelΦ, normV] using h2) fun j _ _ _ h => DelΦ.keep hbl j _ h
    · -- 8
      intro val wx hg hd hb hs K hK
      generalize hρ : rhoV _ _ val = ρ
      have cc : ∀ u, ρ (.const u) = u := fun u => by rw [← hρ]; rfl
      have r0 : ρ (.tmp 0) = .pointer (some ⟨wb, 0, none⟩) := by rw [← hρ]; rfl
      clear hρ hd hb hs
      refine ifv rfl ?_
      go_simp
      exact hK _ _ (Below.refl _ _) rfl fun _ _ _ _ h => h
    · -- 9
      intro val wx hg hd hb hs K hK
      generalize hρ : rhoV _ _ val = ρ
      have cc : ∀ u, ρ (.const u) = u := fun u => by rw [← hρ]; rfl
      have r26 : ρ (.tmp 26) = .pointer (some ⟨wb, 0, none⟩) := by rw [← hρ]; exact hd 8 rfl rfl
      clear hρ hd hb hs
      refine ifv rfl ?_
      go_simp
      exact hK _ _ (Below.refl _ _) rfl fun _ _ _ _ h => h
    · -- 10
      intro val wx hg hd hb hs K hK
      generalize hρ : rhoV _ _ val = ρ
      have cc : ∀ u, ρ (.const u) = u := fun u => by rw [← hρ]; rfl
      have r27 : ρ (.tmp 27) = .pointer (some ⟨wb, 0, none⟩) := by rw [← hρ]; exact hd 9 rfl rfl
      clear hρ hd hb hs
      refine ifv rfl ?_
      go_simp
      exact hK _ _ (Below.refl _ _) rfl fun _ _ _ _ h => h
    · -- 11
      intro val wx hg hd hb hs K hK
      generalize hρ : rhoV _ _ val = ρ
      have cc : ∀ u, ρ (.const u) = u := fun u => by rw [← hρ]; rfl
      have r28 : ρ (.tmp 28) = .pointer (some ⟨wb, 0, none⟩) := by rw [← hρ]; exact hd 10 rfl rfl
      have g0 : wx.cell? ⟨wb, 0, none⟩ = some (.slice A n cap) := (hg.cell (p := ⟨wb, 0, none⟩) wbl).trans T0
      clear hρ hd hb hs
      refine ifv rfl ?_
      go_simp
      exact hK _ _ (Below.refl _ _) rfl fun _ _ _ _ h => h
    · -- 12
      intro val wx hg hd hb hs K hK
      generalize hρ : rhoV _ _ val = ρ
      have cc : ∀ u, ρ (.const u) = u := fun u => by rw [← hρ]; rfl
      have r0 : ρ (.tmp 5) = .int .i64 (k : Int) := by rw [← hρ]; rfl
      clear hρ hd hb hs
      refine ifv rfl ?_
      go_simp
      exact hK _ _ (Below.refl _ _) rfl fun _ _ _ _ h => h
    · -- 13
      intro val wx hg hd hb hs K hK
      generalize hρ : rhoV _ _ val = ρ
      have cc : ∀ u, ρ (.const u) = u := fun u => by rw [← hρ]; rfl
      have r30 : ρ (.tmp 30) = .int .i64 (k : Int) := by rw [← hρ]; exact hd 12 rfl rfl
      have g0 : IntKind.i64.wrap ((k : Int) + 1) = ((k + 1 : Nat) : Int) := by rw [IntWalk.i64_in _ (by omega)]; omega
      clear hρ hd hb hs
      refine ifv rfl ?_
      go_simp
      exact hK _ _ (Below.refl _ _) rfl fun _ _ _ _ h => h
    · -- 14
      intro val wx hg hd hb hs K hK
      generalize hρ : rhoV _ _ val = ρ
      have cc : ∀ u, ρ (.const u) = u := fun u => by rw [← hρ]; rfl
      have r29 : ρ (.tmp 29) = .slice A n cap := by rw [← hρ]; exact hd 11 rfl rfl
      have r31 : ρ (.tmp 31) = .int .i64 ((k + 1 : Nat) : Int) := by rw [← hρ]; exact hd 13 rfl rfl
      have hsl := sl_drop A n cap (k + 1) wx (by omega)
      obtain ⟨k1, hk1⟩ : ∃ k1, k + 1 = k1 := ⟨_, rfl⟩
      have hK2 : K (.slice (if cap = k1 then A else A.map (·.add (k1 * 3))) (n - k1) (cap - k1)) wx := by
        rw [← hk1]
        exact hK _ _ (Below.refl _ _) rfl fun _ _ _ _ h => h
      rw [hk1] at r31 hsl
      clear hρ hd hb hs hK hk1
      refine ifv rfl ?_
      go_simp
      exact hK2
    · -- 15
      intro val wx hg hd hb hs K hK
      generalize hρ : rhoV _ _ val = ρ
      have cc : ∀ u, ρ (.const u) = u := fun u => by rw [← hρ]; rfl
      have r25 : ρ (.tmp 25) = val 7 := by rw [← hρ]; rfl
      have p7 : wx.ownsRow wq.heap.size 91 3 (val 7) k ((L.flatMap entC).take (k * 3)) := hd 7 rfl rfl
      have r32 : ρ (.tmp 32) = .slice (if cap = k + 1 then A else A.map (·.add ((k + 1) * 3))) (n - (k + 1)) (cap - (k + 1)) := by rw [← hρ]; exact hd 14 rfl rfl
      have rd := (RD.drop (k := k + 1) hkl hcap).keep (w2 := wx) (Same.ofBelow (w := wq) ⟨hg.os, hg.tape, hg.output, hg.size, hg.block⟩ fun k hk => hk)
      clear hρ hd hb hs
      refine ifv rfl ?_
      refine insRow wx (.tmp 25) (.tmp 32) 46 (by rfl) wq.heap.size 91 i0 _ 3 24 Try.underlying46 hin hz0 hz1 hz2 rfl (by decide) r25 p7 r32 rd one2 (by unfold maxLen; omega) (by omega) hg.size ?_
      intro v2 w2 h2 h3 h4
      refine hK _ _ ⟨h3.os, h3.tape, h3.output, h3.size, fun g hg2 => h3.block g (Nat.lt_of_lt_of_le hg2 hg.size) fun e => Nat.lt_irrefl _ (Nat.lt_of_lt_of_le hg2 (own_ge p7 e.symm))⟩ (by simpa [DelΦ, normV] using h2) fun j hne hdj hbj hj => DelΦ.bare (w := wx) _ ?_ hj
      rintro (rfl | rfl)
      · cases hdj
      · exact hne rfl
    · -- 16
      intro val wx hg hd hb hs K hK
      generalize hρ : rhoV _ _ val = ρ
      have cc : ∀ u, ρ (.const u) = u := fun u => by rw [← hρ]; rfl
      have r18 : ρ (.tmp 18) = .pointer (some ⟨wb, 0, none⟩) := by rw [← hρ]; exact hd 0 rfl rfl
      clear hρ hd hb hs
      refine ifv rfl ?_
      go_simp
      exact hK _ _ (Below.refl _ _) rfl fun _ _ _ _ h => h
    · -- 17
      intro val wx hg hd hb hs K hK
      generalize hρ : rhoV _ _ val = ρ
      have cc : ∀ u, ρ (.const u) = u := fun u => by rw [← hρ]; rfl
      have r34 : ρ (.tmp 34) = .pointer (some ⟨wb, 0, none⟩) := by rw [← hρ]; exact hd 16 rfl rfl
      clear hρ hd hb hs
      refine ifv rfl ?_
      go_simp
      exact hK _ _ (Below.refl _ _) rfl fun _ _ _ _ h => h
  · intro o ho
    injection ho with ho
    subst ho
    intro val wx hg hd hs K hK
    have p15 : wx.ownsRow wq.heap.size 91 3 (val 15) (k + (n - (k + 1))) ((L.flatMap entC).take (k * 3) ++ (L.flatMap entC).drop ((k + 1) * 3)) := hd 15 (by decide) (by decide) fun i _ _ => by simp [delDead]
    generalize hρ : rhoV _ _ val = ρ
    have r35 : ρ (.tmp 35) = .pointer (some ⟨wb, 0, none⟩) := by rw [← hρ]; exact hd 17 (by decide) (by decide) fun i _ _ => by simp [delDead]
    have r33 : ρ (.tmp 33) = val 15 := by rw [← hρ]; rfl
    have K5 : Blk wx wb 48 #[.slice A n cap, .int .i64 lim] := K3.below (w := wq) ⟨hg.os, hg.tape, hg.output, hg.size, hg.block⟩ wbl
    obtain ⟨A2, c2, e2, hc2⟩ := own_form p15
    rw [e2] at r33 p15
    have g0 : wx.cell? ⟨wb, 0, none⟩ = some (.slice A n cap) := K5.cell 0
    have g1 : wx.frozen? ⟨wb, 0, none⟩ = false := K5.frozen 0
    clear hρ hd hs
    refine ifv rfl ?_
    go_simp
    obtain ⟨i1, i2⟩ := del_flat ha HM.out I3.sorted I3.short HIN.out
    rw [← HKK.out] at i1 i2
    rw [← HNN.out] at i2
    rw [i1] at p15
    have hgq : Below wq.heap.size wq wx := ⟨hg.os, hg.tape, hg.output, hg.size, hg.block⟩
    exact hK _ _ (tab_in HH.out (Upd.ofBelow (B3.trans (hgq.mono B3.size)) _) K5 B3.size p15 i2 (delS_sorted I3.sorted) fun e he => I3.short e (delS_mem he))
  · intro val w9 h9
    rw [if_pos (by decide)] at h9
    simp only [putAll]
    clear RD T0
    go_wp2_with fail
    go_ret
    exact ⟨rfl, h9⟩

def delT (x : Px) (L : List (Bs × Int)) : Int × List (Bs × Int) := if x.may = false then (2, L) else if inP x L = true then (0, delS (pB x) L) else (6, L)
theorem tabdel_any (x : Px) (wb : Nat) (N : Nat → Prop) (lim : Int) (L : List (Bs × Int)) (w : World) (h : IsTab w N wb lim L) (hsm : L.length ≤ 1000000) (ha : x.a < 2 ^ 32) :
    Calls Try.prog 41 #[.pointer (some ⟨wb, 0, none⟩), pxV x.a x.n] w fun e w' => e = .returned (.int .i64 (delT x L).1) ∧ TabYes w N wb lim (delT x L).2 w' := by
  unfold delT
  cases hm : x.may with
  | false => exact tabdel_no x wb N lim L w h ha hm
  | true =>
    rw [if_neg (by decide)]
    cases hin : inP x L with
    | true => exact tabdel_yes x wb N lim L w h hsm ha hm hin
    | false => exact tabdel_none x wb N lim L w h hsm ha hm hin
end Go.Proofs.Ytejiecebckjflaa
