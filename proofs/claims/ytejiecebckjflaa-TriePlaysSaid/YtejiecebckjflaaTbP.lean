/- The document's table: Copy. -/
import Derived.Test.YtejiecebckjflaaTbK
namespace Go.Proofs.Ytejiecebckjflaa
open Go.RowKit Go.Sort Go.BigFrame
attribute [local go_sem] comesV_value comesV_skip comesV_enter
def CpTab (B : Nat) (lim : Int) (L : List (Bs × Int)) (u : Value) (w : World) : Prop := ∃ b N2, u = .pointer (some ⟨b, 0, none⟩) ∧ IsTab w N2 b lim L ∧ ∀ k, N2 k → B ≤ k
def CpΦ (B wb : Nat) (A : Option Addr) (n cap : Nat) (lim : Int) (L : List (Bs × Int)) : Nat → Value → World → Prop
  | 0, u, _ => u = .pointer (some ⟨wb, 0, none⟩)
  | 1, u, _ => u = .pointer (some ⟨wb, 0, none⟩)
  | 2, u, _ => u = .pointer (some ⟨wb, 0, none⟩)
  | 3, u, _ => u = .slice A n cap
  | 4, u, w => ∃ A2 c2, u = .slice A2 n c2 ∧ w.ownsRow B 91 3 (.slice A2 n c2) n (L.flatMap entC)
  | 5, u, _ => u = .pointer (some ⟨wb, 0, none⟩)
  | 6, u, _ => u = .pointer (some ⟨wb, 0, none⟩)
  | 7, u, _ => u = .pointer (some ⟨wb, 1, none⟩)
  | 8, u, _ => u = .int .i64 lim
  | 9, u, w => ∃ A2 c2, u = .agg #[.slice A2 n c2, .int .i64 lim] ∧ w.ownsRow B 91 3 (.slice A2 n c2) n (L.flatMap entC)
  | 10, u, w => CpTab B lim L u w
  | 11, u, w => CpTab B lim L u w
  | _, _, _ => True
theorem CpΦ.keep {B wb : Nat} {A : Option Addr} {n cap : Nat} {lim : Int} {L : List (Bs × Int)} {wx wy : World} (hb : Below wx.heap.size wx wy) : ∀ j u, CpΦ B wb A n cap lim L j u wx → CpΦ B wb A n cap lim L j u wy := by
  intro j u h
  unfold CpΦ at h ⊢
  split at h
  all_goals first
    | exact h
    | (obtain ⟨A2, c2, h1, h2⟩ := h; exact ⟨A2, c2, h1, own_belowB h2 hb⟩)
    | (obtain ⟨b, N2, h1, h2, h3⟩ := h; exact ⟨b, N2, h1, h2.below hb, h3⟩)
set_option maxRecDepth 100000 in
set_option maxHeartbeats 4000000 in
theorem tabcopy_any (wb : Nat) (N : Nat → Prop) (lim : Int) (L : List (Bs × Int)) (w : World) (h : IsTab w N wb lim L) (hsm : L.length ≤ 1000000) :
    Calls Try.prog 28 #[.pointer (some ⟨wb, 0, none⟩)] w fun e w' => ∃ u, e = .returned u ∧ CpTab w.heap.size lim L u w' ∧ Below w.heap.size w w' := by
  obtain ⟨A, cap, hkw, hcap, hown, hrd, hnb⟩ := h.form
  have HH := Lib.hid h
  obtain ⟨n, hn⟩ : ∃ n, n = L.length := ⟨_, rfl⟩
  rw [← hn] at hkw hcap hown hrd hsm
  have HNN := Lib.hid hn
  have T0 : w.cell? ⟨wb, 0, none⟩ = some (.slice A n cap) := hkw.cell 0
  have T1 : w.cell? ⟨wb, 1, none⟩ = some (.int .i64 lim) := hkw.cell 1
  have RD : Reads w (fun i => i < w.heap.size) 3 A n (L.flatMap entC) := hrd.lt.mono fun _ h => h.2
  have wbl : wb < w.heap.size := hkw.lt
  clear h hn hkw hown hrd hnb
  go_enter Try.func28, Try.ntmps28
  go_wp2_with fail
  obtain ⟨i0, hin, hz0, hz1, hz2⟩ := info_parts info_entR
  refine wp_region_rel (by kernel_rfl) (fun p q => Below w.heap.size p q) (CpΦ w.heap.size wb A n cap lim L) 12 (fun _ _ => True) (fun _ _ => false) (by kernel_rfl) (fun p => Below.refl _ p) (fun h k => h.trans k) (obl_of ?_) (fun o h => by cases h) ?_
  · refine ⟨fun _ => ?_, fun _ => ?_, fun _ => ?_, fun _ => ?_, fun _ => ?_, fun _ => ?_, fun _ => ?_, fun _ => ?_, fun _ => ?_, fun _ => ?_, fun _ => ?_, fun _ => ?_, trivial⟩
    · -- 0 move
      intro val wx hg hd hb hs K hK
      generalize hρ : rhoV _ _ val = ρ
      have cc : ∀ u, ρ (.const u) = u := fun u => by rw [← hρ]; rfl
      have r0 : ρ (.tmp 0) = .pointer (some ⟨wb, 0, none⟩) := by rw [← hρ]; rfl
      clear hρ hd hb hs
      refine ifv rfl ?_
      go_simp
      exact hK _ _ (Below.refl _ _) rfl fun _ _ _ _ h => h
    · -- 1 s
      intro val wx hg hd hb hs K hK
      generalize hρ : rhoV _ _ val = ρ
      have cc : ∀ u, ρ (.const u) = u := fun u => by rw [← hρ]; rfl
      have r : ρ (.tmp 3) = .pointer (some ⟨wb, 0, none⟩) := by rw [← hρ]; exact hd 0 rfl rfl
      clear hρ hd hb hs
      refine ifv rfl ?_
      go_simp
      exact hK _ _ (Below.refl _ _) rfl fun _ _ _ _ h => h
    · -- 2 s
      intro val wx hg hd hb hs K hK
      generalize hρ : rhoV _ _ val = ρ
      have cc : ∀ u, ρ (.const u) = u := fun u => by rw [← hρ]; rfl
      have r : ρ (.tmp 4) = .pointer (some ⟨wb, 0, none⟩) := by rw [← hρ]; exact hd 1 rfl rfl
      clear hρ hd hb hs
      refine ifv rfl ?_
      go_simp
      exact hK _ _ (Below.refl _ _) rfl fun _ _ _ _ h => h
    · -- 3 ld0
      intro val wx hg hd hb hs K hK
      generalize hρ : rhoV _ _ val = ρ
      have cc : ∀ u, ρ (.const u) = u := fun u => by rw [← hρ]; rfl
      have r : ρ (.tmp 5) = .pointer (some ⟨wb, 0, none⟩) := by rw [← hρ]; exact hd 2 rfl rfl
      have g0 : wx.cell? ⟨wb, 0, none⟩ = some (.slice A n cap) := (hg.cell (p := ⟨wb, 0, none⟩) wbl).trans T0
      clear hρ hd hb hs
      refine ifv rfl ?_
      go_simp
      exact hK _ _ (Below.refl _ _) rfl fun _ _ _ _ h => h
    · -- 4 app
      intro val wx hg hd hb hs K hK
      generalize hρ : rhoV _ _ val = ρ
      have cc : ∀ u, ρ (.const u) = u := fun u => by rw [← hρ]; rfl
      have r : ρ (.tmp 6) = .slice A n cap := by rw [← hρ]; exact hd 3 rfl rfl
      have rd := RD.keep (w2 := wx) (Same.ofBelow (w := w) ⟨hg.os, hg.tape, hg.output, hg.size, hg.block⟩ fun k hk => hk)
      clear hρ hd hb hs
      refine ifv rfl ?_
      refine insRow wx (.const (.slice none 0 0)) (.tmp 6) 46 (by rfl) w.heap.size 91 i0 _ 3 24 Try.underlying46 hin hz0 hz1 hz2 rfl (by decide) (cc _) (World.ownsRow_nil _ _ _ _) r rd (ent_one L) (by unfold maxLen; omega) (by omega) hg.size ?_
      intro v2 w2 h2 h3 h4
      have hbl : Below wx.heap.size wx w2 := ⟨h3.os, h3.tape, h3.output, h3.size, fun g hg => h3.block g hg (by simp [Value.ownBlock])⟩
      rw [Nat.zero_add, List.nil_append] at h2
      obtain ⟨A2, c2, rfl, _⟩ := own_form h2
      exact hK _ _ (hbl.mono hg.size) ⟨A2, c2, rfl, h2⟩ fun j _ _ _ h => CpΦ.keep hbl j _ h
    · -- 5 move
      intro val wx hg hd hb hs K hK
      generalize hρ : rhoV _ _ val = ρ
      have cc : ∀ u, ρ (.const u) = u := fun u => by rw [← hρ]; rfl
      have r0 : ρ (.tmp 0) = .pointer (some ⟨wb, 0, none⟩) := by rw [← hρ]; rfl
      clear hρ hd hb hs
      refine ifv rfl ?_
      go_simp
      exact hK _ _ (Below.refl _ _) rfl fun _ _ _ _ h => h
    · -- 6 s
      intro val wx hg hd hb hs K hK
      generalize hρ : rhoV _ _ val = ρ
      have cc : ∀ u, ρ (.const u) = u := fun u => by rw [← hρ]; rfl
      have r : ρ (.tmp 8) = .pointer (some ⟨wb, 0, none⟩) := by rw [← hρ]; exact hd 5 rfl rfl
      clear hρ hd hb hs
      refine ifv rfl ?_
      go_simp
      exact hK _ _ (Below.refl _ _) rfl fun _ _ _ _ h => h
    · -- 7 s
      intro val wx hg hd hb hs K hK
      generalize hρ : rhoV _ _ val = ρ
      have cc : ∀ u, ρ (.const u) = u := fun u => by rw [← hρ]; rfl
      have r : ρ (.tmp 9) = .pointer (some ⟨wb, 0, none⟩) := by rw [← hρ]; exact hd 6 rfl rfl
      clear hρ hd hb hs
      refine ifv rfl ?_
      go_simp
      exact hK _ _ (Below.refl _ _) rfl fun _ _ _ _ h => h
    · -- 8 ld1
      intro val wx hg hd hb hs K hK
      generalize hρ : rhoV _ _ val = ρ
      have cc : ∀ u, ρ (.const u) = u := fun u => by rw [← hρ]; rfl
      have r : ρ (.tmp 10) = .pointer (some ⟨wb, 1, none⟩) := by rw [← hρ]; exact hd 7 rfl rfl
      have g0 : wx.cell? ⟨wb, 1, none⟩ = some (.int .i64 lim) := (hg.cell (p := ⟨wb, 1, none⟩) wbl).trans T1
      clear hρ hd hb hs
      refine ifv rfl ?_
      go_simp
      exact hK _ _ (Below.refl _ _) rfl fun _ _ _ _ h => h
    · -- 9 build
      intro val wx hg hd hb hs K hK
      generalize hρ : rhoV _ _ val = ρ
      have cc : ∀ u, ρ (.const u) = u := fun u => by rw [← hρ]; rfl
      obtain ⟨A2, c2, v4, o4⟩ : ∃ A2 c2, val 4 = .slice A2 n c2 ∧ wx.ownsRow w.heap.size 91 3 (.slice A2 n c2) n (L.flatMap entC) := hd 4 rfl rfl
      have r1 : ρ (.tmp 7) = .slice A2 n c2 := by rw [← v4, ← hρ]; rfl
      have r2 : ρ (.tmp 11) = .int .i64 lim := by rw [← hρ]; exact hd 8 rfl rfl
      clear hρ hd hb hs
      refine ifv rfl ?_
      go_simp
      exact hK _ _ (Below.refl _ _) ⟨A2, c2, rfl, o4⟩ fun _ _ _ _ h => h
    · -- 10 box
      intro val wx hg hd hb hs K hK
      generalize hρ : rhoV _ _ val = ρ
      have cc : ∀ u, ρ (.const u) = u := fun u => by rw [← hρ]; rfl
      obtain ⟨A2, c2, v9, o9⟩ : ∃ A2 c2, val 9 = .agg #[.slice A2 n c2, .int .i64 lim] ∧ wx.ownsRow w.heap.size 91 3 (.slice A2 n c2) n (L.flatMap entC) := hd 9 rfl rfl
      have r1 : ρ (.tmp 12) = .agg #[.slice A2 n c2, .int .i64 lim] := by rw [← v9, ← hρ]; rfl
      have hbl : Below wx.heap.size wx (wx.alloc (.cells #[.slice A2 n c2, .int .i64 lim] 48)) := (Below.refl _ _).alloc (Nat.le_refl _) _
      clear hρ hd hb hs
      refine ifv rfl ?_
      go_simp
      refine hK _ _ (hbl.mono hg.size) ⟨wx.heap.size, fun k => k = wx.heap.size ∨ (Value.slice A2 n c2).ownBlock = some k, rfl, ⟨⟨_, Blk.new _ _ _, by rw [← HNN.out]; exact own_base (own_belowB o9 hbl) (Nat.zero_le _), fun g hg => ⟨.inr hg, fun e => by have := (own_lt o9 hg).2; omega⟩⟩, .inl rfl, HH.out.sorted, HH.out.short, fun k hk => ?_⟩, fun k hk => ?_⟩ fun j _ _ _ h => CpΦ.keep hbl j _ h
      · rcases hk with rfl | hk
        · simp
        · exact Nat.lt_of_lt_of_le (own_lt o9 hk).2 hbl.size
      · rcases hk with rfl | hk
        · exact hg.size
        · exact (own_lt o9 hk).1
    · -- 11 asg
      intro val wx hg hd hb hs K hK
      generalize hρ : rhoV _ _ val = ρ
      have cc : ∀ u, ρ (.const u) = u := fun u => by rw [← hρ]; rfl
      have p10 : CpTab w.heap.size lim L (val 10) wx := hd 10 rfl rfl
      have r1 : ρ (.tmp 13) = val 10 := by rw [← hρ]; rfl
      clear hρ hd hb hs
      refine ifv rfl ?_
      go_simp
      exact hK _ _ (Below.refl _ _) p10 fun _ _ _ _ h => h
  · intro val w9 h9
    rw [if_neg (by decide)] at h9
    obtain ⟨hg, hΦ⟩ := h9
    have p : CpTab w.heap.size lim L (val 11) w9 := hΦ 11 (by decide) fun _ _ => rfl
    have hgq : Below w.heap.size w w9 := ⟨hg.os, hg.tape, hg.output, hg.size, hg.block⟩
    simp only [putAll]
    clear hΦ hg T0 T1 RD
    go_wp2_with fail
    go_ret
    exact ⟨val 11, by kernel_rfl, p, hgq⟩
end Go.Proofs.Ytejiecebckjflaa
