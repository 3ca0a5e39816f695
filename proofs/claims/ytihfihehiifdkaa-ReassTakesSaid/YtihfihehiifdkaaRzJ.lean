/- ReassTakes: the walk. -/
import Derived.Test.YtihfihehiifdkaaRzI
namespace Go.Proofs.Ytihfihehiifdkaa
open Go.RowKit Go.Sort Go.BigFrame
attribute [local go_sem] comesV_value comesV_skip comesV_enter
theorem dropG_T (G : List GF) (k : Key) : (dropG G k).map GF.f = (G.map GF.f).eraseP fun f => f.key == k := by
  unfold dropG
  rw [List.eraseP_map]
  rfl
theorem dropR_T (R : List Rg) (k : Key) : (dropR R k).map Rg.f = (R.map Rg.f).eraseP fun f => f.key == k := by
  unfold dropR
  rw [List.eraseP_map, show ((fun f : Fl => f.key == k) ∘ Rg.f) = (fun g : Rg => g.f.key == k) from rfl, List.eraseP_eq_eraseIdx]
  cases R.findIdx? (fun g => g.f.key == k) <;> rfl
theorem found_eq {G : List GF} {R : List Rg} (h : G.map GF.f = R.map Rg.f) (k : Key) : (findG G k).isSome = decide (0 ≤ idxR R k) := by
  rcases idxR_cases R k with ⟨e1, e2⟩ | ⟨i, x, e1, _, _, e2⟩
  · rw [e1]
    cases hf : findG G k with
    | none => rfl
    | some g =>
      obtain ⟨i, h1, _⟩ := findK_some hf
      rw [h, e2] at h1
      cases h1
  · rw [e1]
    cases hf : findG G k with
    | none =>
      have h1 := findK_none hf
      rw [h, e2] at h1
      cases h1
    | some g => simp
def DrΦ (lo tb mb rb nr wz : Nat) (G1 : List GF) (v1 : Value) (R1 : List Rg) (k : Key) (dd : Bool) : Nat → Value → World → Prop
  | 0, u, _ => u = .pointer (some ⟨tb, 0, none⟩)
  | 1, u, _ => u = .agg (pcC k)
  | 2, u, w => u = .bool dd ∧ TbM w tb mb (dropG G1 k)
  | 3, u, _ => u = .pointer (some ⟨rb, 0, none⟩)
  | 4, u, _ => u = .agg (pcC k)
  | 5, u, w => u = .bool dd ∧ ∃ v9, RfM w lo rb v9 (dropR R1 k) ∧ ∀ j, v9.ownBlock = some j → v1.ownBlock = some j ∨ wz ≤ j
  | 6, u, _ => u = .bool false
  | 7, u, _ => u = .bool false
  | 8, u, _ => u = .pointer (some ⟨tb, 0, none⟩)
  | 9, u, _w => u = .int .i64 (nr : Int)
  | 10, u, _ => u = .pointer (some ⟨rb, 0, none⟩)
  | 11, u, _ => u = .pointer (some ⟨rb, 0, none⟩)
  | 12, u, _ => u = .pointer (some ⟨rb, 0, none⟩)
  | 13, u, _w => ∃ A c, u = .slice A nr c
  | 14, u, _ => u = .int .i64 (nr : Int)
  | 15, u, _ => u = .bool false
  | 16, u, _ => u = .bool false
  | _, _, _ => True
def DrΨ (lo tb mb rb : Nat) (G1 : List GF) (v1 : Value) (R1 : List Rg) : Nat → World → Prop
  | 2, w => TbM w tb mb G1
  | 5, w => RfM w lo rb v1 R1
  | _, _ => True
section
variable {lo tb mb rb nr wz : Nat} {G1 : List GF} {v1 : Value} {R1 : List Rg} {k : Key} {dd : Bool} {wx wy : World} {u : Value}
theorem DrΦ.bare (i : Nat) (hi : ¬ (i = 2 ∨ i = 5 ∨ i = 13)) (h : DrΦ lo tb mb rb nr wz G1 v1 R1 k dd i u wx) : DrΦ lo tb mb rb nr wz G1 v1 R1 k dd i u wy := by
  unfold DrΦ at h ⊢
  split at h
  all_goals first
    | exact h
    | (exfalso; omega)
theorem DrΨ.bare (i : Nat) (hi : ¬ (i = 2 ∨ i = 5)) (h : DrΨ lo tb mb rb G1 v1 R1 i wx) : DrΨ lo tb mb rb G1 v1 R1 i wy := by
  unfold DrΨ at h ⊢
  split at h
  all_goals first
    | exact h
    | (exfalso; omega)
/-- The first drop. -/
theorem DrΨ.first (ht : TbM wx tb mb G1) (hu : Upd (only mb) wx wy) (hn : lo ≤ mb ∧ ¬ RfU rb v1 mb ∧ ∀ b, TbMut tb mb G1 b → b ≠ rb) (i : Nat) (hi : i ≠ 2) (h : DrΨ lo tb mb rb G1 v1 R1 i wx) : DrΨ lo tb mb rb G1 v1 R1 i wy := by
  unfold DrΨ at h ⊢
  split at h
  · exact absurd rfl hi
  · exact h.updS hu (fun b (e : b = mb) => by rw [e]; exact ⟨hn.1, hn.2.1⟩) fun e he B n u xs hr b hb (e2 : b = mb) => ht.safe e he B n u xs hr b hb (.inr (.inl e2))
  · trivial
/-- The second one. -/
theorem DrΦ.second (hr : RfM wx lo rb v1 R1) (hu : Upd (only rb) wx wy) (hn : lo ≤ mb ∧ ¬ RfU rb v1 mb ∧ ∀ b, TbMut tb mb G1 b → b ≠ rb) (i : Nat) (hi : ¬ (i = 5 ∨ i = 13)) (h : DrΦ lo tb mb rb nr wz G1 v1 R1 k dd i u wx) : DrΦ lo tb mb rb nr wz G1 v1 R1 k dd i u wy := by
  unfold DrΦ at h ⊢
  split at h
  all_goals first
    | exact h
    | (exfalso; omega)
    | exact ⟨h.1, h.2.updT hu (fun b (e : b = rb) hm => hn.2.2 b hm.drop e) fun e he B n u xs ho b hb (e2 : b = rb) => hr.safe e he B n u xs ho b hb (.inl e2)⟩
end
def T2Φ (lo tb rb tb2 mb2 rb2 nl cl i xl cx wz : Nat) (al : Addr) (Ax : Option Addr) (G2 : List GF) (v2 : Value) (k : Key) (ms : List Nat) : Nat → Value → World → Prop
  | 0, u, _ => u = .pointer (some ⟨tb2, 0, none⟩)
  | 1, u, _ => u = .bool false
  | 2, u, _ => u = .bool false
  | 3, u, _ => u = .pointer (some ⟨tb2, 0, none⟩)
  | 4, u, _ => u = .pointer (some ⟨rb2, 0, none⟩)
  | 5, u, _ => u = .slice (some al) nl cl
  | 6, u, _ => u = .int .i64 (i : Int)
  | 7, u, _ => u = .pointer (some (al.add i))
  | 8, u, _ => u = .slice Ax xl cx
  | 9, u, w => u = .bool true ∧ ∃ G9 v9 R9, Pr lo w tb2 mb2 G9 rb2 v9 R9 ∧ ∀ b, PrU tb2 mb2 G9 rb2 v9 b → PrU tb2 mb2 G2 rb2 v2 b ∨ wz ≤ b
  | 10, u, _ => u = .bool false
  | 11, u, _ => u = .bool false
  | 12, u, _ => u = .bool false
  | 13, u, _ => u = .pointer (some ⟨tb, 0, none⟩)
  | 14, u, _ => u = .slice (some al) nl cl
  | 15, u, _ => u = .int .i64 (i : Int)
  | 16, u, _ => u = .pointer (some (al.add i))
  | 17, u, _ => u = .slice Ax xl cx
  | 18, u, _w => u = .agg (pcC k)
  | 19, u, w => RowN lo w u ms
  | 20, u, _ => u = .pointer (some ⟨rb, 0, none⟩)
  | 21, u, _ => u = .slice (some al) nl cl
  | 22, u, _ => u = .int .i64 (i : Int)
  | 23, u, _ => u = .pointer (some (al.add i))
  | 24, u, _ => u = .slice Ax xl cx
  | 25, u, _w => u = .agg (pcC k)
  | 26, u, w => RowN lo w u ms
  | 27, u, _w => u = .bool true
  | 28, u, _ => u = .bool false
  | 29, u, _ => u = .bool false
  | _, _, _ => True
def T2Ψ (lo tb2 mb2 rb2 : Nat) (G2 : List GF) (v2 : Value) (R2 : List Rg) : Nat → World → Prop
  | 9, w => Pr lo w tb2 mb2 G2 rb2 v2 R2
  | _, _ => True
section
variable {lo tb rb tb2 mb2 rb2 nl cl i xl cx wz : Nat} {al : Addr} {Ax : Option Addr} {G2 : List GF} {v2 : Value} {k : Key} {ms : List Nat} {R2 : List Rg} {wx wy : World} {u : Value}
theorem T2Φ.bare (i9 : Nat) (hi : ¬ (i9 = 9 ∨ i9 = 19 ∨ i9 = 26)) (h : T2Φ lo tb rb tb2 mb2 rb2 nl cl i xl cx wz al Ax G2 v2 k ms i9 u wx) : T2Φ lo tb rb tb2 mb2 rb2 nl cl i xl cx wz al Ax G2 v2 k ms i9 u wy := by
  unfold T2Φ at h ⊢
  split at h
  all_goals first
    | exact h
    | (exfalso; omega)
theorem T2Ψ.bare (i9 : Nat) (hi : i9 ≠ 9) (h : T2Ψ lo tb2 mb2 rb2 G2 v2 R2 i9 wx) : T2Ψ lo tb2 mb2 rb2 G2 v2 R2 i9 wy := by
  unfold T2Ψ at h ⊢
  split at h
  all_goals first
    | exact h
    | (exfalso; omega)
theorem T2Φ.keep (hb : Below wx.heap.size wx wy) (i9 : Nat) (u : Value) (h : T2Φ lo tb rb tb2 mb2 rb2 nl cl i xl cx wz al Ax G2 v2 k ms i9 u wx) : T2Φ lo tb rb tb2 mb2 rb2 nl cl i xl cx wz al Ax G2 v2 k ms i9 u wy := by
  unfold T2Φ at h ⊢
  split at h
  all_goals first
    | exact h
    | exact own_below h hb
    | (obtain ⟨e, G9, v9, R9, h1, h2⟩ := h; exact ⟨e, G9, v9, R9, h1.below hb, h2⟩)
theorem T2Ψ.keep (hb : Below wx.heap.size wx wy) (i9 : Nat) (h : T2Ψ lo tb2 mb2 rb2 G2 v2 R2 i9 wx) : T2Ψ lo tb2 mb2 rb2 G2 v2 R2 i9 wy := by
  unfold T2Ψ at h ⊢
  split at h
  all_goals first
    | exact h
    | exact h.below hb
end
theorem bd_t0 (w : World) : (Instr.build 79 #[]).run Try.prog w = .ok (.agg #[.slice none 0 0]) w := by kernel_rfl
set_option maxRecDepth 100000 in
set_option maxHeartbeats 16000000 in
attribute [-go_sem] Instr.storeAt Instr.loadAt in
theorem reasstakes_any (Al : Option Addr) (nl cl : Nat) (us : List Value) (xs : List By) (Ad : Option Addr) (nd cd : Nat) (dl : List Int) (w : World) (hl : Lst8 w (fun k => k < w.heap.size) Al nl us xs)
    (hd : Reads w (fun k => k < w.heap.size) 1 Ad nd (intV dl)) (hdn : dl.length = nd) :
    Calls Try.prog 11 #[.slice Al nl cl, .slice Ad nd cd] w fun e w' => e = .returned (.bool true) ∧ Below w.heap.size w w' := by
  obtain ⟨lo, hlo⟩ : ∃ z, z = w.heap.size := ⟨_, rfl⟩
  rw [← hlo]
  have HLOE := Lib.hid hlo
  have HMU := Lib.hid (much01_any Al nl cl 20200 us xs _ w hl (by omega))
  have HLL := Lib.hid (show ∀ wx, Below lo w wx → Lst8 wx (fun k => k < lo) Al nl us xs from fun wx hb => by rw [hlo] at hb ⊢; exact hl.keep (Same.ofBelow hb fun k hk => hk))
  have HDL := Lib.hid (show ∀ wx, Below lo w wx → Reads wx (fun k => k < lo) 1 Ad nd (intV dl) from fun wx hb => by rw [hlo] at hb ⊢; exact hd.keep (Same.ofBelow hb fun k hk => hk))
  have HDN := Lib.hid hdn
  have HXN := Lib.hid hl.2.1
  have HKNW := Lib.hid (fun wx => known16_any wx)
  have HMM := Lib.hid (fun (x : By) (hx : x ∈ xs) => minS_mem 20200 hx)
  have HB00 := Lib.hid (Below.refl w.heap.size w)
  rw [← hlo] at HB00
  clear hl hd hdn hlo
  go_enter Try.func11, Try.ntmps11
  by_cases c1 : 20200 < nl + minS 20200 xs
  · rw [decide_eq_true c1] at HMU
    go_wp2_with (first
      | (go_at_call 49; refine HMU.out.mono ?_; rintro e w1 ⟨rfl, rfl⟩)
      | (go_at_call 36; refine (HKNW.out _).mono ?_; rintro e w1 ⟨rfl, hb1⟩; have HB1 := Lib.hid hb1; clear hb1))
    go_ret
    exact ⟨rfl, by rw [HLOE.out]; exact HB1.out⟩
  rw [decide_eq_false c1] at HMU
  by_cases c2 : 200 < nl
  · have d2 : (200 : Int) < (nl : Int) := by omega
    go_wp2_with (first
      | (go_at_call 49; refine HMU.out.mono ?_; rintro e w1 ⟨rfl, rfl⟩)
      | (go_at_call 36; refine (HKNW.out _).mono ?_; rintro e w1 ⟨rfl, hb1⟩; have HB1 := Lib.hid hb1; clear hb1))
    go_ret
    exact ⟨rfl, by rw [HLOE.out]; exact HB1.out⟩
  have d2 : ¬ ((200 : Int) < (nl : Int)) := by omega
  by_cases c3 : 300 < nd
  · have d3 : (300 : Int) < (nd : Int) := by omega
    go_wp2_with (first
      | (go_at_call 49; refine HMU.out.mono ?_; rintro e w1 ⟨rfl, rfl⟩)
      | (go_at_call 36; refine (HKNW.out _).mono ?_; rintro e w1 ⟨rfl, hb1⟩; have HB1 := Lib.hid hb1; clear hb1))
    go_ret
    exact ⟨rfl, by rw [HLOE.out]; exact HB1.out⟩
  have d3 : ¬ ((300 : Int) < (nd : Int)) := by omega
  have hnl : nl ≤ 200 := by omega
  have hnd : nd ≤ 300 := by omega
  have HXB := Lib.hid (show ∀ x ∈ xs, x.length ≤ 20200 from fun x hx => by have := HMM.out x hx; omega)
  have HTN := Lib.hid (tnew_any w)
  have bd := fun wx => bd_t0 wx
  clear c1 c2 c3
  go_upto_region 4 with (first
    | (go_at_call 49; refine HMU.out.mono ?_; rintro e w1 ⟨rfl, rfl⟩)
    | (go_at_call 40; refine HTN.out.mono ?_; rintro e w3 ⟨tb, mb, rfl, ht, hs1, hs2, hb3⟩; have HT3 := Lib.hid ht; have HS := Lib.hid (And.intro hs1 hs2); have HB3 := Lib.hid hb3; unfold ptrV; clear ht hs1 hs2 hb3))
  rw [← HLOE.out] at HS HB3
  obtain ⟨rb, hrb⟩ : ∃ z, z = w3.heap.size := ⟨_, rfl⟩
  obtain ⟨w4, hw4⟩ : ∃ z, z = w3.alloc (.cells #[.slice none 0 0] 79) := ⟨_, rfl⟩
  have hb34 : Below w3.heap.size w3 w4 := by rw [hw4]; exact (Below.refl _ _).alloc (Nat.le_refl _) _
  have hlo3 : lo ≤ w3.heap.size := by rw [HLOE.out]; exact HB3.out.size
  have hrf4 : RfM w4 lo rb (.slice none 0 0) [] := ⟨by rw [hw4, hrb]; exact Blk.new _ _ _, World.ownsRow_nil _ _ _ _, fun g hg => (by cases hg), Nat.zero_le _, by rw [hrb]; exact hlo3⟩
  have hpr4 : Pr lo w4 tb mb [] rb (.slice none 0 0) [] := ⟨HT3.out.below hb34, hrf4, rfl, fun b hb => by
    rcases hb with hb | hb | ⟨g, hg, _⟩
    · rw [hb]; exact HS.out.1
    · rw [hb]; exact HS.out.2
    · exact (by cases hg), fun b hb hx => by
    have := HT3.out.mlt b hb
    rcases hx with hx | hx
    · omega
    · cases hx⟩
  have HB4 := Lib.hid (HB3.out.trans (hb34.mono hlo3))
  have HP4 := Lib.hid hpr4
  have hlo4 : lo ≤ w4.heap.size := Nat.le_trans hlo3 hb34.size
  have HLO4 := Lib.hid hlo4
  have htc := tcopy_any tb mb [] w4 hpr4.tm
  have HTC := Lib.hid htc
  have HW4 := Lib.hid hw4
  have HRB := Lib.hid hrb
  clear hb34 hlo3 hrf4 hpr4 htc hlo4 hw4 hrb
  go_upto_region 5 with (fail)
  rw [← HW4.out, ← HRB.out]
  clear bd
  go_upto_region 6 with (first
    | (go_at_call 50; refine HTC.out.mono ?_; rintro e w5 ⟨tb2, mb2, G2, rfl, ht2, he2, hb5, hm2⟩; have HT2 := Lib.hid ht2; have HE2 := Lib.hid he2; have HB45 := Lib.hid hb5; have HM2 := Lib.hid hm2; have HCC := Lib.hid (copy16_any (HP4.out.rf.below hb5) (Nat.le_trans HLO4.out hb5.size)); unfold ptrV; clear ht2 he2 hb5 hm2)
    | (go_at_call 51; refine HCC.out.mono ?_; rintro e w6 ⟨rb2, v2, rfl, hr2, hb6, hrl, hvl⟩; have HR2 := Lib.hid hr2; have HB56 := Lib.hid hb6; have HRL := Lib.hid (And.intro hrl hvl); clear hr2 hb6 hrl hvl))
  have hpc : Pr lo w6 tb2 mb2 G2 rb2 v2 [] ∧ ∀ b, PrU tb2 mb2 G2 rb2 v2 b → w4.heap.size ≤ b := by
    have hlow : ∀ b, PrU tb2 mb2 G2 rb2 v2 b → w4.heap.size ≤ b := fun b hb => by
      rcases hb with hb | hb | hb
      · exact HM2.out b hb
      · rw [hb]; exact Nat.le_trans HB45.out.size HRL.out.1
      · exact Nat.le_trans HB45.out.size (HRL.out.2 b hb)
    refine ⟨⟨HT2.out.below HB56.out, HR2.out, HE2.out, fun b hb => Nat.le_trans HLO4.out (hlow b (.inl hb)), fun b hb hx => ?_⟩, hlow⟩
    have h1 := HT2.out.mlt b hb
    rcases hx with hx | hx
    · have := HRL.out.1; omega
    · have := HRL.out.2 b hx; omega
  have HPC := Lib.hid hpc.1
  have HP1 := Lib.hid (HP4.out.below (HB45.out.trans (HB56.out.mono HB45.out.size)))
  have HDJ := Lib.hid (show ∀ b, PrU tb mb [] rb (.slice none 0 0) b → ¬ PrU tb2 mb2 G2 rb2 v2 b from fun b h1 h2 => by have := HP4.out.lt h1; have := hpc.2 b h2; omega)
  have HB6 := Lib.hid (HB4.out.trans ((HB45.out.trans (HB56.out.mono HB45.out.size)).mono HLO4.out))
  clear hpc
  go_wp2_with fail
  go_loopw [7, 8, 9] (fun s7 s8 s9 wr => ∃ (i : Nat) (G1 : List GF) (v1 : Value) (R1 : List Rg) (tb2 mb2 : Nat) (G2 : List GF) (rb2 : Nat) (v2 : Value) (R2 : List Rg), s7 = .pointer (some ⟨tb2, 0, none⟩) ∧ s8 = .pointer (some ⟨rb2, 0, none⟩) ∧ s9 = .int .i64 (i : Int) ∧ i ≤ nl ∧ Pr lo wr tb mb G1 rb v1 R1 ∧ Pr lo wr tb2 mb2 G2 rb2 v2 R2 ∧ (∀ b, PrU tb mb G1 rb v1 b → ¬ PrU tb2 mb2 G2 rb2 v2 b) ∧ Below lo w wr) (fun _ _ s9 _ => nl - (intOf s9).toNat)
  case atStart => exact ⟨0, [], _, [], _, _, _, _, _, [], rfl, rfl, rfl, Nat.zero_le _, HP1.out, HPC.out, HDJ.out, HB6.out⟩
  case round =>
    clear HP1 HPC HDJ HB6
    obtain ⟨i, G1, v1, R1, tb2, mb2, G2, rb2, v2, R2, rfl, rfl, rfl, hi, hp1, hp2, hdj, hb⟩ := hrel
    have HP1 := Lib.hid hp1
    have HP2 := Lib.hid hp2
    have HDJ := Lib.hid hdj
    have HB := Lib.hid hb
    have HLW := Lib.hid (show lo ≤ wr.heap.size by rw [HLOE.out]; exact hb.size)
    clear hp1 hp2 hdj hb
    by_cases hlt : i < nl
    · obtain ⟨al, hal⟩ : ∃ al, Al = some al := by
        obtain ⟨ad, e, _⟩ := (HLL.out w HB00.out).1.2 (by omega)
        exact ⟨ad, e⟩
      subst hal
      have HEL0 := Lib.hid (show ∀ j, j < nl → ∃ x Ax cx, xs[j]? = some x ∧ x.length ≤ cx ∧ x.length ≤ 20200 ∧ ∀ wx, Below lo w wx → wx.cell? (al.add j) = some (.slice Ax x.length cx) ∧ Reads wx (fun k => k < lo) 1 Ax x.length (bytesV x) from fun j hj => by
        obtain ⟨x, hx⟩ : ∃ x, xs[j]? = some x := ⟨_, List.getElem?_eq_getElem (by rw [HXN.out]; exact hj)⟩
        obtain ⟨hr, _, he⟩ := HLL.out w HB00.out
        obtain ⟨Ax, cx, h1, h2, h3⟩ := he j x hx
        refine ⟨x, Ax, cx, hx, h2, HXB.out x (List.mem_of_getElem? hx), fun wx hb => ?_⟩
        obtain ⟨hr', _, he'⟩ := HLL.out wx hb
        obtain ⟨Ax2, cx2, h1', _, h3'⟩ := he' j x hx
        rw [h1] at h1'
        injection h1' with h1'
        injection h1' with e1 e2 e3
        subst e1
        subst e3
        obtain ⟨ad, e, _, _, hc⟩ := hr'.2 (by omega)
        injection e with e
        subst e
        exact ⟨hc j _ h1, h3'⟩)
      obtain ⟨x, Ax, cx, hx, hxc, hx2, hel⟩ := HEL0.out i hlt
      obtain ⟨xl, hxl⟩ : ∃ z, z = x.length := ⟨_, rfl⟩
      have HXE := Lib.hid hxl
      have HEL := Lib.hid hel
      have HXC := Lib.hid (And.intro hxc hx2)
      have lx := ld8a (hel wr HB.out).1
      rw [← hxl] at lx
      have s1 := run_str wr _ Ax x cx (hel wr HB.out).2
      rw [← hxl] at s1
      have HTK := Lib.hid (ltake_any HP1.out HLW.out Ax xl cx x (by rw [hxl]; exact (hel wr HB.out).2) hxl.symm (by rw [hxl]; exact hxc) (by rw [hxl]; omega))
      have i0 : (0 : Int) ≤ (i : Int) := by omega
      have i1 : (i : Int) < (nl : Int) := by omega
      clear hel hx hxc hx2 hxl
      go_upto_region 12 with (fail)
      have t2 : ((⟨x.toArray⟩ : ByteArray) == ⟨x.toArray⟩) = true := (bytes_beq x x).trans (by simp)
      clear s1
      go_upto_region 14 with (go_at_call 52; refine HTK.out.mono ?_; rintro e w12 ⟨rfl, G3, v3, R3, hp3, hu3, ho3⟩; have hb12 : Below lo w w12 := HB.out.trans (hu3.below (fun b hb => HP1.out.low hb) HLW.out); have lx2 := ld8a (HEL.out w12 hb12).1; have s2 := run_str w12 _ Ax x cx (HEL.out w12 hb12).2; rw [← HXE.out] at lx2 s2; have HP3 := Lib.hid hp3; have HU3 := Lib.hid hu3; have HO3 := Lib.hid ho3; have HB12 := Lib.hid hb12; clear hp3 hu3 ho3 hb12)
      clear lx lx2 s2 t2
      have hp2b := HP2.out.keep HU3.out (fun b hb => ⟨HP1.out.low hb, HDJ.out b hb⟩) HP1.out.safe
      have hdj3 : ∀ b, PrU tb mb G3 rb v3 b → ¬ PrU tb2 mb2 G2 rb2 v2 b := fun b h1 h2 => by
        rcases HO3.out b h1 with h3 | h3
        · exact HDJ.out b h3 h2
        · have := HP2.out.lt h2; omega
      have HP2B := Lib.hid hp2b
      have HDJ3 := Lib.hid hdj3
      have HLW2 := Lib.hid (show lo ≤ w12.heap.size by rw [HLOE.out]; exact HB12.out.size)
      clear hp2b hdj3
      by_cases hin : i < nd
      rotate_left
      · have d1 : ¬ ((i : Int) < (nd : Int)) := by omega
        go_upto_region 18 with (fail)
        by_cases hq : i = nl / 2
        · have hq2 : (nl : Int) / 2 = (i : Int) := by omega
          clear hq
          have HTC9 := Lib.hid (tcopy_any tb mb G3 w12 HP3.out.tm)
          go_upto_region 10 with (first
            | (go_at_call 50; refine HTC9.out.mono ?_; rintro e w20 ⟨tb4, mb4, G4, rfl, ht4, he4, hb20, hm4⟩; have HT4 := Lib.hid ht4; have HE4 := Lib.hid he4; have HB20 := Lib.hid hb20; have HM4 := Lib.hid hm4; have HCC9 := Lib.hid (copy16_any (HP3.out.rf.below hb20) (Nat.le_trans HLW2.out hb20.size)); unfold ptrV; clear ht4 he4 hb20 hm4)
            | (go_at_call 51; refine HCC9.out.mono ?_; rintro e w21 ⟨rb4, v4, rfl, hr4, hb21, hrl4, hvl4⟩; have HR4 := Lib.hid hr4; have HB21 := Lib.hid hb21; have HRL4 := Lib.hid (And.intro hrl4 hvl4); clear hr4 hb21 hrl4 hvl4))
          have hpc : Pr lo w21 tb4 mb4 G4 rb4 v4 R3 ∧ ∀ b, PrU tb4 mb4 G4 rb4 v4 b → w12.heap.size ≤ b := by
            have hlow : ∀ b, PrU tb4 mb4 G4 rb4 v4 b → w12.heap.size ≤ b := fun b hb => by
              rcases hb with hb | hb | hb
              · exact HM4.out b hb
              · rw [hb]; exact Nat.le_trans HB20.out.size HRL4.out.1
              · exact Nat.le_trans HB20.out.size (HRL4.out.2 b hb)
            refine ⟨⟨HT4.out.below HB21.out, HR4.out, HE4.out.trans HP3.out.eq, fun b hb => Nat.le_trans HLW2.out (hlow b (.inl hb)), fun b hb hx => ?_⟩, hlow⟩
            have h1 := HT4.out.mlt b hb
            rcases hx with hx | hx
            · have := HRL4.out.1; omega
            · have := HRL4.out.2 b hx; omega
          have hbb := HB20.out.trans (HB21.out.mono HB20.out.size)
          have HREL := Lib.hid (show Pr lo w21 tb mb G3 rb v3 R3 ∧ Pr lo w21 tb4 mb4 G4 rb4 v4 R3 ∧ (∀ b, PrU tb mb G3 rb v3 b → ¬ PrU tb4 mb4 G4 rb4 v4 b) ∧ Below lo w w21 from ⟨HP3.out.below hbb, hpc.1, fun b h1 h2 => by have := HP3.out.lt h1; have := hpc.2 b h2; omega, HB12.out.trans (hbb.mono HLW2.out)⟩)
          clear hpc hbb
          go_wp2_with fail
          go_roundw
          case measure => first | (simp [intOf]; done) | (simp [intOf]; omega)
          case rel => exact ⟨i + 1, _, _, _, _, _, _, _, _, _, rfl, rfl, by go_num, by omega, HREL.out⟩
        · have dq : ((i : Int) == (nl : Int) / 2) = false := by rw [beq_eq_false_iff_ne]; omega
          have hq2 : ¬ ((i : Int) = (nl : Int) / 2) := by omega
          clear hq
          go_wp2_with fail
          go_roundw
          case measure => first | (simp [intOf]; done) | (simp [intOf]; omega)
          case rel => exact ⟨i + 1, _, _, _, _, _, _, _, _, _, rfl, rfl, by go_num, by omega, HP3.out, HP2B.out, HDJ3.out, HB12.out⟩
      have d1 : (i : Int) < (nd : Int) := by omega
      obtain ⟨z, hz⟩ : ∃ z, dl[i]? = some z := ⟨_, List.getElem?_eq_getElem (by have := HDN.out; omega)⟩
      obtain ⟨ado, hado, _, _, hco⟩ := (HDL.out w12 HB12.out).2 (by omega)
      subst hado
      have rz := ld_int (hco i _ (intV_get hz))
      clear hco hz
      by_cases hz0 : 0 ≤ z
      rotate_left
      · go_upto_region 18 with (fail)
        by_cases hq : i = nl / 2
        · have hq2 : (nl : Int) / 2 = (i : Int) := by omega
          clear hq
          have HTC9 := Lib.hid (tcopy_any tb mb G3 w12 HP3.out.tm)
          go_upto_region 10 with (first
            | (go_at_call 50; refine HTC9.out.mono ?_; rintro e w20 ⟨tb4, mb4, G4, rfl, ht4, he4, hb20, hm4⟩; have HT4 := Lib.hid ht4; have HE4 := Lib.hid he4; have HB20 := Lib.hid hb20; have HM4 := Lib.hid hm4; have HCC9 := Lib.hid (copy16_any (HP3.out.rf.below hb20) (Nat.le_trans HLW2.out hb20.size)); unfold ptrV; clear ht4 he4 hb20 hm4)
            | (go_at_call 51; refine HCC9.out.mono ?_; rintro e w21 ⟨rb4, v4, rfl, hr4, hb21, hrl4, hvl4⟩; have HR4 := Lib.hid hr4; have HB21 := Lib.hid hb21; have HRL4 := Lib.hid (And.intro hrl4 hvl4); clear hr4 hb21 hrl4 hvl4))
          have hpc : Pr lo w21 tb4 mb4 G4 rb4 v4 R3 ∧ ∀ b, PrU tb4 mb4 G4 rb4 v4 b → w12.heap.size ≤ b := by
            have hlow : ∀ b, PrU tb4 mb4 G4 rb4 v4 b → w12.heap.size ≤ b := fun b hb => by
              rcases hb with hb | hb | hb
              · exact HM4.out b hb
              · rw [hb]; exact Nat.le_trans HB20.out.size HRL4.out.1
              · exact Nat.le_trans HB20.out.size (HRL4.out.2 b hb)
            refine ⟨⟨HT4.out.below HB21.out, HR4.out, HE4.out.trans HP3.out.eq, fun b hb => Nat.le_trans HLW2.out (hlow b (.inl hb)), fun b hb hx => ?_⟩, hlow⟩
            have h1 := HT4.out.mlt b hb
            rcases hx with hx | hx
            · have := HRL4.out.1; omega
            · have := HRL4.out.2 b hx; omega
          have hbb := HB20.out.trans (HB21.out.mono HB20.out.size)
          have HREL := Lib.hid (show Pr lo w21 tb mb G3 rb v3 R3 ∧ Pr lo w21 tb4 mb4 G4 rb4 v4 R3 ∧ (∀ b, PrU tb mb G3 rb v3 b → ¬ PrU tb4 mb4 G4 rb4 v4 b) ∧ Below lo w w21 from ⟨HP3.out.below hbb, hpc.1, fun b h1 h2 => by have := HP3.out.lt h1; have := hpc.2 b h2; omega, HB12.out.trans (hbb.mono HLW2.out)⟩)
          clear hpc hbb
          go_wp2_with fail
          go_roundw
          case measure => first | (simp [intOf]; done) | (simp [intOf]; omega)
          case rel => exact ⟨i + 1, _, _, _, _, _, _, _, _, _, rfl, rfl, by go_num, by omega, HREL.out⟩
        · have dq : ((i : Int) == (nl : Int) / 2) = false := by rw [beq_eq_false_iff_ne]; omega
          have hq2 : ¬ ((i : Int) = (nl : Int) / 2) := by omega
          clear hq
          go_wp2_with fail
          go_roundw
          case measure => first | (simp [intOf]; done) | (simp [intOf]; omega)
          case rel => exact ⟨i + 1, _, _, _, _, _, _, _, _, _, rfl, rfl, by go_num, by omega, HP3.out, HP2B.out, HDJ3.out, HB12.out⟩
      by_cases hzn : z < (nl : Int)
      rotate_left
      · go_upto_region 18 with (fail)
        by_cases hq : i = nl / 2
        · have hq2 : (nl : Int) / 2 = (i : Int) := by omega
          clear hq
          have HTC9 := Lib.hid (tcopy_any tb mb G3 w12 HP3.out.tm)
          go_upto_region 10 with (first
            | (go_at_call 50; refine HTC9.out.mono ?_; rintro e w20 ⟨tb4, mb4, G4, rfl, ht4, he4, hb20, hm4⟩; have HT4 := Lib.hid ht4; have HE4 := Lib.hid he4; have HB20 := Lib.hid hb20; have HM4 := Lib.hid hm4; have HCC9 := Lib.hid (copy16_any (HP3.out.rf.below hb20) (Nat.le_trans HLW2.out hb20.size)); unfold ptrV; clear ht4 he4 hb20 hm4)
            | (go_at_call 51; refine HCC9.out.mono ?_; rintro e w21 ⟨rb4, v4, rfl, hr4, hb21, hrl4, hvl4⟩; have HR4 := Lib.hid hr4; have HB21 := Lib.hid hb21; have HRL4 := Lib.hid (And.intro hrl4 hvl4); clear hr4 hb21 hrl4 hvl4))
          have hpc : Pr lo w21 tb4 mb4 G4 rb4 v4 R3 ∧ ∀ b, PrU tb4 mb4 G4 rb4 v4 b → w12.heap.size ≤ b := by
            have hlow : ∀ b, PrU tb4 mb4 G4 rb4 v4 b → w12.heap.size ≤ b := fun b hb => by
              rcases hb with hb | hb | hb
              · exact HM4.out b hb
              · rw [hb]; exact Nat.le_trans HB20.out.size HRL4.out.1
              · exact Nat.le_trans HB20.out.size (HRL4.out.2 b hb)
            refine ⟨⟨HT4.out.below HB21.out, HR4.out, HE4.out.trans HP3.out.eq, fun b hb => Nat.le_trans HLW2.out (hlow b (.inl hb)), fun b hb hx => ?_⟩, hlow⟩
            have h1 := HT4.out.mlt b hb
            rcases hx with hx | hx
            · have := HRL4.out.1; omega
            · have := HRL4.out.2 b hx; omega
          have hbb := HB20.out.trans (HB21.out.mono HB20.out.size)
          have HREL := Lib.hid (show Pr lo w21 tb mb G3 rb v3 R3 ∧ Pr lo w21 tb4 mb4 G4 rb4 v4 R3 ∧ (∀ b, PrU tb mb G3 rb v3 b → ¬ PrU tb4 mb4 G4 rb4 v4 b) ∧ Below lo w w21 from ⟨HP3.out.below hbb, hpc.1, fun b h1 h2 => by have := HP3.out.lt h1; have := hpc.2 b h2; omega, HB12.out.trans (hbb.mono HLW2.out)⟩)
          clear hpc hbb
          go_wp2_with fail
          go_roundw
          case measure => first | (simp [intOf]; done) | (simp [intOf]; omega)
          case rel => exact ⟨i + 1, _, _, _, _, _, _, _, _, _, rfl, rfl, by go_num, by omega, HREL.out⟩
        · have dq : ((i : Int) == (nl : Int) / 2) = false := by rw [beq_eq_false_iff_ne]; omega
          have hq2 : ¬ ((i : Int) = (nl : Int) / 2) := by omega
          clear hq
          go_wp2_with fail
          go_roundw
          case measure => first | (simp [intOf]; done) | (simp [intOf]; omega)
          case rel => exact ⟨i + 1, _, _, _, _, _, _, _, _, _, rfl, rfl, by go_num, by omega, HP3.out, HP2B.out, HDJ3.out, HB12.out⟩
      obtain ⟨zn, rfl⟩ : ∃ zn : Nat, z = (zn : Int) := ⟨z.toNat, by omega⟩
      obtain ⟨x9, Ax9, cx9, hx9, hxc9, hx29, hel9⟩ := HEL0.out zn (by omega)
      have lx9 := ld8a (hel9 w12 HB12.out).1
      have hky9 := lkey16_any Ax9 x9.length cx9 x9 (fun k => k < lo) w12 (hel9 w12 HB12.out).2 rfl hxc9 (by omega)
      obtain ⟨xl9, hxl9⟩ : ∃ z, z = x9.length := ⟨_, rfl⟩
      rw [← hxl9] at lx9 hky9
      obtain ⟨k, hk⟩ : ∃ k, k = keyF (prsF x9).1 := ⟨_, rfl⟩
      have HKO := Lib.hid (show kOk k by rw [hk]; exact key_ok (prs_ok x9))
      rw [← hk] at hky9
      have HKY9 := Lib.hid hky9
      clear hx9 hxc9 hx29 hel9 hky9 hxl9 hk
      go_upto_region 15 with (fail)
      go_upto_region 16 with (go_at_call 53; refine HKY9.out.mono ?_; rintro e w14 ⟨rfl, hb14⟩; obtain ⟨w15, hst15, _, hb145, hk15⟩ := pc_var hb14 hb14.size k; have HB125 := Lib.hid (hb14.trans (hb145.mono hb14.size)); have HK15 := Lib.hid hk15; have HSZ14 := Lib.hid hb14.size; unfold pcV; clear hb14 hb145 hk15)
      clear hst15 lx9 rz
      obtain ⟨kb, hkb⟩ : ∃ z, z = w14.heap.size := ⟨_, rfl⟩
      rw [← hkb] at HK15 ⊢
      have HKB := Lib.hid HK15.out
      have hp15 := HP3.out.below HB125.out
      have HP15 := Lib.hid hp15
      have hkbl : w12.heap.size ≤ kb := by rw [hkb]; exact HSZ14.out
      have HKN := Lib.hid (show ¬ (kb = mb ∨ kb = rb) from fun hx => by
        rcases hx with hx | hx
        · have := HP3.out.tm.mlt mb (.inr (.inl rfl)); omega
        · have := HP3.out.rf.blk.lt; omega)
      have HNE := Lib.hid (show lo ≤ mb ∧ ¬ RfU rb v3 mb ∧ ∀ b, TbMut tb mb G3 b → b ≠ rb from ⟨HP3.out.lot mb (.inr (.inl rfl)), HP3.out.ne mb (.inr (.inl rfl)), fun b hb e => HP3.out.ne b hb (.inl e)⟩)
      have HLW15 := Lib.hid (show lo ≤ w15.heap.size from Nat.le_trans HLW2.out HB125.out.size)
      obtain ⟨dd, hdd⟩ : ∃ d, d = (findG G3 k).isSome := ⟨_, rfl⟩
      have HDD := Lib.hid (show (findG G3 k).isSome = dd ∧ decide (0 ≤ idxR R3 k) = dd from ⟨hdd.symm, by rw [hdd]; exact (found_eq HP3.out.eq k).symm⟩)
      have heq9 : (dropG G3 k).map GF.f = (dropR R3 k).map Rg.f := by rw [dropG_T, dropR_T, HP3.out.eq]
      obtain ⟨nr, hnr⟩ : ∃ n, n = (dropR R3 k).length := ⟨_, rfl⟩
      have HNR := Lib.hid (show (dropG G3 k).length = nr ∧ (dropR R3 k).length = nr from ⟨by rw [hnr]; have := congrArg List.length heq9; simpa using this, hnr.symm⟩)
      have HEQ9 := Lib.hid heq9
      have HFR := Lib.hid (show ∀ j, DrΨ lo tb mb rb G3 v3 R3 j { w15 with drawn := w15.drawn + 1 } from fun j => by
        have hb0 : Below w15.heap.size w15 { w15 with drawn := w15.drawn + 1 } := ⟨rfl, rfl, rfl, Nat.le_refl _, fun _ _ => rfl⟩
        unfold DrΨ
        split
        · exact HP15.out.tm.below hb0
        · exact HP15.out.rf.below hb0
        · trivial)
      clear hkb hkbl hp15 hdd heq9 hnr hz0 hzn
      have hfr := HFR.out
      refine wp_region_psi (by kernel_rfl) (fun p q => Upd (fun b => b = mb ∨ b = rb) p q) (DrΦ lo tb mb rb nr w15.heap.size G3 v3 R3 k dd) 17 (fun _ _ => True) (fun _ _ => false) (DrΨ lo tb mb rb G3 v3 R3) (by kernel_rfl) (fun p => Upd.refl _ p) (fun h k => h.trans_ k) hfr (oblp_of ?_) (fun o h => by cases h) ?_
      · refine ⟨fun _ => ?_, fun _ => ?_, fun _ => ?_, fun _ => ?_, fun _ => ?_, fun _ => ?_, fun _ => ?_, fun _ => ?_, fun _ => ?_, fun _ => ?_, fun _ => ?_, fun _ => ?_, fun _ => ?_, fun _ => ?_, fun _ => ?_, fun _ => ?_, fun _ => ?_, trivial⟩
        · -- 0
          intro val wx hg hψ hd hb hs K hK
          generalize hρ : rhoV _ _ val = ρ
          have cc : ∀ u, ρ (.const u) = u := fun u => by rw [← hρ]; rfl
          have ff : ∀ u, ρ (.func u) = .func (.func u) #[] #[] := fun u => by rw [← hρ]; rfl
          have r5 : ρ (.tmp 5) = .pointer (some ⟨tb, 0, none⟩) := by rw [← hρ]; rfl
          clear hρ hd hb hs hψ
          refine ifv rfl ?_
          go_simp
          exact hK _ _ (Upd.refl _ _) rfl (fun _ _ _ _ h => h) fun _ _ _ h => h
        · -- 1
          intro val wx hg hψ hd hb hs K hK
          generalize hρ : rhoV _ _ val = ρ
          have cc : ∀ u, ρ (.const u) = u := fun u => by rw [← hρ]; rfl
          have ff : ∀ u, ρ (.func u) = .func (.func u) #[] #[] := fun u => by rw [← hρ]; rfl
          have r11 : ρ (.tmp 11) = .pointer (some ⟨kb, 0, none⟩) := by rw [← hρ]; rfl
          have hkb : Blk wx kb 68 (pcC k) := HKB.out.upd (show Upd (fun b => b = mb ∨ b = rb) w15 wx from ⟨hg.os, hg.tape, hg.output, hg.size, hg.block⟩) HKN.out
          have h4 := pc_load hkb rfl
          clear hρ hd hb hs hψ
          refine ifv rfl ?_
          go_simp
          exact hK _ _ (Upd.refl _ _) rfl (fun _ _ _ _ h => h) fun _ _ _ h => h
        · -- 2
          intro val wx hg hψ hd hb hs K hK
          generalize hρ : rhoV _ _ val = ρ
          have cc : ∀ u, ρ (.const u) = u := fun u => by rw [← hρ]; rfl
          have ff : ∀ u, ρ (.func u) = .func (.func u) #[] #[] := fun u => by rw [← hρ]; rfl
          have r95 : ρ (.tmp 95) = .pointer (some ⟨tb, 0, none⟩) := by rw [← hρ]; exact hd 0 rfl rfl
          have r96 : ρ (.tmp 96) = .agg (pcC k) := by rw [← hρ]; exact hd 1 rfl rfl
          have hc := tdrop_any tb mb G3 k wx hψ HKO.out
          rw [HDD.out.1] at hc
          unfold pcV at hc
          have hψ0 : TbM wx tb mb G3 := hψ
          clear hρ hd hb hs hψ
          refine ifv rfl ?_
          go_simp
          refine hc.mono ?_
          rintro e w9 ⟨rfl, h9, hu9⟩
          exact ⟨_, rfl, hK _ _ (hu9.mono fun b hb => .inl (.inl hb)) ⟨rfl, h9⟩ (fun i hi _ hbk h => DrΦ.bare i (by rintro (e | e | e); exact hi e; (subst e; exact Bool.noConfusion ((hbk _ rfl).symm.trans rfl)); (subst e; exact Bool.noConfusion ((hbk _ rfl).symm.trans rfl))) h) fun i hi hbk h => DrΨ.first hψ0 hu9 HNE.out i hi h⟩
        · -- 3
          intro val wx hg hψ hd hb hs K hK
          generalize hρ : rhoV _ _ val = ρ
          have cc : ∀ u, ρ (.const u) = u := fun u => by rw [← hρ]; rfl
          have ff : ∀ u, ρ (.func u) = .func (.func u) #[] #[] := fun u => by rw [← hρ]; rfl
          have r6 : ρ (.tmp 6) = .pointer (some ⟨rb, 0, none⟩) := by rw [← hρ]; rfl
          clear hρ hd hb hs hψ
          refine ifv rfl ?_
          go_simp
          exact hK _ _ (Upd.refl _ _) rfl (fun _ _ _ _ h => h) fun _ _ _ h => h
        · -- 4
          intro val wx hg hψ hd hb hs K hK
          generalize hρ : rhoV _ _ val = ρ
          have cc : ∀ u, ρ (.const u) = u := fun u => by rw [← hρ]; rfl
          have ff : ∀ u, ρ (.func u) = .func (.func u) #[] #[] := fun u => by rw [← hρ]; rfl
          have r11 : ρ (.tmp 11) = .pointer (some ⟨kb, 0, none⟩) := by rw [← hρ]; rfl
          have hkb : Blk wx kb 68 (pcC k) := HKB.out.upd (show Upd (fun b => b = mb ∨ b = rb) w15 wx from ⟨hg.os, hg.tape, hg.output, hg.size, hg.block⟩) HKN.out
          have h4 := pc_load hkb rfl
          clear hρ hd hb hs hψ
          refine ifv rfl ?_
          go_simp
          exact hK _ _ (Upd.refl _ _) rfl (fun _ _ _ _ h => h) fun _ _ _ h => h
        · -- 5
          intro val wx hg hψ hd hb hs K hK
          generalize hρ : rhoV _ _ val = ρ
          have cc : ∀ u, ρ (.const u) = u := fun u => by rw [← hρ]; rfl
          have ff : ∀ u, ρ (.func u) = .func (.func u) #[] #[] := fun u => by rw [← hρ]; rfl
          have r98 : ρ (.tmp 98) = .pointer (some ⟨rb, 0, none⟩) := by rw [← hρ]; exact hd 3 rfl rfl
          have r99 : ρ (.tmp 99) = .agg (pcC k) := by rw [← hρ]; exact hd 4 rfl rfl
          have hψ0 : RfM wx lo rb v3 R3 := hψ
          have hsz : w15.heap.size ≤ wx.heap.size := hg.size
          have hc := dropk16_any hψ0 (Nat.le_trans HLW15.out hsz) k
          unfold Drop16Post at hc
          rw [HDD.out.2] at hc
          unfold pcV at hc
          clear hρ hd hb hs hψ
          refine ifv rfl ?_
          go_simp
          refine hc.mono ?_
          rintro e w9 ⟨rfl, v9, h9, hu9, hj9⟩
          exact ⟨_, rfl, hK _ _ (hu9.mono fun b hb => .inl (.inr hb)) ⟨rfl, v9, h9, fun j hj => (hj9 j hj).imp id (Nat.le_trans hsz)⟩ (fun i hi _ hbk h => DrΦ.second hψ0 hu9 HNE.out i (by rintro (e | e); exact hi e; (subst e; exact Bool.noConfusion ((hbk _ rfl).symm.trans rfl))) h) fun i hi hbk h => DrΨ.bare i (by rintro (e | e); (subst e; exact Bool.noConfusion (hbk.symm.trans rfl)); exact hi e) h⟩
        · -- 6
          intro val wx hg hψ hd hb hs K hK
          generalize hρ : rhoV _ _ val = ρ
          have cc : ∀ u, ρ (.const u) = u := fun u => by rw [← hρ]; rfl
          have ff : ∀ u, ρ (.func u) = .func (.func u) #[] #[] := fun u => by rw [← hρ]; rfl
          have r97 : ρ (.tmp 97) = val 2 := by rw [← hρ]; rfl
          have p2 := hd 2 rfl rfl
          have r100 : ρ (.tmp 100) = val 5 := by rw [← hρ]; rfl
          have p5 := hd 5 rfl rfl
          obtain ⟨e2, _⟩ : val 2 = .bool dd ∧ TbM wx tb mb (dropG G3 k) := hd 2 rfl rfl
          obtain ⟨e5, _⟩ : val 5 = .bool dd ∧ ∃ v9, RfM wx lo rb v9 (dropR R3 k) ∧ ∀ j, v9.ownBlock = some j → v3.ownBlock = some j ∨ w15.heap.size ≤ j := hd 5 rfl rfl
          rw [e2] at r97
          rw [e5] at r100
          have hneq : (dd != dd) = false := by cases dd <;> rfl
          clear hρ hd hb hs hψ
          refine ifv rfl ?_
          go_simp
          exact hK _ _ (Upd.refl _ _) rfl (fun _ _ _ _ h => h) fun _ _ _ h => h
        · -- 7
          intro val wx hg hψ hd hb hs K hK
          generalize hρ : rhoV _ _ val = ρ
          have cc : ∀ u, ρ (.const u) = u := fun u => by rw [← hρ]; rfl
          have ff : ∀ u, ρ (.func u) = .func (.func u) #[] #[] := fun u => by rw [← hρ]; rfl
          have r101 : ρ (.tmp 101) = .bool false := by rw [← hρ]; exact hd 6 rfl rfl
          clear hρ hd hb hs hψ
          refine ifv rfl ?_
          go_simp
          exact hK _ _ (Upd.refl _ _) rfl (fun _ _ _ _ h => h) fun _ _ _ h => h
        · -- 8
          intro val wx hg hψ hd hb hs K hK
          generalize hρ : rhoV _ _ val = ρ
          have cc : ∀ u, ρ (.const u) = u := fun u => by rw [← hρ]; rfl
          have ff : ∀ u, ρ (.func u) = .func (.func u) #[] #[] := fun u => by rw [← hρ]; rfl
          have r5 : ρ (.tmp 5) = .pointer (some ⟨tb, 0, none⟩) := by rw [← hρ]; rfl
          have hgv : val 7 = .bool false := hd 7 rfl rfl
          clear hρ hd hb hs hψ
          refine ifv (wanted_of (g := 7) (b := false) rfl hgv) ?_
          go_simp
          exact hK _ _ (Upd.refl _ _) rfl (fun _ _ _ _ h => h) fun _ _ _ h => h
        · -- 9
          intro val wx hg hψ hd hb hs K hK
          generalize hρ : rhoV _ _ val = ρ
          have cc : ∀ u, ρ (.const u) = u := fun u => by rw [← hρ]; rfl
          have ff : ∀ u, ρ (.func u) = .func (.func u) #[] #[] := fun u => by rw [← hρ]; rfl
          have r103 : ρ (.tmp 103) = .pointer (some ⟨tb, 0, none⟩) := by rw [← hρ]; exact hd 8 rfl rfl
          have hgv : val 7 = .bool false := hd 7 rfl rfl
          obtain ⟨_, htm⟩ : val 2 = .bool dd ∧ TbM wx tb mb (dropG G3 k) := hd 2 rfl rfl
          have hc := tlen_any tb mb _ wx htm
          rw [HNR.out.1] at hc
          clear hρ hd hb hs hψ
          refine ifv (wanted_of (g := 7) (b := false) rfl hgv) ?_
          go_simp
          refine hc.mono ?_
          rintro e w9 ⟨rfl, hw9⟩
          subst hw9
          exact ⟨_, rfl, hK _ _ (Upd.refl _ _) rfl (fun i _ _ _ h => h) fun i _ _ h => h⟩
        · -- 10
          intro val wx hg hψ hd hb hs K hK
          generalize hρ : rhoV _ _ val = ρ
          have cc : ∀ u, ρ (.const u) = u := fun u => by rw [← hρ]; rfl
          have ff : ∀ u, ρ (.func u) = .func (.func u) #[] #[] := fun u => by rw [← hρ]; rfl
          have r6 : ρ (.tmp 6) = .pointer (some ⟨rb, 0, none⟩) := by rw [← hρ]; rfl
          have hgv : val 7 = .bool false := hd 7 rfl rfl
          clear hρ hd hb hs hψ
          refine ifv (wanted_of (g := 7) (b := false) rfl hgv) ?_
          go_simp
          exact hK _ _ (Upd.refl _ _) rfl (fun _ _ _ _ h => h) fun _ _ _ h => h
        · -- 11
          intro val wx hg hψ hd hb hs K hK
          generalize hρ : rhoV _ _ val = ρ
          have cc : ∀ u, ρ (.const u) = u := fun u => by rw [← hρ]; rfl
          have ff : ∀ u, ρ (.func u) = .func (.func u) #[] #[] := fun u => by rw [← hρ]; rfl
          have r105 : ρ (.tmp 105) = .pointer (some ⟨rb, 0, none⟩) := by rw [← hρ]; exact hd 10 rfl rfl
          have hgv : val 7 = .bool false := hd 7 rfl rfl
          clear hρ hd hb hs hψ
          refine ifv (wanted_of (g := 7) (b := false) rfl hgv) ?_
          go_simp
          exact hK _ _ (Upd.refl _ _) rfl (fun _ _ _ _ h => h) fun _ _ _ h => h
        · -- 12
          intro val wx hg hψ hd hb hs K hK
          generalize hρ : rhoV _ _ val = ρ
          have cc : ∀ u, ρ (.const u) = u := fun u => by rw [← hρ]; rfl
          have ff : ∀ u, ρ (.func u) = .func (.func u) #[] #[] := fun u => by rw [← hρ]; rfl
          have r106 : ρ (.tmp 106) = .pointer (some ⟨rb, 0, none⟩) := by rw [← hρ]; exact hd 11 rfl rfl
          have hgv : val 7 = .bool false := hd 7 rfl rfl
          clear hρ hd hb hs hψ
          refine ifv (wanted_of (g := 7) (b := false) rfl hgv) ?_
          go_simp
          exact hK _ _ (Upd.refl _ _) rfl (fun _ _ _ _ h => h) fun _ _ _ h => h
        · -- 13
          intro val wx hg hψ hd hb hs K hK
          generalize hρ : rhoV _ _ val = ρ
          have cc : ∀ u, ρ (.const u) = u := fun u => by rw [← hρ]; rfl
          have ff : ∀ u, ρ (.func u) = .func (.func u) #[] #[] := fun u => by rw [← hρ]; rfl
          have r107 : ρ (.tmp 107) = .pointer (some ⟨rb, 0, none⟩) := by rw [← hρ]; exact hd 12 rfl rfl
          have hgv : val 7 = .bool false := hd 7 rfl rfl
          obtain ⟨_, v9, hrf, _⟩ : val 5 = .bool dd ∧ ∃ v9, RfM wx lo rb v9 (dropR R3 k) ∧ ∀ j, v9.ownBlock = some j → v3.ownBlock = some j ∨ w15.heap.size ≤ j := hd 5 rfl rfl
          obtain ⟨A9, c9, e9, _⟩ := hrf.form
          rw [HNR.out.2] at e9
          have h4 := ld_rl (w := wx) (b := rb) (A := A9) (n := nr) (c := c9) (by rw [hrf.blk.cell, e9]; rfl)
          clear hρ hd hb hs hψ
          refine ifv (wanted_of (g := 7) (b := false) rfl hgv) ?_
          go_simp
          exact hK _ _ (Upd.refl _ _) ⟨_, _, rfl⟩ (fun i _ _ _ h => h) fun i _ _ h => h
        · -- 14
          intro val wx hg hψ hd hb hs K hK
          generalize hρ : rhoV _ _ val = ρ
          have cc : ∀ u, ρ (.const u) = u := fun u => by rw [← hρ]; rfl
          have ff : ∀ u, ρ (.func u) = .func (.func u) #[] #[] := fun u => by rw [← hρ]; rfl
          have r108 : ρ (.tmp 108) = val 13 := by rw [← hρ]; rfl
          have p13 := hd 13 rfl rfl
          have hgv : val 7 = .bool false := hd 7 rfl rfl
          obtain ⟨A9, c9, e13⟩ : ∃ A c, val 13 = .slice A nr c := hd 13 rfl rfl
          rw [e13] at r108
          clear hρ hd hb hs hψ
          refine ifv (wanted_of (g := 7) (b := false) rfl hgv) ?_
          go_simp
          exact hK _ _ (Upd.refl _ _) rfl (fun _ _ _ _ h => h) fun _ _ _ h => h
        · -- 15
          intro val wx hg hψ hd hb hs K hK
          generalize hρ : rhoV _ _ val = ρ
          have cc : ∀ u, ρ (.const u) = u := fun u => by rw [← hρ]; rfl
          have ff : ∀ u, ρ (.func u) = .func (.func u) #[] #[] := fun u => by rw [← hρ]; rfl
          have r104 : ρ (.tmp 104) = val 9 := by rw [← hρ]; rfl
          have p9 := hd 9 rfl rfl
          have r109 : ρ (.tmp 109) = .int .i64 (nr : Int) := by rw [← hρ]; exact hd 14 rfl rfl
          have hgv : val 7 = .bool false := hd 7 rfl rfl
          have e9 : val 9 = .int .i64 (nr : Int) := hd 9 rfl rfl
          rw [e9] at r104
          clear hρ hd hb hs hψ
          refine ifv (wanted_of (g := 7) (b := false) rfl hgv) ?_
          go_simp
          exact hK _ _ (Upd.refl _ _) rfl (fun _ _ _ _ h => h) fun _ _ _ h => h
        · -- 16
          intro val wx hg hψ hd hb hs K hK
          generalize hρ : rhoV _ _ val = ρ
          have cc : ∀ u, ρ (.const u) = u := fun u => by rw [← hρ]; rfl
          have ff : ∀ u, ρ (.func u) = .func (.func u) #[] #[] := fun u => by rw [← hρ]; rfl
          have r102 : ρ (.tmp 102) = .bool false := by rw [← hρ]; exact hd 7 rfl rfl
          have r110 : ρ (.tmp 110) = .bool false := by rw [← hρ]; exact hd 15 rfl rfl
          clear hρ hd hb hs hψ
          refine ifv rfl ?_
          go_simp
          exact hK _ _ (Upd.refl _ _) rfl (fun _ _ _ _ h => h) fun _ _ _ h => h
      · intro val w19 h9
        rw [if_neg (by decide)] at h9
        obtain ⟨_, htm9⟩ : val 2 = .bool dd ∧ TbM w19 tb mb (dropG G3 k) := h9.2 2 (by decide) fun _ _ => rfl
        obtain ⟨_, v9, hrf9, hvo9⟩ : val 5 = .bool dd ∧ ∃ v9, RfM w19 lo rb v9 (dropR R3 k) ∧ ∀ j, v9.ownBlock = some j → v3.ownBlock = some j ∨ w15.heap.size ≤ j := h9.2 5 (by decide) fun _ _ => rfl
        have p16 : val 16 = .bool false := h9.2 16 (by decide) fun _ _ => rfl
        have hu9 : Upd (PrU tb mb G3 rb v3) w15 w19 := (show Upd (fun b => b = mb ∨ b = rb) w15 w19 from ⟨h9.1.os, h9.1.tape, h9.1.output, h9.1.size, h9.1.block⟩).mono fun b hb => by
          rcases hb with hb | hb
          · exact .inl (.inl (.inr (.inl hb)))
          · exact .inl (.inr (.inl hb))
        have hp5 : Pr lo w19 tb mb (dropG G3 k) rb v9 (dropR R3 k) := ⟨htm9, hrf9, HEQ9.out, fun b hb => HP15.out.lot b hb.drop, fun b hb hx => by
          rcases hx with hx | hx
          · exact HNE.out.2.2 b hb.drop hx
          · rcases hvo9 b hx with h1 | h1
            · exact HP15.out.ne b hb.drop (.inr h1)
            · have := HP15.out.tm.mlt b hb.drop; omega⟩
        have hp2c := (HP2B.out.below HB125.out).keep hu9 (fun b hb => ⟨HP15.out.low hb, HDJ3.out b hb⟩) HP15.out.safe
        have hdj5 : ∀ b, PrU tb mb (dropG G3 k) rb v9 b → ¬ PrU tb2 mb2 G2 rb2 v2 b := fun b h1 h2 => by
          rcases h1 with h1 | h1 | h1
          · exact HDJ3.out b (.inl h1.drop) h2
          · exact HDJ3.out b (.inr (.inl h1)) h2
          · rcases hvo9 b h1 with h3 | h3
            · exact HDJ3.out b (.inr (.inr h3)) h2
            · have := (HP2B.out.below HB125.out).lt h2; omega
        have hb15 : Below lo w w15 := HB12.out.trans (HB125.out.mono HLW2.out)
        have HP5 := Lib.hid hp5
        have HP2C := Lib.hid hp2c
        have HDJ5 := Lib.hid hdj5
        have HB19 := Lib.hid (hb15.trans (hu9.below (fun b hb => HP15.out.low hb) HLW15.out))
        have HLW5 := Lib.hid (Nat.le_trans HLW15.out hu9.size)
        clear h9 hfr htm9 hrf9 hvo9 hu9 hp5 hp2c hdj5 hb15
        simp only [putAll, p16]
        simp only [Act.put, List.setIfInBounds_toArray, List.set_cons_succ, List.set_cons_zero, Nat.zero_add, Nat.reduceAdd]
        clear p16
        generalize val 0 = y0, val 1 = y1, val 2 = y2, val 3 = y3, val 4 = y4, val 5 = y5, val 6 = y6, val 7 = y7, val 8 = y8, val 9 = y9, val 10 = y10, val 11 = y11, val 12 = y12, val 13 = y13, val 14 = y14, val 15 = y15
        go_upto_region 18 with (fail)
        by_cases hq : i = nl / 2
        · have hq2 : (nl : Int) / 2 = (i : Int) := by omega
          clear hq
          have HTC9 := Lib.hid (tcopy_any tb mb (dropG G3 k) w19 HP5.out.tm)
          go_upto_region 10 with (first
            | (go_at_call 50; refine HTC9.out.mono ?_; rintro e w20 ⟨tb4, mb4, G4, rfl, ht4, he4, hb20, hm4⟩; have HT4 := Lib.hid ht4; have HE4 := Lib.hid he4; have HB20 := Lib.hid hb20; have HM4 := Lib.hid hm4; have HCC9 := Lib.hid (copy16_any (HP5.out.rf.below hb20) (Nat.le_trans HLW5.out hb20.size)); unfold ptrV; clear ht4 he4 hb20 hm4)
            | (go_at_call 51; refine HCC9.out.mono ?_; rintro e w21 ⟨rb4, v4, rfl, hr4, hb21, hrl4, hvl4⟩; have HR4 := Lib.hid hr4; have HB21 := Lib.hid hb21; have HRL4 := Lib.hid (And.intro hrl4 hvl4); clear hr4 hb21 hrl4 hvl4))
          have hpc : Pr lo w21 tb4 mb4 G4 rb4 v4 (dropR R3 k) ∧ ∀ b, PrU tb4 mb4 G4 rb4 v4 b → w19.heap.size ≤ b := by
            have hlow : ∀ b, PrU tb4 mb4 G4 rb4 v4 b → w19.heap.size ≤ b := fun b hb => by
              rcases hb with hb | hb | hb
              · exact HM4.out b hb
              · rw [hb]; exact Nat.le_trans HB20.out.size HRL4.out.1
              · exact Nat.le_trans HB20.out.size (HRL4.out.2 b hb)
            refine ⟨⟨HT4.out.below HB21.out, HR4.out, HE4.out.trans HP5.out.eq, fun b hb => Nat.le_trans HLW5.out (hlow b (.inl hb)), fun b hb hx => ?_⟩, hlow⟩
            have h1 := HT4.out.mlt b hb
            rcases hx with hx | hx
            · have := HRL4.out.1; omega
            · have := HRL4.out.2 b hx; omega
          have hbb := HB20.out.trans (HB21.out.mono HB20.out.size)
          have HREL := Lib.hid (show Pr lo w21 tb mb (dropG G3 k) rb v9 (dropR R3 k) ∧ Pr lo w21 tb4 mb4 G4 rb4 v4 (dropR R3 k) ∧ (∀ b, PrU tb mb (dropG G3 k) rb v9 b → ¬ PrU tb4 mb4 G4 rb4 v4 b) ∧ Below lo w w21 from ⟨HP5.out.below hbb, hpc.1, fun b h1 h2 => by have := HP5.out.lt h1; have := hpc.2 b h2; omega, HB19.out.trans (hbb.mono HLW5.out)⟩)
          clear hpc hbb
          go_wp2_with fail
          go_roundw
          case measure => first | (simp [intOf]; done) | (simp [intOf]; omega)
          case rel => exact ⟨i + 1, _, _, _, _, _, _, _, _, _, rfl, rfl, by go_num, by omega, HREL.out⟩
        · have dq : ((i : Int) == (nl : Int) / 2) = false := by rw [beq_eq_false_iff_ne]; omega
          have hq2 : ¬ ((i : Int) = (nl : Int) / 2) := by omega
          clear hq
          go_wp2_with fail
          go_roundw
          case measure => first | (simp [intOf]; done) | (simp [intOf]; omega)
          case rel => exact ⟨i + 1, _, _, _, _, _, _, _, _, _, rfl, rfl, by go_num, by omega, HP5.out, HP2C.out, HDJ5.out, HB19.out⟩
    · have hie : i = nl := by omega
      subst hie
      have d0 : ¬ ((i : Int) < (i : Int)) := by omega
      obtain ⟨wo, rfl⟩ : ∃ z, z = wr := ⟨_, rfl⟩
      go_wp2_with fail
      clear d0
      go_loopw [12] (fun s12 wr => ∃ (j : Nat) (G2 : List GF) (v2 : Value) (R2 : List Rg), s12 = .int .i64 (j : Int) ∧ j ≤ i ∧ Pr lo wr tb mb G1 rb v1 R1 ∧ Pr lo wr tb2 mb2 G2 rb2 v2 R2 ∧ (∀ b, PrU tb mb G1 rb v1 b → ¬ PrU tb2 mb2 G2 rb2 v2 b) ∧ Below lo w wr) (fun s12 _ => i - (intOf s12).toNat)
      case atStart => exact ⟨0, _, _, _, rfl, Nat.zero_le _, HP1.out, HP2.out, HDJ.out, HB.out⟩
      case round =>
        clear HP1 HP2 HDJ HB HLW
        obtain ⟨nl, hnl9⟩ : ∃ z, z = i := ⟨_, rfl⟩
        subst hnl9
        obtain ⟨i, G2, v2, R2, rfl, hi, hp1, hp2, hdj, hb⟩ := hrel
        have HP1 := Lib.hid hp1
        have HP2 := Lib.hid hp2
        have HDJ := Lib.hid hdj
        have HB := Lib.hid hb
        have HLW := Lib.hid (show lo ≤ wr.heap.size by rw [HLOE.out]; exact hb.size)
        clear hp1 hp2 hdj hb
        by_cases hlt : i < nl
        · obtain ⟨al, hal⟩ : ∃ al, Al = some al := by
            obtain ⟨ad, e, _⟩ := (HLL.out w HB00.out).1.2 (by omega)
            exact ⟨ad, e⟩
          subst hal
          obtain ⟨x, hx⟩ : ∃ x, xs[i]? = some x := ⟨_, List.getElem?_eq_getElem (by rw [HXN.out]; exact hlt)⟩
          obtain ⟨_, _, he0⟩ := HLL.out w HB00.out
          obtain ⟨Ax, cx, h10, hxc, _⟩ := he0 i x hx
          obtain ⟨xl, hxl⟩ : ∃ z, z = x.length := ⟨_, rfl⟩
          have HEL := Lib.hid (show ∀ wx, Below lo w wx → wx.cell? (al.add i) = some (.slice Ax xl cx) ∧ Reads wx (fun k => k < lo) 1 Ax xl (bytesV x) from fun wx hb => by
            obtain ⟨hr', _, he'⟩ := HLL.out wx hb
            obtain ⟨Ax2, cx2, h1', _, h3'⟩ := he' i x hx
            rw [h10] at h1'
            injection h1' with h1'
            injection h1' with e1 e2 e3
            subst e1
            subst e3
            obtain ⟨ad, e, _, _, hc⟩ := hr'.2 (by omega)
            injection e with e
            subst e
            rw [hxl]
            exact ⟨hc i _ h10, h3'⟩)
          have HXL := Lib.hid (show x.length = xl ∧ xl ≤ cx ∧ xl ≤ 100000 from ⟨hxl.symm, by rw [hxl]; exact hxc, by rw [hxl]; have := HXB.out x (List.mem_of_getElem? hx); omega⟩)
          obtain ⟨k, hk⟩ : ∃ k, k = keyF (prsF x).1 := ⟨_, rfl⟩
          have HKO := Lib.hid (show kOk k by rw [hk]; exact key_ok (prs_ok x))
          have HKK := Lib.hid hk.symm
          obtain ⟨ms, hms⟩ : ∃ z, z = missT (R1.map Rg.f) k := ⟨_, rfl⟩
          have HMS := Lib.hid (show missG G1 k = ms ∧ missT (R1.map Rg.f) k = ms from ⟨by rw [missG_T, HP1.out.eq, hms], hms.symm⟩)
          have HML := Lib.hid (show ms.length ≤ 1000000 by
            rw [hms]
            refine Nat.le_trans (missT_len (fun f hf => ?_) k) (by omega)
            obtain ⟨g, hg, rfl⟩ := List.mem_map.1 hf
            exact (HP1.out.rf.fl g hg).ok)
          have HFR := Lib.hid (show ∀ j, T2Ψ lo tb2 mb2 rb2 G2 v2 R2 j { wr with drawn := wr.drawn + 1 } from fun j => by
            have hb0 : Below wr.heap.size wr { wr with drawn := wr.drawn + 1 } := ⟨rfl, rfl, rfl, Nat.le_refl _, fun _ _ => rfl⟩
            unfold T2Ψ
            split
            · exact HP2.out.below hb0
            · trivial)
          have i0 : (0 : Int) ≤ (i : Int) := by omega
          have i1 : (i : Int) < (nl : Int) := by omega
          clear hx he0 h10 hxc hxl hk hms
          go_upto_region 23 with (fail)
          have hfr := HFR.out
          refine wp_region_psi (by kernel_rfl) (fun p q => Upd (PrU tb2 mb2 G2 rb2 v2) p q) (T2Φ lo tb rb tb2 mb2 rb2 nl cl i xl cx wr.heap.size al Ax G2 v2 k ms) 30 (fun _ _ => True) (fun _ _ => false) (T2Ψ lo tb2 mb2 rb2 G2 v2 R2) (by kernel_rfl) (fun p => Upd.refl _ p) (fun h k => h.trans_ k) hfr (oblp_of ?_) (fun o h => by cases h) ?_
          · refine ⟨fun _ => ?_, fun _ => ?_, fun _ => ?_, fun _ => ?_, fun _ => ?_, fun _ => ?_, fun _ => ?_, fun _ => ?_, fun _ => ?_, fun _ => ?_, fun _ => ?_, fun _ => ?_, fun _ => ?_, fun _ => ?_, fun _ => ?_, fun _ => ?_, fun _ => ?_, fun _ => ?_, fun _ => ?_, fun _ => ?_, fun _ => ?_, fun _ => ?_, fun _ => ?_, fun _ => ?_, fun _ => ?_, fun _ => ?_, fun _ => ?_, fun _ => ?_, fun _ => ?_, fun _ => ?_, trivial⟩
            · -- 0
              intro val wx hg hψ hd hb hs K hK
              generalize hρ : rhoV _ _ val = ρ
              have cc : ∀ u, ρ (.const u) = u := fun u => by rw [← hρ]; rfl
              have ff : ∀ u, ρ (.func u) = .func (.func u) #[] #[] := fun u => by rw [← hρ]; rfl
              have r7 : ρ (.tmp 7) = .pointer (some ⟨tb2, 0, none⟩) := by rw [← hρ]; rfl
              clear hρ hd hb hs hψ
              refine ifv rfl ?_
              go_simp
              exact hK _ _ (Upd.refl _ _) rfl (fun _ _ _ _ h => h) fun _ _ _ h => h
            · -- 1
              intro val wx hg hψ hd hb hs K hK
              generalize hρ : rhoV _ _ val = ρ
              have cc : ∀ u, ρ (.const u) = u := fun u => by rw [← hρ]; rfl
              have ff : ∀ u, ρ (.func u) = .func (.func u) #[] #[] := fun u => by rw [← hρ]; rfl
              have r127 : ρ (.tmp 127) = .pointer (some ⟨tb2, 0, none⟩) := by rw [← hρ]; exact hd 0 rfl rfl
              clear hρ hd hb hs hψ
              refine ifv rfl ?_
              go_simp
              exact hK _ _ (Upd.refl _ _) rfl (fun _ _ _ _ h => h) fun _ _ _ h => h
            · -- 2
              intro val wx hg hψ hd hb hs K hK
              generalize hρ : rhoV _ _ val = ρ
              have cc : ∀ u, ρ (.const u) = u := fun u => by rw [← hρ]; rfl
              have ff : ∀ u, ρ (.func u) = .func (.func u) #[] #[] := fun u => by rw [← hρ]; rfl
              have r128 : ρ (.tmp 128) = .bool false := by rw [← hρ]; exact hd 1 rfl rfl
              clear hρ hd hb hs hψ
              refine ifv rfl ?_
              go_simp
              exact hK _ _ (Upd.refl _ _) rfl (fun _ _ _ _ h => h) fun _ _ _ h => h
            · -- 3
              intro val wx hg hψ hd hb hs K hK
              generalize hρ : rhoV _ _ val = ρ
              have cc : ∀ u, ρ (.const u) = u := fun u => by rw [← hρ]; rfl
              have ff : ∀ u, ρ (.func u) = .func (.func u) #[] #[] := fun u => by rw [← hρ]; rfl
              have r7 : ρ (.tmp 7) = .pointer (some ⟨tb2, 0, none⟩) := by rw [← hρ]; rfl
              have hgv : val 2 = .bool false := hd 2 rfl rfl
              clear hρ hd hb hs hψ
              refine ifv (wanted_of (g := 2) (b := false) rfl hgv) ?_
              go_simp
              exact hK _ _ (Upd.refl _ _) rfl (fun _ _ _ _ h => h) fun _ _ _ h => h
            · -- 4
              intro val wx hg hψ hd hb hs K hK
              generalize hρ : rhoV _ _ val = ρ
              have cc : ∀ u, ρ (.const u) = u := fun u => by rw [← hρ]; rfl
              have ff : ∀ u, ρ (.func u) = .func (.func u) #[] #[] := fun u => by rw [← hρ]; rfl
              have r8 : ρ (.tmp 8) = .pointer (some ⟨rb2, 0, none⟩) := by rw [← hρ]; rfl
              have hgv : val 2 = .bool false := hd 2 rfl rfl
              clear hρ hd hb hs hψ
              refine ifv (wanted_of (g := 2) (b := false) rfl hgv) ?_
              go_simp
              exact hK _ _ (Upd.refl _ _) rfl (fun _ _ _ _ h => h) fun _ _ _ h => h
            · -- 5
              intro val wx hg hψ hd hb hs K hK
              generalize hρ : rhoV _ _ val = ρ
              have cc : ∀ u, ρ (.const u) = u := fun u => by rw [← hρ]; rfl
              have ff : ∀ u, ρ (.func u) = .func (.func u) #[] #[] := fun u => by rw [← hρ]; rfl
              have r0 : ρ (.tmp 0) = .slice (some al) nl cl := by rw [← hρ]; rfl
              have hgv : val 2 = .bool false := hd 2 rfl rfl
              clear hρ hd hb hs hψ
              refine ifv (wanted_of (g := 2) (b := false) rfl hgv) ?_
              go_simp
              exact hK _ _ (Upd.refl _ _) rfl (fun _ _ _ _ h => h) fun _ _ _ h => h
            · -- 6
              intro val wx hg hψ hd hb hs K hK
              generalize hρ : rhoV _ _ val = ρ
              have cc : ∀ u, ρ (.const u) = u := fun u => by rw [← hρ]; rfl
              have ff : ∀ u, ρ (.func u) = .func (.func u) #[] #[] := fun u => by rw [← hρ]; rfl
              have r12 : ρ (.tmp 12) = .int .i64 (i : Int) := by rw [← hρ]; rfl
              have hgv : val 2 = .bool false := hd 2 rfl rfl
              clear hρ hd hb hs hψ
              refine ifv (wanted_of (g := 2) (b := false) rfl hgv) ?_
              go_simp
              exact hK _ _ (Upd.refl _ _) rfl (fun _ _ _ _ h => h) fun _ _ _ h => h
            · -- 7
              intro val wx hg hψ hd hb hs K hK
              generalize hρ : rhoV _ _ val = ρ
              have cc : ∀ u, ρ (.const u) = u := fun u => by rw [← hρ]; rfl
              have ff : ∀ u, ρ (.func u) = .func (.func u) #[] #[] := fun u => by rw [← hρ]; rfl
              have r132 : ρ (.tmp 132) = .slice (some al) nl cl := by rw [← hρ]; exact hd 5 rfl rfl
              have r133 : ρ (.tmp 133) = .int .i64 (i : Int) := by rw [← hρ]; exact hd 6 rfl rfl
              have hgv : val 2 = .bool false := hd 2 rfl rfl
              clear hρ hd hb hs hψ
              refine ifv (wanted_of (g := 2) (b := false) rfl hgv) ?_
              go_simp
              exact hK _ _ (Upd.refl _ _) rfl (fun _ _ _ _ h => h) fun _ _ _ h => h
            · -- 8
              intro val wx hg hψ hd hb hs K hK
              generalize hρ : rhoV _ _ val = ρ
              have cc : ∀ u, ρ (.const u) = u := fun u => by rw [← hρ]; rfl
              have ff : ∀ u, ρ (.func u) = .func (.func u) #[] #[] := fun u => by rw [← hρ]; rfl
              have r134 : ρ (.tmp 134) = .pointer (some (al.add i)) := by rw [← hρ]; exact hd 7 rfl rfl
              have hgv : val 2 = .bool false := hd 2 rfl rfl
              have hgx : Upd (PrU tb2 mb2 G2 rb2 v2) wr wx := ⟨hg.os, hg.tape, hg.output, hg.size, hg.block⟩
              have hbx : Below lo w wx := HB.out.trans (hgx.below (fun b hb => HP2.out.low hb) HLW.out)
              have h4 := ld8a (HEL.out wx hbx).1
              clear hρ hd hb hs hψ
              refine ifv (wanted_of (g := 2) (b := false) rfl hgv) ?_
              go_simp
              exact hK _ _ (Upd.refl _ _) rfl (fun _ _ _ _ h => h) fun _ _ _ h => h
            · -- 9
              intro val wx hg hψ hd hb hs K hK
              generalize hρ : rhoV _ _ val = ρ
              have cc : ∀ u, ρ (.const u) = u := fun u => by rw [← hρ]; rfl
              have ff : ∀ u, ρ (.func u) = .func (.func u) #[] #[] := fun u => by rw [← hρ]; rfl
              have r130 : ρ (.tmp 130) = .pointer (some ⟨tb2, 0, none⟩) := by rw [← hρ]; exact hd 3 rfl rfl
              have r131 : ρ (.tmp 131) = .pointer (some ⟨rb2, 0, none⟩) := by rw [← hρ]; exact hd 4 rfl rfl
              have r135 : ρ (.tmp 135) = .slice Ax xl cx := by rw [← hρ]; exact hd 8 rfl rfl
              have hgv : val 2 = .bool false := hd 2 rfl rfl
              have hgx : Upd (PrU tb2 mb2 G2 rb2 v2) wr wx := ⟨hg.os, hg.tape, hg.output, hg.size, hg.block⟩
              have hbx : Below lo w wx := HB.out.trans (hgx.below (fun b hb => HP2.out.low hb) HLW.out)
              have hzx : wr.heap.size ≤ wx.heap.size := hg.size
              have hc := ltake_any (show Pr lo wx tb2 mb2 G2 rb2 v2 R2 from hψ) (Nat.le_trans HLW.out hzx) Ax xl cx x (HEL.out wx hbx).2 HXL.out.1 HXL.out.2.1 HXL.out.2.2
              clear hρ hd hb hs hψ
              refine ifv (wanted_of (g := 2) (b := false) rfl hgv) ?_
              go_simp
              refine hc.mono ?_
              rintro e w9 ⟨rfl, G9, v9, R9, h9, hu9, hown9⟩
              exact ⟨_, rfl, hK _ _ hu9 ⟨rfl, G9, v9, R9, h9, fun b hb => (hown9 b hb).imp id (Nat.le_trans hzx)⟩ (fun i hi _ hbk h => T2Φ.bare i (by rintro (e | e | e); exact hi e; (subst e; exact Bool.noConfusion ((hbk _ rfl).symm.trans rfl)); (subst e; exact Bool.noConfusion ((hbk _ rfl).symm.trans rfl))) h) fun i hi hbk h => T2Ψ.bare i hi h⟩
            · -- 10
              intro val wx hg hψ hd hb hs K hK
              generalize hρ : rhoV _ _ val = ρ
              have cc : ∀ u, ρ (.const u) = u := fun u => by rw [← hρ]; rfl
              have ff : ∀ u, ρ (.func u) = .func (.func u) #[] #[] := fun u => by rw [← hρ]; rfl
              have r136 : ρ (.tmp 136) = val 9 := by rw [← hρ]; rfl
              have p9 := hd 9 rfl rfl
              have hgv : val 2 = .bool false := hd 2 rfl rfl
              obtain ⟨e9, _⟩ : val 9 = .bool true ∧ ∃ G9 v9 R9, Pr lo wx tb2 mb2 G9 rb2 v9 R9 ∧ ∀ b, PrU tb2 mb2 G9 rb2 v9 b → PrU tb2 mb2 G2 rb2 v2 b ∨ wr.heap.size ≤ b := hd 9 rfl rfl
              rw [e9] at r136
              clear hρ hd hb hs hψ
              refine ifv (wanted_of (g := 2) (b := false) rfl hgv) ?_
              go_simp
              exact hK _ _ (Upd.refl _ _) rfl (fun _ _ _ _ h => h) fun _ _ _ h => h
            · -- 11
              intro val wx hg hψ hd hb hs K hK
              generalize hρ : rhoV _ _ val = ρ
              have cc : ∀ u, ρ (.const u) = u := fun u => by rw [← hρ]; rfl
              have ff : ∀ u, ρ (.func u) = .func (.func u) #[] #[] := fun u => by rw [← hρ]; rfl
              have r129 : ρ (.tmp 129) = .bool false := by rw [← hρ]; exact hd 2 rfl rfl
              have r137 : ρ (.tmp 137) = .bool false := by rw [← hρ]; exact hd 10 rfl rfl
              clear hρ hd hb hs hψ
              refine ifv rfl ?_
              go_simp
              exact hK _ _ (Upd.refl _ _) rfl (fun _ _ _ _ h => h) fun _ _ _ h => h
            · -- 12
              intro val wx hg hψ hd hb hs K hK
              generalize hρ : rhoV _ _ val = ρ
              have cc : ∀ u, ρ (.const u) = u := fun u => by rw [← hρ]; rfl
              have ff : ∀ u, ρ (.func u) = .func (.func u) #[] #[] := fun u => by rw [← hρ]; rfl
              have r138 : ρ (.tmp 138) = .bool false := by rw [← hρ]; exact hd 11 rfl rfl
              clear hρ hd hb hs hψ
              refine ifv rfl ?_
              go_simp
              exact hK _ _ (Upd.refl _ _) rfl (fun _ _ _ _ h => h) fun _ _ _ h => h
            · -- 13
              intro val wx hg hψ hd hb hs K hK
              generalize hρ : rhoV _ _ val = ρ
              have cc : ∀ u, ρ (.const u) = u := fun u => by rw [← hρ]; rfl
              have ff : ∀ u, ρ (.func u) = .func (.func u) #[] #[] := fun u => by rw [← hρ]; rfl
              have r5 : ρ (.tmp 5) = .pointer (some ⟨tb, 0, none⟩) := by rw [← hρ]; rfl
              have hgv : val 12 = .bool false := hd 12 rfl rfl
              clear hρ hd hb hs hψ
              refine ifv (wanted_of (g := 12) (b := false) rfl hgv) ?_
              go_simp
              exact hK _ _ (Upd.refl _ _) rfl (fun _ _ _ _ h => h) fun _ _ _ h => h
            · -- 14
              intro val wx hg hψ hd hb hs K hK
              generalize hρ : rhoV _ _ val = ρ
              have cc : ∀ u, ρ (.const u) = u := fun u => by rw [← hρ]; rfl
              have ff : ∀ u, ρ (.func u) = .func (.func u) #[] #[] := fun u => by rw [← hρ]; rfl
              have r0 : ρ (.tmp 0) = .slice (some al) nl cl := by rw [← hρ]; rfl
              have hgv : val 12 = .bool false := hd 12 rfl rfl
              clear hρ hd hb hs hψ
              refine ifv (wanted_of (g := 12) (b := false) rfl hgv) ?_
              go_simp
              exact hK _ _ (Upd.refl _ _) rfl (fun _ _ _ _ h => h) fun _ _ _ h => h
            · -- 15
              intro val wx hg hψ hd hb hs K hK
              generalize hρ : rhoV _ _ val = ρ
              have cc : ∀ u, ρ (.const u) = u := fun u => by rw [← hρ]; rfl
              have ff : ∀ u, ρ (.func u) = .func (.func u) #[] #[] := fun u => by rw [← hρ]; rfl
              have r12 : ρ (.tmp 12) = .int .i64 (i : Int) := by rw [← hρ]; rfl
              have hgv : val 12 = .bool false := hd 12 rfl rfl
              clear hρ hd hb hs hψ
              refine ifv (wanted_of (g := 12) (b := false) rfl hgv) ?_
              go_simp
              exact hK _ _ (Upd.refl _ _) rfl (fun _ _ _ _ h => h) fun _ _ _ h => h
            · -- 16
              intro val wx hg hψ hd hb hs K hK
              generalize hρ : rhoV _ _ val = ρ
              have cc : ∀ u, ρ (.const u) = u := fun u => by rw [← hρ]; rfl
              have ff : ∀ u, ρ (.func u) = .func (.func u) #[] #[] := fun u => by rw [← hρ]; rfl
              have r141 : ρ (.tmp 141) = .slice (some al) nl cl := by rw [← hρ]; exact hd 14 rfl rfl
              have r142 : ρ (.tmp 142) = .int .i64 (i : Int) := by rw [← hρ]; exact hd 15 rfl rfl
              have hgv : val 12 = .bool false := hd 12 rfl rfl
              clear hρ hd hb hs hψ
              refine ifv (wanted_of (g := 12) (b := false) rfl hgv) ?_
              go_simp
              exact hK _ _ (Upd.refl _ _) rfl (fun _ _ _ _ h => h) fun _ _ _ h => h
            · -- 17
              intro val wx hg hψ hd hb hs K hK
              generalize hρ : rhoV _ _ val = ρ
              have cc : ∀ u, ρ (.const u) = u := fun u => by rw [← hρ]; rfl
              have ff : ∀ u, ρ (.func u) = .func (.func u) #[] #[] := fun u => by rw [← hρ]; rfl
              have r143 : ρ (.tmp 143) = .pointer (some (al.add i)) := by rw [← hρ]; exact hd 16 rfl rfl
              have hgv : val 12 = .bool false := hd 12 rfl rfl
              have hgx : Upd (PrU tb2 mb2 G2 rb2 v2) wr wx := ⟨hg.os, hg.tape, hg.output, hg.size, hg.block⟩
              have hbx : Below lo w wx := HB.out.trans (hgx.below (fun b hb => HP2.out.low hb) HLW.out)
              have h4 := ld8a (HEL.out wx hbx).1
              clear hρ hd hb hs hψ
              refine ifv (wanted_of (g := 12) (b := false) rfl hgv) ?_
              go_simp
              exact hK _ _ (Upd.refl _ _) rfl (fun _ _ _ _ h => h) fun _ _ _ h => h
            · -- 18
              intro val wx hg hψ hd hb hs K hK
              generalize hρ : rhoV _ _ val = ρ
              have cc : ∀ u, ρ (.const u) = u := fun u => by rw [← hρ]; rfl
              have ff : ∀ u, ρ (.func u) = .func (.func u) #[] #[] := fun u => by rw [← hρ]; rfl
              have r144 : ρ (.tmp 144) = .slice Ax xl cx := by rw [← hρ]; exact hd 17 rfl rfl
              have hgv : val 12 = .bool false := hd 12 rfl rfl
              have hgx : Upd (PrU tb2 mb2 G2 rb2 v2) wr wx := ⟨hg.os, hg.tape, hg.output, hg.size, hg.block⟩
              have hbx : Below lo w wx := HB.out.trans (hgx.below (fun b hb => HP2.out.low hb) HLW.out)
              have hzx : wr.heap.size ≤ wx.heap.size := hg.size
              have hp1 := HP1.out.keep hgx (fun b hb => ⟨HP2.out.low hb, fun hx => HDJ.out b hx hb⟩) HP2.out.safe
              have hc := lkey16_any Ax xl cx x (fun k => k < lo) wx (HEL.out wx hbx).2 HXL.out.1 HXL.out.2.1 (by have := HXL.out.2.2; omega)
              rw [HKK.out] at hc
              unfold pcV at hc
              clear hρ hd hb hs hψ
              refine ifv (wanted_of (g := 12) (b := false) rfl hgv) ?_
              go_simp
              refine hc.mono ?_
              rintro e w9 ⟨rfl, hb9⟩
              exact ⟨_, rfl, hK _ _ (Upd.ofBelow hb9 _) rfl (fun i _ _ _ h => T2Φ.keep hb9 i _ h) fun i _ _ h => T2Ψ.keep hb9 i h⟩
            · -- 19
              intro val wx hg hψ hd hb hs K hK
              generalize hρ : rhoV _ _ val = ρ
              have cc : ∀ u, ρ (.const u) = u := fun u => by rw [← hρ]; rfl
              have ff : ∀ u, ρ (.func u) = .func (.func u) #[] #[] := fun u => by rw [← hρ]; rfl
              have r140 : ρ (.tmp 140) = .pointer (some ⟨tb, 0, none⟩) := by rw [← hρ]; exact hd 13 rfl rfl
              have r145 : ρ (.tmp 145) = val 18 := by rw [← hρ]; rfl
              have p18 := hd 18 rfl rfl
              have hgv : val 12 = .bool false := hd 12 rfl rfl
              have e18 : val 18 = .agg (pcC k) := hd 18 rfl rfl
              rw [e18] at r145
              have hgx : Upd (PrU tb2 mb2 G2 rb2 v2) wr wx := ⟨hg.os, hg.tape, hg.output, hg.size, hg.block⟩
              have hbx : Below lo w wx := HB.out.trans (hgx.below (fun b hb => HP2.out.low hb) HLW.out)
              have hzx : wr.heap.size ≤ wx.heap.size := hg.size
              have hp1 := HP1.out.keep hgx (fun b hb => ⟨HP2.out.low hb, fun hx => HDJ.out b hx hb⟩) HP2.out.safe
              have hc := tmiss_any tb mb G1 k wx hp1.tm HKO.out
              unfold pcV at hc
              clear hρ hd hb hs hψ
              refine ifv (wanted_of (g := 12) (b := false) rfl hgv) ?_
              go_simp
              refine hc.mono ?_
              rintro e w9 ⟨v9, rfl, h9, hb9⟩
              exact ⟨_, rfl, hK _ _ (Upd.ofBelow hb9 _) (by rw [← HMS.out.1]; exact own_base h9 (Nat.le_trans HLW.out hzx)) (fun i _ _ _ h => T2Φ.keep hb9 i _ h) fun i _ _ h => T2Ψ.keep hb9 i h⟩
            · -- 20
              intro val wx hg hψ hd hb hs K hK
              generalize hρ : rhoV _ _ val = ρ
              have cc : ∀ u, ρ (.const u) = u := fun u => by rw [← hρ]; rfl
              have ff : ∀ u, ρ (.func u) = .func (.func u) #[] #[] := fun u => by rw [← hρ]; rfl
              have r6 : ρ (.tmp 6) = .pointer (some ⟨rb, 0, none⟩) := by rw [← hρ]; rfl
              have hgv : val 12 = .bool false := hd 12 rfl rfl
              clear hρ hd hb hs hψ
              refine ifv (wanted_of (g := 12) (b := false) rfl hgv) ?_
              go_simp
              exact hK _ _ (Upd.refl _ _) rfl (fun _ _ _ _ h => h) fun _ _ _ h => h
            · -- 21
              intro val wx hg hψ hd hb hs K hK
              generalize hρ : rhoV _ _ val = ρ
              have cc : ∀ u, ρ (.const u) = u := fun u => by rw [← hρ]; rfl
              have ff : ∀ u, ρ (.func u) = .func (.func u) #[] #[] := fun u => by rw [← hρ]; rfl
              have r0 : ρ (.tmp 0) = .slice (some al) nl cl := by rw [← hρ]; rfl
              have hgv : val 12 = .bool false := hd 12 rfl rfl
              clear hρ hd hb hs hψ
              refine ifv (wanted_of (g := 12) (b := false) rfl hgv) ?_
              go_simp
              exact hK _ _ (Upd.refl _ _) rfl (fun _ _ _ _ h => h) fun _ _ _ h => h
            · -- 22
              intro val wx hg hψ hd hb hs K hK
              generalize hρ : rhoV _ _ val = ρ
              have cc : ∀ u, ρ (.const u) = u := fun u => by rw [← hρ]; rfl
              have ff : ∀ u, ρ (.func u) = .func (.func u) #[] #[] := fun u => by rw [← hρ]; rfl
              have r12 : ρ (.tmp 12) = .int .i64 (i : Int) := by rw [← hρ]; rfl
              have hgv : val 12 = .bool false := hd 12 rfl rfl
              clear hρ hd hb hs hψ
              refine ifv (wanted_of (g := 12) (b := false) rfl hgv) ?_
              go_simp
              exact hK _ _ (Upd.refl _ _) rfl (fun _ _ _ _ h => h) fun _ _ _ h => h
            · -- 23
              intro val wx hg hψ hd hb hs K hK
              generalize hρ : rhoV _ _ val = ρ
              have cc : ∀ u, ρ (.const u) = u := fun u => by rw [← hρ]; rfl
              have ff : ∀ u, ρ (.func u) = .func (.func u) #[] #[] := fun u => by rw [← hρ]; rfl
              have r148 : ρ (.tmp 148) = .slice (some al) nl cl := by rw [← hρ]; exact hd 21 rfl rfl
              have r149 : ρ (.tmp 149) = .int .i64 (i : Int) := by rw [← hρ]; exact hd 22 rfl rfl
              have hgv : val 12 = .bool false := hd 12 rfl rfl
              clear hρ hd hb hs hψ
              refine ifv (wanted_of (g := 12) (b := false) rfl hgv) ?_
              go_simp
              exact hK _ _ (Upd.refl _ _) rfl (fun _ _ _ _ h => h) fun _ _ _ h => h
            · -- 24
              intro val wx hg hψ hd hb hs K hK
              generalize hρ : rhoV _ _ val = ρ
              have cc : ∀ u, ρ (.const u) = u := fun u => by rw [← hρ]; rfl
              have ff : ∀ u, ρ (.func u) = .func (.func u) #[] #[] := fun u => by rw [← hρ]; rfl
              have r150 : ρ (.tmp 150) = .pointer (some (al.add i)) := by rw [← hρ]; exact hd 23 rfl rfl
              have hgv : val 12 = .bool false := hd 12 rfl rfl
              have hgx : Upd (PrU tb2 mb2 G2 rb2 v2) wr wx := ⟨hg.os, hg.tape, hg.output, hg.size, hg.block⟩
              have hbx : Below lo w wx := HB.out.trans (hgx.below (fun b hb => HP2.out.low hb) HLW.out)
              have h4 := ld8a (HEL.out wx hbx).1
              clear hρ hd hb hs hψ
              refine ifv (wanted_of (g := 12) (b := false) rfl hgv) ?_
              go_simp
              exact hK _ _ (Upd.refl _ _) rfl (fun _ _ _ _ h => h) fun _ _ _ h => h
            · -- 25
              intro val wx hg hψ hd hb hs K hK
              generalize hρ : rhoV _ _ val = ρ
              have cc : ∀ u, ρ (.const u) = u := fun u => by rw [← hρ]; rfl
              have ff : ∀ u, ρ (.func u) = .func (.func u) #[] #[] := fun u => by rw [← hρ]; rfl
              have r151 : ρ (.tmp 151) = .slice Ax xl cx := by rw [← hρ]; exact hd 24 rfl rfl
              have hgv : val 12 = .bool false := hd 12 rfl rfl
              have hgx : Upd (PrU tb2 mb2 G2 rb2 v2) wr wx := ⟨hg.os, hg.tape, hg.output, hg.size, hg.block⟩
              have hbx : Below lo w wx := HB.out.trans (hgx.below (fun b hb => HP2.out.low hb) HLW.out)
              have hzx : wr.heap.size ≤ wx.heap.size := hg.size
              have hp1 := HP1.out.keep hgx (fun b hb => ⟨HP2.out.low hb, fun hx => HDJ.out b hx hb⟩) HP2.out.safe
              have hc := lkey16_any Ax xl cx x (fun k => k < lo) wx (HEL.out wx hbx).2 HXL.out.1 HXL.out.2.1 (by have := HXL.out.2.2; omega)
              rw [HKK.out] at hc
              unfold pcV at hc
              clear hρ hd hb hs hψ
              refine ifv (wanted_of (g := 12) (b := false) rfl hgv) ?_
              go_simp
              refine hc.mono ?_
              rintro e w9 ⟨rfl, hb9⟩
              exact ⟨_, rfl, hK _ _ (Upd.ofBelow hb9 _) rfl (fun i _ _ _ h => T2Φ.keep hb9 i _ h) fun i _ _ h => T2Ψ.keep hb9 i h⟩
            · -- 26
              intro val wx hg hψ hd hb hs K hK
              generalize hρ : rhoV _ _ val = ρ
              have cc : ∀ u, ρ (.const u) = u := fun u => by rw [← hρ]; rfl
              have ff : ∀ u, ρ (.func u) = .func (.func u) #[] #[] := fun u => by rw [← hρ]; rfl
              have r147 : ρ (.tmp 147) = .pointer (some ⟨rb, 0, none⟩) := by rw [← hρ]; exact hd 20 rfl rfl
              have r152 : ρ (.tmp 152) = val 25 := by rw [← hρ]; rfl
              have p25 := hd 25 rfl rfl
              have hgv : val 12 = .bool false := hd 12 rfl rfl
              have e25 : val 25 = .agg (pcC k) := hd 25 rfl rfl
              rw [e25] at r152
              have hgx : Upd (PrU tb2 mb2 G2 rb2 v2) wr wx := ⟨hg.os, hg.tape, hg.output, hg.size, hg.block⟩
              have hbx : Below lo w wx := HB.out.trans (hgx.below (fun b hb => HP2.out.low hb) HLW.out)
              have hzx : wr.heap.size ≤ wx.heap.size := hg.size
              have hp1 := HP1.out.keep hgx (fun b hb => ⟨HP2.out.low hb, fun hx => HDJ.out b hx hb⟩) HP2.out.safe
              have hc := rmiss16_any hp1.rf k
              unfold pcV at hc
              clear hρ hd hb hs hψ
              refine ifv (wanted_of (g := 12) (b := false) rfl hgv) ?_
              go_simp
              refine hc.mono ?_
              rintro e w9 ⟨v9, rfl, h9, hb9⟩
              exact ⟨_, rfl, hK _ _ (Upd.ofBelow hb9 _) (by rw [← HMS.out.2]; exact own_base h9 (Nat.le_trans HLW.out hzx)) (fun i _ _ _ h => T2Φ.keep hb9 i _ h) fun i _ _ h => T2Ψ.keep hb9 i h⟩
            · -- 27
              intro val wx hg hψ hd hb hs K hK
              generalize hρ : rhoV _ _ val = ρ
              have cc : ∀ u, ρ (.const u) = u := fun u => by rw [← hρ]; rfl
              have ff : ∀ u, ρ (.func u) = .func (.func u) #[] #[] := fun u => by rw [← hρ]; rfl
              have r146 : ρ (.tmp 146) = val 19 := by rw [← hρ]; rfl
              have p19 := hd 19 rfl rfl
              have r153 : ρ (.tmp 153) = val 26 := by rw [← hρ]; rfl
              have p26 := hd 26 rfl rfl
              have hgv : val 12 = .bool false := hd 12 rfl rfl
              obtain ⟨Aa, ca, ea, _⟩ := own_form p19
              obtain ⟨Ab, cb, eb, _⟩ := own_form p26
              rw [ea] at r146 p19
              rw [eb] at r153 p26
              have hc := same16_any Aa ms.length ca ms Ab ms.length cb ms (fun _ => True) (fun _ => True) wx (Reads.of_own p19 fun _ _ => trivial) (Reads.of_own p26 fun _ _ => trivial) rfl rfl HML.out
              rw [decide_eq_true (rfl : ms = ms)] at hc
              have hzx : wr.heap.size ≤ wx.heap.size := hg.size
              clear hρ hd hb hs hψ
              refine ifv (wanted_of (g := 12) (b := false) rfl hgv) ?_
              go_simp
              refine hc.mono ?_
              rintro e w9 ⟨rfl, hb9⟩
              exact ⟨_, rfl, hK _ _ (Upd.ofBelow hb9 _) rfl (fun i _ _ _ h => T2Φ.keep hb9 i _ h) fun i _ _ h => T2Ψ.keep hb9 i h⟩
            · -- 28
              intro val wx hg hψ hd hb hs K hK
              generalize hρ : rhoV _ _ val = ρ
              have cc : ∀ u, ρ (.const u) = u := fun u => by rw [← hρ]; rfl
              have ff : ∀ u, ρ (.func u) = .func (.func u) #[] #[] := fun u => by rw [← hρ]; rfl
              have r154 : ρ (.tmp 154) = val 27 := by rw [← hρ]; rfl
              have p27 := hd 27 rfl rfl
              have hgv : val 12 = .bool false := hd 12 rfl rfl
              have e27 : val 27 = .bool true := hd 27 rfl rfl
              rw [e27] at r154
              clear hρ hd hb hs hψ
              refine ifv (wanted_of (g := 12) (b := false) rfl hgv) ?_
              go_simp
              exact hK _ _ (Upd.refl _ _) rfl (fun _ _ _ _ h => h) fun _ _ _ h => h
            · -- 29
              intro val wx hg hψ hd hb hs K hK
              generalize hρ : rhoV _ _ val = ρ
              have cc : ∀ u, ρ (.const u) = u := fun u => by rw [← hρ]; rfl
              have ff : ∀ u, ρ (.func u) = .func (.func u) #[] #[] := fun u => by rw [← hρ]; rfl
              have r139 : ρ (.tmp 139) = .bool false := by rw [← hρ]; exact hd 12 rfl rfl
              have r155 : ρ (.tmp 155) = .bool false := by rw [← hρ]; exact hd 28 rfl rfl
              clear hρ hd hb hs hψ
              refine ifv rfl ?_
              go_simp
              exact hK _ _ (Upd.refl _ _) rfl (fun _ _ _ _ h => h) fun _ _ _ h => h
          · intro val w9 h9
            rw [if_neg (by decide)] at h9
            obtain ⟨_, G9, v9, R9, hp9, ho9⟩ : val 9 = .bool true ∧ ∃ G9 v9 R9, Pr lo w9 tb2 mb2 G9 rb2 v9 R9 ∧ ∀ b, PrU tb2 mb2 G9 rb2 v9 b → PrU tb2 mb2 G2 rb2 v2 b ∨ wr.heap.size ≤ b := h9.2 9 (by decide) fun _ _ => rfl
            have p29 : val 29 = .bool false := h9.2 29 (by decide) fun _ _ => rfl
            have hu9 : Upd (PrU tb2 mb2 G2 rb2 v2) wr w9 := ⟨h9.1.os, h9.1.tape, h9.1.output, h9.1.size, h9.1.block⟩
            have HREL := Lib.hid (show Pr lo w9 tb mb G1 rb v1 R1 ∧ Pr lo w9 tb2 mb2 G9 rb2 v9 R9 ∧ (∀ b, PrU tb mb G1 rb v1 b → ¬ PrU tb2 mb2 G9 rb2 v9 b) ∧ Below lo w w9 from ⟨HP1.out.keep hu9 (fun b hb => ⟨HP2.out.low hb, fun hx => HDJ.out b hx hb⟩) HP2.out.safe, hp9, fun b h1 h2 => by
              rcases ho9 b h2 with h3 | h3
              · exact HDJ.out b h1 h3
              · have := HP1.out.lt h1; omega, HB.out.trans (hu9.below (fun b hb => HP2.out.low hb) HLW.out)⟩)
            clear h9 hfr hp9 ho9 hu9
            simp only [putAll, p29]
            simp only [Act.put, List.setIfInBounds_toArray, List.set_cons_succ, List.set_cons_zero, Nat.zero_add, Nat.reduceAdd]
            clear p29
            generalize val 0 = y0, val 1 = y1, val 2 = y2, val 3 = y3, val 4 = y4, val 5 = y5, val 6 = y6, val 7 = y7, val 8 = y8, val 9 = y9, val 10 = y10, val 11 = y11, val 12 = y12, val 13 = y13, val 14 = y14, val 15 = y15, val 16 = y16, val 17 = y17, val 18 = y18, val 19 = y19, val 20 = y20, val 21 = y21, val 22 = y22, val 23 = y23, val 24 = y24, val 25 = y25, val 26 = y26, val 27 = y27, val 28 = y28
            go_wp2_with fail
            go_roundw
            case measure => first | (simp [intOf]; done) | (simp [intOf]; omega)
            case rel => exact ⟨i + 1, _, _, _, by go_num, by omega, HREL.out⟩
        · have hie : i = nl := by omega
          subst hie
          have d0 : ¬ ((i : Int) < (i : Int)) := by omega
          have HKF := Lib.hid (known16_any wr)
          go_wp2_with (go_at_call 36; refine HKF.out.mono ?_; rintro e w9 ⟨rfl, hb9⟩; have HB9 := Lib.hid hb9; clear hb9)
          go_ret
          exact ⟨rfl, HB.out.trans (HB9.out.mono HLW.out)⟩

end Go.Proofs.Ytihfihehiifdkaa
