/- Reass: a table that one call has made; known, in; ReassMeans: plain law. -/
import Derived.Test.YtihfihehiifdkaaRsI
import Derived.Test.YtihfihehiifdkaaReP
import Derived.Test.YtihfihehiifdkaaFrL
namespace Go.Proofs.Ytihfihehiifdkaa
open Go.RowKit Go.Sort
theorem TbM.row_ne {w : World} {tb mb : Nat} {G : List GF} (h : TbM w tb mb G) {B : Nat} {v : Value} {x : By} (hr : Row8 B w v x) {b : Nat} (hv : v.ownBlock = some b) : ¬ TbMut tb mb G b := by
  obtain ⟨F, m⟩ := h.map
  rintro (rfl | rfl | ⟨g, hg, rfl | rfl⟩)
  · exact own_blk_ne hr h.blk (by decide) hv
  · exact m.map.ne_row hr hv
  · obtain ⟨vo, b1, _⟩ := (h.fl g hg).1.blk
    exact own_blk_ne hr b1 (by decide) hv
  · obtain ⟨F1, b4, _⟩ := (h.fl g hg).1.map
    exact b4.ne_row hr hv
theorem TbM.rowkeep {w w' : World} {tb mb : Nat} {G : List GF} (h : TbM w tb mb G) (hu : Upd (TbMut tb mb G) w w') {B : Nat} {v : Value} {x : By} (hr : Row8 B w v x) : Row8 B w' v x :=
  own_keep hr (hu.same (I := fun b => v.ownBlock = some b) fun _ hb hI => h.row_ne hr hI hb) fun _ e => e
/-- A table that the call has made; wD: the world from which on rows are kept. -/
structure TkS (w wD : World) (tb mb : Nat) (G : List GF) (wx : World) : Prop where
  tbm : TbM wx tb mb G
  mu : ∀ b, TbMut tb mb G b → b = tb ∨ b = mb ∨ wD.heap.size ≤ b
  sm : Same (fun k => k ≠ tb ∧ k ≠ mb) wD wx
  b1 : w.heap.size ≤ tb
  b2 : w.heap.size ≤ mb
  below : Below w.heap.size w wx
section
variable {w wD wx wy : World} {tb mb : Nat} {G : List GF} {r : List Fl × By × Nat} {e : Ending}
theorem TkS.keep (h : TkS w wD tb mb G wx) (hb : Below wx.heap.size wx wy) : TkS w wD tb mb G wy :=
  ⟨h.tbm.below hb, h.mu, ⟨Nat.le_trans h.sm.1 hb.size, fun k hi hk => (hb.block k (Nat.lt_of_lt_of_le hk h.sm.1)).trans (h.sm.2 k hi hk)⟩, h.b1, h.b2, h.below.trans (hb.mono h.below.size)⟩
theorem TkS.take (h : TkS w wD tb mb G wx) (hD : w.heap.size ≤ wD.heap.size) (ht : TkPost wx tb mb G r e wy) : ∃ v G', e = .returned (.tuple #[v, .int .i64 (r.2.2 : Int)]) ∧ Row8 wx.heap.size wy v r.2.1 ∧ G'.map GF.f = r.1 ∧ TkS w wD tb mb G' wy ∧ (∀ b, v.ownBlock = some b → ¬ TbN G' b) ∧ ∀ (B : Nat) (u : Value) (x : By), Row8 B wx u x → Row8 B wy u x := by
  obtain ⟨v, G', a1, a2, a3, a4, a5, a6, a7, a8⟩ := ht
  refine ⟨v, G', a1, a2, a3, ⟨a4, fun b hb => ?_, ⟨Nat.le_trans h.sm.1 a7.size, fun k hi hk => ?_⟩, h.b1, h.b2, h.below.trans (a7.below (fun b hb => ?_) h.below.size)⟩, a8, fun B u x hr => h.tbm.rowkeep a7 hr⟩
  · rcases a6 b hb with hb | hb
    · exact h.mu b hb
    · exact .inr (.inr (Nat.le_trans h.sm.1 hb))
  · refine (a7.block k (Nat.lt_of_lt_of_le hk h.sm.1) fun hb => ?_).trans (h.sm.2 k hi hk)
    rcases h.mu k hb with e | e | e
    · exact hi.1 e
    · exact hi.2 e
    · omega
  · rcases h.mu b hb with e | e | e
    · rw [e]; exact h.b1
    · rw [e]; exact h.b2
    · exact Nat.le_trans hD e
theorem TkS.reads (h : TkS w wD tb mb G wx) {J : Nat → Prop} {A : Option Addr} {n z : Nat} {xs : List Value} (hr : Reads wD J z A n xs) (hJ : ∀ k, J k → k ≠ tb ∧ k ≠ mb) : Reads wx J z A n xs :=
  hr.keep ⟨h.sm.1, fun k hk hlt => h.sm.2 k (hJ k hk) hlt⟩
theorem TkS.cell (h : TkS w wD tb mb G wx) {p : Addr} {u : Value} (hc : wD.cell? p = some u) (h1 : p.block ≠ tb) (h2 : p.block ≠ mb) : wx.cell? p = some u := by
  have hlt := cell_lt hc
  have hb := h.sm.2 p.block ⟨h1, h2⟩ hlt
  unfold World.cell? at hc ⊢
  rw [hb]
  exact hc
end
def k16H : Hd := ⟨0, 0, false, false, false, 0, 5, 0, 1, 2, []⟩
def k16P : By := List.replicate 90 0
theorem k16_ok : k16H.ok := by unfold k16H Hd.ok; simp
theorem k16_fits : fitsH k16H k16P = true := by decide
theorem k16_cut : (cutF (bytesF k16H k16P) 68).2 = 0 ∧ (cutF (bytesF k16H k16P) 68).1.length = 2 := by
  have hr : prsF (bytesF k16H k16P) = (k16H, k16P, 0) := by have := read_back k16_ok k16_fits []; rwa [List.append_nil] at this
  have hf : fitsF (bytesF k16H k16P) 68 = (false, 0) := by
    unfold fitsF
    rw [hr]
    decide
  unfold cutF
  rw [hr, hf]
  simp only
  rw [if_neg (by decide), if_neg (by decide), if_neg (by decide), if_neg (by decide)]
  refine ⟨rfl, ?_⟩
  rw [List.length_map]
  decide
/-- The two pieces, the second one first. -/
theorem k16_pieces : ∃ x0 x1, (cutF (bytesF k16H k16P) 68).1 = [x0, x1] ∧ x0.length ≤ 65535 ∧ x1.length ≤ 65535 ∧ ∃ f, takeF [] x1 = ([f], [], 0) ∧ takeF [f] x0 = ([], bytesF k16H k16P, 0) := by
  obtain ⟨h1, h2⟩ := k16_cut
  rcases cut_cutting k16_ok k16_fits rfl rfl h1 with h3 | ⟨N, X, G, Y, a, C, h3, h4⟩
  · rw [h3] at h2; cases h2
  · have hN : N = 2 := by rw [h3] at h2; simpa using h2
    subst hN
    refine ⟨X 0, X 1, h3, (h4 0 (by omega)).1, (h4 1 (by omega)).1, ?_⟩
    obtain ⟨_, t1⟩ := take_piece C k16_fits (S := fun _ => false) (T := []) (.inl ⟨rfl, rfl⟩) (k := 1) (by omega)
    obtain ⟨f, e1, s1⟩ := t1 (fun hh => by have := hh 0 (by omega); simp at this)
    obtain ⟨t2, _⟩ := take_piece C k16_fits (.inr ⟨f, rfl, s1⟩) (k := 0) (by omega)
    exact ⟨f, e1, t2 (fun i hi => by rcases (by omega : i = 0 ∨ i = 1) with rfl | rfl <;> simp)⟩
def k16Q : Hd := ⟨0, 0, false, false, true, 0, 0, 0, 0, 0, []⟩
theorem k16_nine (T : List Fl) : takeF T (bytesF k16Q (List.replicate 9 0)) = (T, [], 7) := by
  have hf : fitsH k16Q (List.replicate 9 0) = true := by decide
  have hok : k16Q.ok := by unfold k16Q Hd.ok; simp
  have hr : prsF (bytesF k16Q (List.replicate 9 0)) = (k16Q, List.replicate 9 0, 0) := by have := read_back hok hf []; rwa [List.append_nil] at this
  unfold takeF
  rw [hr]
  simp only
  rw [if_neg (by decide), if_neg (by decide), if_pos (by decide)]
theorem k16_short (T : List Fl) : takeF T (List.replicate 19 0) = (T, [], 4) := by
  unfold takeF
  rw [if_pos (by decide)]
end Go.Proofs.Ytihfihehiifdkaa
namespace Go.Proofs.Ytihfihehiifdkaa
open Go.RowKit Go.Sort
theorem num16_any (n : Int) (w : World) : Calls Try.prog 43 #[.int .i64 n] w fun e w' => e = .returned (.int .i64 n) ∧ w = w' := by
  go_enter Try.func43, Try.ntmps43
  go_wp2_with fail
  go_ret
  exact ⟨rfl, rfl⟩
theorem row_zero (w : World) (n : Nat) (hn : n ≤ 1000) : Row8 w.heap.size (w.alloc (.cells (List.replicate n (Value.int .u8 0)).toArray 5)) (.slice (some ⟨w.heap.size, 0, none⟩) n n) (List.replicate n 0) := by
  have := row8_lit w (List.replicate n 0) (List.replicate n (Value.int .u8 0)).toArray (by simp; omega) (by simp [bytesV])
  simpa using this
set_option maxRecDepth 100000 in
set_option maxHeartbeats 8000000 in
attribute [-go_sem] Instr.storeAt in
theorem known16_any (w : World) : Calls Try.prog 36 #[] w fun e w' => e = .returned (.bool true) ∧ Below w.heap.size w w' := by
  have hm90 : ∀ w : World, (Instr.makeSlice 22 (.int .i64 90) (.int .i64 90)).run Try.prog w = .ok (.slice (some ⟨w.heap.size, 0, none⟩) 90 90) (w.alloc (.cells (List.replicate 90 (Value.int .u8 0)).toArray 5)) := fun _ => by kernel_rfl
  have hm9 : ∀ w : World, (Instr.makeSlice 22 (.int .i64 9) (.int .i64 9)).run Try.prog w = .ok (.slice (some ⟨w.heap.size, 0, none⟩) 9 9) (w.alloc (.cells (List.replicate 9 (Value.int .u8 0)).toArray 5)) := fun _ => by kernel_rfl
  have hm19 : ∀ w : World, (Instr.makeSlice 22 (.int .i64 19) (.int .i64 19)).run Try.prog w = .ok (.slice (some ⟨w.heap.size, 0, none⟩) 19 19) (w.alloc (.cells (List.replicate 19 (Value.int .u8 0)).toArray 5)) := fun _ => by kernel_rfl
  have b3 := fun wx : World => (show (Instr.build 32 #[(6, .int .u8 5), (8, .int .u32 1), (9, .int .u32 2)]).run Try.prog wx = .ok (.agg #[.int .u8 0, .int .u16 0, .bool false, .bool false, .bool false, .int .i64 0, .int .u8 5, .int .u8 0, .int .u32 1, .int .u32 2, .slice none 0 0]) wx by kernel_rfl)
  have b4 := fun wx : World => (show (Instr.build 32 #[(4, .bool true)]).run Try.prog wx = .ok (.agg #[.int .u8 0, .int .u16 0, .bool false, .bool false, .bool true, .int .i64 0, .int .u8 0, .int .u8 0, .int .u32 0, .int .u32 0, .slice none 0 0]) wx by kernel_rfl)
  have HNM := Lib.hid (fun n wx => num16_any n wx)
  go_enter Try.func36, Try.ntmps36
  go_upto_region 4 with
    (go_at_call 40
     refine (tnew_any w).mono ?_
     rintro e w1 ⟨tb, mb, rfl, ht1, hb1, hb2, hbl⟩
     have HTT := Lib.hid ht1
     have HTB := Lib.hid hb1
     have HMB := Lib.hid hb2
     have HB1 := Lib.hid hbl
     unfold ptrV
     clear ht1 hb1 hb2 hbl)
  obtain ⟨W2, hW2⟩ : ∃ W, W = w1.alloc (.cells (List.replicate 90 (Value.int .u8 0)).toArray 5) := ⟨_, rfl⟩
  have hr2 : Row8 w1.heap.size W2 (.slice (some ⟨w1.heap.size, 0, none⟩) 90 90) k16P := by rw [hW2]; exact row_zero w1 90 (by omega)
  have hb12 : Below w1.heap.size w1 W2 := by rw [hW2]; exact (Below.refl _ _).alloc (Nat.le_refl _) _
  have hby : Calls Try.prog 38 #[.agg #[.int .u8 0, .int .u16 0, .bool false, .bool false, .bool false, .int .i64 0, .int .u8 5, .int .u8 0, .int .u32 1, .int .u32 2, .slice none 0 0], .slice (some ⟨w1.heap.size, 0, none⟩) 90 90] W2 _ := rbytes_any k16H (.slice none 0 0) (.slice (some ⟨w1.heap.size, 0, none⟩) 90 90) k16P (fun _ => True) W2 (sl_nil _ _) (row_sl hr2) k16_ok k16_fits
  have HBY := Lib.hid hby
  have hmk := hm90 w1
  rw [← hW2] at hmk
  clear hm90 hr2 hby hW2
  go_upto_region 5 with
    (go_at_call 38
     refine HBY.out.mono ?_
     rintro e w3 ⟨v3, rfl, h3, hb3⟩
     obtain ⟨A3, c3, rfl, hc3⟩ := h3.form
     have HR3 := Lib.hid h3
     have HC3 := Lib.hid hc3
     have HB13 := Lib.hid (hb12.trans (hb3.mono hb12.size))
     clear h3 hb3 hc3)
  obtain ⟨x0, x1, hcut, hl0, hl1, f1, ht1, ht2⟩ := k16_pieces
  have hrc := rcut_any A3 (bytesF k16H k16P).length c3 (bytesF k16H k16P) 68 _ w3 HR3.out.reads.2 rfl HC3.out (by rw [bytesF_len]; decide)
  unfold RcPost at hrc
  rw [hcut, k16_cut.1] at hrc
  have hrc2 : Calls Try.prog 39 #[.slice A3 (bytesF k16H k16P).length c3, .int .i64 68] w3 fun e w' => ∃ A c us, e = .returned (.tuple #[.slice A 2 c, .int .i64 0]) ∧ Lst8 w' (fun k => ((W2.heap.size ≤ k ∧ k < w3.heap.size) ∧ k < w3.heap.size) ∨ (w3.heap.size ≤ k ∧ k < w'.heap.size)) A 2 us [x0, x1] ∧ Below w3.heap.size w3 w' := hrc
  have HRC := Lib.hid hrc2
  have HT1 := Lib.hid ht1
  have HT2 := Lib.hid ht2
  have HL0 := Lib.hid hl0
  have HL1 := Lib.hid hl1
  clear hrc hrc2 hcut ht1 ht2 hl0 hl1 hmk
  obtain ⟨bb, hbb⟩ : ∃ b, b = bytesF k16H k16P := ⟨_, rfl⟩
  obtain ⟨nb, hnb⟩ : ∃ b, b = (bytesF k16H k16P).length := ⟨_, rfl⟩
  rw [← hnb] at HRC HC3 ⊢
  have hr3 := HR3.out
  rw [← hnb, ← hbb] at hr3
  have HR3' := Lib.hid hr3
  rw [← hbb] at HT2
  have HNB := Lib.hid (show bb.length = nb by rw [hnb, hbb])
  clear HR3 hr3 hbb hnb HBY
  go_upto_region 8 with
    (go_at_call 39
     refine HRC.out.mono ?_
     rintro e w4 ⟨Al, cl, us, rfl, hl4, hb4⟩
     have HL4 := Lib.hid hl4
     have HB34 := Lib.hid hb4
     clear hl4 hb4)
  obtain ⟨hrl, _, hel⟩ := HL4.out
  obtain ⟨ad, rfl, hadI, _, hcell⟩ := hrl.2 (by omega)
  obtain ⟨A0, q0, hu0, hq0, hr0⟩ := hel 0 x0 rfl
  obtain ⟨A1, q1, hu1, hq1, hr1⟩ := hel 1 x1 rfl
  have cc0 := hcell 0 _ hu0
  have cc1 := hcell 1 _ hu1
  have hsz2 : w1.heap.size ≤ W2.heap.size := hb12.size
  have hlt1 := HT1.out
  have hB14 : Below w1.heap.size w1 w4 := HB13.out.trans (HB34.out.mono HB13.out.size)
  have hlow : ∀ b, b = tb ∨ b = mb → b < w1.heap.size := fun b hb => by
    rcases hb with rfl | rfl
    · exact HTT.out.mlt _ (.inl rfl)
    · exact HTT.out.mlt _ (.inr (.inl rfl))
  have hmu4 : ∀ b, TbMut tb mb [] b → b = tb ∨ b = mb ∨ w4.heap.size ≤ b := fun b hb => by
    rcases hb with hb | hb | ⟨g, hg, _⟩
    · exact .inl hb
    · exact .inr (.inl hb)
    · cases hg
  have hS4 : TkS w w4 tb mb [] w4 := ⟨HTT.out.below hB14, hmu4, ⟨Nat.le_refl _, fun _ _ _ => rfl⟩, HTB.out, HMB.out, HB1.out.trans (hB14.mono HB1.out.size)⟩
  have hJ : ∀ k, (((W2.heap.size ≤ k ∧ k < w3.heap.size) ∧ k < w3.heap.size) ∨ (w3.heap.size ≤ k ∧ k < w4.heap.size)) → k ≠ tb ∧ k ≠ mb := fun k hk => by
    have h1 := hlow tb (.inl rfl)
    have h2 := hlow mb (.inr rfl)
    have h3 : w1.heap.size ≤ w3.heap.size := HB13.out.size
    omega
  have hD4 : w.heap.size ≤ w4.heap.size := Nat.le_trans HB1.out.size hB14.size
  have HJ := Lib.hid hJ
  have HS4 := Lib.hid hS4
  have HD4 := Lib.hid hD4
  have HRB4 := Lib.hid (show Reads w4 (fun k => W2.heap.size ≤ k ∧ k < w3.heap.size) 1 A3 nb (bytesV bb) from (HR3'.out.reads.2).keep (Same.ofBelow HB34.out fun k hk => hk.2))
  have HJB := Lib.hid (show ∀ k, (W2.heap.size ≤ k ∧ k < w3.heap.size) → k ≠ tb ∧ k ≠ mb from fun k hk => hJ k (.inl ⟨hk, hk.2⟩))
  have hadb := hJ _ hadI
  have cc1' : w4.cell? ⟨ad.block, ad.off + 1, none⟩ = some (.slice A1 x1.length q1) := by rw [← add_pos ad 1 (by omega)]; exact cc1
  have HC0 := Lib.hid cc0
  have HAD := Lib.hid hadb
  have HRX0 := Lib.hid hr0
  have HRX1 := Lib.hid hr1
  have HQ0 := Lib.hid hq0
  have HTK1 := Lib.hid (rtake_any tb mb [] A1 x1.length q1 x1 _ w4 hS4.tbm hr1 rfl hq1 (by have := HL1.out; omega))
  clear hrl hel hadI hcell hu0 hu1 hr0 hr1 hq0 hq1 cc0 cc1 hlow hmu4 hS4 hJ hD4 hadb hsz2 hlt1 hB14
  go_upto_region 9 with
    (go_at_call 41
     refine HTK1.out.mono ?_
     intro e w5 hp5
     obtain ⟨v5, G5, he5, hv5, hg5, hs5, _⟩ := HS4.out.take HD4.out hp5
     subst he5
     rw [show takeF (([] : List GF).map GF.f) x1 = ([f1], [], 0) from HT1.out] at hv5 hg5 ⊢
     obtain ⟨A5, c5, rfl, _⟩ := hv5.form
     have HG5 := Lib.hid hg5
     have HS5 := Lib.hid hs5
     clear hp5 hv5 hg5 hs5)
  have cc0 : w5.cell? ad = some (.slice A0 x0.length q0) := by
    have := HS5.out.cell HC0.out (by rw [block_of_add]; exact HAD.out.1) (by rw [block_of_add]; exact HAD.out.2)
    exact this
  have hcc0 : w5.cell? (ad.add 0) = some (.slice A0 x0.length q0) := HS5.out.cell HC0.out (by rw [block_of_add]; exact HAD.out.1) (by rw [block_of_add]; exact HAD.out.2)
  have had0 : ad.add 0 = ad := rfl
  have HTK2 := Lib.hid (rtake_any tb mb G5 A0 x0.length q0 x0 _ w5 HS5.out.tbm (HS5.out.reads HRX0.out HJ.out) rfl HQ0.out (by have := HL0.out; omega))
  go_upto_region 10 with
    (go_at_call 41
     refine HTK2.out.mono ?_
     intro e w6 hp6
     obtain ⟨v6, G6, he6, hv6, hg6, hs6, _⟩ := HS5.out.take HD4.out hp6
     subst he6
     rw [HG5.out, HT2.out] at hv6 hg6 ⊢
     obtain ⟨A6, c6, rfl, _⟩ := hv6.form
     have HV6 := Lib.hid hv6
     have HS6 := Lib.hid hs6
     clear hp6 hv6 hg6 hs6)
  clear cc0 hcc0 had0 cc1'
  obtain ⟨W7, hW7⟩ : ∃ W, W = w6.alloc (.cells (List.replicate 9 (Value.int .u8 0)).toArray 5) := ⟨_, rfl⟩
  have hr7 : Row8 w6.heap.size W7 (.slice (some ⟨w6.heap.size, 0, none⟩) 9 9) (List.replicate 9 0) := by rw [hW7]; exact row_zero w6 9 (by omega)
  have hb67 : Below w6.heap.size w6 W7 := by rw [hW7]; exact (Below.refl _ _).alloc (Nat.le_refl _) _
  have hq9 : fitsH k16Q (List.replicate 9 0) = true := by decide
  have hby : Calls Try.prog 38 #[.agg #[.int .u8 0, .int .u16 0, .bool false, .bool false, .bool true, .int .i64 0, .int .u8 0, .int .u8 0, .int .u32 0, .int .u32 0, .slice none 0 0], .slice (some ⟨w6.heap.size, 0, none⟩) 9 9] W7 fun e w' => ∃ v, e = .returned v ∧ Row8 W7.heap.size w' v (bytesF k16Q (List.replicate 9 0)) ∧ Below W7.heap.size W7 w' := rbytes_any k16Q (.slice none 0 0) (.slice (some ⟨w6.heap.size, 0, none⟩) 9 9) (List.replicate 9 0) (fun _ => True) W7 (sl_nil _ _) (row_sl hr7) (by unfold k16Q Hd.ok; simp) hq9
  have HBY := Lib.hid hby
  have HV7 := Lib.hid (HV6.out.below hb67)
  have HS7 := Lib.hid (HS6.out.keep hb67)
  have h9l : (bytesF k16Q (List.replicate 9 0)).length = 29 := by rw [bytesF_len]; rfl
  have hmk := hm9 w6
  rw [← hW7] at hmk
  clear hm9 hr7 hby hW7 hb67 hq9
  go_upto_region 11 with (first
    | (go_at_call 38
       refine HBY.out.mono ?_
       rintro e w8 ⟨v8, rfl, h8, hb8⟩
       obtain ⟨A8, c8, rfl, hc8⟩ := h8.form
       have HV8 := Lib.hid (HV7.out.below hb8)
       have HS8 := Lib.hid (HS7.out.keep hb8)
       have htk := rtake_any tb mb G6 A8 (bytesF k16Q (List.replicate 9 0)).length c8 (bytesF k16Q (List.replicate 9 0)) _ w8 HS8.out.tbm h8.reads.2 rfl hc8 (by rw [h9l]; decide)
       rw [k16_nine, h9l] at htk
       have HTK := Lib.hid htk
       rw [h9l]
       clear h8 hb8 hc8 htk)
    | (go_at_call 41
       refine HTK.out.mono ?_
       intro e w9 hp9
       obtain ⟨v9, G9, he9, hv9, _, hs9, _, hrk9⟩ := HS8.out.take HD4.out hp9
       subst he9
       simp only at hv9 ⊢
       obtain ⟨A9, c9, rfl, _⟩ := hv9.form
       have HS9 := Lib.hid hs9
       have HV9 := Lib.hid hv9
       have HVB9 := Lib.hid (hrk9 _ _ _ HV8.out)
       clear hp9 hv9 hs9 hrk9))
  clear hmk b3 b4
  obtain ⟨W10, hW10⟩ : ∃ W, W = w9.alloc (.cells (List.replicate 19 (Value.int .u8 0)).toArray 5) := ⟨_, rfl⟩
  have hr10 : Row8 w9.heap.size W10 (.slice (some ⟨w9.heap.size, 0, none⟩) 19 19) (List.replicate 19 0) := by rw [hW10]; exact row_zero w9 19 (by omega)
  have hb910 : Below w9.heap.size w9 W10 := by rw [hW10]; exact (Below.refl _ _).alloc (Nat.le_refl _) _
  have HS10 := Lib.hid (HS9.out.keep hb910)
  have HVB10 := Lib.hid (HVB9.out.below hb910)
  have htk := rtake_any tb mb G9 (some ⟨w9.heap.size, 0, none⟩) 19 19 (List.replicate 19 0) _ W10 HS10.out.tbm hr10.reads.2 rfl (Nat.le_refl _) (by decide)
  rw [k16_short] at htk
  have HTK' := Lib.hid htk
  have hmk := hm19 w9
  rw [← hW10] at hmk
  clear hm19 hr10 hb910 htk hW10
  go_upto_region 12 with
    (go_at_call 41
     refine HTK'.out.mono ?_
     intro e w11 hp11
     obtain ⟨v11, G11, he11, hv11, _, hs11, _, hrk11⟩ := HS10.out.take HD4.out hp11
     subst he11
     simp only at hv11 ⊢
     obtain ⟨A11, c11, rfl, _⟩ := hv11.form
     have HS11 := Lib.hid hs11
     have HVB11 := Lib.hid (hrk11 _ _ _ HVB10.out)
     clear hp11 hv11 hs11 hrk11)
  clear hmk
  have hrb := HS11.out.reads HRB4.out HJB.out
  rw [← HNB.out] at hrb
  have s1 := run_str w11 _ A3 bb c3 hrb
  rw [HNB.out] at s1
  have s2 := run_str w11 _ A6 bb c6 HVB11.out.reads.2
  have t2 : ((⟨bb.toArray⟩ : ByteArray) == ⟨bb.toArray⟩) = true := (bytes_beq bb bb).trans (by simp)
  clear hrb
  go_wp2_with (go_at_call 43; refine (HNM.out _ _).mono ?_; rintro e w' ⟨rfl, rfl⟩)
  go_ret
  exact ⟨rfl, HS11.out.below⟩
end Go.Proofs.Ytihfihehiifdkaa
namespace Go.Proofs.Ytihfihehiifdkaa
open Go.RowKit Go.Sort
def intV (l : List Int) : List Value := l.map fun k => .int .i64 k
theorem intV_get {l : List Int} {j : Nat} {z : Int} (h : l[j]? = some z) : (intV l)[j]? = some (.int .i64 z) := by simp [intV, h]
theorem info_bool : (Try.prog.info? 4).map (fun i => (i.zero, i.size, i.bytes)) = some (some (.bool false), 1, 1) := by kernel_rfl
end Go.Proofs.Ytihfihehiifdkaa
namespace Go.Proofs.Ytihfihehiifdkaa
open Go.RowKit Go.Sort
section
variable (A : Option Addr) (n cap : Nat) (w : World)
end
end Go.Proofs.Ytihfihehiifdkaa
