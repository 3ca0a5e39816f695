/- ReassTakes: a table and the document's, side by side; the law's take. -/
import Derived.Test.YtihfihehiifdkaaRzH
import Derived.Deep.QuietTactic
import Derived.BigQuiet
namespace Go.Proofs.Ytihfihehiifdkaa
open Go.RowKit Go.Sort Go.BigFrame
attribute [local go_sem] comesV_value comesV_skip comesV_enter
theorem wanted_of {o : Oper} {val : Nat → Value} {g : Nat} {b : Bool} (hg : o.guard = some (g, b)) (hv : val g = .bool b) : wantedV o val = true := by
  unfold wantedV
  rw [hg]
  simp [hv]
/-- No block of U is a row of bytes, or of bools. -/
def RowSafe (U : Nat → Prop) (w : World) : Prop := ∀ (e : TypeId), (e = 5 ∨ e = 4) → ∀ (B n : Nat) (u : Value) (xs : List Value), w.ownsRow B e 1 u n xs → ∀ b, u.ownBlock = some b → ¬ U b
section
variable {w w' : World} {U : Nat → Prop} {lo tb mb rb : Nat} {G : List GF} {v : Value} {R : List Rg}
theorem TbM.safe (h : TbM w tb mb G) : RowSafe (TbMut tb mb G) w := by
  intro e he B n u xs hr b hu hb
  have n1 : e ≠ 88 := by rcases he with rfl | rfl <;> decide
  have n2 : e ≠ 115 := by rcases he with rfl | rfl <;> decide
  rcases hb with rfl | rfl | ⟨g, hg, rfl | rfl⟩
  · exact own_blk_ne hr h.blk n1 hu
  · obtain ⟨F, m⟩ := h.map
    obtain ⟨cs, hk⟩ := own_blk hr hu
    exact m.map.ne_blk hk rfl
  · obtain ⟨vo, hk, _⟩ := (h.fl g hg).1.blk
    exact own_blk_ne hr hk n2 hu
  · obtain ⟨F, hm, _⟩ := (h.fl g hg).1.map
    obtain ⟨cs, hk⟩ := own_blk hr hu
    exact hm.ne_blk hk rfl
theorem RfM.safe (h : RfM w lo rb v R) : RowSafe (RfU rb v) w := by
  intro e he B n u xs hr b hu hb
  have n1 : e ≠ 79 := by rcases he with rfl | rfl <;> decide
  have n2 : e ≠ 126 := by rcases he with rfl | rfl <;> decide
  rcases hb with rfl | hb
  · exact own_blk_ne hr h.blk n1 hu
  · obtain ⟨cs, hk⟩ := own_blk h.row hb
    exact own_blk_ne hr hk n2 hu
theorem RowSafe.row (hs : RowSafe U w) (hu : Upd U w w') {e : TypeId} (he : e = 5 ∨ e = 4) {B n : Nat} {u : Value} {xs : List Value} (h : w.ownsRow B e 1 u n xs) : w'.ownsRow B e 1 u n xs :=
  own_keep h (hu.same (I := fun b => u.ownBlock = some b) fun b hU hI => hs e he B n u xs h b hI hU) fun _ e => e
theorem TbM.updT (h : TbM w tb mb G) (hu : Upd U w w') (h1 : ∀ b, U b → ¬ TbMut tb mb G b) (hs : RowSafe U w) : TbM w' tb mb G := by
  obtain ⟨F, m⟩ := h.map
  have hrow : ∀ u (x : By), Row8 0 w u x → Row8 0 w' u x := fun u x hx => hs.row hu (.inl rfl) hx
  refine ⟨h.blk.upd hu fun hx => h1 _ hx (.inl rfl), ⟨F, m.map.upd hu fun hx => h1 _ hx (.inr (.inl rfl)), m.at_, m.miss, m.keys⟩, fun g hg => ?_, h.nd, h.fbs, h.abs, fun g hg b hb => Nat.lt_of_lt_of_le (h.nlt g hg b hb) hu.size, h.len⟩
  obtain ⟨f1, f2⟩ := h.fl g hg
  obtain ⟨⟨vo, a1, a2, a3⟩, F1, a4, a5⟩ := f1
  exact ⟨⟨⟨vo, a1.upd hu fun hx => h1 _ hx (.inr (.inr ⟨g, hg, .inl rfl⟩)), hrow _ _ a2, a3⟩, F1, a4.upd hu fun hx => h1 _ hx (.inr (.inr ⟨g, hg, .inr rfl⟩)), a5.keep fun v x hv hn => ⟨hrow v x hv, hn⟩⟩, f2⟩
theorem RfM.updS (h : RfM w lo rb v R) (hu : Upd U w w') (h1 : ∀ b, U b → lo ≤ b ∧ ¬ RfU rb v b) (hs : RowSafe U w) : RfM w' lo rb v R :=
  h.upd hu (fun k hk => (h1 k hk).2) fun g hg k hk => ⟨(h1 k hk).1, fun hx => by
    rcases hx with hx | hx
    · exact hs _ (.inl rfl) _ _ _ _ (h.fl g hg).b k hx hk
    · exact hs _ (.inr rfl) _ _ _ _ (h.fl g hg).h k hx hk⟩
end
/-- A table, and the document's, of which the same was taken. -/
structure Pr (lo : Nat) (w : World) (tb mb : Nat) (G : List GF) (rb : Nat) (v : Value) (R : List Rg) : Prop where
  tm : TbM w tb mb G
  rf : RfM w lo rb v R
  eq : G.map GF.f = R.map Rg.f
  lot : ∀ b, TbMut tb mb G b → lo ≤ b
  ne : ∀ b, TbMut tb mb G b → ¬ RfU rb v b
def PrU (tb mb : Nat) (G : List GF) (rb : Nat) (v : Value) (b : Nat) : Prop := TbMut tb mb G b ∨ RfU rb v b
section
variable {w w' : World} {U : Nat → Prop} {lo tb mb rb : Nat} {G : List GF} {v : Value} {R : List Rg}
theorem RfM.low (h : RfM w lo rb v R) {b : Nat} (hb : RfU rb v b) : lo ≤ b := by
  rcases hb with rfl | hb
  · exact h.lo
  · exact (own_lt h.row hb).1
theorem Pr.below (h : Pr lo w tb mb G rb v R) (hb : Below w.heap.size w w') : Pr lo w' tb mb G rb v R := ⟨h.tm.below hb, h.rf.below hb, h.eq, h.lot, h.ne⟩
theorem Pr.safe (h : Pr lo w tb mb G rb v R) : RowSafe (PrU tb mb G rb v) w := fun e he B n u xs hr b hu hb => hb.elim (h.tm.safe e he B n u xs hr b hu) (h.rf.safe e he B n u xs hr b hu)
theorem Pr.low (h : Pr lo w tb mb G rb v R) {b : Nat} (hb : PrU tb mb G rb v b) : lo ≤ b := hb.elim (h.lot b) h.rf.low
theorem Pr.lt (h : Pr lo w tb mb G rb v R) {b : Nat} (hb : PrU tb mb G rb v b) : b < w.heap.size := hb.elim (h.tm.mlt b) h.rf.lt
/-- Blocks turn that are none of the pair's. -/
theorem Pr.keep (h : Pr lo w tb mb G rb v R) (hu : Upd U w w') (h1 : ∀ b, U b → lo ≤ b ∧ ¬ PrU tb mb G rb v b) (hs : RowSafe U w) : Pr lo w' tb mb G rb v R :=
  ⟨h.tm.updT hu (fun b hb hx => (h1 b hb).2 (.inl hx)) hs, h.rf.updS hu (fun b hb => ⟨(h1 b hb).1, fun hx => (h1 b hb).2 (.inr hx)⟩) hs, h.eq, h.lot, h.ne⟩
theorem Pr.len (h : Pr lo w tb mb G rb v R) : G.length = R.length := by have := congrArg List.length h.eq; simpa using this
end
/-- What comes of a step of the pair's. -/
def PkPost (w : World) (lo tb mb : Nat) (G : List GF) (rb : Nat) (v : Value) (e : Ending) (w' : World) : Prop := e = .returned (.bool true) ∧ ∃ G' v' R', Pr lo w' tb mb G' rb v' R' ∧ Upd (PrU tb mb G rb v) w w' ∧ ∀ b, PrU tb mb G' rb v' b → PrU tb mb G rb v b ∨ w.heap.size ≤ b
theorem keep8 {w w' : World} {U : Nat → Prop} {lo : Nat} {A : Option Addr} {n : Nat} {xs : List Value} (h : Reads w (fun k => k < lo) 1 A n xs) (hu : Upd U w w') (h1 : ∀ b, U b → lo ≤ b) : Reads w' (fun k => k < lo) 1 A n xs :=
  h.keep (hu.same (I := fun k => k < lo) fun k hU hI => by have := h1 k hU; omega)
theorem take_out (T : List Fl) (x : By) : (takeF T x).2.1.length ≤ x.length + 65535 := by
  have ho : ∀ f : Fl, (outF f).1.length ≤ 65535 := fun f => by
    unfold outF
    split
    · rename_i hf
      have hf2 := hf
      unfold fitsH at hf2
      simp only [Bool.and_eq_true, decide_eq_true_eq] at hf2
      have h1 : f.hd.opts.length ≤ 40 := (may_opts hf2.1).2.1
      have h2 : (payF f).length ≤ 65535 - 20 - f.hd.opts.length := hf2.2
      show (bytesF _ _).length ≤ _
      rw [bytesF_len]
      show 20 + f.hd.opts.length + (payF f).length ≤ 65535
      omega
    · exact Nat.zero_le _
  have hs : ∀ (T : List Fl) (i : Nat) (f : Fl), (stepF T i f).2.1.length ≤ 65535 := fun T i f => by
    unfold stepF
    split
    · exact ho f
    · exact Nat.zero_le _
  unfold takeF
  split
  · exact Nat.zero_le _
  split
  · show (x.take _).length ≤ _
    rw [List.length_take]
    omega
  split
  · exact Nat.zero_le _
  split
  · exact Nat.le_trans (hs _ _ _) (by omega)
  · split
    · exact Nat.zero_le _
    · exact Nat.le_trans (hs _ _ _) (by omega)
theorem missT_len {T : List Fl} (h : ∀ f ∈ T, FlOk f) (k : Key) : (missT T k).length ≤ 8192 := by
  unfold missT
  cases hf : T.find? (fun f => f.key == k) with
  | none => exact Nat.zero_le _
  | some f =>
    have hok := h f (List.mem_of_find?_eq_some hf)
    have h1 := (endF_le hok).1
    have h2 := hok.bl
    show (missF f).length ≤ _
    unfold missF
    refine Nat.le_trans (List.length_filter_le _ _) ?_
    rw [List.length_range]
    omega
def TaΦ (lo tb rb _kb nr : Nat) (Ar : Option Addr) (cr : Nat) (k : Key) (ms : List Nat) : Nat → Value → World → Prop
  | 0, u, _ => u = .pointer (some ⟨tb, 0, none⟩)
  | 1, u, _ => u = .agg (pcC k)
  | 2, u, w => RowN lo w u ms
  | 3, u, _ => u = .pointer (some ⟨rb, 0, none⟩)
  | 4, u, _ => u = .agg (pcC k)
  | 5, u, w => RowN lo w u ms
  | 6, u, _w => u = .bool true
  | 7, u, _ => u = .bool true
  | 8, u, _ => u = .pointer (some ⟨tb, 0, none⟩)
  | 9, u, _w => u = .int .i64 (nr : Int)
  | 10, u, _ => u = .pointer (some ⟨rb, 0, none⟩)
  | 11, u, _ => u = .pointer (some ⟨rb, 0, none⟩)
  | 12, u, _ => u = .pointer (some ⟨rb, 0, none⟩)
  | 13, u, _ => u = .slice Ar nr cr
  | 14, u, _ => u = .int .i64 (nr : Int)
  | 15, u, _ => u = .bool true
  | 16, u, _ => u = .bool true
  | 17, u, _ => u = .bool true
  | _, _, _ => True
theorem TaΦ.keep {lo tb rb kb nr : Nat} {Ar : Option Addr} {cr : Nat} {k : Key} {ms : List Nat} {wx wy : World} (hb : Below wx.heap.size wx wy) : ∀ (j : Nat) (u : Value), TaΦ lo tb rb kb nr Ar cr k ms j u wx → TaΦ lo tb rb kb nr Ar cr k ms j u wy := by
  intro j u h
  unfold TaΦ at h ⊢
  split at h
  all_goals first
    | exact h
    | exact own_below h hb
set_option maxRecDepth 100000 in
set_option maxHeartbeats 16000000 in
attribute [-go_sem] Instr.storeAt Instr.loadAt in
theorem ltake_any {w : World} {lo tb mb rb : Nat} {G : List GF} {v : Value} {R : List Rg} (h : Pr lo w tb mb G rb v R) (hlo : lo ≤ w.heap.size) (A : Option Addr) (n q : Nat) (x : By) (hx : Reads w (fun k => k < lo) 1 A n (bytesV x)) (hn : x.length = n) (hc : n ≤ q) (hsm : n ≤ 100000) :
    Calls Try.prog 52 #[.pointer (some ⟨tb, 0, none⟩), .pointer (some ⟨rb, 0, none⟩), .slice A n q] w (PkPost w lo tb mb G rb v) := by
  have htk := rtake_any tb mb G A n q x (fun k => k < lo) w h.tm hx hn hc (by omega)
  have HTK := Lib.hid htk
  have H := Lib.hid h
  have HX := Lib.hid hx
  have HN := Lib.hid hn
  have HC := Lib.hid hc
  have HLO := Lib.hid hlo
  obtain ⟨Tr, hTr⟩ : ∃ z, z = takeF (G.map GF.f) x := ⟨_, rfl⟩
  rw [← hTr] at HTK
  have HTR := Lib.hid hTr
  obtain ⟨T1, o, cd⟩ := Tr
  have HOL := Lib.hid (show o.length ≤ 200000 from by
    have := take_out (G.map GF.f) x
    rw [← hTr] at this
    simp only at this
    omega)
  have HNM := Lib.hid (fun n wx => num16_any n wx)
  have HKY := Lib.hid (fun (wx : World) (hr : Reads wx (fun k => k < lo) 1 A n (bytesV x)) => lkey16_any A n q x (fun k => k < lo) wx hr hn hc (by omega))
  have HKO := Lib.hid (key_ok (prs_ok x))
  obtain ⟨k, hk⟩ : ∃ k, k = keyF (prsF x).1 := ⟨_, rfl⟩
  rw [← hk] at HKY HKO
  clear h hx hn hc hlo htk hTr hk
  go_enter Try.func52, Try.ntmps52
  go_upto_region 2 with (go_at_call 41; refine HTK.out.mono ?_; rintro e w1 ⟨av, G1, rfl, hro, hmap, htm, hn1, hmu, hup, hno⟩; obtain ⟨Av, cv, rfl, _⟩ := hro.form; have HRO := Lib.hid hro; have HMAP := Lib.hid hmap; have HTM := Lib.hid htm; have HMU := Lib.hid hmu; have HUP := Lib.hid hup; have HNO := Lib.hid hno; clear hro hmap htm hn1 hmu hup hno)
  have hrf1 := H.out.rf.updS HUP.out (fun b hb => ⟨H.out.lot b hb, H.out.ne b hb⟩) H.out.tm.safe
  have hx1 := keep8 HX.out HUP.out H.out.lot
  have hlo1 := Nat.le_trans HLO.out HUP.out.size
  have hrt := rtake16_any hrf1 hlo1 A n q x hx1 HN.out HC.out (by omega)
  rw [← H.out.eq, ← HTR.out] at hrt
  have HRT := Lib.hid hrt
  have HRF1 := Lib.hid hrf1
  have HX1 := Lib.hid hx1
  clear hrf1 hx1 hlo1 hrt
  go_upto_region 3 with (go_at_call 87; refine HRT.out.mono ?_; rintro e w2 ⟨yv, v2, R2, rfl, hy, hmap2, hrf2, hup2, hown2, hprov⟩; obtain ⟨Ay, cy, rfl, hcy, hry⟩ := hy; have HRY := Lib.hid hry; have HMAP2 := Lib.hid hmap2; have HRF2 := Lib.hid hrf2; have HUP2 := Lib.hid hup2; have HOWN2 := Lib.hid hown2; have HPROV := Lib.hid hprov; clear hry hmap2 hrf2 hup2 hown2 hprov hcy)
  have hne1 : ∀ b, RfU rb v b → ¬ TbMut tb mb G1 b := fun b hb hm => by
    rcases HMU.out b hm with hm | hm
    · exact H.out.ne b hm hb
    · have := H.out.rf.lt hb; omega
  have htm2 := HTM.out.updT HUP2.out hne1 HRF1.out.safe
  have hro2 : Row8 w.heap.size w2 (.slice Av o.length cv) o := HRF1.out.safe.row HUP2.out (.inl rfl) HRO.out
  have HTM2 := Lib.hid htm2
  have HRO2 := Lib.hid hro2
  have HX2 := Lib.hid (keep8 HX1.out HUP2.out fun b hb => HRF1.out.low hb)
  have s1 := run_str w2 _ Av o cv hro2.reads.2
  have s2 := run_str w2 _ Ay o cy HRY.out
  have t2 : ((⟨o.toArray⟩ : ByteArray) == ⟨o.toArray⟩) = true := (bytes_beq o o).trans (by simp)
  clear hne1 htm2 hro2
  obtain ⟨ol, hol⟩ : ∃ z, z = o.length := ⟨_, rfl⟩
  have HOLE := Lib.hid hol
  have hol9 : ol ≤ 200000 := by rw [hol]; exact HOL.out
  clear hol
  go_upto_region 5 with (go_at_call 43; refine (HNM.out _ _).mono ?_; rintro e w' ⟨rfl, rfl⟩)
  rw [← HOLE.out]
  clear s1 s2 t2
  have HRO3 := Lib.hid (show ∃ y : By, y.length = ol ∧ Row8 w.heap.size w2 (.slice Av ol cv) y from ⟨o, HOLE.out.symm, by rw [HOLE.out]; exact HRO2.out⟩)
  go_wp2_with fail
  go_loopw [11] (fun s11 wr => ∃ i : Nat, s11 = .int .i64 (i : Int) ∧ i ≤ ol ∧ (∃ y : By, y.length = ol ∧ Row8 w.heap.size wr (.slice Av ol cv) y) ∧ Upd (fun b => (Value.slice Av ol cv).ownBlock = some b) w2 wr) (fun s11 _ => ol - (intOf s11).toNat)
  case atStart => exact ⟨0, rfl, Nat.zero_le _, HRO3.out, Upd.refl _ _⟩
  case round =>
    obtain ⟨i, rfl, hi, ⟨y, hy, hr⟩, hu⟩ := hrel
    have HU := Lib.hid hu
    by_cases hlt : i < ol
    · obtain ⟨g9, c9, e9, _⟩ := own_form1 hr (by omega)
      rw [hy] at e9
      injection e9 with e9 _ e8
      subst e9
      subst e8
      have c8 : wr.cell? ⟨g9, i, none⟩ = some (.int .u8 ((y[i]'(by omega)).toNat : Int)) := row_at hr (List.getElem?_eq_getElem (by omega))
      have hr9 := hr
      unfold Row8 at hr9
      rw [hy] at hr9
      have s9 := st8 c8 (hr9.frozenAt i) 9
      have hr2 := hr.set (i := i) (b := 9)
      have HR2 := Lib.hid hr2
      have HY := Lib.hid hy
      have i0 : (0 : Int) ≤ (i : Int) := by omega
      have i1 : (i : Int) < (ol : Int) := by omega
      have hu2 : Upd (fun b => (Value.slice (some ⟨g9, 0, none⟩) ol cv).ownBlock = some b) w2 (wr.setCell ⟨g9, i, none⟩ (.int .u8 9)) := hu.setCell (p := ⟨g9, i, none⟩) (.inl rfl) _
      have HU2 := Lib.hid hu2
      clear hr hu c8 hr2 hu2 hr9
      go_wp2_with fail
      go_roundw
      case measure => simp [intOf]; omega
      case rel => exact ⟨i + 1, by go_num, by omega, ⟨y.set i 9, by rw [List.length_set]; exact HY.out, HR2.out⟩, HU2.out⟩
    · obtain rfl : i = ol := by omega
      have d0 : ¬ ((i : Int) < (i : Int)) := by omega
      -- the row of what came is no block of the pair's
      have hxe : ∀ b, (Value.slice Av i cv).ownBlock = some b → w.heap.size ≤ b ∧ b < w1.heap.size := fun b hb => by
        have h1 := HRO.out
        rw [← HOLE.out] at h1
        exact own_lt h1 hb
      have hro9 := HRO2.out
      unfold Row8 at hro9
      rw [← HOLE.out] at hro9
      have htm3 : TbM wr tb mb G1 := HTM2.out.same (HU.out.same (I := fun b => TbMut tb mb G1 b ∨ TbN G1 b) fun b hb hI => by
        rcases hI with hI | hI
        · exact HTM2.out.safe _ (.inl rfl) _ _ _ _ hro9 b hb hI
        · exact HNO.out b (by rw [← HOLE.out]; exact hb) hI)
      have hrf3 : RfM wr lo rb v2 R2 := HRF2.out.upd HU.out (fun b hb hI => HRF2.out.safe _ (.inl rfl) _ _ _ _ hro9 b hb hI) fun g hg b hb => ⟨Nat.le_trans HLO.out (hxe b hb).1, fun hx => by
        rcases HPROV.out g hg with h1 | h1
        · have := (H.out.rf.fl g h1).lt hx
          have := (hxe b hb).1
          omega
        · have := h1 b hx
          have := (hxe b hb).2
          omega⟩
      have hpr3 : Pr lo wr tb mb G1 rb v2 R2 := ⟨htm3, hrf3, HMAP.out.trans HMAP2.out.symm, fun b hb => by
        rcases HMU.out b hb with h1 | h1
        · exact H.out.lot b h1
        · exact Nat.le_trans HLO.out h1, fun b hb hx => by
        rcases HOWN2.out b hx with h1 | h1
        · rcases HMU.out b hb with h2 | h2
          · exact H.out.ne b h2 h1
          · have := H.out.rf.lt h1; omega
        · have := HTM.out.mlt b hb; omega⟩
      have hup3 : Upd (PrU tb mb G rb v) w wr := Upd.trans (Upd.trans (HUP.out.mono fun b hb => .inl (.inl hb)) HUP2.out fun b hb => .inl (.inr hb)) HU.out fun b hb => .inr (hxe b hb).1
      have hown3 : ∀ b, PrU tb mb G1 rb v2 b → PrU tb mb G rb v b ∨ w.heap.size ≤ b := fun b hb => by
        rcases hb with hb | hb
        · rcases HMU.out b hb with h1 | h1
          · exact .inl (.inl h1)
          · exact .inr h1
        · rcases HOWN2.out b hb with h1 | h1
          · exact .inl (.inr h1)
          · exact .inr (Nat.le_trans HUP.out.size h1)
      have hx3 := keep8 HX2.out HU.out fun b hb => Nat.le_trans HLO.out (hxe b hb).1
      have HPR3 := Lib.hid hpr3
      have HUP3 := Lib.hid hup3
      have HOWN3 := Lib.hid hown3
      have HKY3 := Lib.hid (HKY.out wr hx3)
      clear hxe hro9 htm3 hrf3 hpr3 hup3 hown3 hx3 hu hr
      go_upto_region 10 with (go_at_call 53; refine HKY3.out.mono ?_; rintro e w4 ⟨rfl, hb4⟩; obtain ⟨w5, hst5, _, hb45, hk5⟩ := pc_var hb4 hb4.size k; have HB5 := Lib.hid (hb4.trans (hb45.mono hb4.size)); have HK5 := Lib.hid hk5; unfold pcV; clear hb4 hb45 hk5)
      clear hst5
      obtain ⟨kb, hkb⟩ : ∃ z, z = w4.heap.size := ⟨_, rfl⟩
      rw [← hkb] at HK5 ⊢
      have HKB := Lib.hid HK5.out
      have HPT := Lib.hid (HPR3.out.below HB5.out)
      obtain ⟨Ar, cr, hvr, _⟩ := HPT.out.rf.form
      obtain ⟨nr, hnr⟩ : ∃ z, z = R2.length := ⟨_, rfl⟩
      rw [← hnr] at hvr
      have HVR := Lib.hid hvr
      have HNL := Lib.hid (show G1.length = nr by rw [hnr]; exact HPT.out.len)
      obtain ⟨ms, hms⟩ : ∃ z, z = missT (R2.map Rg.f) k := ⟨_, rfl⟩
      have HMS2 := Lib.hid hms.symm
      have HMS := Lib.hid (show missG G1 k = ms by rw [missG_T, HPT.out.eq, hms])
      have HML := Lib.hid (show ms.length ≤ 1000000 by
        rw [hms]
        refine Nat.le_trans (missT_len (fun f hf => ?_) k) (by omega)
        obtain ⟨g, hg, rfl⟩ := List.mem_map.1 hf
        exact (HPT.out.rf.fl g hg).ok)
      have HLW := Lib.hid (show lo ≤ w5.heap.size from Nat.le_trans HLO.out (Nat.le_trans HUP3.out.size HB5.out.size))
      clear hkb hvr hnr hms
      refine wp_region_rel (by kernel_rfl) (fun p q => Below w5.heap.size p q) (TaΦ lo tb rb kb nr Ar cr k ms) 18 (fun _ _ => True) (fun _ _ => false) (by kernel_rfl) (fun p => Below.refl _ p) (fun h k => h.trans k) (obl_of ?_) (fun o h => by cases h) ?_
      · refine ⟨fun _ => ?_, fun _ => ?_, fun _ => ?_, fun _ => ?_, fun _ => ?_, fun _ => ?_, fun _ => ?_, fun _ => ?_, fun _ => ?_, fun _ => ?_, fun _ => ?_, fun _ => ?_, fun _ => ?_, fun _ => ?_, fun _ => ?_, fun _ => ?_, fun _ => ?_, fun _ => ?_, trivial⟩
        · -- 0
          intro val wx hg hd hb hs K hK
          generalize hρ : rhoV _ _ val = ρ
          have cc : ∀ u, ρ (.const u) = u := fun u => by rw [← hρ]; rfl
          have ff : ∀ u, ρ (.func u) = .func (.func u) #[] #[] := fun u => by rw [← hρ]; rfl
          have r0 : ρ (.tmp 0) = .pointer (some ⟨tb, 0, none⟩) := by rw [← hρ]; rfl
          clear hρ hd hb hs
          refine ifv rfl ?_
          go_simp
          exact hK _ _ (Below.refl _ _) rfl fun _ _ _ _ h => h
        · -- 1
          intro val wx hg hd hb hs K hK
          generalize hρ : rhoV _ _ val = ρ
          have cc : ∀ u, ρ (.const u) = u := fun u => by rw [← hρ]; rfl
          have ff : ∀ u, ρ (.func u) = .func (.func u) #[] #[] := fun u => by rw [← hρ]; rfl
          have r12 : ρ (.tmp 12) = .pointer (some ⟨kb, 0, none⟩) := by rw [← hρ]; rfl
          have hbx : Below w5.heap.size w5 wx := ⟨hg.os, hg.tape, hg.output, hg.size, hg.block⟩
          have h4 := pc_load (HKB.out.below hbx HKB.out.lt) rfl
          clear hρ hd hb hs
          refine ifv rfl ?_
          go_simp
          exact hK _ _ (Below.refl _ _) rfl fun _ _ _ _ h => h
        · -- 2
          intro val wx hg hd hb hs K hK
          generalize hρ : rhoV _ _ val = ρ
          have cc : ∀ u, ρ (.const u) = u := fun u => by rw [← hρ]; rfl
          have ff : ∀ u, ρ (.func u) = .func (.func u) #[] #[] := fun u => by rw [← hρ]; rfl
          have r47 : ρ (.tmp 47) = .pointer (some ⟨tb, 0, none⟩) := by rw [← hρ]; exact hd 0 rfl rfl
          have r48 : ρ (.tmp 48) = .agg (pcC k) := by rw [← hρ]; exact hd 1 rfl rfl
          have hbx : Below w5.heap.size w5 wx := ⟨hg.os, hg.tape, hg.output, hg.size, hg.block⟩
          have hzx : w5.heap.size ≤ wx.heap.size := hg.size
          have hc := tmiss_any tb mb G1 k wx (HPT.out.tm.below hbx) HKO.out
          unfold pcV at hc
          clear hρ hd hb hs
          refine ifv rfl ?_
          go_simp
          refine hc.mono ?_
          rintro e w9 ⟨v9, rfl, h9, hb9⟩
          exact ⟨_, rfl, hK _ _ (hb9.mono hzx) (by rw [← HMS.out]; exact own_base h9 (Nat.le_trans HLW.out hzx)) fun j _ _ _ h => TaΦ.keep hb9 j _ h⟩
        · -- 3
          intro val wx hg hd hb hs K hK
          generalize hρ : rhoV _ _ val = ρ
          have cc : ∀ u, ρ (.const u) = u := fun u => by rw [← hρ]; rfl
          have ff : ∀ u, ρ (.func u) = .func (.func u) #[] #[] := fun u => by rw [← hρ]; rfl
          have r1 : ρ (.tmp 1) = .pointer (some ⟨rb, 0, none⟩) := by rw [← hρ]; rfl
          clear hρ hd hb hs
          refine ifv rfl ?_
          go_simp
          exact hK _ _ (Below.refl _ _) rfl fun _ _ _ _ h => h
        · -- 4
          intro val wx hg hd hb hs K hK
          generalize hρ : rhoV _ _ val = ρ
          have cc : ∀ u, ρ (.const u) = u := fun u => by rw [← hρ]; rfl
          have ff : ∀ u, ρ (.func u) = .func (.func u) #[] #[] := fun u => by rw [← hρ]; rfl
          have r12 : ρ (.tmp 12) = .pointer (some ⟨kb, 0, none⟩) := by rw [← hρ]; rfl
          have hbx : Below w5.heap.size w5 wx := ⟨hg.os, hg.tape, hg.output, hg.size, hg.block⟩
          have h4 := pc_load (HKB.out.below hbx HKB.out.lt) rfl
          clear hρ hd hb hs
          refine ifv rfl ?_
          go_simp
          exact hK _ _ (Below.refl _ _) rfl fun _ _ _ _ h => h
        · -- 5
          intro val wx hg hd hb hs K hK
          generalize hρ : rhoV _ _ val = ρ
          have cc : ∀ u, ρ (.const u) = u := fun u => by rw [← hρ]; rfl
          have ff : ∀ u, ρ (.func u) = .func (.func u) #[] #[] := fun u => by rw [← hρ]; rfl
          have r50 : ρ (.tmp 50) = .pointer (some ⟨rb, 0, none⟩) := by rw [← hρ]; exact hd 3 rfl rfl
          have r51 : ρ (.tmp 51) = .agg (pcC k) := by rw [← hρ]; exact hd 4 rfl rfl
          have hbx : Below w5.heap.size w5 wx := ⟨hg.os, hg.tape, hg.output, hg.size, hg.block⟩
          have hzx : w5.heap.size ≤ wx.heap.size := hg.size
          have hc := rmiss16_any (HPT.out.rf.below hbx) k
          unfold pcV at hc
          clear hρ hd hb hs
          refine ifv rfl ?_
          go_simp
          refine hc.mono ?_
          rintro e w9 ⟨v9, rfl, h9, hb9⟩
          exact ⟨_, rfl, hK _ _ (hb9.mono hzx) (by rw [← HMS2.out]; exact own_base h9 (Nat.le_trans HLW.out hzx)) fun j _ _ _ h => TaΦ.keep hb9 j _ h⟩
        · -- 6
          intro val wx hg hd hb hs K hK
          generalize hρ : rhoV _ _ val = ρ
          have cc : ∀ u, ρ (.const u) = u := fun u => by rw [← hρ]; rfl
          have ff : ∀ u, ρ (.func u) = .func (.func u) #[] #[] := fun u => by rw [← hρ]; rfl
          have r49 : ρ (.tmp 49) = val 2 := by rw [← hρ]; rfl
          have p2 := hd 2 rfl rfl
          have r52 : ρ (.tmp 52) = val 5 := by rw [← hρ]; rfl
          have p5 := hd 5 rfl rfl
          have hbx : Below w5.heap.size w5 wx := ⟨hg.os, hg.tape, hg.output, hg.size, hg.block⟩
          have hzx : w5.heap.size ≤ wx.heap.size := hg.size
          obtain ⟨Aa, ca, ea, _⟩ := own_form p2
          obtain ⟨Ab, cb, eb, _⟩ := own_form p5
          rw [ea] at r49 p2
          rw [eb] at r52 p5
          have hc := same16_any Aa ms.length ca ms Ab ms.length cb ms (fun _ => True) (fun _ => True) wx (Reads.of_own p2 fun _ _ => trivial) (Reads.of_own p5 fun _ _ => trivial) rfl rfl HML.out
          rw [decide_eq_true (rfl : ms = ms)] at hc
          clear hρ hd hb hs
          refine ifv rfl ?_
          go_simp
          refine hc.mono ?_
          rintro e w9 ⟨rfl, hb9⟩
          exact ⟨_, rfl, hK _ _ (hb9.mono hzx) rfl fun j _ _ _ h => TaΦ.keep hb9 j _ h⟩
        · -- 7
          intro val wx hg hd hb hs K hK
          generalize hρ : rhoV _ _ val = ρ
          have cc : ∀ u, ρ (.const u) = u := fun u => by rw [← hρ]; rfl
          have ff : ∀ u, ρ (.func u) = .func (.func u) #[] #[] := fun u => by rw [← hρ]; rfl
          have r53 : ρ (.tmp 53) = val 6 := by rw [← hρ]; rfl
          have p6 := hd 6 rfl rfl
          have e6 : val 6 = .bool true := hd 6 rfl rfl
          rw [e6] at r53
          clear hρ hd hb hs
          refine ifv rfl ?_
          go_simp
          exact hK _ _ (Below.refl _ _) rfl fun _ _ _ _ h => h
        · -- 8
          intro val wx hg hd hb hs K hK
          generalize hρ : rhoV _ _ val = ρ
          have cc : ∀ u, ρ (.const u) = u := fun u => by rw [← hρ]; rfl
          have ff : ∀ u, ρ (.func u) = .func (.func u) #[] #[] := fun u => by rw [← hρ]; rfl
          have r0 : ρ (.tmp 0) = .pointer (some ⟨tb, 0, none⟩) := by rw [← hρ]; rfl
          have hgv : val 7 = .bool true := hd 7 rfl rfl
          clear hρ hd hb hs
          refine ifv (wanted_of (g := 7) (b := true) rfl hgv) ?_
          go_simp
          exact hK _ _ (Below.refl _ _) rfl fun _ _ _ _ h => h
        · -- 9
          intro val wx hg hd hb hs K hK
          generalize hρ : rhoV _ _ val = ρ
          have cc : ∀ u, ρ (.const u) = u := fun u => by rw [← hρ]; rfl
          have ff : ∀ u, ρ (.func u) = .func (.func u) #[] #[] := fun u => by rw [← hρ]; rfl
          have r55 : ρ (.tmp 55) = .pointer (some ⟨tb, 0, none⟩) := by rw [← hρ]; exact hd 8 rfl rfl
          have hgv : val 7 = .bool true := hd 7 rfl rfl
          have hbx : Below w5.heap.size w5 wx := ⟨hg.os, hg.tape, hg.output, hg.size, hg.block⟩
          have hzx : w5.heap.size ≤ wx.heap.size := hg.size
          have hc := tlen_any tb mb G1 wx (HPT.out.tm.below hbx)
          rw [HNL.out] at hc
          clear hρ hd hb hs
          refine ifv (wanted_of (g := 7) (b := true) rfl hgv) ?_
          go_simp
          refine hc.mono ?_
          rintro e w9 ⟨rfl, hw9⟩
          subst hw9
          exact ⟨_, rfl, hK _ _ (Below.refl _ _) rfl fun j _ _ _ h => h⟩
        · -- 10
          intro val wx hg hd hb hs K hK
          generalize hρ : rhoV _ _ val = ρ
          have cc : ∀ u, ρ (.const u) = u := fun u => by rw [← hρ]; rfl
          have ff : ∀ u, ρ (.func u) = .func (.func u) #[] #[] := fun u => by rw [← hρ]; rfl
          have r1 : ρ (.tmp 1) = .pointer (some ⟨rb, 0, none⟩) := by rw [← hρ]; rfl
          have hgv : val 7 = .bool true := hd 7 rfl rfl
          clear hρ hd hb hs
          refine ifv (wanted_of (g := 7) (b := true) rfl hgv) ?_
          go_simp
          exact hK _ _ (Below.refl _ _) rfl fun _ _ _ _ h => h
        · -- 11
          intro val wx hg hd hb hs K hK
          generalize hρ : rhoV _ _ val = ρ
          have cc : ∀ u, ρ (.const u) = u := fun u => by rw [← hρ]; rfl
          have ff : ∀ u, ρ (.func u) = .func (.func u) #[] #[] := fun u => by rw [← hρ]; rfl
          have r57 : ρ (.tmp 57) = .pointer (some ⟨rb, 0, none⟩) := by rw [← hρ]; exact hd 10 rfl rfl
          have hgv : val 7 = .bool true := hd 7 rfl rfl
          clear hρ hd hb hs
          refine ifv (wanted_of (g := 7) (b := true) rfl hgv) ?_
          go_simp
          exact hK _ _ (Below.refl _ _) rfl fun _ _ _ _ h => h
        · -- 12
          intro val wx hg hd hb hs K hK
          generalize hρ : rhoV _ _ val = ρ
          have cc : ∀ u, ρ (.const u) = u := fun u => by rw [← hρ]; rfl
          have ff : ∀ u, ρ (.func u) = .func (.func u) #[] #[] := fun u => by rw [← hρ]; rfl
          have r58 : ρ (.tmp 58) = .pointer (some ⟨rb, 0, none⟩) := by rw [← hρ]; exact hd 11 rfl rfl
          have hgv : val 7 = .bool true := hd 7 rfl rfl
          clear hρ hd hb hs
          refine ifv (wanted_of (g := 7) (b := true) rfl hgv) ?_
          go_simp
          exact hK _ _ (Below.refl _ _) rfl fun _ _ _ _ h => h
        · -- 13
          intro val wx hg hd hb hs K hK
          generalize hρ : rhoV _ _ val = ρ
          have cc : ∀ u, ρ (.const u) = u := fun u => by rw [← hρ]; rfl
          have ff : ∀ u, ρ (.func u) = .func (.func u) #[] #[] := fun u => by rw [← hρ]; rfl
          have r59 : ρ (.tmp 59) = .pointer (some ⟨rb, 0, none⟩) := by rw [← hρ]; exact hd 12 rfl rfl
          have hgv : val 7 = .bool true := hd 7 rfl rfl
          have hbx : Below w5.heap.size w5 wx := ⟨hg.os, hg.tape, hg.output, hg.size, hg.block⟩
          have h4 := ld_rl (w := wx) (b := rb) (A := Ar) (n := nr) (c := cr) (by rw [(HPT.out.rf.below hbx).blk.cell, HVR.out]; rfl)
          clear hρ hd hb hs
          refine ifv (wanted_of (g := 7) (b := true) rfl hgv) ?_
          go_simp
          exact hK _ _ (Below.refl _ _) rfl fun _ _ _ _ h => h
        · -- 14
          intro val wx hg hd hb hs K hK
          generalize hρ : rhoV _ _ val = ρ
          have cc : ∀ u, ρ (.const u) = u := fun u => by rw [← hρ]; rfl
          have ff : ∀ u, ρ (.func u) = .func (.func u) #[] #[] := fun u => by rw [← hρ]; rfl
          have r60 : ρ (.tmp 60) = .slice Ar nr cr := by rw [← hρ]; exact hd 13 rfl rfl
          have hgv : val 7 = .bool true := hd 7 rfl rfl
          clear hρ hd hb hs
          refine ifv (wanted_of (g := 7) (b := true) rfl hgv) ?_
          go_simp
          exact hK _ _ (Below.refl _ _) rfl fun _ _ _ _ h => h
        · -- 15
          intro val wx hg hd hb hs K hK
          generalize hρ : rhoV _ _ val = ρ
          have cc : ∀ u, ρ (.const u) = u := fun u => by rw [← hρ]; rfl
          have ff : ∀ u, ρ (.func u) = .func (.func u) #[] #[] := fun u => by rw [← hρ]; rfl
          have r56 : ρ (.tmp 56) = val 9 := by rw [← hρ]; rfl
          have p9 := hd 9 rfl rfl
          have r61 : ρ (.tmp 61) = .int .i64 (nr : Int) := by rw [← hρ]; exact hd 14 rfl rfl
          have hgv : val 7 = .bool true := hd 7 rfl rfl
          have e9 : val 9 = .int .i64 (nr : Int) := hd 9 rfl rfl
          rw [e9] at r56
          clear hρ hd hb hs
          refine ifv (wanted_of (g := 7) (b := true) rfl hgv) ?_
          go_simp
          exact hK _ _ (Below.refl _ _) rfl fun _ _ _ _ h => h
        · -- 16
          intro val wx hg hd hb hs K hK
          generalize hρ : rhoV _ _ val = ρ
          have cc : ∀ u, ρ (.const u) = u := fun u => by rw [← hρ]; rfl
          have ff : ∀ u, ρ (.func u) = .func (.func u) #[] #[] := fun u => by rw [← hρ]; rfl
          have r54 : ρ (.tmp 54) = .bool true := by rw [← hρ]; exact hd 7 rfl rfl
          have r62 : ρ (.tmp 62) = .bool true := by rw [← hρ]; exact hd 15 rfl rfl
          clear hρ hd hb hs
          refine ifv rfl ?_
          go_simp
          exact hK _ _ (Below.refl _ _) rfl fun _ _ _ _ h => h
        · -- 17
          intro val wx hg hd hb hs K hK
          generalize hρ : rhoV _ _ val = ρ
          have cc : ∀ u, ρ (.const u) = u := fun u => by rw [← hρ]; rfl
          have ff : ∀ u, ρ (.func u) = .func (.func u) #[] #[] := fun u => by rw [← hρ]; rfl
          have r63 : ρ (.tmp 63) = .bool true := by rw [← hρ]; exact hd 16 rfl rfl
          clear hρ hd hb hs
          refine ifv rfl ?_
          go_simp
          exact hK _ _ (Below.refl _ _) rfl fun _ _ _ _ h => h
      · intro val w9 h9
        rw [if_neg (by decide)] at h9
        have p17 : val 17 = .bool true := h9.2 17 (by decide) fun _ _ => rfl
        have hb9 : Below w5.heap.size w5 w9 := ⟨h9.1.os, h9.1.tape, h9.1.output, h9.1.size, h9.1.block⟩
        have HB9 := Lib.hid hb9
        simp only [putAll, p17]
        simp only [Act.put, List.setIfInBounds_toArray, List.set_cons_succ, List.set_cons_zero, Nat.zero_add, Nat.reduceAdd]
        clear h9 hb9 p17
        generalize val 0 = x0, val 1 = x1, val 2 = x2, val 3 = x3, val 4 = x4, val 5 = x5, val 6 = x6, val 7 = x7, val 8 = x8, val 9 = x9, val 10 = x10, val 11 = x11, val 12 = x12, val 13 = x13, val 14 = x14, val 15 = x15, val 16 = x16
        go_wp2_with fail
        go_ret
        exact ⟨rfl, G1, v2, R2, HPT.out.below HB9.out, (HUP3.out.trans_ (Upd.ofBelow HB5.out _)).trans_ (Upd.ofBelow HB9.out _), HOWN3.out⟩
end Go.Proofs.Ytihfihehiifdkaa
