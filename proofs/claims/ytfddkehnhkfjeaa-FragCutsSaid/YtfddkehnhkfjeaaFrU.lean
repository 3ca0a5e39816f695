/- Frag: FragCuts' walk. -/
import Derived.Test.YtfddkehnhkfjeaaFrT
namespace Go.Proofs.Ytfddkehnhkfjeaa
open Go.RowKit Go.Sort Go.BigFrame
/-- Rows of bytes that may be turned: the outer row as it was, the bytes whatever they are. -/
structure RwU (B C : Nat) (w0 w : World) (v : Value) (us : List Value) (L : List By) : Prop where
  upd : Upd (fun j => B ≤ j ∧ j < C ∧ v.ownBlock ≠ some j) w0 w
  rows : ∀ (k : Nat) (x : By), L[k]? = some x → ∃ A c, us[k]? = some (.slice A x.length c) ∧ U8Row w A x.length ∧ ∀ ad, A = some ad → B ≤ ad.block ∧ ad.block < C ∧ v.ownBlock ≠ some ad.block
theorem U8Row.set_any {w : World} {A : Option Addr} {n : Nat} {p : Addr} {z z0 : Int} (h : U8Row w A n) (h0 : w.cell? p = some (.int .u8 z0)) : U8Row (w.setCell p (.int .u8 z)) A n := fun hn => by
  obtain ⟨ad, e, hg, hc⟩ := h hn
  refine ⟨ad, e, hg, fun j hj => ⟨?_, (World.frozen?_setCell _ _ _ _).trans (hc j hj).2⟩⟩
  by_cases e : p = ad.add j
  · subst e
    exact ⟨z, World.cell?_setCell_same _ (v := .int .u8 z) (a := ad.add j) h0⟩
  · obtain ⟨y, hy⟩ := (hc j hj).1
    exact ⟨y, (World.cell?_setCell_other w _ _ _ e).trans hy⟩
theorem RwU.set_ {B C : Nat} {w0 w : World} {v : Value} {us : List Value} {L : List By} (h : RwU B C w0 w v us L) {p : Addr} {z z0 : Int} (h0 : w.cell? p = some (.int .u8 z0)) (hp : B ≤ p.block ∧ p.block < C ∧ v.ownBlock ≠ some p.block) : RwU B C w0 (w.setCell p (.int .u8 z)) v us L :=
  ⟨h.upd.setCell (.inl hp) _, fun k x hx => by obtain ⟨A, c, e, hu, hb⟩ := h.rows k x hx; exact ⟨A, c, e, hu.set_any h0, hb⟩⟩
theorem RwU.of {B : Nat} {w : World} {v : Value} {L : List By} (h : Rows8 B w v L) : ∃ us, w.ownsRow B 22 1 v L.length us ∧ us.length = L.length ∧ ∀ w0 C, w.heap.size ≤ C → Below w.heap.size w w0 → RwU B C w0 w0 v us L := by
  obtain ⟨us, h1, h2, h3⟩ := h
  refine ⟨us, h1, h2, fun w0 C hC hb => ⟨Upd.refl _ _, fun k x hx => ?_⟩⟩
  obtain ⟨u, e, r⟩ := h3 k x hx
  obtain ⟨A, c, rfl, _⟩ := own_form r
  refine ⟨A, c, e, U8Row.ofOwn (own_below r hb), fun ad ea => ?_⟩
  subst ea
  have hob : (Value.slice (some ad) x.length c).ownBlock = some ad.block := by
    rcases r.2 with ⟨e, _⟩ | ⟨g, cap, cur, e, _⟩
    · cases e
    · injection e with e1
      injection e1 with e1
      subst e1
      rfl
  have hl := own_lt r hob
  refine ⟨hl.1, by omega, fun e => ?_⟩
  obtain ⟨cs, hbk⟩ := own_blk r hob
  exact own_blk_ne h1 hbk (by decide) e
theorem RwU.at_ {B C : Nat} {w0 w : World} {A : Option Addr} {n c : Nat} {us : List Value} {L : List By} (h : RwU B C w0 w (.slice A n c) us L) (ho : w0.ownsRow B 22 1 (.slice A n c) n us) {k : Nat} {y : By} (hy : L[k]? = some y) (hk : k < n) :
    ∃ ad A' c', A = some ad ∧ w.cell? (ad.add k) = some (.slice A' y.length c') ∧ U8Row w A' y.length ∧ ∀ a, A' = some a → B ≤ a.block ∧ a.block < C ∧ (Value.slice A n c).ownBlock ≠ some a.block := by
  have h1 := own_keep ho (h.upd.same (I := fun j => (Value.slice A n c).ownBlock = some j) fun j hj hi => hj.2.2 hi) fun g hg => hg
  obtain ⟨A', c', e, hu, hb⟩ := h.rows k y hy
  obtain ⟨ad, rfl, _, _, hcell⟩ := (Reads.of_own (I := fun _ => True) h1 fun _ _ => trivial).2 (by omega)
  exact ⟨ad, A', c', rfl, by simpa using hcell k _ e, hu, hb⟩

set_option maxRecDepth 100000 in
set_option maxHeartbeats 16000000 in
theorem fragcuts_any (A : Option Addr) (n c : Nat) (x : By) (m lv : Int) (w : World) (h : Reads w (fun k => k < w.heap.size) 1 A n (bytesV x)) (hn : x.length = n) (hc : n ≤ c) :
    Calls Try.prog 10 #[.slice A n c, .int .i64 m, .int .i64 lv] w fun e w' => e = .returned (.bool true) ∧ Below w.heap.size w w' := by
  have HK := Lib.hid (fun wx => known15_any wx)
  have HNM := Lib.hid (fun z wx => num15_any z wx)
  have HN := Lib.hid hn
  have HC := Lib.hid hc
  have HH := Lib.hid h
  have s0 := run_str w _ A x c (by rw [hn]; exact h)
  rw [hn] at s0
  clear h hn hc
  go_enter Try.func10, Try.ntmps10
  by_cases hbig : 9000 < n
  · have hg : decide ((9000 : Int) < (n : Int)) = true := decide_eq_true (by omega)
    go_wp2_with fail
    refine (HK.out _).mono ?_
    rintro e w1 ⟨rfl, hb⟩
    have HB := Lib.hid hb
    clear hb
    go_wp2_with fail
    go_ret
    exact ⟨rfl, HB.out⟩
  have hg : decide ((9000 : Int) < (n : Int)) = false := decide_eq_false (by omega)
  have hsm : n ≤ 1000000 := by omega
  have HSM := Lib.hid hsm
  have hff := ffits_any A n c x m _ w HH.out HN.out HC.out hsm
  obtain ⟨F, hF⟩ : ∃ F, F = fitsF x m := ⟨_, rfl⟩
  have hrf := fun wx (hb : Below w.heap.size w wx) => rffits_any A n c x m _ wx (HH.out.keep (Same.ofBelow hb fun k hk => hk)) HN.out HC.out hsm
  rw [← hF] at hff
  have HFF := Lib.hid hff
  have HRF := Lib.hid (show ∀ wx, Below w.heap.size w wx → Calls Try.prog 45 #[.slice A n c, .int .i64 m] wx fun e w' => e = .returned (.tuple #[.bool F.1, .int .i64 (F.2 : Int)]) ∧ Below wx.heap.size wx w' from fun wx hb => by have := hrf wx hb; rwa [← hF] at this)
  have HCU := Lib.hid (fun wx (hb : Below w.heap.size w wx) => fcut_any A n c x m (fun k => k < w.heap.size) wx (HH.out.keep (Same.ofBelow hb fun k hk => hk)) HN.out HC.out hsm)
  have HRC := Lib.hid (fun wx (hb : Below w.heap.size w wx) => rcut_any A n c x m (fun k => k < w.heap.size) wx (HH.out.keep (Same.ofBelow hb fun k hk => hk)) HN.out HC.out hsm)
  have HMA := Lib.hid (fun wx (hb : Below w.heap.size w wx) => many_any A n c x m (fun k => k < w.heap.size) wx (HH.out.keep (Same.ofBelow hb fun k hk => hk)) HN.out HC.out hsm)
  have hcb := cut_bound (by have := HN.out; omega : x.length ≤ 1000000) m
  have hlen : (cutF x m).1.length ≤ 1000000 := by have := cut_len x m; have := HN.out; omega
  obtain ⟨R, hR⟩ : ∃ R, R = cutF x m := ⟨_, rfl⟩
  rw [← hR] at HCU HRC HMA hlen hcb
  obtain ⟨L, en⟩ := R
  obtain ⟨fb, fe⟩ := F
  have HR := Lib.hid hR
  simp only at hlen hcb
  have HCB := Lib.hid hcb
  clear hbig hF hff hrf hR hcb
  go_wp2_with fail
  refine HFF.out.mono ?_
  rintro e w1 ⟨rfl, hb1⟩
  have HB1 := Lib.hid hb1
  clear hb1
  go_wp2_with fail
  refine (HRF.out _ HB1.out).mono ?_
  rintro e w2 ⟨rfl, hb2⟩
  have HB2 := Lib.hid (HB1.out.trans (hb2.mono HB1.out.size))
  clear hb2
  have t1 : (fb != fb) = false := by cases fb <;> rfl
  have t2 : ((fe : Int) != (fe : Int)) = false := by simp
  have t3 : ((en : Int) != (en : Int)) = false := by simp
  go_wp2_with (go_at_call 43; refine (HNM.out _ _).mono ?_; rintro e w' ⟨rfl, rfl⟩)
  refine (HCU.out _ HB2.out).mono ?_
  rintro e w3 ⟨v3, rfl, hr3, hb3⟩
  obtain ⟨A3, c3, rfl, hc3⟩ := hr3.form
  have HB3 := Lib.hid (HB2.out.trans (hb3.mono HB2.out.size))
  have HR3 := Lib.hid hr3
  have HZ3 := Lib.hid hb3.size
  clear hr3 hb3
  simp only
  go_wp2_with fail
  refine (HRC.out _ HB3.out).mono ?_
  rintro e w4 ⟨A4, c4, us4, rfl, hl4, hb4⟩
  have HB4 := Lib.hid (HB3.out.trans (hb4.mono HB3.out.size))
  have HB34 := Lib.hid hb4
  have HL4 := Lib.hid (hl4.mono (J := fun k => (k < w.heap.size) ∨ (w3.heap.size ≤ k ∧ k < w4.heap.size)) fun k hk => hk.imp (fun h => h.1) fun h => h)
  clear hl4 hb4
  simp only
  go_wp2_with fail
  refine (HMA.out _ HB4.out).mono ?_
  rintro e w5 ⟨rfl, hb5⟩
  have HB5 := Lib.hid (HB4.out.trans (hb5.mono HB4.out.size))
  have HB35 := Lib.hid (HB34.out.trans (hb5.mono HB34.out.size))
  have HL5 := Lib.hid (HL4.out.keep (Same.ofBelow hb5 fun k hk => by have := HB4.out.size; omega))
  obtain ⟨mm, hmm⟩ : ∃ mm, mm = L.length := ⟨_, rfl⟩
  have HMM := Lib.hid hmm
  have hl3 := HR3.out.lst.2
  simp only
  rw [← hmm] at HR3 HL5 hc3 hlen hl3 ⊢
  obtain ⟨us3, hl3⟩ := hl3
  have hsl := samelists_any A3 A4 mm c3 c4 us3 us4 L _ _ w5 (hl3.keep (Same.ofBelow HB35.out fun k hk => hk.2)) HL5.out hlen
  have HSL := Lib.hid hsl
  have HZ5 := Lib.hid hb5.size
  have t4 : ((mm : Int) != (mm : Int)) = false := by simp
  have t5 : (mm != mm) = false := by simp
  clear hb5 hmm hl3 hsl
  go_wp2_with (first | (go_at_call 43; refine (HNM.out _ _).mono ?_; rintro e w' ⟨rfl, rfl⟩) | (go_at_call 48; refine HSL.out.mono ?_; rintro e w6 ⟨rfl, hb6⟩; have HB6 := Lib.hid (HB5.out.trans (hb6.mono HB5.out.size)); have HB36 := Lib.hid (HB35.out.trans (hb6.mono HB35.out.size)); have HZ6 := Lib.hid (show w4.heap.size ≤ w6.heap.size from Nat.le_trans HZ5.out hb6.size); have HL6 := Lib.hid (HL5.out.keep (Same.ofBelow hb6 fun k hk => by have := HB4.out.size; have := HZ5.out; omega)); clear hb6))
  obtain ⟨us3, ho3, _, hrw⟩ := RwU.of HR3.out
  have hrw6 := hrw w6 w3.heap.size (Nat.le_refl _) HB36.out
  have ho6 := own_below ho3 HB36.out
  rw [← HMM.out] at ho6
  have HRW := Lib.hid hrw6
  have HO6 := Lib.hid ho6
  clear ho3 hrw hrw6 ho6 HFF HRF HCU HRC HMA HSL HR3
  go_loopw [17] (fun i wr => ∃ k : Nat, k ≤ mm ∧ i = .int .i64 (k : Int) ∧ RwU w2.heap.size w3.heap.size w6 wr (.slice A3 mm c3) us3 L) (fun i _ => mm - (intOf i).toNat)
  case atStart => exact ⟨0, Nat.zero_le _, rfl, HRW.out⟩
  case round =>
    obtain ⟨k, hk, rfl, hu⟩ := hrel
    by_cases hlt : k < mm
    · obtain ⟨y, hy⟩ : ∃ y, L[k]? = some y := ⟨_, List.getElem?_eq_getElem (by rw [← HMM.out]; exact hlt)⟩
      have HY := Lib.hid hy
      have HU := Lib.hid hu
      have hd1 : decide (k < mm) = true := decide_eq_true hlt
      have HLT := Lib.hid hlt
      obtain ⟨wo, rfl⟩ : ∃ wo : World, wo = wr := ⟨_, rfl⟩
      have hi0 : (0 : Int) ≤ k := by omega
      have hi1 : (k : Int) < mm := by omega
      obtain ⟨q, hq⟩ : ∃ q, q = y.length := ⟨_, rfl⟩
      have HQ := Lib.hid hq
      have hqb : q ≤ 1000000 := by rw [hq]; exact HCB.out y (List.mem_of_getElem? hy)
      clear hu hy hq
      go_wp2_with fail
      go_loopw [18] (fun i wr => ∃ j : Nat, j ≤ q ∧ i = .int .i64 (j : Int) ∧ RwU w2.heap.size w3.heap.size w6 wr (.slice A3 mm c3) us3 L) (fun i _ => q - (intOf i).toNat)
      case atStart => exact ⟨0, Nat.zero_le _, rfl, HU.out⟩
      case round =>
        obtain ⟨j, hj, rfl, hu2⟩ := hrel
        obtain ⟨ad, A', c', rfl, hcell, hu8, hblk⟩ := hu2.at_ HO6.out HY.out HLT.out
        rw [← HQ.out] at hcell hu8
        have HU2 := Lib.hid hu2
        have hbk0 : ∀ a, A' = some a → w2.heap.size ≤ a.block ∧ a.block < w3.heap.size ∧ (Value.slice (some ad) mm c3).ownBlock ≠ some a.block := hblk
        by_cases hjl : j < q
        · obtain ⟨ad2, rfl, hg2, hc⟩ := hu8 (by omega)
          obtain ⟨⟨z, hz⟩, hf⟩ := hc j hjl
          have hj0 : (0 : Int) ≤ j := by omega
          have hj1 : (j : Int) < q := by omega
          have HG := Lib.hid (hbk0 _ rfl)
          have HG2 := Lib.hid hg2
          have HZ := Lib.hid hz
          clear hu2 hc hblk hbk0 hu8 hg2
          go_wp2_with fail
          go_roundw
          case rel => exact ⟨j + 1, by omega, by simp, HU2.out.set_ HZ.out (by have := HG.out; obtain ⟨g, rfl⟩ := HG2.out; rw [Addr.add_lit]; exact this)⟩
          case measure => simp [intOf]; omega
        · obtain rfl : j = q := by omega
          clear hu2 hblk hbk0 hu8
          go_wp2_with fail
          go_roundw
          case rel => exact ⟨k + 1, by omega, by simp, HU2.out⟩
          case measure => simp [intOf]; omega
    · obtain rfl : k = mm := by omega
      have HU := Lib.hid hu
      clear hu
      have hz := HB2.out.size
      have hbr : Below w.heap.size w wr := HB6.out.trans (HU.out.upd.below (fun i hi => by have := hi.1; omega) HB6.out.size)
      have hl := (HL6.out.keep (HU.out.upd.same fun j hj hi => by have := hj.1; have := hj.2.1; omega)).mono (J := fun k => k < wr.heap.size) fun j hj => by have := hbr.size; have := HB4.out.size; have := HU.out.upd.size; have := HB36.out.size; have := HB34.out.size; have := HZ3.out; have := HZ6.out; omega
      have HON := Lib.hid (fun (lv : Int) (wx : World) (hb : Below w.heap.size w wx) (hl : Lst8 wx (fun k => k < wx.heap.size) A4 k us4 L) => once15_any A n c x m (fun k => k < w.heap.size) wx (HH.out.keep (Same.ofBelow hb fun k hk => hk)) HN.out HC.out HSM.out A4 c4 k us4 (by rw [← HR.out]; exact HMM.out.symm) (by rw [← HR.out]; exact hl) en (by rw [← HR.out]) lv)
      have HBR := Lib.hid hbr
      have HL := Lib.hid hl
      clear hbr hl HU
      go_wp2_with fail
      refine (HON.out lv wr HBR.out HL.out).mono ?_
      rintro e w7 ⟨rfl, hb7⟩
      have hb7' := HBR.out.trans (hb7.mono HBR.out.size)
      have hl7 := (HL.out.keep (Same.ofBelow hb7 fun k hk => hk)).mono (J := fun k => k < w7.heap.size) fun j hj => Nat.lt_of_lt_of_le hj hb7.size
      have HO7 := Lib.hid (HON.out 0 w7 hb7' hl7)
      have HB7 := Lib.hid hb7'
      clear hb7 hb7' hl7 HON
      go_wp2_with fail
      refine HO7.out.mono ?_
      rintro e w8 ⟨rfl, hb8⟩
      have HB8 := Lib.hid (HB7.out.trans (hb8.mono HB7.out.size))
      have s8 := run_str w8 _ A x c (by rw [HN.out]; exact HH.out.keep (Same.ofBelow HB8.out fun k hk => hk))
      rw [HN.out] at s8
      clear hb8
      go_wp2_with fail
      refine (HK.out _).mono ?_
      rintro e w9 ⟨rfl, hb9⟩
      have HB9 := Lib.hid (HB8.out.trans (hb9.mono HB8.out.size))
      clear hb9
      go_wp2_with fail
      go_ret
      exact ⟨rfl, HB9.out⟩
end Go.Proofs.Ytfddkehnhkfjeaa
