/- Reass: whole. -/
import Derived.Test.YtihfihehiifdkaaRsC
import Derived.Test.YtihfihehiifdkaaIpF
namespace Go.Proofs.Ytihfihehiifdkaa
open Go.RowKit Go.Sort
theorem full_of {f : Fl} (hm : missF f = []) (he : 0 ≤ f.en) : ∀ k, 8 * k < f.en.toNat → min 8 (f.en.toNat - 8 * k) ≤ (f.c k).length := by
  intro k hk
  have e : endF f = f.en.toNat := by unfold endF; rw [if_pos he]
  rcases Nat.lt_or_ge (f.c k).length (min 8 (f.en.toNat - 8 * k)) with hl | hg
  · have : k ∈ missF f := by
      unfold missF
      rw [List.mem_filter, List.mem_range, e]
      refine ⟨by omega, ?_⟩
      unfold lackF
      rw [e]
      exact decide_eq_true hl
    rw [hm] at this
    cases this
  · exact hg
def payP (f : Fl) (k : Nat) : By := (List.range k).flatMap f.c
theorem payP_succ (f : Fl) (k : Nat) : payP f (k + 1) = payP f k ++ f.c k := by unfold payP; rw [List.range_succ, List.flatMap_append]; simp
theorem payP_len {f : Fl} {E : Nat} (ok : FlOk f) (h : ∀ k, 8 * k < E → min 8 (E - 8 * k) ≤ (f.c k).length) : ∀ k, 8 * k ≤ E → (payP f k).length = 8 * k
  | 0, _ => rfl
  | k + 1, hk => by
    rw [payP_succ, List.length_append, payP_len ok h k (by omega)]
    have := h k (by omega)
    have := ok.c8 k
    omega
theorem payP_le {f : Fl} (ok : FlOk f) : ∀ k, (payP f k).length ≤ 8 * k
  | 0 => Nat.le_refl _
  | k + 1 => by
    rw [payP_succ, List.length_append]
    have := payP_le ok k
    have := ok.c8 k
    omega
theorem payP_ge {f : Fl} {E : Nat} (ok : FlOk f) (h : ∀ k, 8 * k < E → min 8 (E - 8 * k) ≤ (f.c k).length) : E ≤ (payP f ((E + 7) / 8)).length := by
  by_cases h8 : E % 8 = 0
  · rw [payP_len ok h _ (by omega)]; omega
  · rw [show (E + 7) / 8 = E / 8 + 1 by omega, payP_succ, List.length_append, payP_len ok h _ (by omega)]
    have := h (E / 8) (by omega)
    omega
theorem FlM.ldhd {w : World} {N : Nat → Prop} {fb ab : Nat} {f : Fl} (h : FlM w N fb ab f) : ∃ A c, Row8 0 w (.slice A f.hd.opts.length c) f.hd.opts ∧ (∀ b, (Value.slice A f.hd.opts.length c).ownBlock = some b → N b) ∧ ∀ w', Below w.heap.size w w' → (Instr.loadAt 32 (.pointer (some ⟨fb, 1, none⟩))).run Try.prog w' = .ok (.agg (hdC f.hd (.slice A f.hd.opts.length c))) w' := by
  obtain ⟨vo, h1, h2, h3⟩ := h.blk
  obtain ⟨A, c, rfl, _⟩ := h2.form
  refine ⟨A, c, h2, h3, fun w' hb => ?_⟩
  have h1 := h1.below hb h1.lt
  have := run_loadAt_mid (P := Try.prog) w' fb 1 32 (hdC f.hd (.slice A f.hd.opts.length c)).toList _ (fun j v hj => by
    rw [h1.cell]
    have hj' : (hdC f.hd (.slice A f.hd.opts.length c)).toList[j]? = some v := hj
    have e : (flC ab f.hd (.slice A f.hd.opts.length c) f.first f.en)[1 + j]? = ((Value.map (some ab)) :: ((hdC f.hd (.slice A f.hd.opts.length c)).toList ++ [.bool f.first, .int .i64 f.en]))[j + 1]? := by rw [Nat.add_comm 1 j]; exact (Array.getElem?_toList (xs := flC ab f.hd (.slice A f.hd.opts.length c) f.first f.en)).symm
    rw [e, List.getElem?_cons_succ, List.getElem?_append_left (by have := List.getElem?_eq_some_iff.1 hj'; exact this.1)]
    exact hj') Try.underlying32 rfl (by simpa [hdC] using hd_info)
  simpa using this
def RwΦ (D fb _gh : Nat) (hz : Hd) (vo : Value) (A5 : Option Addr) (P c5 E ec : Nat) (z : By) : Nat → Value → World → Prop
  | 0, u, _ => u = .agg (hdC hz vo)
  | 1, u, _ => u = .slice A5 P c5
  | 2, u, _ => u = .pointer (some ⟨fb, 0, none⟩)
  | 3, u, _ => u = .pointer (some ⟨fb, 0, none⟩)
  | 4, u, _ => u = .pointer (some ⟨fb, 13, none⟩)
  | 5, u, _ => u = .int .i64 (E : Int)
  | 6, u, _ => u = .slice A5 E c5
  | 7, u, wz => ∃ v, u = .tuple #[v, .int .i64 (ec : Int)] ∧ Row8 D wz v z
  | 8, u, wz => ∃ v, u = .tuple #[v, .int .i64 (ec : Int)] ∧ Row8 D wz v z
  | 9, u, wz => Row8 D wz u z
  | 10, u, _ => u = .int .i64 (ec : Int)
  | 11, u, wz => Row8 D wz u z
  | 12, u, _ => u = .int .i64 (ec : Int)
  | _, _, _ => True
theorem RwΦ.keep {D fb gh : Nat} {hz : Hd} {vo : Value} {A5 : Option Addr} {P c5 E ec : Nat} {z : By} {wx wy : World} (hb : Below wx.heap.size wx wy) : ∀ j u, RwΦ D fb gh hz vo A5 P c5 E ec z j u wx → RwΦ D fb gh hz vo A5 P c5 E ec z j u wy := by
  intro j u h
  unfold RwΦ at h ⊢
  split at h
  all_goals first
    | exact h
    | exact Row8.below h hb
    | (obtain ⟨v, e, h2⟩ := h; exact ⟨v, e, h2.below hb⟩)
set_option maxRecDepth 100000 in
set_option maxHeartbeats 8000000 in
attribute [-go_sem] Instr.storeAt Instr.loadAt in
theorem whole_any (N : Nat → Prop) (fb ab : Nat) (f : Fl) (w : World) (h : FlM w N fb ab f) (ok : FlOk f) :
    Calls Try.prog 84 #[.pointer (some ⟨fb, 0, none⟩)] w fun e w' => ∃ v, e = .returned (.tuple #[v, .bool (wholeF' f), .int .i64 (((if wholeF' f = true then (outF f).2 else 0 : Nat)) : Int)]) ∧ Row8 w.heap.size w' v (if wholeF' f = true then (outF f).1 else []) ∧ Below w.heap.size w w' ∧ (wholeF' f = false → v = .slice none 0 0) := by
  have HF := Lib.hid (fun wx (hb : Below w.heap.size w wx) => h.below hb)
  have HMI := Lib.hid (missing_any N fb ab f w h ok)
  have HOK := Lib.hid ok
  have r12 := ld_bool h.cells.2.2
  have r13 := ld_int h.cells.2.1
  clear h ok
  go_enter Try.func84, Try.ntmps84
  cases hfs : f.first with
  | false =>
    rw [hfs] at r12
    have hw : wholeF' f = false := by unfold wholeF'; rw [hfs]; rfl
    rw [hw]
    clear hfs hw
    go_wp2_with fail
    go_ret3
    exact ⟨_, rfl, Row8.nil _ _, Below.refl _ _, rfl⟩
  | true =>
    rw [hfs] at r12
    by_cases hen : f.en < 0
    · have hw : wholeF' f = false := by unfold wholeF'; rw [decide_eq_false (by omega : ¬ 0 ≤ f.en), Bool.and_false]; rfl
      rw [hw]
      have de : decide (f.en < 0) = true := decide_eq_true hen
      clear hfs hw
      go_wp2_with fail
      go_ret3
      exact ⟨_, rfl, Row8.nil _ _, Below.refl _ _, rfl⟩
    have de : decide (f.en < 0) = false := decide_eq_false hen
    obtain ⟨E, hE⟩ : ∃ E : Nat, f.en = (E : Int) := ⟨f.en.toNat, by omega⟩
    have hE5 : E ≤ 65535 := by have := HOK.out.e1; have := HOK.out.bl; omega
    have hwf : wholeF' f = (missF f).isEmpty := by unfold wholeF'; rw [hfs, decide_eq_true (by omega : 0 ≤ f.en)]; rfl
    have HWF := Lib.hid hwf
    have HFST := Lib.hid hfs
    have HE := Lib.hid hE
    clear hfs hwf hE hen
    by_cases hms : missF f = []
    rotate_left
    · have hl0 : 0 < (missF f).length := List.length_pos_iff.2 hms
      have hw : wholeF' f = false := by rw [HWF.out]; simpa using hms
      rw [hw]
      clear hw hms
      have hml : (missF f).length ≤ 8192 := Nat.le_trans (filterN_le _ _) (by have := end_le HOK.out; omega)
      obtain ⟨ml, hmle⟩ : ∃ m, m = (missF f).length := ⟨_, rfl⟩
      have HML := Lib.hid hmle
      rw [← hmle] at hl0 hml
      clear hmle
      go_wp2_with (go_at_call 85; refine HMI.out.mono ?_; rintro e w1 ⟨v1, rfl, h1, hb1⟩; obtain ⟨A1, c1, rfl, _⟩ := own_form h1; rw [← HML.out]; have HB1 := Lib.hid hb1; clear h1 hb1)
      go_ret3
      exact ⟨_, rfl, Row8.nil _ _, HB1.out, rfl⟩
    have hw : wholeF' f = true := by rw [HWF.out, hms]; rfl
    have hfu := full_of hms (by rw [HE.out]; omega)
    rw [HE.out, Int.toNat_natCast] at hfu
    have HFU := Lib.hid hfu
    have HMS := Lib.hid hms
    rw [if_pos hw, if_pos hw, hw]
    clear hw hms hfu
    go_upto_region 5 with (go_at_call 85; refine HMI.out.mono ?_; rintro e w1 ⟨v1, rfl, h1, hb1⟩; rw [HMS.out] at h1; obtain ⟨A1, c1, rfl, _⟩ := own_form h1; have HB1 := Lib.hid hb1; clear h1 hb1)
    have hE7 : (E + 7) / 8 ≤ 8192 := by omega
    obtain ⟨K, hKe⟩ : ∃ K, K = (E + 7) / 8 := ⟨_, rfl⟩
    have HKE := Lib.hid hKe
    rw [← hKe] at hE7
    clear hKe r12 r13 de
    obtain ⟨i0, hi, hz0, hz1, hz2⟩ := info_parts info_u8
    go_loopw [5, 6] (fun s5 s6 wr => ∃ k : Nat, s6 = .int .i64 (k : Int) ∧ k ≤ K ∧ Row8 w.heap.size wr s5 (payP f k) ∧ Below w.heap.size w wr) (fun _ s6 _ => K - (intOf s6).toNat)
    case atStart => exact ⟨0, rfl, Nat.zero_le _, Row8.nil _ _, HB1.out⟩
    case round =>
      obtain ⟨k, rfl, hk, hP, hB⟩ := hrel
      have HP := Lib.hid hP
      have HB := Lib.hid hB
      have hfl := HF.out wr hB
      have HFW := Lib.hid hfl
      have r13 := ld_int hfl.cells.2.1
      rw [HE.out] at r13
      have r0 := ld_mapc hfl.cells.1
      by_cases hlt : 8 * k < E
      · obtain ⟨F, hm, hch⟩ := hfl.map
        obtain ⟨Ah, qh, hq, hrow, _⟩ := hch.look k
        have hlk := hm.look intKeyed Try.underlying113 (zero_by wr) (int_key (k := k) (by omega))
        rw [hq] at hlk
        have hrd := hrow.reads.2
        have hlp := payP_le HOK.out k
        have hlc := HOK.out.c8 k
        obtain ⟨n1, hn1⟩ : ∃ n, n = (payP f k).length := ⟨_, rfl⟩
        obtain ⟨m, hm1⟩ : ∃ n, n = (f.c k).length := ⟨_, rfl⟩
        rw [← hn1] at hlp
        rw [← hm1] at hlk hrd hlc
        have hown : wr.ownsRow w.heap.size 5 1 u5 n1 (bytesV (payP f k)) := by rw [hn1]; exact hP
        have HOWN := Lib.hid hown
        have HRD := Lib.hid hrd
        have HN1 := Lib.hid hn1
        have HM1 := Lib.hid hm1
        have hmx : n1 + m ≤ maxLen := by unfold maxLen; omega
        have hmb : (n1 + m) * 1 ≤ 140737488355328 := by omega
        have hk1 : k + 1 ≤ K := by rw [HKE.out]; omega
        have d1 : (8 : Int) * (k : Int) < (E : Int) := by omega
        clear hm hch hq hrow hP hB hfl hlt hown hrd hn1 hm1
        go_wp2_with (at_builtin; refine wpList_append_any _ rfl (.tmp 37) (.tmp 43) _ rfl w.heap.size 5 i0 _ 1 1 Try.underlying22 hi hz0 hz1 hz2 rfl Nat.one_pos u5 n1 _ rfl HOWN.out _ Ah m qh (bytesV (f.c k)) rfl HRD.out (bytesV_one _) hmx hmb HB.out.size ?_; intro v6 w6 ho6 hg6 ha6)
        have HO6 := Lib.hid ho6
        have HB6 := Lib.hid (HB.out.grown hg6 HB.out.size fun _ hg => (own_lt HOWN.out hg).1)
        clear ho6 hg6 ha6
        go_roundw
        case rel => exact ⟨k + 1, by go_num, hk1, by unfold Row8; rw [payP_succ, List.length_append, bytesV_app, ← HN1.out, ← HM1.out]; exact HO6.out, HB6.out⟩
        case measure => simp [intOf]; omega
      · have hkK : k = K := by rw [HKE.out] at hk ⊢; omega
        have d1 : ¬ ((8 : Int) * (k : Int) < (E : Int)) := by omega
        have hk8 : k ≤ 8192 := by omega
        have hge := payP_ge HOK.out HFU.out
        have hle := payP_le HOK.out k
        rw [← HKE.out, ← hkK] at hge
        obtain ⟨A5, c5, hform, hc5⟩ := hP.form
        subst hform
        obtain ⟨P, hPe⟩ : ∃ n, n = (payP f k).length := ⟨_, rfl⟩
        rw [← hPe] at hge hle hc5 HP
        rw [← hPe]
        have HPE := Lib.hid hPe
        have HKK := Lib.hid hkK
        have HGE := Lib.hid hge
        have HEC := Lib.hid (show E ≤ c5 by omega)
        obtain ⟨Ao, co, hro, hno, hld⟩ := hfl.ldhd
        have HRO := Lib.hid hro
        have rl := hld wr (Below.refl _ _)
        obtain ⟨w2, hst, hb2, hb02, hk2⟩ := hd_var hB hB.size f.hd Ao f.hd.opts.length co
        have hs4 := st_boolv (hk2.cell 4) (hk2.frozen 4) false
        have hk3 : Blk (w2.setCell ⟨wr.heap.size, 4, none⟩ (.bool false)) wr.heap.size 32 (hdC { f.hd with mf := false } (.slice Ao f.hd.opts.length co)) := hk2.set_ 4 (.bool false)
        have hu3 : Upd (only wr.heap.size) w2 (w2.setCell ⟨wr.heap.size, 4, none⟩ (.bool false)) := (Upd.refl _ _).set_ 4 _
        have hb3 : Below w.heap.size w (w2.setCell ⟨wr.heap.size, 4, none⟩ (.bool false)) := hb2.trans (hu3.below (fun k (hk : k = wr.heap.size) => by have := HB.out.size; omega) hb2.size)
        have hb3' : Below wr.heap.size wr (w2.setCell ⟨wr.heap.size, 4, none⟩ (.bool false)) := hb02.trans (hu3.below (fun k (hk : k = _) => by omega) hb02.size)
        obtain ⟨W3, hW3⟩ : ∃ W, W = w2.setCell ⟨wr.heap.size, 4, none⟩ (.bool false) := ⟨_, rfl⟩
        rw [← hW3] at hs4 hk3 hb3 hb3'
        have HB3 := Lib.hid hb3
        have HK3 := Lib.hid hk3
        have hp3 := HP.out.below hb3'
        have hro3 := hro.below hb3'
        have HFL := Lib.hid (fun wx (hb : Below w.heap.size w wx) => HF.out wx hb)
        have HD3 := Lib.hid hb3.size
        have hpay : payF f = (payP f k).take E := by
          have e : f.en.toNat = E := by rw [HE.out]; rfl
          unfold payF
          rw [e, ← HKE.out, ← HKK.out]
          rfl
        have hpl : ((payP f k).take E).length = E := by rw [List.length_take, ← HPE.out]; omega
        have hcut := cut_hi (cap := c5) (k := E) (by rw [HPE.out] at hp3; exact hp3.reads.2) (by rw [← HPE.out]; exact HGE.out) HEC.out
        have hslo : Sl8 W3 (fun k => 0 ≤ k ∧ k < W3.heap.size) (.slice Ao f.hd.opts.length co) f.hd.opts := hro3.sl
        have hbyt := fun wx (hb : Below W3.heap.size W3 wx) => bytes_any { f.hd with mf := false } (.slice Ao f.hd.opts.length co) (.slice A5 E c5) ((payP f k).take E) (fun k => 0 ≤ k ∧ k < W3.heap.size) wx (hslo.keep (Same.ofBelow hb fun k hk => hk.2)) ((hcut.keep (Same.ofBelow hb fun k hk => hk.2)).mono fun k hk => ⟨Nat.zero_le _, hk.2⟩)
        have hok : f.hd.ok ∧ mayH f.hd = true ∧ f.hd.off = 0 := HOK.out.h HFST.out
        have hop40 : f.hd.opts.length ≤ 40 := (may_opts hok.2.1).2.1
        have HBY0 := Lib.hid (fun wx hb => hbyt wx hb hok.1 (show f.hd.opts.length ≤ 1000000 by omega) (by rw [hpl]; omega))
        have hout : outF f = if fitsH { f.hd with mf := false } ((payP f k).take E) = true then (bytesF { f.hd with mf := false } ((payP f k).take E), 0) else ([], 3) := by unfold outF; rw [hpay]
        have HOUT := Lib.hid hout
        rw [hdV_eq] at hst
        clear hW3 hk3 hu3 hb3 hb3' hpay hpl hcut hslo hbyt hok hop40 hout hp3 hro3 hkK hk hP hB hfl hld hno hro hb2 hb02 hk2 hge hle hc5 hPe
        go_upto_region 10 with (fail)
        clear hst hs4 rl r13 r0 d1
        obtain ⟨gh, hgh⟩ : ∃ g, g = wr.heap.size := ⟨_, rfl⟩
        rw [← hgh] at HK3 ⊢
        clear hgh
        obtain ⟨z, hz⟩ : ∃ z, z = if fitsH { f.hd with mf := false } ((payP f k).take E) = true then bytesF { f.hd with mf := false } ((payP f k).take E) else [] := ⟨_, rfl⟩
        obtain ⟨ec, hec⟩ : ∃ z : Nat, z = if fitsH { f.hd with mf := false } ((payP f k).take E) = true then 0 else 2 := ⟨_, rfl⟩
        have hby : ∀ wx, Below W3.heap.size W3 wx → Calls Try.prog 94 #[.agg (hdC { f.hd with mf := false } (.slice Ao f.hd.opts.length co)), .slice A5 E c5] wx (BytPost wx z (ec : Int)) := fun wx hb => by
          have := HBY0.out wx hb
          rw [← hz, hdV_eq] at this
          have e2 : (if fitsH { f.hd with mf := false } ((payP f k).take E) = true then (0 : Int) else 2) = (ec : Int) := by rw [hec]; split <;> rfl
          rw [e2] at this
          exact this
        have HBY := Lib.hid hby
        have HZ := Lib.hid hz
        have HECD := Lib.hid hec
        obtain ⟨hz1', hzz⟩ : ∃ h, h = ({ f.hd with mf := false } : Hd) := ⟨_, rfl⟩
        rw [← hzz] at HBY HK3
        obtain ⟨vo, hvo⟩ : ∃ v, v = Value.slice Ao f.hd.opts.length co := ⟨_, rfl⟩
        rw [← hvo] at HBY HK3
        clear hby hz hec hzz hvo HBY0
        refine wp_region_rel (by kernel_rfl) (fun p q => Below W3.heap.size p q ∧ p.heap.size ≤ q.heap.size) (RwΦ w.heap.size fb gh hz1' vo A5 P c5 E ec z) 13 (fun _ _ => True) (fun _ _ => false) (by kernel_rfl) (fun p => ⟨Below.refl _ p, Nat.le_refl _⟩) (fun h k => ⟨h.1.trans k.1, Nat.le_trans h.2 k.2⟩) (obl_of ?_) (fun o h => by cases h) ?_
        · refine ⟨fun _ => ?_, fun _ => ?_, fun _ => ?_, fun _ => ?_, fun _ => ?_, fun _ => ?_, fun _ => ?_, fun _ => ?_, fun _ => ?_, fun _ => ?_, fun _ => ?_, fun _ => ?_, fun _ => ?_, trivial⟩
          · -- 0
            intro val wx hg hd hb hs K hK
            generalize hρ : rhoV _ _ val = ρ
            have cc : ∀ u, ρ (.const u) = u := fun u => by rw [← hρ]; rfl
            have ff : ∀ u, ρ (.func u) = .func (.func u) #[] #[] := fun u => by rw [← hρ]; rfl
            have r7 : ρ (.tmp 7) = .pointer (some ⟨gh, 0, none⟩) := by rw [← hρ]; rfl
            have hbx : Below W3.heap.size W3 wx := ⟨hg.1.os, hg.1.tape, hg.1.output, hg.1.size, hg.1.block⟩
            have hl := hd_load (HK3.out.below hbx HK3.out.lt) rfl
            clear hρ hd hb hs
            refine ifv rfl ?_
            go_simp
            exact hK _ _ (⟨Below.refl _ _, Nat.le_refl _⟩) rfl fun _ _ _ _ h => h
          · -- 1
            intro val wx hg hd hb hs K hK
            generalize hρ : rhoV _ _ val = ρ
            have cc : ∀ u, ρ (.const u) = u := fun u => by rw [← hρ]; rfl
            have ff : ∀ u, ρ (.func u) = .func (.func u) #[] #[] := fun u => by rw [← hρ]; rfl
            have r5 : ρ (.tmp 5) = .slice A5 P c5 := by rw [← hρ]; rfl
            clear hρ hd hb hs
            refine ifv rfl ?_
            go_simp
            exact hK _ _ (⟨Below.refl _ _, Nat.le_refl _⟩) rfl fun _ _ _ _ h => h
          · -- 2
            intro val wx hg hd hb hs K hK
            generalize hρ : rhoV _ _ val = ρ
            have cc : ∀ u, ρ (.const u) = u := fun u => by rw [← hρ]; rfl
            have ff : ∀ u, ρ (.func u) = .func (.func u) #[] #[] := fun u => by rw [← hρ]; rfl
            have r0 : ρ (.tmp 0) = .pointer (some ⟨fb, 0, none⟩) := by rw [← hρ]; rfl
            clear hρ hd hb hs
            refine ifv rfl ?_
            go_simp
            exact hK _ _ (⟨Below.refl _ _, Nat.le_refl _⟩) rfl fun _ _ _ _ h => h
          · -- 3
            intro val wx hg hd hb hs K hK
            generalize hρ : rhoV _ _ val = ρ
            have cc : ∀ u, ρ (.const u) = u := fun u => by rw [← hρ]; rfl
            have ff : ∀ u, ρ (.func u) = .func (.func u) #[] #[] := fun u => by rw [← hρ]; rfl
            have r53 : ρ (.tmp 53) = .pointer (some ⟨fb, 0, none⟩) := by rw [← hρ]; exact hd 2 rfl rfl
            clear hρ hd hb hs
            refine ifv rfl ?_
            go_simp
            exact hK _ _ (⟨Below.refl _ _, Nat.le_refl _⟩) rfl fun _ _ _ _ h => h
          · -- 4
            intro val wx hg hd hb hs K hK
            generalize hρ : rhoV _ _ val = ρ
            have cc : ∀ u, ρ (.const u) = u := fun u => by rw [← hρ]; rfl
            have ff : ∀ u, ρ (.func u) = .func (.func u) #[] #[] := fun u => by rw [← hρ]; rfl
            have r54 : ρ (.tmp 54) = .pointer (some ⟨fb, 0, none⟩) := by rw [← hρ]; exact hd 3 rfl rfl
            clear hρ hd hb hs
            refine ifv rfl ?_
            go_simp
            exact hK _ _ (⟨Below.refl _ _, Nat.le_refl _⟩) rfl fun _ _ _ _ h => h
          · -- 5
            intro val wx hg hd hb hs K hK
            generalize hρ : rhoV _ _ val = ρ
            have cc : ∀ u, ρ (.const u) = u := fun u => by rw [← hρ]; rfl
            have ff : ∀ u, ρ (.func u) = .func (.func u) #[] #[] := fun u => by rw [← hρ]; rfl
            have r55 : ρ (.tmp 55) = .pointer (some ⟨fb, 13, none⟩) := by rw [← hρ]; exact hd 4 rfl rfl
            have hbx : Below W3.heap.size W3 wx := ⟨hg.1.os, hg.1.tape, hg.1.output, hg.1.size, hg.1.block⟩
            have hl := ld_int (HFL.out wx (HB3.out.trans (hbx.mono HB3.out.size))).cells.2.1
            rw [HE.out] at hl
            clear hρ hd hb hs
            refine ifv rfl ?_
            go_simp
            exact hK _ _ (⟨Below.refl _ _, Nat.le_refl _⟩) rfl fun _ _ _ _ h => h
          · -- 6
            intro val wx hg hd hb hs K hK
            generalize hρ : rhoV _ _ val = ρ
            have cc : ∀ u, ρ (.const u) = u := fun u => by rw [← hρ]; rfl
            have ff : ∀ u, ρ (.func u) = .func (.func u) #[] #[] := fun u => by rw [← hρ]; rfl
            have r52 : ρ (.tmp 52) = .slice A5 P c5 := by rw [← hρ]; exact hd 1 rfl rfl
            have r56 : ρ (.tmp 56) = .int .i64 (E : Int) := by rw [← hρ]; exact hd 5 rfl rfl
            have hl := sl_hi (w := wx) (A := A5) (n := P) (cap := c5) E HEC.out
            clear hρ hd hb hs
            refine ifv rfl ?_
            go_simp
            exact hK _ _ (⟨Below.refl _ _, Nat.le_refl _⟩) rfl fun _ _ _ _ h => h
          · -- 7
            intro val wx hg hd hb hs K hK
            generalize hρ : rhoV _ _ val = ρ
            have cc : ∀ u, ρ (.const u) = u := fun u => by rw [← hρ]; rfl
            have ff : ∀ u, ρ (.func u) = .func (.func u) #[] #[] := fun u => by rw [← hρ]; rfl
            have r51 : ρ (.tmp 51) = .agg (hdC hz1' vo) := by rw [← hρ]; exact hd 0 rfl rfl
            have r57 : ρ (.tmp 57) = .slice A5 E c5 := by rw [← hρ]; exact hd 6 rfl rfl
            have hbx : Below W3.heap.size W3 wx := ⟨hg.1.os, hg.1.tape, hg.1.output, hg.1.size, hg.1.block⟩
            have hc := HBY.out wx hbx
            have hzx : W3.heap.size ≤ wx.heap.size := hg.1.size
            have hdx : w.heap.size ≤ wx.heap.size := Nat.le_trans HD3.out hzx
            clear hρ hd hb hs
            refine ifv rfl ?_
            go_simp
            refine hc.mono ?_
            rintro e w3 ⟨v3, rfl, h3, hb3⟩
            exact ⟨_, rfl, hK _ _ ⟨hb3.mono hzx, hb3.size⟩ ⟨v3, rfl, own_base h3 hdx⟩ fun j _ _ _ h => RwΦ.keep hb3 j _ h⟩
          · -- 8
            intro val wx hg hd hb hs K hK
            generalize hρ : rhoV _ _ val = ρ
            have cc : ∀ u, ρ (.const u) = u := fun u => by rw [← hρ]; rfl
            have ff : ∀ u, ρ (.func u) = .func (.func u) #[] #[] := fun u => by rw [← hρ]; rfl
            have r58 : ρ (.tmp 58) = val 7 := by rw [← hρ]; rfl
            have p7 := hd 7 rfl rfl
            obtain ⟨v3, e3, h3⟩ : ∃ v, val 7 = .tuple #[v, .int .i64 (ec : Int)] ∧ Row8 w.heap.size wx v z := hd 7 rfl rfl
            rw [e3] at r58
            clear hρ hd hb hs e3
            refine ifv rfl ?_
            go_simp
            exact hK _ _ ⟨Below.refl _ _, Nat.le_refl _⟩ ⟨v3, rfl, h3⟩ fun _ _ _ _ h => h
          · -- 9
            intro val wx hg hd hb hs K hK
            generalize hρ : rhoV _ _ val = ρ
            have cc : ∀ u, ρ (.const u) = u := fun u => by rw [← hρ]; rfl
            have ff : ∀ u, ρ (.func u) = .func (.func u) #[] #[] := fun u => by rw [← hρ]; rfl
            have r50 : ρ (.tmp 50) = val 8 := by rw [← hρ]; rfl
            have p8 := hd 8 rfl rfl
            obtain ⟨v3, e3, h3⟩ : ∃ v, val 8 = .tuple #[v, .int .i64 (ec : Int)] ∧ Row8 w.heap.size wx v z := hd 8 rfl rfl
            rw [e3] at r50
            clear hρ hd hb hs e3
            refine ifv rfl ?_
            go_simp
            exact hK _ _ ⟨Below.refl _ _, Nat.le_refl _⟩ h3 fun _ _ _ _ h => h
          · -- 10
            intro val wx hg hd hb hs K hK
            generalize hρ : rhoV _ _ val = ρ
            have cc : ∀ u, ρ (.const u) = u := fun u => by rw [← hρ]; rfl
            have ff : ∀ u, ρ (.func u) = .func (.func u) #[] #[] := fun u => by rw [← hρ]; rfl
            have r50 : ρ (.tmp 50) = val 8 := by rw [← hρ]; rfl
            have p8 := hd 8 rfl rfl
            obtain ⟨v3, e3, h3⟩ : ∃ v, val 8 = .tuple #[v, .int .i64 (ec : Int)] ∧ Row8 w.heap.size wx v z := hd 8 rfl rfl
            rw [e3] at r50
            clear hρ hd hb hs e3 h3
            refine ifv rfl ?_
            go_simp
            exact hK _ _ ⟨Below.refl _ _, Nat.le_refl _⟩ rfl fun _ _ _ _ h => h
          · -- 11
            intro val wx hg hd hb hs K hK
            generalize hρ : rhoV _ _ val = ρ
            have cc : ∀ u, ρ (.const u) = u := fun u => by rw [← hρ]; rfl
            have ff : ∀ u, ρ (.func u) = .func (.func u) #[] #[] := fun u => by rw [← hρ]; rfl
            have r59 : ρ (.tmp 59) = val 9 := by rw [← hρ]; rfl
            have p9 := hd 9 rfl rfl
            have h9 : Row8 w.heap.size wx (val 9) z := hd 9 rfl rfl
            clear hρ hd hb hs
            refine ifv rfl ?_
            go_simp
            exact hK _ _ ⟨Below.refl _ _, Nat.le_refl _⟩ h9 fun _ _ _ _ h => h
          · -- 12
            intro val wx hg hd hb hs K hK
            generalize hρ : rhoV _ _ val = ρ
            have cc : ∀ u, ρ (.const u) = u := fun u => by rw [← hρ]; rfl
            have ff : ∀ u, ρ (.func u) = .func (.func u) #[] #[] := fun u => by rw [← hρ]; rfl
            have r60 : ρ (.tmp 60) = .int .i64 (ec : Int) := by rw [← hρ]; exact hd 10 rfl rfl
            clear hρ hd hb hs
            refine ifv rfl ?_
            go_simp
            exact hK _ _ (⟨Below.refl _ _, Nat.le_refl _⟩) rfl fun _ _ _ _ h => h
        · intro val w9 h9
          rw [if_neg (by decide)] at h9
          obtain ⟨hb9, h9⟩ := h9
          have p11 : Row8 w.heap.size w9 (val 11) z := h9 11 (by decide) fun _ _ => rfl
          have p12 : val 12 = .int .i64 (ec : Int) := h9 12 (by decide) fun _ _ => rfl
          have HB9 := Lib.hid (show Below w.heap.size w w9 from HB3.out.trans (Below.mono (⟨hb9.1.os, hb9.1.tape, hb9.1.output, hb9.1.size, hb9.1.block⟩ : Below W3.heap.size W3 w9) HB3.out.size))
          have HP11 := Lib.hid p11
          simp only [putAll, p12]
          simp only [Act.put, List.setIfInBounds_toArray, List.set_cons_succ, List.set_cons_zero]
          clear h9 hb9 p11 p12
          generalize val 0 = y0, val 1 = y1, val 2 = y2, val 3 = y3, val 4 = y4, val 5 = y5, val 6 = y6, val 7 = y7, val 8 = y8, val 9 = y9, val 10 = y10, val 11 = y11 at HP11 ⊢
          obtain ⟨A9, c9, hf9, _⟩ := HP11.out.form
          subst hf9
          by_cases hfit : fitsH { f.hd with mf := false } ((payP f k).take E) = true
          · have h1 := HOUT.out
            have h2 := HZ.out
            have h3 := HECD.out
            rw [if_pos hfit] at h1 h2 h3
            subst h3
            have HO1 := Lib.hid h1
            have HO2 := Lib.hid h2
            clear h1 h2 hfit
            go_wp2_with fail
            go_ret3
            exact ⟨_, by rw [HO1.out]; rfl, by rw [HO1.out, ← HO2.out]; exact HP11.out, HB9.out⟩
          · have h1 := HOUT.out
            have h3 := HECD.out
            rw [if_neg hfit] at h1 h3
            subst h3
            have HO1 := Lib.hid h1
            clear h1 hfit
            go_wp2_with fail
            go_ret3
            exact ⟨_, by rw [HO1.out]; rfl, by rw [HO1.out]; exact Row8.nil _ _, HB9.out⟩
end Go.Proofs.Ytihfihehiifdkaa
