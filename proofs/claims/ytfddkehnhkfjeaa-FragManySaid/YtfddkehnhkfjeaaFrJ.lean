/- Frag: Pieces. -/
import Derived.Test.YtfddkehnhkfjeaaFrI
namespace Go.Proofs.Ytfddkehnhkfjeaa
open Go.RowKit Go.Sort Go.BigFrame
attribute [local go_sem] Oper.semAt_some

/-- f goes over the rows of bytes L, each in a row of its own; what it reads lies in J. -/
def PcSeq (w : World) (J : Nat → Prop) (f : Value) (L : List By) : Prop :=
  (f = .func (.func 92) #[] #[] ∧ L = []) ∨
  (∃ (Bx : Nat) (ad : Addr) (cap : Nat) (x : By), f = .func (.func 93) #[] #[.pointer (some ⟨Bx, 0, none⟩)] ∧ L = [x] ∧ Blk w Bx 22 #[.slice (some ad) x.length cap] ∧ J Bx ∧ Reads w J 1 (some ad) x.length (bytesV x) ∧ x.length ≤ 1000000) ∨
  (∃ (bh bp bm bc : Nat) (h : Hd) (A1 : Option Addr) (n1 c1 : Nat) (Ap : Option Addr) (cp : Nat) (p : By) (m : Int), f = .func (.func 95) #[] #[.pointer (some ⟨bp, 0, none⟩), .pointer (some ⟨bc, 0, none⟩)] ∧ L = (pcsF h p.length m.toNat p.length 0).map (pbF p) ∧ P3 w J bh bp bm bc h A1 n1 c1 Ap cp p m ∧ h.ok ∧ mayH h = true ∧ 68 ≤ m ∧ m ≤ 65535 ∧ p.length ≤ 1000000 ∧ ∀ q ∈ pcsF h p.length m.toNat p.length 0, q.2.1.off ≤ 8191)
section
variable {w w2 : World} {J K : Nat → Prop} {f : Value} {L : List By}
theorem PcSeq.keep (h : PcSeq w J f L) (hs : Same J w w2) : PcSeq w2 J f L := by
  rcases h with h | ⟨Bx, ad, cap, x, h1, h2, h3, h4, h5, h6⟩ | ⟨bh, bp, bm, bc, h, A1, n1, c1, Ap, cp, p, m, h1, h2, h3, h4⟩
  · exact .inl h
  · exact .inr (.inl ⟨Bx, ad, cap, x, h1, h2, (hs.2 Bx h4 h3.lt).trans h3, h4, h5.keep hs, h6⟩)
  · exact .inr (.inr ⟨bh, bp, bm, bc, h, A1, n1, c1, Ap, cp, p, m, h1, h2, h3.keep hs, h4⟩)
theorem PcSeq.mono (h : PcSeq w J f L) (hs : ∀ k, J k → K k) (hl : ∀ k, K k → k < w.heap.size) : PcSeq w K f L := by
  rcases h with h | ⟨Bx, ad, cap, x, h1, h2, h3, h4, h5, h6⟩ | ⟨bh, bp, bm, bc, h, A1, n1, c1, Ap, cp, p, m, h1, h2, h3, h4⟩
  · exact .inl h
  · exact .inr (.inl ⟨Bx, ad, cap, x, h1, h2, h3, hs _ h4, h5.mono hs, h6⟩)
  · exact .inr (.inr ⟨bh, bp, bm, bc, h, A1, n1, c1, Ap, cp, p, m, h1, h2, h3.mono hs hl, h4⟩)
/-- Its contract as an iterator. -/
theorem PcSeq.fits (h : PcSeq w J f L) (hJ : ∀ k, J k → k < w.heap.size) : ∃ (g : Nat) (lb : Array Value), f = .func (.func g) #[] lb ∧ (∀ args w, (callFunc g args).run Try.prog w = .ok (.enter g args) w) ∧
    SeqFit Fence.wide 4 Try.prog g lb pcV (Same J) (fun ys => ys.length = L.length) (fun _ => True) (PcFit L w.heap.size) w := by
  rcases h with ⟨rfl, rfl⟩ | ⟨Bx, ad, cap, x, rfl, rfl, h3, h4, h5, h6⟩ | ⟨bh, bp, bm, bc, h, A1, n1, c1, Ap, cp, p, m, rfl, rfl, h3, h4, h5, h6, h7, h8, h9⟩
  · exact ⟨_, _, rfl, enters_of Try.func92 (by kernel_rfl) rfl, none_fits w _ _ _ _ rfl⟩
  · exact ⟨_, _, rfl, enters_of Try.func93 (by kernel_rfl) rfl, one_fits w Bx ad cap x J hJ h3 h5 h6⟩
  · refine ⟨_, _, rfl, enters_of Try.func95 (by kernel_rfl) rfl, ?_⟩
    have := pcs_fits w bh bp bm bc h A1 n1 c1 Ap cp p m J h3 h4 h5 h6 h7 h8 h9
    rw [List.length_map]
    exact this
end
def PcsPost (w : World) (r : List By × Nat) (e : Ending) (w' : World) : Prop :=
  ∃ f, e = .returned (.tuple #[f, .int .i64 (r.2 : Int)]) ∧ PcSeq w' (fun k => w.heap.size ≤ k ∧ k < w'.heap.size) f r.1 ∧ Below w.heap.size w w'
theorem PcsPost.none {w w' : World} {r : List By × Nat} {n : Nat} (hr : r = ([], n)) (hb : Below w.heap.size w w') : PcsPost w r (.returned (.tuple #[.func (.func 92) #[] #[], .int .i64 (n : Int)])) w' := by
  subst hr
  exact ⟨_, rfl, .inl ⟨rfl, rfl⟩, hb⟩
theorem st_fn {w : World} {g : Nat} {u : Value} (hu : w.cell? ⟨g, 0, none⟩ = some u) (hf : w.frozen? ⟨g, 0, none⟩ = false) (f : Nat) (l : Array Value) : (Instr.storeAt 126 (.pointer (some ⟨g, 0, none⟩)) (.func (.func f) #[] l)).run Try.prog w = .ok () (w.setCell ⟨g, 0, none⟩ (.func (.func f) #[] l)) := by
  simp [go_sem, run_store _ _ _ (Value.func (.func f) #[] l) _ rfl, hu, hf]
/-- The header's variable and the payload's, new, with what stands there. -/
theorem hp_var {B : Nat} {w w1 : World} (hb : Below B w w1) (hB : B ≤ w1.heap.size) (h : Hd) (A : Option Addr) (n c : Nat) (Ap : Option Addr) (q cp : Nat) : ∃ w2 w3, (Instr.storeAt 28 (.pointer (some ⟨w1.heap.size, 0, none⟩)) (hdV h (.slice A n c))).run Try.prog ((w1.alloc (.cells #[.int .u8 0, .int .u16 0, .bool false, .bool false, .bool false, .int .i64 0, .int .u8 0, .int .u8 0, .int .u32 0, .int .u32 0, .slice none 0 0] 28)).alloc (.cells #[.slice none 0 0] 22)) = .ok () w2 ∧
    (Instr.storeAt 22 (.pointer (some ⟨w1.heap.size + 1, 0, none⟩)) (.slice Ap q cp)).run Try.prog w2 = .ok () w3 ∧ Below B w w3 ∧ Below w1.heap.size w1 w3 ∧ Blk w3 w1.heap.size 28 (hdC h (.slice A n c)) ∧ Blk w3 (w1.heap.size + 1) 22 #[.slice Ap q cp] := by
  obtain ⟨w0, h0⟩ : ∃ w0, w0 = w1.alloc (.cells #[.int .u8 0, .int .u16 0, .bool false, .bool false, .bool false, .int .i64 0, .int .u8 0, .int .u8 0, .int .u32 0, .int .u32 0, .slice none 0 0] 28) := ⟨_, rfl⟩
  have hz : w0.heap.size = w1.heap.size + 1 := by rw [h0]; simp
  have k0 : Blk w0 w1.heap.size 28 #[.int .u8 0, .int .u16 0, .bool false, .bool false, .bool false, .int .i64 0, .int .u8 0, .int .u8 0, .int .u32 0, .int .u32 0, .slice none 0 0] := by rw [h0]; exact Blk.new _ _ _
  have b0 : Below w1.heap.size w1 w0 := by rw [h0]; exact (Below.refl _ _).alloc (Nat.le_refl _) _
  rw [← h0, ← hz]
  clear h0
  have ka := k0.alloc (.cells #[.slice none 0 0] 22)
  have kb := Blk.new w0 22 #[.slice none 0 0]
  have hst := hd_store (vs := hdC h (.slice A n c)) ka rfl rfl (by simp [hdC, Value.oneCell'])
  obtain ⟨w2, h2⟩ : ∃ w2, w2 = (w0.alloc (.cells #[.slice none 0 0] 22)).setCells w1.heap.size 0 (hdC h (.slice A n c)).toList := ⟨_, rfl⟩
  have kc : Blk w2 w1.heap.size 28 (hdC h (.slice A n c)) := by rw [h2]; exact blk_setCells (vs := hdC h (.slice A n c)) ka rfl
  have kd : Blk w2 w0.heap.size 22 #[.slice none 0 0] := by rw [h2]; exact blk_far_setCells (by omega) _ 0 _ kb
  have b2 : Below w1.heap.size w1 w2 := by rw [h2]; exact below_setCells (Nat.le_refl _) _ 0 _ (b0.alloc (by omega) _)
  rw [← h2] at hst
  have hs2 := st_8s (kd.cell 0) (kd.frozen 0) Ap q cp
  refine ⟨_, _, hst, hs2, ?_, ?_, ?_, ?_⟩
  · exact (hb.trans (b2.mono hB)).setCell (p := ⟨w0.heap.size, 0, none⟩) (by show B ≤ w0.heap.size; omega) _
  · exact b2.setCell (p := ⟨w0.heap.size, 0, none⟩) (by show w1.heap.size ≤ w0.heap.size; omega) _
  · exact kc.far (p := ⟨w0.heap.size, 0, none⟩) (by show w1.heap.size ≠ w0.heap.size; omega) _
  · exact kd.set_ 0 _
theorem ld_bool {w : World} {a : Addr} {b : Bool} (hu : w.cell? a = some (.bool b)) : (Instr.loadAt 4 (.pointer (some a))).run Try.prog w = .ok (.bool b) w := by
  simp [go_sem, hu]
theorem cut_eq {x : By} {m : Int} {fb : Bool} {fe : Nat} {g : Hd} {p : By} {f : Nat} (hF : (fb, fe) = fitsF x m) (hP : (g, p, f) = prsF x) : cutF x m =
    if fe ≠ 0 then ([], fe) else if fb = true then ([x.take (20 + g.opts.length + p.length)], 0) else if g.df = true then ([], 7)
    else if ∃ q ∈ pcsF g p.length m.toNat p.length 0, 8191 < q.2.1.off then ([], 3) else ((pcsF g p.length m.toNat p.length 0).map (pbF p), 0) := by
  unfold cutF
  rw [← hF, ← hP]
theorem fits_ok {x : By} {m : Int} {fb : Bool} (hF : (fb, 0) = fitsF x m) : 68 ≤ m ∧ m ≤ 65535 ∧ (prsF x).2.2 = 0 ∧ fb = decide (((20 + (prsF x).1.opts.length + (prsF x).2.1.length : Nat) : Int) ≤ m) := by
  unfold fitsF at hF
  split at hF
  · cases hF
  split at hF
  · cases hF
  · injection hF with h1 h2
    exact ⟨by omega, by omega, by omega, h1⟩
theorem prs_whole {x : By} (h : (prsF x).2.2 = 0) : 20 + (prsF x).1.opts.length + (prsF x).2.1.length ≤ x.length := by
  obtain ⟨_, h0⟩ := prs_may h
  obtain ⟨h1, h2, h3, h4, h5⟩ := wrong0 h0
  have e : prsF x = (hdF x, partF x (sizeF x) (lenF x), 0) := by unfold prsF; rw [if_pos h0]
  rw [e]
  have hl : (partF x 20 (sizeF x)).length = sizeF x - 20 := part_len h3
  have hl2 : (partF x (sizeF x) (lenF x)).length = lenF x - sizeF x := part_len h5
  simp only [hdF, hl, hl2]
  omega
attribute [-go_sem] Instr.storeAt Instr.loadAt in
set_option maxRecDepth 100000 in
set_option maxHeartbeats 8000000 in
theorem pieces_any (A : Option Addr) (n c : Nat) (x : By) (m : Int) (I : Nat → Prop) (w : World) (h : Reads w I 1 A n (bytesV x)) (hn : x.length = n) (hc : n ≤ c) (hsm : n ≤ 1000000) :
    Calls Try.prog 76 #[.slice A n c, .int .i64 m] w (PcsPost w (cutF x m)) := by
  obtain ⟨W0, hW0⟩ : ∃ W0, W0 = w.alloc (.cells #[.int .i64 m] 3) := ⟨_, rfl⟩
  have hb0 : Below w.heap.size w W0 := by rw [hW0]; exact (Below.refl _ _).alloc (Nat.le_refl _) _
  have hm0 : Blk W0 w.heap.size 3 #[.int .i64 m] := by rw [hW0]; exact Blk.new _ _ _
  have hr0 := h.lt.keep (Same.ofBelow hb0 fun k hk => hk.2)
  have HFI := Lib.hid (ffits_any A n c x m _ W0 hr0 hn hc hsm)
  have lm0 := ld_int (hm0.cell 0)
  have HR0 := Lib.hid hr0
  have HW0 := Lib.hid hW0
  have HB0 := Lib.hid hb0
  have HM0 := Lib.hid hm0
  have HZ0 := Lib.hid (show W0.heap.size = w.heap.size + 1 by rw [hW0]; simp)
  have HCUT : Hid (cutF x m = cutF x m) := Lib.hid rfl
  obtain ⟨R, hR⟩ : ∃ R, R = cutF x m := ⟨_, rfl⟩
  rw [← hR]
  have HR := Lib.hid hR
  obtain ⟨F, hF⟩ : ∃ F, F = fitsF x m := ⟨_, rfl⟩
  have HF := Lib.hid hF
  rw [← hF] at HFI
  obtain ⟨fb, fe⟩ := F
  have HN := Lib.hid hn
  clear h hW0 hb0 hm0 hr0 hR hF HCUT hn
  go_enter Try.func76, Try.ntmps76
  go_upto_region 1 with (fail)
  rw [← HW0.out]
  go_wp2_with (go_at_call 44; refine HFI.out.mono ?_; rintro e w1 ⟨rfl, hb1⟩)
  have hbb1 := HB0.out.trans (hb1.mono HB0.out.size)
  have hr1 := HR0.out.keep (Same.ofBelow hb1 fun k hk => by have := HZ0.out; have := hk.2; omega)
  have HPA := Lib.hid (parse_any A n c x _ w1 hr1 HN.out hc hsm)
  have HB1 := Lib.hid hb1
  have HBB1 := Lib.hid hbb1
  have HR1 := Lib.hid hr1
  clear hb1 hbb1 hr1
  go_wp2_with (go_at_call 16; refine HPA.out.mono ?_; rintro e w2 ⟨vo, vp, rfl, ho, hp, hdj, hb2⟩)
  have hok : (prsF x).1.ok := prs_ok x
  have hplen := prs_len x
  have hpw : (prsF x).2.2 = 0 → mayH (prsF x).1 = true ∧ 20 + (prsF x).1.opts.length + (prsF x).2.1.length ≤ x.length := fun h => ⟨(prs_may h).1, prs_whole h⟩
  have hfo : fe = 0 → 68 ≤ m ∧ m ≤ 65535 ∧ (prsF x).2.2 = 0 ∧ fb = decide (((20 + (prsF x).1.opts.length + (prsF x).2.1.length : Nat) : Int) ≤ m) := fun h => by
    have := HF.out
    rw [h] at this
    exact fits_ok this
  obtain ⟨P, hP⟩ : ∃ P, P = prsF x := ⟨_, rfl⟩
  rw [← hP] at ho hp hok hpw hfo hplen ⊢
  obtain ⟨g, p, f⟩ := P
  simp only at ho hp hok hpw hfo hplen ⊢
  have HCU := Lib.hid (HR.out.trans (cut_eq HF.out hP))
  obtain ⟨Ao, co, rfl, _⟩ := ho.form
  obtain ⟨Ap, cp, rfl, _⟩ := hp.form
  have hb02 := HBB1.out.trans (hb2.mono HBB1.out.size)
  obtain ⟨w3, w4, hs3, hs4, hb4, hb24, hkh, hkp⟩ := hp_var hb02 hb02.size g Ao g.opts.length co Ap p.length cp
  have so4 := ho.sl.keep (Same.ofBelow hb24 fun k hk => hk.2)
  have sp4 := hp.sl.keep (Same.ofBelow hb24 fun k hk => hk.2)
  have hm4 : Blk w4 w.heap.size 3 #[.int .i64 m] := (HM0.out.below HB1.out HM0.out.lt).below (hb2.trans (hb24.mono hb2.size)) (Nat.lt_of_lt_of_le HM0.out.lt HB1.out.size)
  have hr4 := HR1.out.keep (Same.ofBelow (hb2.trans (hb24.mono hb2.size)) fun k hk => by have := HBB1.out.size; have := hk.2; omega)
  have HS := Lib.hid (show w.heap.size < w1.heap.size ∧ w1.heap.size ≤ w2.heap.size from ⟨Nat.lt_of_lt_of_le HM0.out.lt HB1.out.size, hb2.size⟩)
  have HB4 := Lib.hid hb4
  have HKH := Lib.hid hkh
  have HKP := Lib.hid hkp
  have HSO := Lib.hid so4
  have HSP := Lib.hid sp4
  have HM4 := Lib.hid hm4
  have HR4 := Lib.hid hr4
  have HPW := Lib.hid hpw
  have HOK := Lib.hid hok
  have HFO := Lib.hid hfo
  have hxn := HN.out
  have hg1 : g.opts.length ≤ 1000000 := by omega
  have hp1 : p.length ≤ 1000000 := by omega
  clear ho hp hdj hb2 hb02 hb4 hb24 hkh hkp so4 sp4 hm4 hr4 hpw hfo hok hplen hP HF HR HPA HFI HR1 HBB1 HB1 HR0 HM0 HB0 HW0
  by_cases hfe : fe = 0
  · subst hfe
    obtain ⟨h68, hm2, hf0, hfb⟩ := HFO.out rfl
    obtain ⟨hmy, hwh⟩ := HPW.out hf0
    obtain ⟨_, h40, _⟩ := may_opts hmy
    have HMY := Lib.hid hmy
    have HWH := Lib.hid hwh
    have HFB := Lib.hid hfb
    obtain ⟨W, hW⟩ : ∃ W, W = 20 + g.opts.length + p.length := ⟨_, rfl⟩
    have hW1 : W ≤ n := by rw [hW]; have := HN.out; omega
    have HW := Lib.hid hW
    clear hmy hwh hfb
    cases fb with
    | true =>
      have hR := HCU.out
      rw [if_neg (by simp), if_pos rfl, ← hW] at hR
      have HR := Lib.hid hR
      have hss : sizeH g = 20 + g.opts.length := by unfold sizeH; rw [if_pos HMY.out]
      clear hR hW
      go_upto_region 6 with (fail)
      have hcs := fun (d : Nat) (os : Array Obj) => Calls.regrown_of (size_any g (.slice Ao g.opts.length co) _ (grow (redrawn w4 d) os) (HSO.out.keep (Same.ofBelow (below_regrown w4 d os) fun k hk => Nat.lt_of_lt_of_le hk.2 (by have := HKH.out.lt; omega))) hg1)
      rw [hss] at hcs
      have ldh := fun (d : Nat) (os : Array Obj) => hd_load (HKH.out.below (below_regrown w4 d os) HKH.out.lt) rfl
      have k1 := cell_regrown (HKP.out.cell 0)
      have l1 := fun d os => ld8s (k1 d os)
      clear k1 hs3 hs4
      refine wp_region_quiet_below (by kernel_rfl) (by kernel_rfl) ?_
      repeat (go_big_quiet_step (exact hcs _ _))
      refine wpQuiet_nil ?_
      intro _ hw'
      obtain ⟨⟨dq, osq⟩, hw''⟩ := hw'
      subst hw''
      clear hcs ldh l1
      have hbq := below_regrown w4 dq osq
      generalize grow (redrawn w4 dq) osq = wq at hbq
      have hwi : (20 + (g.opts.length : Int) + (p.length : Int)) = (W : Int) := by rw [HW.out]; simp
      rw [hwi]
      have hrq := (HR4.out.keep (Same.ofBelow hbq fun k hk => Nat.lt_of_lt_of_le hk.2 HB4.out.size))
      rw [← HN.out] at hrq
      obtain ⟨A2, c2, e2, hc2, hrw⟩ := cut_hi (k := W) (cap := c) hrq (by rw [HN.out]; exact hW1) (by omega)
      have hl2 : (x.take W).length = W := by rw [List.length_take, HN.out]; omega
      rw [hl2] at e2 hc2 hrw
      injection e2 with e2 _ e3
      subst e2 e3
      have hsl := fun wx => sl_hi (w := wx) (A := A) (n := n) (cap := c) W (by omega)
      obtain ⟨i0, hi, hz0, hz1, hz2⟩ := info_parts info_u8
      have hmxl : 0 + W ≤ maxLen := by unfold maxLen; omega
      go_wp2_with
        (at_builtin
         refine wpList_append_any _ rfl (.const (.slice none 0 0)) (.tmp 42) _ rfl w4.heap.size 5 i0 _ 1 1 Try.underlying22 hi hz0 hz1 hz2 rfl Nat.one_pos (.slice none 0 0) 0 [] rfl (World.ownsRow_nil _ _ _ _) _ A W c (bytesV (x.take W)) rfl hrw (bytesV_one _) hmxl (by omega) hbq.size ?_
         intro v2 w6 hown hg6 _
         rw [Nat.zero_add, List.nil_append] at hown
         obtain ⟨g6, c6, rfl, _⟩ := own_form1 hown (by omega)
         have hbq6 : Below wq.heap.size wq w6 := ⟨hg6.os, hg6.tape, hg6.output, hg6.size, fun k hk => hg6.block k hk (by simp [Value.ownBlock])⟩
         have hk7 := Blk.new w6 22 #[.slice none 0 0]
         have st7 := st_8s (hk7.cell 0) (hk7.frozen 0) (some ⟨g6, 0, none⟩) W c6
         obtain ⟨w8, h8⟩ : ∃ w8, w8 = (w6.alloc (.cells #[.slice none 0 0] 22)).setCell ⟨w6.heap.size, 0, none⟩ (.slice (some ⟨g6, 0, none⟩) W c6) := ⟨_, rfl⟩
         rw [← h8] at st7
         have hk8 : Blk w8 w6.heap.size 22 #[.slice (some ⟨g6, 0, none⟩) W c6] := by rw [h8]; exact hk7.set_ 0 _
         have hb8 : Below w6.heap.size w6 w8 := by rw [h8]; exact ((Below.refl _ _).alloc (Nat.le_refl _) _).setCell (p := ⟨w6.heap.size, 0, none⟩) (Nat.le_refl _) _
         have hrd8 : Reads w8 (fun k => w4.heap.size ≤ k ∧ k < w6.heap.size) 1 (some ⟨g6, 0, none⟩) W (bytesV (x.take W)) := (Reads.of_own hown fun k hk => own_lt hown hk).keep (Same.ofBelow hb8 fun k hk => hk.2)
         have hz6 : w4.heap.size ≤ w6.heap.size := Nat.le_trans hbq.size hbq6.size
         have HEND := Lib.hid (show PcsPost w ([x.take W], 0) (.returned (.tuple #[.func (.func 93) #[] #[.pointer (some ⟨w6.heap.size, 0, none⟩)], .int .i64 ((0 : Nat) : Int)])) w8 from by
           refine ⟨_, rfl, .inr (.inl ⟨w6.heap.size, ⟨g6, 0, none⟩, c6, x.take W, rfl, rfl, ?_, ?_, ?_, ?_⟩), ?_⟩
           · rw [hl2]; exact hk8
           · exact ⟨by have := HB4.out.size; omega, hk8.lt⟩
           · rw [hl2]
             exact hrd8.mono fun k hk => ⟨by have := HB4.out.size; omega, by have := hb8.size; omega⟩
           · rw [hl2]; omega
           · exact HB4.out.trans ((hbq.trans ((hbq6.trans (hb8.mono hbq6.size)).mono hbq.size)).mono HB4.out.size))
         clear hrq hrw hg6 hbq6 hk7 hk8 hb8 hrd8 hz6 hbq hown h8)
      go_ret2
      rw [HR.out]
      exact HEND.out
    | false =>
      have hR := HCU.out
      rw [if_neg (by simp), if_neg (by simp)] at hR
      obtain ⟨d, hd⟩ : ∃ d, d = g.df := ⟨_, rfl⟩
      rw [← hd] at hR
      have ldf := ld_bool (show w4.cell? ⟨w2.heap.size, 3, none⟩ = some (.bool d) by rw [hd]; exact HKH.out.cell 3)
      have hss : sizeH g = 20 + g.opts.length := by unfold sizeH; rw [if_pos HMY.out]
      have HR := Lib.hid hR
      clear hR hW hd
      cases d with
      | true =>
        have hR := HR.out
        rw [if_pos rfl] at hR
        have HR2 := Lib.hid hR
        clear hR
        go_wp2_with fail
        go_ret2
        exact PcsPost.none HR2.out HB4.out
      | false =>
        have hR := HR.out
        rw [if_neg (by simp)] at hR
        obtain ⟨L, hL⟩ : ∃ L, L = p.length := ⟨_, rfl⟩
        obtain ⟨m', hm'⟩ : ∃ m' : Nat, m' = m.toNat := ⟨_, rfl⟩
        have h68' : 68 ≤ m' := by omega
        have hmm : (m' : Int) = m := by omega
        rw [← hL, ← hm'] at hR
        have HR2 := Lib.hid hR
        have HL := Lib.hid hL
        have HM := Lib.hid hm'
        have hk9 := Blk.new w4 126 #[.nilFunc]
        have st9 := st_fn (hk9.cell 0) (hk9.frozen 0) 94 #[.pointer (some ⟨w2.heap.size, 0, none⟩), .pointer (some ⟨w2.heap.size + 1, 0, none⟩), .pointer (some ⟨w.heap.size, 0, none⟩)]
        obtain ⟨w9, h9⟩ : ∃ w9, w9 = (w4.alloc (.cells #[.nilFunc] 126)).setCell ⟨w4.heap.size, 0, none⟩ (.func (.func 94) #[] #[.pointer (some ⟨w2.heap.size, 0, none⟩), .pointer (some ⟨w2.heap.size + 1, 0, none⟩), .pointer (some ⟨w.heap.size, 0, none⟩)]) := ⟨_, rfl⟩
        rw [← h9] at st9
        have hb9 : Below w4.heap.size w4 w9 := by rw [h9]; exact ((Below.refl _ _).alloc (Nat.le_refl _) _).setCell (p := ⟨w4.heap.size, 0, none⟩) (Nat.le_refl _) _
        have hkc : Blk w9 w4.heap.size 126 #[.func (.func 94) #[] #[.pointer (some ⟨w2.heap.size, 0, none⟩), .pointer (some ⟨w2.heap.size + 1, 0, none⟩), .pointer (some ⟨w.heap.size, 0, none⟩)]] := by rw [h9]; exact hk9.set_ 0 _
        have hp3 : P3 w9 (fun k => w.heap.size ≤ k ∧ k < w9.heap.size) w2.heap.size (w2.heap.size + 1) w.heap.size w4.heap.size g Ao g.opts.length co Ap cp p m := by
          have hz := hb9.size
          have h1 := HS.out
          have h2 := HKP.out.lt
          have h3 := HKH.out.lt
          have h4 := HM4.out.lt
          have h5 := hkc.lt
          exact ⟨fun k hk => hk.2, HKH.out.below hb9 h3, ⟨by omega, by omega⟩, HKP.out.below hb9 h2, ⟨by omega, by omega⟩, HM4.out.below hb9 h4, ⟨Nat.le_refl _, by omega⟩, hkc, ⟨by omega, h5⟩, (HSO.out.keep (Same.ofBelow hb9 fun k hk => by omega)).mono fun k hk => ⟨by omega, by omega⟩, (HSP.out.keep (Same.ofBelow hb9 fun k hk => by omega)).mono fun k hk => ⟨by omega, by omega⟩⟩
        have hb09 := HB4.out.trans (hb9.mono HB4.out.size)
        have HP3 := Lib.hid hp3
        have HB9 := Lib.hid hb09
        clear hR hL hm' hk9 h9 hb9 hkc hp3 hb09 HR
        go_upto_region 12 with (fail)
        clear hss ldf st9 hs3 hs4
        go_wp2_with fail
        go_loopw [14] (fun i wr => ∃ (a k : Nat), i = .int .i64 (a : Int) ∧ a ≤ L ∧ Below w9.heap.size w9 wr ∧ pcsF g L m' L a = (pcsF g L m' L 0).drop k ∧ ∀ q ∈ (pcsF g L m' L 0).take k, q.2.1.off ≤ 8191) (fun i _ => L - (intOf i).toNat)
        case atStart => exact ⟨0, 0, rfl, Nat.zero_le _, Below.refl _ _, rfl, fun q hq => by simp at hq⟩
        case round =>
          obtain ⟨a, k, rfl, hal, hbr, hdrop, hok⟩ := hrel
          have sr := HP3.out.keep (Same.ofBelow hbr fun k hk => hk.2)
          have hpl := ld8s (show wr.cell? ⟨w2.heap.size + 1, 0, none⟩ = some (.slice Ap L cp) by rw [HL.out]; exact sr.kp.cell 0)
          have hpl2 := ld_fn (sr.kc.cell 0)
          have hi0 : (0 : Int) ≤ a := by omega
          have HBR := Lib.hid hbr
          have HDR := Lib.hid hdrop
          have HOKS := Lib.hid hok
          by_cases hlt : a < L
          · have hi1 : (a : Int) < L := by omega
            obtain ⟨hpos, hle, _, hsz⟩ := pc_pos HMY.out h68' hlt
            have hcons : pcsF g L m' L a = (a, pcF g L m' a) :: pcsF g L m' L (a + (pcF g L m' a).2) := by
              obtain ⟨L', hL'⟩ : ∃ L', L = L' + 1 := ⟨L - 1, by omega⟩
              have e := pcs_cons g L m' L' a hlt
              rw [← hL'] at e
              rw [e, pcs_fuel HMY.out h68' L' L (a + (pcF g L m' a).2) (by omega) (by omega)]
            have hget : (pcsF g L m' L 0)[k]? = some (a, pcF g L m' a) := by
              have := congrArg (fun l => l[0]?) (hdrop.symm.trans hcons)
              simpa using this
            have hPC := piece_any g Ao g.opts.length co w2.heap.size (w2.heap.size + 1) w.heap.size Ap L cp m a wr sr.kh (by rw [HL.out]; exact sr.kp) sr.km (sr.sv.mono sr.lt) HMY.out h68 hm2 hlt (by rw [HL.out]; exact hp1)
            have hge := pc_off g L m' a
            unfold PgPost at hPC
            rw [← HM.out] at hPC
            obtain ⟨G, hG⟩ : ∃ G, G = pcF g L m' a := ⟨_, rfl⟩
            rw [← hG] at hPC hpos hle hcons hget hge hsz
            obtain ⟨q, n'⟩ := G
            simp only at hPC hpos hle hcons hget hge hsz
            have HPC := Lib.hid hPC
            have HCN := Lib.hid hcons
            have HGT := Lib.hid hget
            have hof : 0 ≤ q.off ∧ q.off < 1000000000 := by
              have := (may_opts HMY.out).2.2.2
              have := HL.out
              omega
            obtain ⟨ho1, ho2⟩ := hof
            have hLm : L ≤ 1000000 := by rw [HL.out]; exact hp1
            clear hPC hcons hget hG hdrop hok sr hge hbr
            by_cases h8 : 8191 < q.off
            · have hR := HR2.out
              rw [if_pos ⟨_, List.mem_of_getElem? HGT.out, h8⟩] at hR
              have HR3 := Lib.hid hR
              clear hR
              go_wp2_with (refine HPC.out.mono ?_; rintro e w5 ⟨v5, rfl, ⟨A5, c5, rfl, hc5, hr5⟩, hb5⟩; obtain ⟨w6, hst, hb6, hb56, hk6⟩ := hd_var hb5 hb5.size q A5 q.opts.length c5; have lo6 := ld_int (hk6.cell 5); have HB6 := Lib.hid hb6; clear hb6 hb56 hk6 hr5 hc5 hb5)
              go_ret2
              exact PcsPost.none HR3.out (HB9.out.trans ((HBR.out.trans (HB6.out.mono HBR.out.size)).mono HB9.out.size))
            · have H8 := Lib.hid h8
              go_wp2_with (refine HPC.out.mono ?_; rintro e w5 ⟨v5, rfl, ⟨A5, c5, rfl, hc5, hr5⟩, hb5⟩; obtain ⟨w6, hst, hb6, hb56, hk6⟩ := hd_var hb5 hb5.size q A5 q.opts.length c5; have lo6 := ld_int (hk6.cell 5); have HB6 := Lib.hid hb6; clear hb6 hb56 hk6 hr5 hc5 hb5)
              go_roundw
              case rel =>
                refine ⟨a + n', k + 1, by simp, by omega, HBR.out.trans (HB6.out.mono HBR.out.size), ?_, fun y hy => ?_⟩
                · have e := HDR.out.symm.trans HCN.out
                  rw [← List.drop_drop, e]
                  rfl
                · rw [List.take_add_one, HGT.out] at hy
                  rcases List.mem_append.1 hy with hy | hy
                  · exact HOKS.out y hy
                  · obtain rfl : y = (a, q, n') := by simpa using hy
                    have := H8.out
                    simp only
                    omega
              case measure => simp [intOf]; omega
          · obtain rfl : a = L := by omega
            have hall : ∀ q ∈ pcsF g a m' a 0, q.2.1.off ≤ 8191 := fun q hq => by
              have e := HDR.out
              rw [pcs_end _ _ _ _ _ (Nat.le_refl _)] at e
              have e2 := List.take_append_drop k (pcsF g a m' a 0)
              rw [← e, List.append_nil] at e2
              rw [← e2] at hq
              exact HOKS.out q hq
            have hR := HR2.out
            rw [if_neg (fun ⟨q, h1, h2⟩ => by have := hall q h1; omega)] at hR
            have HR3 := Lib.hid hR
            have HALL := Lib.hid hall
            have HSR := Lib.hid sr
            clear hR hdrop hok sr hbr hall
            go_wp2_with fail
            go_ret2
            rw [HR3.out]
            refine ⟨_, rfl, .inr (.inr ⟨w2.heap.size, w2.heap.size + 1, w.heap.size, w4.heap.size, g, Ao, g.opts.length, co, Ap, cp, p, m, rfl, ?_, ?_, HOK.out, HMY.out, h68, hm2, hp1, ?_⟩), ?_⟩
            · simp only; rw [← HL.out, ← HM.out]
            · exact HSR.out.mono (fun k hk => ⟨hk.1, Nat.lt_of_lt_of_le hk.2 HBR.out.size⟩) fun k hk => hk.2
            · rw [← HL.out, ← HM.out]; exact HALL.out
            · exact HB9.out.trans (HBR.out.mono HB9.out.size)
  · have hR := HCU.out
    rw [if_pos hfe] at hR
    have HR := Lib.hid hR
    have HFE := Lib.hid hfe
    clear hR hfe
    have hf1 : ((fe : Int) != 0) = true := by rw [bne_iff_ne]; have := HFE.out; omega
    rw [hs3]
    go_wp2_with fail
    go_ret2
    exact PcsPost.none HR.out HB4.out
end Go.Proofs.Ytfddkehnhkfjeaa
