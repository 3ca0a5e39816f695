/- Frag: the document's Cut. -/
import Derived.Test.YtihfihehiifdkaaFqR
import Derived.Test.YtihfihehiifdkaaFqL
import Derived.Test.YtihfihehiifdkaaRgA
import Derived.Test.YtihfihehiifdkaaIpR
import Derived.Test.YtihfihehiifdkaaIrC
namespace Go.Proofs.Ytihfihehiifdkaa
open Go.RowKit Go.Sort Go.BigFrame
attribute [local go_sem] Oper.semAt_some
/-- What the document's Cut answers: rows that may lie in the packet. -/
def RcPost (w : World) (I : Nat → Prop) (r : List By × Nat) (e : Ending) (w' : World) : Prop :=
  ∃ A c us, e = .returned (.tuple #[.slice A r.1.length c, .int .i64 (r.2 : Int)]) ∧ Lst8 w' (fun k => (I k ∧ k < w.heap.size) ∨ (w.heap.size ≤ k ∧ k < w'.heap.size)) A r.1.length us r.1 ∧ Below w.heap.size w w'
theorem RcPost.none {w w' : World} {I : Nat → Prop} {r : List By × Nat} {n : Nat} (hr : r = ([], n)) (hb : Below w.heap.size w w') : RcPost w I r (.returned (.tuple #[.slice Option.none 0 0, .int .i64 (n : Int)])) w' := by
  subst hr
  exact ⟨Option.none, 0, [], rfl, ⟨⟨rfl, fun h => absurd h (Nat.lt_irrefl _)⟩, rfl, fun k x h => by simp at h⟩, hb⟩
theorem wp_join {X R : Code} {Q : Exit → Act → World → Prop} {u : Array Value} {ds : List Deferred} {w : World} (C : (Nat → Value) → World → Prop) (ns : List Nat)
    (h1 : ∀ K : Act → World → Prop, (∀ s w', C s w' → K { tmps := ns.foldl (fun t n => t.setIfInBounds n (s n)) u, defers := ds } w') → X.wp Try.prog (Exit.then K Q) ⟨u, ds⟩ w)
    (h2 : ∀ s w', C s w' → R.wp Try.prog Q { tmps := ns.foldl (fun t n => t.setIfInBounds n (s n)) u, defers := ds } w') : (Code.seq X R).wp Try.prog Q ⟨u, ds⟩ w := by
  refine wp_seq (wp_mono (h1 (fun a' w' => ∃ s : Nat → Value, a' = { tmps := ns.foldl (fun t n => t.setIfInBounds n (s n)) u, defers := ds } ∧ C s w') fun s w' hc => ⟨s, rfl, hc⟩) fun e a' w' h => ?_)
  cases e with
  | normal =>
    obtain ⟨s, rfl, hc⟩ := h
    exact h2 s w' hc
  | _ => exact h
theorem join_ap {u t : Array Value} {ds : List Deferred} {ns : List Nat} {C : (Nat → Value) → World → Prop} {K : Act → World → Prop} {w' : World} (HJ : ∀ s w', C s w' → K { tmps := ns.foldl (fun t n => t.setIfInBounds n (s n)) u, defers := ds } w')
    (h : ns.foldl (fun t' n => t'.setIfInBounds n (t.getD n undef)) u = t) (hC : C (fun n => t.getD n undef) w') : K { tmps := t, defers := ds } w' := by
  have := HJ _ w' hC
  rwa [h] at this
/-- Within a round: the piece's header. -/
structure RcS (wr wx : World) (bs : Nat) (q : Hd) (v : Value) : Prop where
  below : Below wr.heap.size wr wx
  var : Blk wx bs 32 (hdC q v)
  le : wr.heap.size ≤ bs
  opts : Sl8 wx (fun k => k ≠ bs ∧ k < wx.heap.size) v q.opts
section
variable {wr wx wy : World} {bs : Nat} {q : Hd} {v : Value}
theorem RcS.keep (h : RcS wr wx bs q v) (hb : Below wx.heap.size wx wy) : RcS wr wy bs q v :=
  ⟨h.below.trans (hb.mono h.below.size), h.var.below hb h.var.lt, h.le, (h.opts.keep (Same.ofBelow hb fun _ hk => hk.2)).mono fun _ hk => ⟨hk.1, Nat.lt_of_lt_of_le hk.2 hb.size⟩⟩
theorem RcS.set (h : RcS wr wx bs q v) (i : Nat) (u : Value) {q2 : Hd} (e : (hdC q v).setIfInBounds i u = hdC q2 v) (eo : q2.opts = q.opts) : RcS wr (wx.setCell ⟨bs, i, none⟩ u) bs q2 v := by
  refine ⟨h.below.setCell (p := ⟨bs, i, none⟩) h.le _, ?_, h.le, ?_⟩
  · rw [← e]; exact h.var.set_ i u
  · rw [eo]
    have hs := h.opts.keep ((upd_set wx bs i u).same fun k hk hi => hi.1 hk)
    rwa [show (wx.setCell ⟨bs, i, none⟩ u).heap.size = wx.heap.size by simp [World.setCell]]
theorem RcS.setOpts (h : RcS wr wx bs q v) {o : By} {u : Value} (ho : Sl8 wx (fun k => k ≠ bs ∧ k < wx.heap.size) u o) : RcS wr (wx.setCell ⟨bs, 10, none⟩ u) bs { q with opts := o } u := by
  refine ⟨h.below.setCell (p := ⟨bs, 10, none⟩) h.le _, h.var.set_ 10 u, h.le, ?_⟩
  have hs := ho.keep ((upd_set wx bs 10 u).same fun k hk hi => hi.1 hk)
  rwa [show (wx.setCell ⟨bs, 10, none⟩ u).heap.size = wx.heap.size by simp [World.setCell]]
end
attribute [-go_sem] Instr.storeAt Instr.loadAt in
set_option maxRecDepth 100000 in
set_option maxHeartbeats 16000000 in
theorem rcut_any (A : Option Addr) (n c : Nat) (x : By) (m : Int) (I : Nat → Prop) (w : World) (h : Reads w I 1 A n (bytesV x)) (hn : x.length = n) (hc : n ≤ c) (hsm : n ≤ 1000000) :
    Calls Try.prog 39 #[.slice A n c, .int .i64 m] w (RcPost w I (cutF x m)) := by
  have hr0 := h.lt
  have HFI := Lib.hid (rffits_any A n c x m _ w hr0 hn hc hsm)
  have HR0 := Lib.hid hr0
  obtain ⟨R, hR⟩ : ∃ R, R = cutF x m := ⟨_, rfl⟩
  rw [← hR]
  have HR := Lib.hid hR
  obtain ⟨F, hF⟩ : ∃ F, F = fitsF x m := ⟨_, rfl⟩
  have HF := Lib.hid hF
  rw [← hF] at HFI
  obtain ⟨fb, fe⟩ := F
  have HN := Lib.hid hn
  have hok : (prsF x).1.ok := prs_ok x
  have hplen := prs_len x
  have hpw : (prsF x).2.2 = 0 → mayH (prsF x).1 = true ∧ 20 + (prsF x).1.opts.length + (prsF x).2.1.length ≤ x.length := fun h => ⟨(prs_may h).1, prs_whole h⟩
  have hfo : fe = 0 → 68 ≤ m ∧ m ≤ 65535 ∧ (prsF x).2.2 = 0 ∧ fb = decide (((20 + (prsF x).1.opts.length + (prsF x).2.1.length : Nat) : Int) ≤ m) := fun h => by
    rw [h] at hF
    exact fits_ok hF
  obtain ⟨P, hP⟩ : ∃ P, P = prsF x := ⟨_, rfl⟩
  rw [← hP] at hok hpw hfo hplen
  have HPE := Lib.hid hP
  obtain ⟨g, p, f⟩ := P
  simp only at hok hpw hfo hplen
  have HCU := Lib.hid (hR.trans (cut_eq hF hP))
  have hg1 : g.opts.length ≤ 1000000 := by omega
  have hp1 : p.length ≤ 1000000 := by omega
  have HPW := Lib.hid hpw
  have HOK := Lib.hid hok
  have HFO := Lib.hid hfo
  clear h hr0 hR hF hn hok hpw hfo hplen hP HF HR
  go_enter Try.func39, Try.ntmps39
  by_cases hfe : fe = 0
  · subst hfe
    obtain ⟨h68, hm2, hf0, hfb⟩ := HFO.out rfl
    obtain ⟨hmy, hwh⟩ := HPW.out hf0
    obtain ⟨_, h40, _⟩ := may_opts hmy
    have HMY := Lib.hid hmy
    have HWH := Lib.hid hwh
    have HFB := Lib.hid hfb
    obtain ⟨W, hW⟩ : ∃ W, W = 20 + g.opts.length + p.length := ⟨_, rfl⟩
    have hW1 : W ≤ n := by rw [hW]; have := HN.out; omega
    have HW := Lib.hid hW
    clear hmy hwh hfb hW
    cases fb with
    | true =>
      have hR := HCU.out
      rw [if_neg (by simp), if_pos rfl, ← HW.out] at hR
      have HR := Lib.hid hR
      have hwi : (20 + (g.opts.length : Int) + (p.length : Int)) = (W : Int) := by rw [HW.out]; simp
      have hsl := fun wx => sl_hi (w := wx) (A := A) (n := n) (cap := c) W (by omega)
      rw [← hwi] at hsl
      clear hR
      go_wp2_with (first | (go_at_call 80; refine HFI.out.mono ?_; rintro e w1 ⟨rfl, hb1⟩; have hr1 := HR0.out.keep (Same.ofBelow hb1 fun k hk => hk.2); have HPA := Lib.hid (rparse_any A n c x _ w1 hr1 HN.out hc hsm); rw [← HPE.out] at HPA; have HB1 := Lib.hid hb1; have HR1 := Lib.hid hr1; clear hb1 hr1) | (go_at_call 16; refine HPA.out.mono ?_; rintro e w2 ⟨vo, vp, rfl, ho, hp, hb2⟩; obtain ⟨Ao, co, rfl, hco, hro⟩ := ho; obtain ⟨Ap, cp, rfl, hcp, hrp⟩ := hp; have hb02 := HB1.out.trans (hb2.mono HB1.out.size); obtain ⟨w4, hs4, hb4, hb24, hkh⟩ := hd_var hb02 hb02.size g Ao g.opts.length co; have HB4 := Lib.hid hb4; have HKH := Lib.hid hkh; have HSO := Lib.hid (show g.opts.length ≤ co ∧ Reads w4 (fun k => I k ∧ k < w.heap.size) 1 Ao g.opts.length (bytesV g.opts) from ⟨hco, (hro.mono fun k hk => hk.1).keep (Same.ofBelow hb24 fun k hk => by have := hb02.size; have := hk.2; omega)⟩); have HSP := Lib.hid (show p.length ≤ cp ∧ Reads w4 (fun k => I k ∧ k < w.heap.size) 1 Ap p.length (bytesV p) from ⟨hcp, (hrp.mono fun k hk => hk.1).keep (Same.ofBelow hb24 fun k hk => by have := hb02.size; have := hk.2; omega)⟩); have HR4 := Lib.hid (HR1.out.keep (Same.ofBelow (hb2.trans (hb24.mono hb2.size)) fun k hk => by have := HB1.out.size; have := hk.2; omega)); have hl10 := ld8s (hkh.cell 10); have HZ2 := Lib.hid hb02.size; clear hco hro hcp hrp hb02 hb4 hb24 hkh hb2))
      go_ret2
      obtain ⟨A2, c2, e2, hc2, hrw⟩ := cut_hi (k := W) (cap := c) (show Reads w4 (fun k => I k ∧ k < w.heap.size) 1 A x.length (bytesV x) by rw [HN.out]; exact HR4.out) (by rw [HN.out]; exact hW1) (by omega)
      have hl2 : (x.take W).length = W := by rw [List.length_take, HN.out]; omega
      rw [hl2] at e2 hc2 hrw
      injection e2 with e2 _ e3
      subst e2 e3
      have hba : Below w4.heap.size w4 (w4.alloc (.cells #[.slice A W c] 22)) := (Below.refl _ _).alloc (Nat.le_refl _) _
      have hz4 := HB4.out.size
      have hLst : Lst8 (w4.alloc (.cells #[.slice A W c] 22)) (fun k => (I k ∧ k < w.heap.size) ∨ (w.heap.size ≤ k ∧ k < (w4.alloc (.cells #[.slice A W c] 22)).heap.size)) (some ⟨w4.heap.size, 0, none⟩) 1 [.slice A W c] [x.take W] := by
        refine ⟨(reads_lit w4 22 #[.slice A W c] 1 1 (0, 0) rfl).mono fun k hk => .inr ⟨by omega, by rw [hk]; simp⟩, rfl, fun k y hy => ?_⟩
        cases k with
        | zero =>
          obtain rfl : x.take W = y := by simpa using hy
          exact ⟨A, c, by rw [hl2]; rfl, by rw [hl2]; exact hc2, by rw [hl2]; exact (hrw.keep (Same.ofBelow hba fun k hk => by omega)).mono fun k hk => .inl hk⟩
        | succ k => simp at hy
      rw [HR.out]
      exact ⟨some ⟨w4.heap.size, 0, none⟩, 1, [.slice A W c], rfl, hLst, HB4.out.trans (hba.mono hz4)⟩
    | false =>
      have hR := HCU.out
      rw [if_neg (by simp), if_neg (by simp)] at hR
      obtain ⟨d, hd⟩ : ∃ d, d = g.df := ⟨_, rfl⟩
      rw [← hd] at hR
      have HR := Lib.hid hR
      have HD := Lib.hid hd
      clear hR hd
      cases d with
      | true =>
        have hR := HR.out
        rw [if_pos rfl] at hR
        have HR2 := Lib.hid hR
        clear hR
        go_upto_region 7 with (first | (go_at_call 80; refine HFI.out.mono ?_; rintro e w1 ⟨rfl, hb1⟩; have hr1 := HR0.out.keep (Same.ofBelow hb1 fun k hk => hk.2); have HPA := Lib.hid (rparse_any A n c x _ w1 hr1 HN.out hc hsm); rw [← HPE.out] at HPA; have HB1 := Lib.hid hb1; have HR1 := Lib.hid hr1; clear hb1 hr1) | (go_at_call 16; refine HPA.out.mono ?_; rintro e w2 ⟨vo, vp, rfl, ho, hp, hb2⟩; obtain ⟨Ao, co, rfl, hco, hro⟩ := ho; obtain ⟨Ap, cp, rfl, hcp, hrp⟩ := hp; have hb02 := HB1.out.trans (hb2.mono HB1.out.size); obtain ⟨w4, hs4, hb4, hb24, hkh⟩ := hd_var hb02 hb02.size g Ao g.opts.length co; have HB4 := Lib.hid hb4; have HKH := Lib.hid hkh; have HSO := Lib.hid (show g.opts.length ≤ co ∧ Reads w4 (fun k => I k ∧ k < w.heap.size) 1 Ao g.opts.length (bytesV g.opts) from ⟨hco, (hro.mono fun k hk => hk.1).keep (Same.ofBelow hb24 fun k hk => by have := hb02.size; have := hk.2; omega)⟩); have HSP := Lib.hid (show p.length ≤ cp ∧ Reads w4 (fun k => I k ∧ k < w.heap.size) 1 Ap p.length (bytesV p) from ⟨hcp, (hrp.mono fun k hk => hk.1).keep (Same.ofBelow hb24 fun k hk => by have := hb02.size; have := hk.2; omega)⟩); have HR4 := Lib.hid (HR1.out.keep (Same.ofBelow (hb2.trans (hb24.mono hb2.size)) fun k hk => by have := HB1.out.size; have := hk.2; omega)); have hl10 := ld8s (hkh.cell 10); have HZ2 := Lib.hid hb02.size; clear hco hro hcp hrp hb02 hb4 hb24 hkh hb2))
        have ldf := ld_bool (show w4.cell? ⟨w2.heap.size, 3, none⟩ = some (.bool true) by rw [HD.out]; exact HKH.out.cell 3)
        go_wp2_with fail
        go_ret2
        exact RcPost.none HR2.out HB4.out
      | false =>
        have hR := HR.out
        rw [if_neg (by simp)] at hR
        have HR2 := Lib.hid hR
        clear hR
        go_upto_region 7 with (first | (go_at_call 80; refine HFI.out.mono ?_; rintro e w1 ⟨rfl, hb1⟩; have hr1 := HR0.out.keep (Same.ofBelow hb1 fun k hk => hk.2); have HPA := Lib.hid (rparse_any A n c x _ w1 hr1 HN.out hc hsm); rw [← HPE.out] at HPA; have HB1 := Lib.hid hb1; have HR1 := Lib.hid hr1; clear hb1 hr1) | (go_at_call 16; refine HPA.out.mono ?_; rintro e w2 ⟨vo, vp, rfl, ho, hp, hb2⟩; obtain ⟨Ao, co, rfl, hco, hro⟩ := ho; obtain ⟨Ap, cp, rfl, hcp, hrp⟩ := hp; have hb02 := HB1.out.trans (hb2.mono HB1.out.size); obtain ⟨w4, hs4, hb4, hb24, hkh⟩ := hd_var hb02 hb02.size g Ao g.opts.length co; have HB4 := Lib.hid hb4; have HKH := Lib.hid hkh; have HSO := Lib.hid (show g.opts.length ≤ co ∧ Reads w4 (fun k => I k ∧ k < w.heap.size) 1 Ao g.opts.length (bytesV g.opts) from ⟨hco, (hro.mono fun k hk => hk.1).keep (Same.ofBelow hb24 fun k hk => by have := hb02.size; have := hk.2; omega)⟩); have HSP := Lib.hid (show p.length ≤ cp ∧ Reads w4 (fun k => I k ∧ k < w.heap.size) 1 Ap p.length (bytesV p) from ⟨hcp, (hrp.mono fun k hk => hk.1).keep (Same.ofBelow hb24 fun k hk => by have := hb02.size; have := hk.2; omega)⟩); have HR4 := Lib.hid (HR1.out.keep (Same.ofBelow (hb2.trans (hb24.mono hb2.size)) fun k hk => by have := HB1.out.size; have := hk.2; omega)); have hl10 := ld8s (hkh.cell 10); have HZ2 := Lib.hid hb02.size; clear hco hro hcp hrp hb02 hb4 hb24 hkh hb2))
        have ldf := ld_bool (show w4.cell? ⟨w2.heap.size, 3, none⟩ = some (.bool false) by rw [HD.out]; exact HKH.out.cell 3)
        go_upto_region 10 with (fail)
        obtain ⟨L, hL⟩ : ∃ L, L = p.length := ⟨_, rfl⟩
        obtain ⟨m', hm'⟩ : ∃ m' : Nat, m' = m.toNat := ⟨_, rfl⟩
        have h68' : 68 ≤ m' := by omega
        have hmm : (m' : Int) = m := by omega
        have hR := HR2.out
        rw [← hL, ← hm'] at hR
        have HR3 := Lib.hid hR
        have HL := Lib.hid hL
        have HM := Lib.hid hm'
        have hLm : L ≤ 1000000 := by rw [hL]; exact hp1
        rw [← hL]
        clear ldf hs4 hl10 hR hL hm' HR2 HR HD HCU HPA
        go_wp2_with fail
        go_loopw [11, 12] (fun s11 s12 wr => ∃ (a k : Nat), s12 = .int .i64 (a : Int) ∧ a ≤ L ∧ Below w4.heap.size w4 wr ∧ pcsF g L m' L a = (pcsF g L m' L 0).drop k ∧ (∀ q ∈ (pcsF g L m' L 0).take k, q.2.1.off ≤ 8191) ∧ Rows8 w4.heap.size wr s11 (((pcsF g L m' L 0).take k).map (pbF p))) (fun _ i _ => L - (intOf i).toNat)
        case atStart => exact ⟨0, 0, rfl, Nat.zero_le _, Below.refl _ _, rfl, fun q hq => by simp at hq, Rows8.nil _ _⟩
        case round =>
          obtain ⟨a, k, rfl, hal, hbr, hdrop, hok, hrow⟩ := hrel
          have hi0 : (0 : Int) ≤ a := by omega
          have HBR := Lib.hid hbr
          have HDR := Lib.hid hdrop
          have HOKS := Lib.hid hok
          have HROW := Lib.hid hrow
          by_cases hlt : a < L
          · have hi1 : (a : Int) < L := by omega
            have hkr := HKH.out.below hbr HKH.out.lt
            have ldh := hd_load hkr rfl
            obtain ⟨W5, hst2, hb5, _, hk5⟩ := hd_var (Below.refl wr.heap.size wr) (Nat.le_refl _) g Ao g.opts.length co
            have hst : (Instr.storeAt 32 (.pointer (some ⟨wr.heap.size, 0, none⟩)) (.agg (hdC g (.slice Ao g.opts.length co)))).run Try.prog (wr.alloc (.cells #[.int .u8 0, .int .u16 0, .bool false, .bool false, .bool false, .int .i64 0, .int .u8 0, .int .u8 0, .int .u32 0, .int .u32 0, .slice none 0 0] 32)) = .ok () W5 := hst2
            have hlt4 := HKH.out.lt
            have hop5 : Sl8 W5 (fun k => k ≠ wr.heap.size ∧ k < W5.heap.size) (.slice Ao g.opts.length co) g.opts := ⟨_, _, rfl, HSO.out.1, (HSO.out.2.keep (Same.ofBelow (hbr.trans (hb5.mono hbr.size)) fun k hk => by have := HB4.out.size; omega)).mono fun k hk => ⟨by have := HB4.out.size; have := hbr.size; omega, by have := HB4.out.size; have := hbr.size; have := hb5.size; omega⟩⟩
            have hrc5 : RcS wr W5 wr.heap.size g (.slice Ao g.opts.length co) := ⟨hb5, hk5, Nat.le_refl _, hop5⟩
            obtain ⟨bs, hbs⟩ : ∃ bs, bs = wr.heap.size := ⟨_, rfl⟩
            obtain ⟨_, _, _, ho0, ho1⟩ := may_opts HMY.out
            have e0 : 0 ≤ g.off + (a : Int) / 8 := by omega
            have e1 : g.off + (a : Int) / 8 < 1000000000 := by omega
            have q5 := ld_int ((hkr.below hb5 hkr.lt).cell 5)
            have f5 := st_int (hk5.cell 5) (hk5.frozen 5) (g.off + (a : Int) / 8)
            obtain ⟨W6, hW6⟩ : ∃ W6, W6 = W5.setCell ⟨wr.heap.size, 5, none⟩ (.int .i64 (g.off + (a : Int) / 8)) := ⟨_, rfl⟩
            rw [← hW6] at f5
            have hrc6 : RcS wr W6 wr.heap.size { g with off := g.off + (a : Int) / 8 } (.slice Ao g.opts.length co) := by rw [hW6]; exact hrc5.set 5 _ rfl rfl
            have HKR := Lib.hid hkr
            have HRC6 := Lib.hid hrc6
            have HBS := Lib.hid hbs
            clear hst2 hb5 hk5 hop5 hrc5 hW6 hrc6 hkr hbs hlt4 hbr hdrop hok hrow
            go_upto_region 13 with (fail)
            rename_i K hK
            have HKK := Lib.hid hK
            clear hK
            go_wp2_with fail
            refine HKK.out _ _ ?_
            clear ldh hst q5 f5
            obtain ⟨o, ho⟩ : ∃ o, o = if 0 < a then copF g.opts else g.opts := ⟨_, rfl⟩
            have HO := Lib.hid ho
            clear ho
            refine wp_join (fun _ w' => ∃ A5 c5, RcS wr w' wr.heap.size { g with off := g.off + (a : Int) / 8, opts := o } (.slice A5 o.length c5)) [55, 56, 57, 58, 59, 60] ?_ ?_
            · intro K2 hK2
              have HJ := Lib.hid hK2
              clear hK2
              by_cases hat : 0 < a
              · have ha2 : (0 : Int) < a := by omega
                have l10 := ld8s ((HKR.out.below HRC6.out.below HKR.out.lt).cell 10)
                have hcp := rcopied_any Ao g.opts.length co g.opts _ W6 (HSO.out.2.keep (Same.ofBelow (HBR.out.trans (HRC6.out.below.mono HBR.out.size)) fun k hk => by have := HB4.out.size; omega)) rfl HSO.out.1 hg1
                rw [show copF g.opts = o by rw [HO.out, if_pos hat]] at hcp
                have HCP := Lib.hid hcp
                clear hcp
                go_wp2_with
                  (refine HCP.out.mono ?_
                   rintro e w5 ⟨v5, rfl, hr5, hb5⟩
                   obtain ⟨A5, c5, rfl, _⟩ := hr5.form
                   have hrc5 := HRC6.out.keep hb5
                   have s5 := st_8s (hrc5.var.cell 10) (hrc5.var.frozen 10) A5 o.length c5
                   have HRC5 := Lib.hid (hrc5.setOpts (hr5.sl.mono fun k hk => ⟨by have := HRC6.out.var.lt; omega, hk.2⟩))
                   clear hr5 hb5 hrc5)
                refine join_ap HJ.out (by kernel_rfl) ?_
                exact ⟨_, _, HRC5.out⟩
              · obtain rfl : a = 0 := by omega
                have ho : o = g.opts := by rw [HO.out, if_neg hat]
                have HO2 := Lib.hid ho
                clear ho
                go_wp2_with fail
                refine join_ap HJ.out (by kernel_rfl) ?_
                rw [HO2.out]
                exact ⟨Ao, co, HRC6.out⟩
            · intro s w5 hC
              obtain ⟨A5, c5, hrc⟩ := hC
              simp only [List.foldl_cons, List.foldl_nil, List.setIfInBounds_toArray, List.set_cons_zero, List.set_cons_succ]
              obtain ⟨R, hRm⟩ : ∃ R, R = m' - (20 + o.length) := ⟨_, rfl⟩
              obtain ⟨h40c, _⟩ := cop_le (may_opts HMY.out).2.2.1
              have ho40 : o.length ≤ 40 := by rw [HO.out]; split <;> omega
              have hrm : m - 20 - (o.length : Int) = (R : Int) := by omega
              have lo5 := ld_int (hrc.var.cell 5)
              have l10 := ld8s (hrc.var.cell 10)
              have HRC := Lib.hid hrc
              have HRM := Lib.hid hRm
              obtain ⟨hpos, hle, _, hsz⟩ := pc_pos HMY.out h68' hlt
              have hpre := pc_ref g (m := m') hlt
              simp only at hpre
              rw [← HO.out, ← hRm] at hpre
              have hcons : pcsF g L m' L a = (a, pcF g L m' a) :: pcsF g L m' L (a + (pcF g L m' a).2) := by
                obtain ⟨L', hL'⟩ : ∃ L', L = L' + 1 := ⟨L - 1, by omega⟩
                have e := pcs_cons g L m' L' a hlt
                rw [← hL'] at e
                rw [e, pcs_fuel HMY.out h68' L' L (a + (pcF g L m' a).2) (by omega) (by omega)]
              have hget : (pcsF g L m' L 0)[k]? = some (a, pcF g L m' a) := by
                have := congrArg (fun l => l[0]?) (HDR.out.symm.trans hcons)
                simpa using this
              have hoff : (pcF g L m' a).1.off = g.off + (a : Int) / 8 := by rw [pc_off]; omega
              have hgok := pc_mf g L m' a hlt h68'
              have hmay := fun h => pc_may HMY.out (L := L) (m := m') (at_ := a) h
              obtain ⟨G, hG⟩ : ∃ G, G = pcF g L m' a := ⟨_, rfl⟩
              rw [← hG] at hpos hle hsz hpre hcons hget hoff hgok hmay
              obtain ⟨q, n'⟩ := G
              simp only at hpos hle hsz hcons hget hoff hgok hmay
              have HPRE := Lib.hid hpre
              have HCN := Lib.hid hcons
              have HGT := Lib.hid hget
              have HOF := Lib.hid hoff
              have HQOK := Lib.hid (show q.ok by rw [hgok]; exact HOK.out)
              have HMAY := Lib.hid hmay
              clear hpre hcons hget hoff hgok hmay hG hrc hRm h40c
              by_cases h8 : 8191 < g.off + (a : Int) / 8
              · have hR := HR3.out
                rw [if_pos ⟨_, List.mem_of_getElem? HGT.out, by rw [HOF.out]; exact h8⟩] at hR
                have HR4' := Lib.hid hR
                clear hR
                go_wp2_with fail
                go_ret2
                exact RcPost.none HR4'.out (HB4.out.trans ((HBR.out.trans (HRC.out.below.mono HBR.out.size)).mono HB4.out.size))
              · obtain ⟨n0, hn0⟩ : ∃ n0, n0 = min R (L - a) := ⟨_, rfl⟩
                have hRm : R ≤ 65535 := by have := HRM.out; omega
                have HN0 := Lib.hid hn0
                clear hn0
                go_upto_region 19 with (fail)
                rename_i K2 hK2
                have HKK2 := Lib.hid hK2
                clear hK2 lo5 l10
                go_wp2_with fail
                refine HKK2.out _ _ ?_
                refine wp_join (fun s w' => s 15 = .int .i64 (n0 : Int) ∧ w' = w5) [15, 70, 71, 72, 73, 74, 75, 76, 77, 78, 79, 80, 81, 82] ?_ ?_
                · intro K3 hK3
                  have HJ := Lib.hid hK3
                  clear hK3
                  go_wp2_with fail
                  go_loopw [15] (fun i wx => ∃ j : Nat, i = .int .i64 (j : Int) ∧ j ≤ R ∧ a + j ≤ L ∧ wx = w5) (fun i _ => R - (intOf i).toNat)
                  case atStart => exact ⟨0, rfl, Nat.zero_le _, hal, rfl⟩
                  case round =>
                    obtain ⟨j, rfl, hjR, hjL, rfl⟩ := hrel
                    have hj0 : (0 : Int) ≤ j := by omega
                    by_cases h1 : a + j < L
                    · have hd1 : decide ((a : Int) + (j : Int) < (L : Int)) = true := decide_eq_true (by omega)
                      by_cases h2 : j < R
                      · have hd2 : decide ((j : Int) < (R : Int)) = true := decide_eq_true (by omega)
                        go_wp2_with fail
                        go_roundw
                        case rel => exact ⟨j + 1, by simp, by omega, by omega, trivial⟩
                        case measure => simp [intOf]; omega
                      · have hd2 : decide ((j : Int) < (R : Int)) = false := decide_eq_false (by omega)
                        obtain rfl : j = n0 := by rw [HN0.out]; omega
                        go_wp2_with fail
                        refine join_ap HJ.out (by kernel_rfl) ?_
                        exact ⟨rfl, rfl⟩
                    · have hd1 : decide ((a : Int) + (j : Int) < (L : Int)) = false := decide_eq_false (by omega)
                      obtain rfl : j = n0 := by rw [HN0.out]; omega
                      go_wp2_with fail
                      refine join_ap HJ.out (by kernel_rfl) ?_
                      exact ⟨rfl, rfl⟩
                · rintro s2 w6 ⟨hs15, rfl⟩
                  simp only [List.foldl_cons, List.foldl_nil, List.setIfInBounds_toArray, List.set_cons_zero, List.set_cons_succ]
                  rw [hs15]
                  clear hs15
                  have hpre := HPRE.out
                  rw [← HN0.out] at hpre
                  have HPRE2 := Lib.hid hpre
                  have hn65 : n0 ≤ 65535 := by have := HN0.out; omega
                  clear hpre
                  refine wp_join (fun s w' => s 15 = .int .i64 (n' : Int) ∧ RcS wr w' wr.heap.size q (.slice A5 o.length c5)) [15, 83, 84, 85, 86, 87, 88, 89, 90, 91, 92, 93] ?_ ?_
                  · intro K3 hK3
                    have HJ := Lib.hid hK3
                    clear hK3
                    by_cases hmf : a + n0 < L
                    · have hd1 : decide ((a : Int) + (n0 : Int) < (L : Int)) = true := decide_eq_true (by omega)
                      have hpre := HPRE2.out
                      rw [if_pos hmf] at hpre
                      injection hpre with hq1 hq2
                      have e8 : (n0 : Int) - (n0 : Int) % 8 = (n' : Int) := by omega
                      have st4 := st_true (HRC.out.var.cell 4) (HRC.out.var.frozen 4)
                      have hrc7 : RcS wr (w6.setCell ⟨wr.heap.size, 4, none⟩ (.bool true)) wr.heap.size q (.slice A5 o.length c5) := HRC.out.set 4 _ (by rw [hq1]; simp [hdC]) (by rw [hq1])
                      have HRC7 := Lib.hid hrc7
                      clear hq1 hrc7 hq2
                      go_wp2_with fail
                      refine join_ap HJ.out (by kernel_rfl) ?_
                      exact ⟨rfl, HRC7.out⟩
                    · have hd1 : decide ((a : Int) + (n0 : Int) < (L : Int)) = false := decide_eq_false (by omega)
                      have hpre := HPRE2.out
                      rw [if_neg hmf] at hpre
                      injection hpre with hq1 hq2
                      have hrc7 : RcS wr w6 wr.heap.size q (.slice A5 o.length c5) := by
                        rw [hq1]
                        have e9 : ((a / 8 : Nat) : Int) = (a : Int) / 8 := by omega
                        rw [e9]
                        exact HRC.out
                      have HRC7 := Lib.hid hrc7
                      clear hq1 hrc7
                      subst hq2
                      go_wp2_with fail
                      refine join_ap HJ.out (by kernel_rfl) ?_
                      exact ⟨rfl, HRC7.out⟩
                  · rintro s3 w7 ⟨hs15, hrc7⟩
                    simp only [List.foldl_cons, List.foldl_nil, List.setIfInBounds_toArray, List.set_cons_zero, List.set_cons_succ]
                    rw [hs15]
                    clear hs15
                    obtain ⟨pv, hpv⟩ : ∃ pv, pv = (if cp = a then Ap else Ap.map (·.add a)) := ⟨_, rfl⟩
                    have hLp := HL.out
                    have hcpL := HSP.out.1
                    have hsn := fun wx => sl_lohi (w := wx) (A := Ap) (n := L) (cap := cp) a (a + n') (by omega) (by omega)
                    have hsq := cut_lohi (a := a) (b := a + n') (cap := cp) HSP.out.2 (by omega) (by omega) hcpL
                    rw [← hpv] at hsn hsq
                    rw [show a + n' - a = n' from by omega] at hsn hsq
                    simp only [Int.natCast_add] at hsn
                    have hb7 := hrc7.below
                    have hsq7 := hsq.keep (Same.ofBelow (HBR.out.trans (hb7.mono HBR.out.size)) fun k hk => by have := HB4.out.size; omega)
                    have hfit : fitsH q (partF p a (a + n')) = true := by
                      unfold fitsH
                      rw [HMAY.out (by rw [HOF.out]; omega), part_len2 (by omega)]
                      simp only [Bool.true_and, decide_eq_true_eq]
                      omega
                    have HRB := Lib.hid (fun wx (hb : Below w7.heap.size w7 wx) => rbytes_any q (.slice A5 o.length c5) (.slice pv n' (cp - a)) (partF p a (a + n')) (fun k => k < w7.heap.size) wx ((hrc7.opts.keep (Same.ofBelow hb fun k hk => hk.2)).mono fun k hk => hk.2) ((hsq7.keep (Same.ofBelow hb fun k hk => by have := HB4.out.size; have := HBR.out.size; have := hb7.size; omega)).mono fun k hk => by have := HB4.out.size; have := HBR.out.size; have := hb7.size; omega) HQOK.out hfit)
                    rw [show bytesF q (partF p a (a + n')) = pbF p (a, q, n') from rfl] at HRB
                    obtain ⟨x', hx'⟩ : ∃ x', x' = pbF p (a, q, n') := ⟨_, rfl⟩
                    rw [← hx'] at HRB
                    have HX := Lib.hid hx'
                    have HRC7 := Lib.hid hrc7
                    have HROW7 := Lib.hid (HROW.out.below hb7)
                    have hYl : (((pcsF g L m' L 0).take k).map (pbF p)).length ≤ 1000001 := by
                      rw [List.length_map, List.length_take]
                      have := pcs_len g L m' L 0
                      omega
                    clear hx' hsq hsq7 hfit hrc7 hpv hb7 hLp
                    go_upto_region 25 with (fail)
                    refine wp_region_mix [(true, 8), (false, 4)] 2 (by kernel_rfl) (fun wx => Below w7.heap.size w7 wx) (fun _ _ h k => h.trans (k.mono h.size)) (by kernel_rfl) (Below.refl _ _) (a' := ?_) (fun wz hz => ?_) fun wz hz => ?_
                    rotate_left
                    · have kz := HRC7.out.var.below hz HRC7.out.var.lt
                      have ld := fun (d : Nat) (os : Array Obj) => hd_load (kz.below (below_regrown wz d os) kz.lt) rfl
                      clear kz
                      simp only [pick_nil, pick_tt, pick_ft, List.take_succ_cons, List.take_zero, List.drop_succ_cons, List.drop_zero, List.append_nil]
                      repeat (go_big_quiet_step (fail))
                      refine wpQuiet_nil ?_
                      rfl
                    · simp only [pick_nil, pick_ff, pick_tf, List.take_succ_cons, List.take_zero, List.drop_succ_cons, List.drop_zero, List.append_nil]
                      refine wpMix_step hz fun wa ha => ?_
                      have hza := hz.trans (ha.mono hz.size)
                      have HCB := Lib.hid (HRB.out wa hza)
                      have HZA := Lib.hid hza
                      clear hz ha hza hsn
                      go_wp2_with (refine HCB.out.mono ?_; rintro e w8 ⟨v8, rfl, hr8, hb8⟩)
                      have hb78 := HZA.out.trans (hb8.mono HZA.out.size)
                      have hrow8 := HROW7.out.below hb78
                      obtain ⟨us, hv8, hul, hu8⟩ := hrow8
                      obtain ⟨A8, c8, rfl, _⟩ := own_form hr8
                      obtain ⟨i0, hi, hz0, hz1, hz2⟩ := info_parts info_sl8
                      have hz48 : w4.heap.size ≤ w8.heap.size := Nat.le_trans HBR.out.size (Nat.le_trans HRC7.out.below.size hb78.size)
                      have hx8 : w8.ownsRow w4.heap.size 5 1 (.slice A8 x'.length c8) x'.length (bytesV x') := own_base hr8 (Nat.le_trans HBR.out.size (Nat.le_trans HRC7.out.below.size HZA.out.size))
                      obtain ⟨Y, hY⟩ : ∃ Y, Y = ((pcsF g L m' L 0).take k).map (pbF p) := ⟨_, rfl⟩
                      rw [← hY] at hv8 hul hu8 hYl
                      have hmx : Y.length + 1 ≤ maxLen := by unfold maxLen; omega
                      have hmb : (Y.length + 1) * 24 ≤ 140737488355328 := by omega
                      refine wpMix_push (fun _ _ h k => h.trans (k.mono h.size)) hb78 22 [.slice A8 x'.length c8] rfl (fun w' => by go_simp) rfl (.tmp 94) (.tmp 103) _ rfl rfl w4.heap.size i0 _ 1 24 Try.underlying60 hi hz0 hz1 hz2 rfl (by decide) u11 Y.length us (fun _ => rfl) (fun _ => rfl) hv8 rfl (by simp [Value.oneCell']) hmx hmb hz48 fun g9 v9 w9 h9 hg9 _ => ?_
                      have hrow9 := Rows8.push h9 hv8 hul hg9 hu8 hx8
                      have hb48 : Below w4.heap.size w4 w8 := HBR.out.trans ((HRC7.out.below.trans (hb78.mono HRC7.out.below.size)).mono HBR.out.size)
                      have hb49 : Below w4.heap.size w4 w9 := hb48.grown hg9 hb48.size fun j e => (own_lt hv8 e).1
                      have HROW9 := Lib.hid hrow9
                      have HB49 := Lib.hid hb49
                      have HY := Lib.hid hY
                      have H8 := Lib.hid h8
                      clear hb78 hv8 hu8 hul hz48 hx8 hmx hmb h9 hg9 hrow9 hb48 hb49 hr8 hb8 hY h8
                      refine wpMix_plain ?_
                      go_wp2_with fail
                      go_roundw
                      case rel =>
                        refine ⟨a + n', k + 1, by simp, by omega, HB49.out, ?_, fun y hy => ?_, ?_⟩
                        · have e := HDR.out.symm.trans HCN.out
                          rw [← List.drop_drop, e]
                          rfl
                        · rw [List.take_add_one, HGT.out] at hy
                          rcases List.mem_append.1 hy with hy | hy
                          · exact HOKS.out y hy
                          · obtain rfl : y = (a, q, n') := by simpa using hy
                            have := H8.out
                            simp only
                            rw [HOF.out]
                            omega
                        · rw [List.take_add_one, HGT.out, Option.toList_some, List.map_append, ← HY.out, List.map_singleton, ← HX.out]
                          exact HROW9.out
                      case measure => simp [intOf]; omega
          · obtain rfl : a = L := by omega
            have hfull : (pcsF g a m' a 0).take k = pcsF g a m' a 0 := by
              have e := HDR.out
              rw [pcs_end _ _ _ _ _ (Nat.le_refl _)] at e
              have e2 := List.take_append_drop k (pcsF g a m' a 0)
              rw [← e, List.append_nil] at e2
              exact e2
            have hall : ∀ q ∈ pcsF g a m' a 0, q.2.1.off ≤ 8191 := fun q hq => HOKS.out q (by rw [hfull]; exact hq)
            have hR := HR3.out
            rw [if_neg (fun ⟨q, h1, h2⟩ => by have := hall q h1; omega)] at hR
            have HR4' := Lib.hid hR
            have hrw := HROW.out
            rw [hfull] at hrw
            obtain ⟨Al, cl, rfl, _⟩ := hrw.form
            have HRW := Lib.hid hrw
            clear hR hdrop hok hbr hall hrow hrw hfull
            go_wp2_with fail
            go_ret2
            rw [HR4'.out]
            obtain ⟨_, us, hl⟩ := HRW.out.lst
            exact ⟨Al, cl, us, rfl, hl.mono fun k hk => .inr ⟨by have := HB4.out.size; omega, hk.2⟩, HB4.out.trans (HBR.out.mono HB4.out.size)⟩
  · have hf1 : ((fe : Int) != 0) = true := by rw [bne_iff_ne]; omega
    have hR := HCU.out
    rw [if_pos hfe] at hR
    have HR := Lib.hid hR
    clear hR
    go_wp2_with (go_at_call 80; refine HFI.out.mono ?_; rintro e w1 ⟨rfl, hb1⟩; have hr1 := HR0.out.keep (Same.ofBelow hb1 fun k hk => hk.2); have HPA := Lib.hid (rparse_any A n c x _ w1 hr1 HN.out hc hsm); rw [← HPE.out] at HPA; have HB1 := Lib.hid hb1; have HR1 := Lib.hid hr1; clear hb1 hr1)
    go_ret2
    exact RcPost.none HR.out HB1.out
end Go.Proofs.Ytihfihehiifdkaa
