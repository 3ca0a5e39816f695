/- guidepostref13.Hash. -/
import Derived.Test.YtfddkehnhkfjeaaSpI
import Derived.Test.YtfddkehnhkfjeaaRgA
namespace Go.Proofs.Ytfddkehnhkfjeaa
open Go.RowKit Go.Sort
def RhΦ (B gh sr ds pr : Nat) (ya yb : By) : Nat → Value → World → Prop
  | 0, u, _ => u = .pointer (some ⟨gh, 8, none⟩)
  | 1, u, _ => u = .int .u32 (sr : Int)
  | 2, u, _ => u = .int .u64 (sr : Int)
  | 3, u, w => Row8 B w u ya
  | 4, u, _ => u = .pointer (some ⟨gh, 9, none⟩)
  | 5, u, _ => u = .int .u32 (ds : Int)
  | 6, u, _ => u = .int .u64 (ds : Int)
  | 7, u, w => Row8 B w u yb
  | 8, u, w => Row8 B w u (ya ++ yb)
  | 9, u, _ => u = .pointer (some ⟨gh, 7, none⟩)
  | 10, u, _ => u = .int .u8 (pr : Int)
  | 11, u, w => ∃ b, u = .slice (some ⟨b, 0, none⟩) 1 1 ∧ B ≤ b ∧ Blk w b 5 #[.int .u8 (pr : Int)]
  | 12, u, w => Row8 B w u (ya ++ yb ++ [UInt8.ofNat pr])
  | 13, u, w => Row8 B w u (ya ++ yb ++ [UInt8.ofNat pr])
  | _, _, _ => True
theorem RhΦ.keep {B gh sr ds pr : Nat} {ya yb : By} {wx wy : World} (hb : Below wx.heap.size wx wy) : ∀ j u, RhΦ B gh sr ds pr ya yb j u wx → RhΦ B gh sr ds pr ya yb j u wy := by
  intro j u h
  unfold RhΦ at h ⊢
  split at h
  all_goals first
    | exact h
    | exact Row8.below h hb
    | (obtain ⟨g, h1, h2, h3⟩ := h; exact ⟨g, h1, h2, h3.below hb h3.lt⟩)
theorem RhΦ.bare {B gh sr ds pr : Nat} {ya yb : By} {wx wy : World} {u : Value} : ∀ j, ¬ (j = 3 ∨ j = 7 ∨ j = 8 ∨ j = 11 ∨ j = 12 ∨ j = 13) → RhΦ B gh sr ds pr ya yb j u wx → RhΦ B gh sr ds pr ya yb j u wy := by
  intro j hj h
  unfold RhΦ at h ⊢
  split at h
  all_goals first
    | exact h
    | (exfalso; omega)
theorem long_ne {B b : Nat} {w : World} {v : Value} {x : By} {z : Value} (h : Row8 B w v x) (hx : x.length = 4) (hb : Blk w b 5 #[z]) : v.ownBlock ≠ some b := by
  intro e
  obtain ⟨g, cap, rfl, _, _, cur, hk, hc⟩ := h.blk (by omega)
  obtain rfl : g = b := by injection e
  have h2 := hc 3 ((bytesV x)[3]'(by rw [bytesV_len, hx]; decide)) (List.getElem?_eq_getElem _)
  have h3 := hb.cell 3
  rw [hk.cell 3, h2] at h3
  cases h3
theorem RhΦ.app {B gh sr ds pr : Nat} {ya yb : By} {wx w2 : World} {u v : Value} (hg : wx.grownBy w2 v.ownBlock) (h3 : Row8 B wx v ya) (hl : ya.length = 4) : ∀ j, j ≠ 8 → ¬ (j = 3 ∨ j = 7 ∨ j = 12 ∨ j = 13) → RhΦ B gh sr ds pr ya yb j u wx → RhΦ B gh sr ds pr ya yb j u w2 := by
  intro j hj0 hj h
  unfold RhΦ at h ⊢
  split at h
  all_goals first
    | exact h
    | (exfalso; omega)
    | (obtain ⟨g, h1, h2, h4⟩ := h; exact ⟨g, h1, h2, h4.grown hg (long_ne h3 hl h4)⟩)
def rhDead (i j : Nat) : Bool := (i == 8 && (j == 3 || j == 7)) || (i == 12 && (j == 3 || j == 7 || j == 8 || j == 11))

def RHPost (w : World) (n : Nat) (ok : Bool) (e : Ending) (w' : World) : Prop := e = .returned (.tuple #[.int .u32 (n : Int), .bool ok]) ∧ Below w.heap.size w w'
theorem mul_u64 (v : Nat) (hv : v < 4294967296) : IntKind.u64.wrap ((v : Int) * 16777619) = (v : Int) * 16777619 := wraps_u64 _ (by omega) (by omega)
theorem mul_mod (v : Nat) : ((v : Int) * 16777619) % 4294967296 = ((v * 16777619 % 4294967296 : Nat) : Int) := by omega
attribute [-go_sem] Instr.storeAt Instr.loadAt in
set_option maxRecDepth 20000 in
set_option maxHeartbeats 8000000 in
theorem rhash_any (A : Option Addr) (n c : Nat) (x : By) (I : Nat → Prop) (w : World) (h : Reads w I 1 A n (bytesV x)) (hn : x.length = n) (hc : n ≤ c) (hsm : n ≤ 1000000) :
    Calls Try.prog 52 #[.slice A n c] w (RHPost w (hashR (prsF x)) (decide ((prsF x).2.2 = 0))) := by
  have hpa := rparse_any A n c x I w h hn hc hsm
  have hok := prs_ok x
  have hpl := (prs_len x).1
  rw [hn] at hpl
  obtain ⟨R, hR⟩ : ∃ R, R = prsF x := ⟨_, rfl⟩
  rw [← hR] at hpa hok hpl ⊢
  clear hR h hn hc
  obtain ⟨h, p, f⟩ := R
  simp only at hok hpl
  by_cases hf : f = 0
  case neg =>
    have hf1 : ((f : Int) != 0) = true := by rw [bne_iff_ne]; omega
    have hf2 : (f != 0) = true := by rw [bne_iff_ne]; exact hf
    rw [show hashR (h, p, f) = 0 from by unfold hashR; rw [if_neg hf], show decide ((h, p, f).2.2 = 0) = false from decide_eq_false hf]
    have HPA := Lib.hid hpa
    clear hpa hok hpl hf
    go_enter Try.func52, Try.ntmps52
    go_wp2_with fail
    refine HPA.out.mono ?_
    rintro e w1 ⟨vo, vp, rfl, ho, hp, hb1⟩
    obtain ⟨Ao, co, rfl, _⟩ := ho
    obtain ⟨w2, hst, hb2, hb12, hk2⟩ := hd_var hb1 hb1.size h Ao h.opts.length co
    have HB2 := Lib.hid hb2
    simp only
    clear hp hb1 hb2 hb12 hk2
    go_wp2_with fail
    go_ret2
    exact ⟨rfl, HB2.out⟩
  subst hf
  rw [show hashR (h, p, 0) = hashF (hashB h p) from by unfold hashR; rw [if_pos rfl], show decide ((h, p, 0).2.2 = 0) = true from decide_eq_true rfl]
  have HPA := Lib.hid hpa
  have HOK := Lib.hid hok
  have HPL := Lib.hid hpl
  clear hpa hok hpl
  go_enter Try.func52, Try.ntmps52
  go_wp2_with fail
  refine HPA.out.mono ?_
  rintro e w1 ⟨vo, vp, rfl, ho, hp, hb1⟩
  obtain ⟨Ao, co, rfl, _, _⟩ := ho
  obtain ⟨Ap, cp, rfl, hcp, hpr⟩ := hp
  obtain ⟨no, hno⟩ : ∃ m, m = h.opts.length := ⟨_, rfl⟩
  obtain ⟨w2, hst, hb2, hb12, hk2⟩ := hd_var hb1 hb1.size h Ao h.opts.length co
  simp only at hpr hcp ⊢
  obtain ⟨m, hm⟩ : ∃ m, m = p.length := ⟨_, rfl⟩
  rw [← hm] at hpr hcp ⊢
  have HP2 := Lib.hid (show Reads w2 (fun k => k < w1.heap.size) 1 Ap m (bytesV p) from hpr.lt.mono (fun _ h => h.2) |>.keep (Same.ofBelow hb12 fun _ h => h))
  have HM := Lib.hid hm
  have HCP := Lib.hid hcp
  have HB2 := Lib.hid hb2
  rw [← hno] at hst hk2 ⊢
  obtain ⟨gh, hgh⟩ : ∃ g, g = w1.heap.size := ⟨_, rfl⟩
  rw [← hgh] at hk2
  have HGH := Lib.hid hgh
  have HMS := Lib.hid (show m ≤ 1000000 by have := HPL.out; omega)
  obtain ⟨B, hB⟩ : ∃ B, B = w2.heap.size := ⟨_, rfl⟩
  have HBQ := Lib.hid (show B ≤ ({ w2 with drawn := w2.drawn + 1 } : World).heap.size from Nat.le_of_eq hB)
  have HBE := Lib.hid hB
  obtain ⟨sr, hsr⟩ : ∃ s, s = h.src := ⟨_, rfl⟩
  obtain ⟨ds, hds⟩ : ∃ s, s = h.dst := ⟨_, rfl⟩
  obtain ⟨pr, hpr2⟩ : ∃ s, s = h.proto := ⟨_, rfl⟩
  obtain ⟨C, hC⟩ : ∃ C, C = hdC h (.slice Ao no co) := ⟨_, rfl⟩
  have HSR := Lib.hid hsr
  have HDS := Lib.hid hds
  have HPR0 := Lib.hid hpr2
  have HPR := Lib.hid (show pr < 256 by rw [hpr2]; exact HOK.out.2.2.2.1)
  have HC7 := Lib.hid (show C[7]? = some (.int .u8 (pr : Int)) by rw [hC, hpr2]; rfl)
  have HC8 := Lib.hid (show C[8]? = some (.int .u32 (sr : Int)) by rw [hC, hsr]; rfl)
  have HC9 := Lib.hid (show C[9]? = some (.int .u32 (ds : Int)) by rw [hC, hds]; rfl)
  have HCS := Lib.hid (show C.size = 11 by rw [hC]; rfl)
  have HCE := Lib.hid hC
  rw [← hC] at hk2
  have HK2 := Lib.hid hk2
  have HK4 := Lib.hid (show ∀ wx, Below B w2 wx → Blk wx gh 28 C from fun wx hb => HK2.out.below hb (by rw [hB]; exact HK2.out.lt))
  have HE8 := Lib.hid (show IntKind.u64.wrap (sr : Int) = (sr : Int) from wraps_u64 _ (by omega) (by have := HOK.out.2.2.2.2.1; omega))
  have HE9 := Lib.hid (show IntKind.u64.wrap (ds : Int) = (ds : Int) from wraps_u64 _ (by omega) (by have := HOK.out.2.2.2.2.2; omega))
  obtain ⟨ya, hya⟩ : ∃ y, y = putF sr 4 := ⟨_, rfl⟩
  obtain ⟨yb, hyb⟩ : ∃ y, y = putF ds 4 := ⟨_, rfl⟩
  have HPA2 := Lib.hid (fun wx => rput4_any sr wx (by have := HOK.out.2.2.2.2.1; omega))
  have HPB := Lib.hid (fun wx => rput4_any ds wx (by have := HOK.out.2.2.2.2.2; omega))
  rw [← hya] at HPA2
  rw [← hyb] at HPB
  have HLA := Lib.hid (show ya.length = 4 by rw [hya, putF_len])
  have HLB := Lib.hid (show yb.length = 4 by rw [hyb, putF_len])
  have HLZ := Lib.hid (show (ya ++ yb).length = 8 by rw [List.length_append, HLA.out, HLB.out])
  have HYA := Lib.hid hya
  have HYB := Lib.hid hyb
  clear hpr hb1 hb2 hb12 hk2 hcp hm hno hgh hB hsr hds hpr2 hC hya hyb
  go_upto_region 2 with (fail)
  rw [← HGH.out]
  clear hst
  go_wp2_with fail
  have HPA := Lib.hid HPA2.out
  obtain ⟨i0, hi, hz0, hz1, hz2⟩ := info_parts info_u8
  obtain ⟨wq, hwq⟩ : ∃ q, q = ({ w2 with drawn := w2.drawn + 1 } : World) := ⟨_, rfl⟩
  refine wp_region_psi (by kernel_rfl) (fun p q => Below B p q) (RhΦ B gh sr ds pr ya yb) 14 (fun _ _ => True) rhDead (fun _ _ => True) (by kernel_rfl) (fun p => Below.refl _ p) (fun h k => h.trans k) (fun j => trivial) (oblp_of ?_) (fun o h => by cases h) ?_
  · refine ⟨fun _ => ?_, fun _ => ?_, fun _ => ?_, fun _ => ?_, fun _ => ?_, fun _ => ?_, fun _ => ?_, fun _ => ?_, fun _ => ?_, fun _ => ?_, fun _ => ?_, fun _ => ?_, fun _ => ?_, fun _ => ?_, trivial⟩
    · -- 0
      intro val wx hg hψ hd hb hs K hK
      generalize hρ : rhoV _ _ val = ρ
      have cc : ∀ u, ρ (.const u) = u := fun u => by rw [← hρ]; rfl
      have ff : ∀ u, ρ (.func u) = .func (.func u) #[] #[] := fun u => by rw [← hρ]; rfl
      have r4 : ρ (.tmp 4) = .pointer (some ⟨gh, 0, none⟩) := by rw [← hρ]; rfl
      clear hρ hd hb hs hψ
      refine ifv rfl ?_
      go_simp
      exact hK _ _ (Below.refl _ _) rfl (fun _ _ _ _ h => h) fun _ _ _ _ => trivial
    · -- 1
      intro val wx hg hψ hd hb hs K hK
      generalize hρ : rhoV _ _ val = ρ
      have cc : ∀ u, ρ (.const u) = u := fun u => by rw [← hρ]; rfl
      have ff : ∀ u, ρ (.func u) = .func (.func u) #[] #[] := fun u => by rw [← hρ]; rfl
      have r18 : ρ (.tmp 18) = .pointer (some ⟨gh, 8, none⟩) := by rw [← hρ]; exact hd 0 rfl rfl
      have hk := HK4.out wx (show Below B w2 wx from ⟨hg.os, hg.tape, hg.output, hg.size, hg.block⟩)
      have hx := ld_u32s ((hk.cell 8).trans HC8.out)
      clear hρ hd hb hs hψ
      refine ifv rfl ?_
      go_simp
      exact hK _ _ (Below.refl _ _) rfl (fun _ _ _ _ h => h) fun _ _ _ _ => trivial
    · -- 2
      intro val wx hg hψ hd hb hs K hK
      generalize hρ : rhoV _ _ val = ρ
      have cc : ∀ u, ρ (.const u) = u := fun u => by rw [← hρ]; rfl
      have ff : ∀ u, ρ (.func u) = .func (.func u) #[] #[] := fun u => by rw [← hρ]; rfl
      have r19 : ρ (.tmp 19) = .int .u32 (sr : Int) := by rw [← hρ]; exact hd 1 rfl rfl
      have hw := HE8.out
      clear hρ hd hb hs hψ
      refine ifv rfl ?_
      go_simp
      exact hK _ _ (Below.refl _ _) rfl (fun _ _ _ _ h => h) fun _ _ _ _ => trivial
    · -- 3
      intro val wx hg hψ hd hb hs K hK
      generalize hρ : rhoV _ _ val = ρ
      have cc : ∀ u, ρ (.const u) = u := fun u => by rw [← hρ]; rfl
      have ff : ∀ u, ρ (.func u) = .func (.func u) #[] #[] := fun u => by rw [← hρ]; rfl
      have r20 : ρ (.tmp 20) = .int .u64 (sr : Int) := by rw [← hρ]; exact hd 2 rfl rfl
      have hc := HPA.out wx
      have hwb : B ≤ wx.heap.size := Nat.le_trans HBQ.out hg.size
      clear hρ hd hb hs hψ
      refine ifv rfl ?_
      go_simp
      refine hc.mono ?_
      rintro e w2 ⟨v2, rfl, h2, hb2⟩
      exact ⟨_, rfl, hK _ _ (hb2.mono hwb) (own_base h2 hwb) (fun j _ _ _ h => RhΦ.keep hb2 j _ h) fun j _ _ h => trivial⟩
    · -- 4
      intro val wx hg hψ hd hb hs K hK
      generalize hρ : rhoV _ _ val = ρ
      have cc : ∀ u, ρ (.const u) = u := fun u => by rw [← hρ]; rfl
      have ff : ∀ u, ρ (.func u) = .func (.func u) #[] #[] := fun u => by rw [← hρ]; rfl
      have r4 : ρ (.tmp 4) = .pointer (some ⟨gh, 0, none⟩) := by rw [← hρ]; rfl
      clear hρ hd hb hs hψ
      refine ifv rfl ?_
      go_simp
      exact hK _ _ (Below.refl _ _) rfl (fun _ _ _ _ h => h) fun _ _ _ _ => trivial
    · -- 5
      intro val wx hg hψ hd hb hs K hK
      generalize hρ : rhoV _ _ val = ρ
      have cc : ∀ u, ρ (.const u) = u := fun u => by rw [← hρ]; rfl
      have ff : ∀ u, ρ (.func u) = .func (.func u) #[] #[] := fun u => by rw [← hρ]; rfl
      have r22 : ρ (.tmp 22) = .pointer (some ⟨gh, 9, none⟩) := by rw [← hρ]; exact hd 4 rfl rfl
      have hk := HK4.out wx (show Below B w2 wx from ⟨hg.os, hg.tape, hg.output, hg.size, hg.block⟩)
      have hx := ld_u32s ((hk.cell 9).trans HC9.out)
      clear hρ hd hb hs hψ
      refine ifv rfl ?_
      go_simp
      exact hK _ _ (Below.refl _ _) rfl (fun _ _ _ _ h => h) fun _ _ _ _ => trivial
    · -- 6
      intro val wx hg hψ hd hb hs K hK
      generalize hρ : rhoV _ _ val = ρ
      have cc : ∀ u, ρ (.const u) = u := fun u => by rw [← hρ]; rfl
      have ff : ∀ u, ρ (.func u) = .func (.func u) #[] #[] := fun u => by rw [← hρ]; rfl
      have r23 : ρ (.tmp 23) = .int .u32 (ds : Int) := by rw [← hρ]; exact hd 5 rfl rfl
      have hw := HE9.out
      clear hρ hd hb hs hψ
      refine ifv rfl ?_
      go_simp
      exact hK _ _ (Below.refl _ _) rfl (fun _ _ _ _ h => h) fun _ _ _ _ => trivial
    · -- 7
      intro val wx hg hψ hd hb hs K hK
      generalize hρ : rhoV _ _ val = ρ
      have cc : ∀ u, ρ (.const u) = u := fun u => by rw [← hρ]; rfl
      have ff : ∀ u, ρ (.func u) = .func (.func u) #[] #[] := fun u => by rw [← hρ]; rfl
      have r24 : ρ (.tmp 24) = .int .u64 (ds : Int) := by rw [← hρ]; exact hd 6 rfl rfl
      have hc := HPB.out wx
      have hwb : B ≤ wx.heap.size := Nat.le_trans HBQ.out hg.size
      clear hρ hd hb hs hψ
      refine ifv rfl ?_
      go_simp
      refine hc.mono ?_
      rintro e w2 ⟨v2, rfl, h2, hb2⟩
      exact ⟨_, rfl, hK _ _ (hb2.mono hwb) (own_base h2 hwb) (fun j _ _ _ h => RhΦ.keep hb2 j _ h) fun j _ _ h => trivial⟩
    · -- 8
      intro val wx hg hψ hd hb hs K hK
      generalize hρ : rhoV _ _ val = ρ
      have cc : ∀ u, ρ (.const u) = u := fun u => by rw [← hρ]; rfl
      have ff : ∀ u, ρ (.func u) = .func (.func u) #[] #[] := fun u => by rw [← hρ]; rfl
      have r21 : ρ (.tmp 21) = val 3 := by rw [← hρ]; rfl
      have p3 := hd 3 rfl rfl
      have r25 : ρ (.tmp 25) = val 7 := by rw [← hρ]; rfl
      have p7 := hd 7 rfl rfl
      have q3 : Row8 B wx (val 3) ya := p3
      have q7 : Row8 B wx (val 7) yb := p7
      obtain ⟨A7, c7, h7, _⟩ := Row8.form q7
      rw [h7] at r25 q7
      have hrx := row_reads q7
      have hsz : B ≤ wx.heap.size := Nat.le_trans HBQ.out hg.size
      refine ifv rfl ?_
      refine insRow wx (.tmp 21) (.tmp 25) 22 (by rfl) B 5 i0 _ 1 1 Try.underlying22 hi hz0 hz1 hz2 rfl (by decide) r21 (show wx.ownsRow B 5 1 (val 3) ya.length (bytesV ya) from q3) (A := A7) (m := yb.length) (c := c7) (news := bytesV yb) r25 hrx (bytesV_one _) (by unfold maxLen; have := HLA.out; have := HLB.out; omega) (by have := HLA.out; have := HLB.out; omega) hsz ?_
      intro v2 w2 h2 hg2 _
      have hb2 : Below B wx w2 := (Below.refl B wx).grown hg2 hsz fun g hg => (own_lt (show wx.ownsRow B 5 1 (val 3) ya.length (bytesV ya) from q3) hg).1
      clear hρ hd hb hs hψ
      exact hK _ _ hb2 (show Row8 B w2 v2 (ya ++ yb) by unfold Row8; rw [bytesV_app, List.length_append]; exact h2) (fun j hj hdd hbk h => by
              rcases Classical.em (j = 3) with e | e
              · subst e; exact absurd hdd (by decide)
              rcases Classical.em (j = 7) with e | e
              · subst e; exact absurd hdd (by decide)
              rcases Classical.em (j = 12) with e | e
              · subst e; exact Bool.noConfusion ((hbk _ rfl).symm.trans rfl)
              rcases Classical.em (j = 13) with e | e
              · subst e; exact Bool.noConfusion ((hbk _ rfl).symm.trans rfl)
              exact RhΦ.app hg2 q3 HLA.out j hj (by omega) h) fun j hj hbk h => trivial
    · -- 9
      intro val wx hg hψ hd hb hs K hK
      generalize hρ : rhoV _ _ val = ρ
      have cc : ∀ u, ρ (.const u) = u := fun u => by rw [← hρ]; rfl
      have ff : ∀ u, ρ (.func u) = .func (.func u) #[] #[] := fun u => by rw [← hρ]; rfl
      have r4 : ρ (.tmp 4) = .pointer (some ⟨gh, 0, none⟩) := by rw [← hρ]; rfl
      clear hρ hd hb hs hψ
      refine ifv rfl ?_
      go_simp
      exact hK _ _ (Below.refl _ _) rfl (fun _ _ _ _ h => h) fun _ _ _ _ => trivial
    · -- 10
      intro val wx hg hψ hd hb hs K hK
      generalize hρ : rhoV _ _ val = ρ
      have cc : ∀ u, ρ (.const u) = u := fun u => by rw [← hρ]; rfl
      have ff : ∀ u, ρ (.func u) = .func (.func u) #[] #[] := fun u => by rw [← hρ]; rfl
      have r27 : ρ (.tmp 27) = .pointer (some ⟨gh, 7, none⟩) := by rw [← hρ]; exact hd 9 rfl rfl
      have hk := HK4.out wx (show Below B w2 wx from ⟨hg.os, hg.tape, hg.output, hg.size, hg.block⟩)
      have hx := ld_u8s ((hk.cell 7).trans HC7.out)
      clear hρ hd hb hs hψ
      refine ifv rfl ?_
      go_simp
      exact hK _ _ (Below.refl _ _) rfl (fun _ _ _ _ h => h) fun _ _ _ _ => trivial
    · -- 11
      intro val wx hg hψ hd hb hs K hK
      generalize hρ : rhoV _ _ val = ρ
      have cc : ∀ u, ρ (.const u) = u := fun u => by rw [← hρ]; rfl
      have ff : ∀ u, ρ (.func u) = .func (.func u) #[] #[] := fun u => by rw [← hρ]; rfl
      have r28 : ρ (.tmp 28) = .int .u8 (pr : Int) := by rw [← hρ]; exact hd 10 rfl rfl
      have hal : Below wx.heap.size wx (wx.alloc (.cells #[.int .u8 (pr : Int)] 5)) := (Below.refl _ _).alloc (Nat.le_refl _) _
      have hwb : B ≤ wx.heap.size := Nat.le_trans HBQ.out hg.size
      clear hρ hd hb hs hψ
      refine ifv rfl ?_
      go_simp
      exact hK _ _ (hal.mono hwb) ⟨_, rfl, hwb, Blk.new _ _ _⟩ (fun j _ _ _ h => RhΦ.keep hal j _ h) fun j _ _ h => trivial
    · -- 12
      intro val wx hg hψ hd hb hs K hK
      generalize hρ : rhoV _ _ val = ρ
      have cc : ∀ u, ρ (.const u) = u := fun u => by rw [← hρ]; rfl
      have ff : ∀ u, ρ (.func u) = .func (.func u) #[] #[] := fun u => by rw [← hρ]; rfl
      have r26 : ρ (.tmp 26) = val 8 := by rw [← hρ]; rfl
      have p8 := hd 8 rfl rfl
      have r29 : ρ (.tmp 29) = val 11 := by rw [← hρ]; rfl
      have p11 := hd 11 rfl rfl
      have q8 : Row8 B wx (val 8) (ya ++ yb) := p8
      obtain ⟨b, h11, hbB, hbk0⟩ : ∃ b, val 11 = .slice (some ⟨b, 0, none⟩) 1 1 ∧ B ≤ b ∧ Blk wx b 5 #[.int .u8 (pr : Int)] := p11
      rw [h11] at r29
      have hrx : Reads wx (fun _ => True) 1 (some ⟨b, 0, none⟩) 1 (bytesV [UInt8.ofNat pr]) := by
        have hp : (UInt8.ofNat pr).toNat = pr := Nat.mod_eq_of_lt HPR.out
        exact ((sl_row_new (x := UInt8.ofNat pr) (by rw [hp]; exact hbk0)).len).2.2
      have hsz : B ≤ wx.heap.size := Nat.le_trans HBQ.out hg.size
      refine ifv rfl ?_
      refine insRow wx (.tmp 26) (.tmp 29) 22 (by rfl) B 5 i0 _ 1 1 Try.underlying22 hi hz0 hz1 hz2 rfl (by decide) r26 (show wx.ownsRow B 5 1 (val 8) (ya ++ yb).length (bytesV (ya ++ yb)) from q8) (A := some ⟨b, 0, none⟩) (m := 1) (c := 1) (news := bytesV [UInt8.ofNat pr]) r29 hrx (bytesV_one _) (by unfold maxLen; have := HLA.out; have := HLB.out; rw [HLZ.out]; omega) (by have := HLA.out; have := HLB.out; rw [HLZ.out]; omega) hsz ?_
      intro v2 w2 h2 hg2 _
      have hb2 : Below B wx w2 := (Below.refl B wx).grown hg2 hsz fun g hg => (own_lt (show wx.ownsRow B 5 1 (val 8) (ya ++ yb).length (bytesV (ya ++ yb)) from q8) hg).1
      clear hρ hd hb hs hψ
      exact hK _ _ hb2 (show Row8 B w2 v2 (ya ++ yb ++ [UInt8.ofNat pr]) by unfold Row8; rw [bytesV_app, List.length_append]; exact h2) (fun j hj hdd hbk h => by
              rcases Classical.em (j = 3) with e | e
              · subst e; exact absurd hdd (by decide)
              rcases Classical.em (j = 7) with e | e
              · subst e; exact absurd hdd (by decide)
              rcases Classical.em (j = 8) with e | e
              · subst e; exact absurd hdd (by decide)
              rcases Classical.em (j = 11) with e | e
              · subst e; exact absurd hdd (by decide)
              rcases Classical.em (j = 13) with e | e
              · subst e; exact Bool.noConfusion ((hbk _ rfl).symm.trans rfl)
              exact RhΦ.bare j (by omega) h) fun j hj hbk h => trivial
    · -- 13
      intro val wx hg hψ hd hb hs K hK
      generalize hρ : rhoV _ _ val = ρ
      have cc : ∀ u, ρ (.const u) = u := fun u => by rw [← hρ]; rfl
      have ff : ∀ u, ρ (.func u) = .func (.func u) #[] #[] := fun u => by rw [← hρ]; rfl
      have r30 : ρ (.tmp 30) = val 12 := by rw [← hρ]; rfl
      have p12 := hd 12 rfl rfl
      have q12 : Row8 B wx (val 12) (ya ++ yb ++ [UInt8.ofNat pr]) := p12
      clear hρ hd hb hs hψ p12
      refine ifv rfl ?_
      go_simp
      exact hK _ _ (Below.refl _ _) q12 (fun _ _ _ _ h => h) fun _ _ _ _ => trivial
  · intro val w9 h9
    rw [if_neg (by decide)] at h9
    obtain ⟨hb9, h9⟩ := h9
    have p13 : Row8 B w9 (val 13) (ya ++ yb ++ [UInt8.ofNat pr]) := h9 13 (by decide) (by decide)
    have hbz : Below B w2 w9 := ⟨hb9.os, hb9.tape, hb9.output, hb9.size, hb9.block⟩
    have hbw : Below w2.heap.size w2 w9 := by rw [← HBE.out]; exact hbz
    obtain ⟨A7, c7, e13, hc7⟩ := p13.form
    rw [e13] at p13
    have hk9 := HK4.out w9 hbz
    rw [HCE.out] at hk9
    obtain ⟨z0, hz0'⟩ : ∃ z, z = ya ++ yb ++ [UInt8.ofNat pr] := ⟨_, rfl⟩
    have HZ0 := Lib.hid (show z0 = putF h.src 4 ++ putF h.dst 4 ++ [UInt8.ofNat h.proto] by rw [hz0', HYA.out, HYB.out, HSR.out, HDS.out, HPR0.out])
    rw [← hz0'] at p13 hc7 e13
    obtain ⟨n7, hn7⟩ : ∃ n, n = z0.length := ⟨_, rfl⟩
    have HN7 := Lib.hid (show n7 = 9 by rw [hn7, hz0', List.length_append, HLZ.out]; rfl)
    have HNZ := Lib.hid hn7
    rw [← hn7] at p13 hc7 e13
    have HRW := Lib.hid p13
    have HK9 := Lib.hid hk9
    have HB9 := Lib.hid (HB2.out.trans (hbw.mono HB2.out.size))
    have HW29 := Lib.hid hbw.size
    have HWB := Lib.hid (show w.heap.size ≤ B by rw [HBE.out]; exact HB2.out.size)
    have HP9 := Lib.hid (HP2.out.keep (Same.ofBelow hbw fun _ hk => Nat.lt_of_lt_of_le hk (by have := HK2.out.lt; have := HGH.out; omega)))
    simp only [putAll, e13]
    simp only [Act.put, List.setIfInBounds_toArray, List.set_cons_succ, List.set_cons_zero]
    clear hb9 h9 p13 hbz hbw e13 hc7 hk9 hz0' hn7
    generalize val 0 = y0, val 1 = y1, val 2 = y2, val 3 = y3, val 4 = y4, val 5 = y5, val 6 = y6, val 7 = y7, val 8 = y8, val 9 = y9, val 10 = y10, val 11 = y11, val 12 = y12
    have c7' := ld_u8s (HK9.out.cell 7)
    have hl9 := hd_load HK9.out rfl
    have HFR := Lib.hid (rfrag_any h Ao no co w9)
    by_cases h6 : h.proto = 6
    · have e6 : ((h.proto : Int) == 6) = true := by rw [beq_iff_eq]; omega
      have H6P := Lib.hid h6
      clear h6
      cases hfr : fragH h with
      | true =>
        rw [hfr] at HFR
        have HZN := Lib.hid (show hashP h p = [] by unfold hashP; rw [if_neg]; intro hh; have := hh.2.1; rw [hfr] at this; cases this)
        clear hfr
        go_wp2_with fail
        refine HFR.out.mono ?_
        rintro e w5 ⟨rfl, hb5⟩
        have HB5 := Lib.hid hb5
        clear hb5 hl9 c7'
        obtain ⟨z, hz⟩ : ∃ z, z = hashB h p := ⟨_, rfl⟩
        have HROW := Lib.hid (show Reads w5 (fun k => k < w5.heap.size) 1 A7 n7 (bytesV z) from by rw [hz, show hashB h p = z0 from by unfold hashB; rw [HZN.out, List.append_nil, HZ0.out]]; exact (row_reads (HRW.out.below HB5.out)).mono fun _ h => h.2)
        have HZL := Lib.hid (show z.length = n7 from by rw [hz, show hashB h p = z0 from by unfold hashB; rw [HZN.out, List.append_nil, HZ0.out], HNZ.out])
        have HN13 := Lib.hid (show n7 ≤ 13 by have := HN7.out; omega)
        have HBX := Lib.hid (show Below w.heap.size w w5 from HB9.out.trans (HB5.out.mono HB9.out.size))
        have HZ := Lib.hid hz
        rw [← hz]
        clear hz
        go_wp2_with fail
        go_loop [8, 9] (fun v i => ∃ k : Nat, k ≤ n7 ∧ i = .int .i64 (k : Int) ∧ v = .int .u64 (hashG 2166136261 (z.take k) : Int)) (fun _ i => n7 - (intOf i).toNat)
        case atStart => exact ⟨0, Nat.zero_le _, rfl, rfl⟩
        case round =>
          obtain ⟨k, hk, rfl, rfl⟩ := hrel
          have hk13 := HN13.out
          by_cases hlt : k < n7
          · obtain ⟨b, hb⟩ : ∃ b, z[k]? = some b := ⟨z[k]'(by rw [HZL.out]; exact hlt), List.getElem?_eq_getElem _⟩
            obtain ⟨ad, rfl, _, _, hc⟩ := HROW.out.2 (by omega)
            have hcell : w5.cell? (ad.add k) = some (.int .u8 (b.toNat : Int)) := hc _ _ (by simp [bytesV, hb])
            have hld := load8 hcell
            obtain ⟨g, hg⟩ : ∃ g, g = hashG 2166136261 (z.take k) := ⟨_, rfl⟩
            have hgl : g < 4294967296 := by rw [hg]; exact hashG_lt (by decide) _
            have hbl := b.toNat_lt
            have HNX := Lib.hid (show hashG 2166136261 (z.take (k + 1)) = mixF g b by rw [take_snoc8 hb, hashG_snoc, hg])
            have e0 : IntKind.u64.wrap (b.toNat : Int) = (b.toNat : Int) := wraps_u64 _ (by omega) (by omega)
            have e1 := xor_u64 g b.toNat (by omega) (by omega)
            obtain ⟨v, hv⟩ : ∃ v, v = g ^^^ b.toNat := ⟨_, rfl⟩
            have hvl : v < 4294967296 := by rw [hv]; exact xor_lt hgl (by omega)
            have e2 := mul_u64 v hvl
            have e3 := mul_mod v
            obtain ⟨r, hr⟩ : ∃ r, r = v * 16777619 % 4294967296 := ⟨_, rfl⟩
            have HRE := Lib.hid (show mixF g b = r by rw [hr, hv]; rfl)
            have e4 : IntKind.u64.wrap (r : Int) = (r : Int) := wraps_u64 _ (by omega) (by omega)
            have v0 : (0 : Int) ≤ (v : Int) * 16777619 := by omega
            rw [← hv] at e1
            rw [← hr] at e3
            have HE3 := Lib.hid e3
            rw [← hg]
            have i0 : (0 : Int) ≤ k := by omega
            have i1 : (k : Int) < n7 := by omega
            have i2 : (k : Int) < 13 := by omega
            have d0 : decide ((k : Int) < (n7 : Int)) = true := decide_eq_true (by omega)
            have d1 : decide (k < n7) = true := decide_eq_true hlt
            clear hb hc hg hgl hbl hv hvl hr
            go_wp2_with fail
            go_round
            case rel => exact ⟨k + 1, hlt, rfl, by rw [HNX.out, HRE.out]; first | rfl | rw [← HE3.out]⟩
            case measure => simp [intOf]; omega
          · obtain rfl : k = n7 := by omega
            have d0 : decide ((k : Int) < (k : Int)) = false := decide_eq_false (by omega)
            have d1 : decide (k < k) = false := decide_eq_false (by omega)
            obtain ⟨g, hg⟩ : ∃ g, g = hashG 2166136261 (z.take k) := ⟨_, rfl⟩
            have hgl : g < 4294967296 := by rw [hg]; exact hashG_lt (by decide) _
            have HG := Lib.hid (show hashF z = g by rw [hg, List.take_of_length_le (by rw [HZL.out]; exact Nat.le_refl _)]; rfl)
            have e4 : IntKind.u32.wrap (g : Int) = (g : Int) := wraps_u32 _ (by omega) (by omega)
            rw [← hg]
            clear hg hgl hk hlt hk13
            go_wp2_with fail
            go_ret2
            exact ⟨by rw [show hashB h p = z from HZ.out.symm, HG.out]; rfl, HBX.out⟩
      | false =>
        rw [hfr] at HFR
        have HFF := Lib.hid hfr
        clear hfr
        by_cases h4 : m < 4
        · have d4 : decide ((4 : Int) ≤ (m : Int)) = false := decide_eq_false (by omega)
          have HZN := Lib.hid (show hashP h p = [] by unfold hashP; rw [if_neg]; intro hh; have := hh.2.2; have := HM.out; omega)
          clear h4
          go_wp2_with fail
          refine HFR.out.mono ?_
          rintro e w5 ⟨rfl, hb5⟩
          have HB5 := Lib.hid hb5
          clear hb5 hl9 c7'
          obtain ⟨z, hz⟩ : ∃ z, z = hashB h p := ⟨_, rfl⟩
          have HROW := Lib.hid (show Reads w5 (fun k => k < w5.heap.size) 1 A7 n7 (bytesV z) from by rw [hz, show hashB h p = z0 from by unfold hashB; rw [HZN.out, List.append_nil, HZ0.out]]; exact (row_reads (HRW.out.below HB5.out)).mono fun _ h => h.2)
          have HZL := Lib.hid (show z.length = n7 from by rw [hz, show hashB h p = z0 from by unfold hashB; rw [HZN.out, List.append_nil, HZ0.out], HNZ.out])
          have HN13 := Lib.hid (show n7 ≤ 13 by have := HN7.out; omega)
          have HBX := Lib.hid (show Below w.heap.size w w5 from HB9.out.trans (HB5.out.mono HB9.out.size))
          have HZ := Lib.hid hz
          rw [← hz]
          clear hz
          go_wp2_with fail
          go_loop [8, 9] (fun v i => ∃ k : Nat, k ≤ n7 ∧ i = .int .i64 (k : Int) ∧ v = .int .u64 (hashG 2166136261 (z.take k) : Int)) (fun _ i => n7 - (intOf i).toNat)
          case atStart => exact ⟨0, Nat.zero_le _, rfl, rfl⟩
          case round =>
            obtain ⟨k, hk, rfl, rfl⟩ := hrel
            have hk13 := HN13.out
            by_cases hlt : k < n7
            · obtain ⟨b, hb⟩ : ∃ b, z[k]? = some b := ⟨z[k]'(by rw [HZL.out]; exact hlt), List.getElem?_eq_getElem _⟩
              obtain ⟨ad, rfl, _, _, hc⟩ := HROW.out.2 (by omega)
              have hcell : w5.cell? (ad.add k) = some (.int .u8 (b.toNat : Int)) := hc _ _ (by simp [bytesV, hb])
              have hld := load8 hcell
              obtain ⟨g, hg⟩ : ∃ g, g = hashG 2166136261 (z.take k) := ⟨_, rfl⟩
              have hgl : g < 4294967296 := by rw [hg]; exact hashG_lt (by decide) _
              have hbl := b.toNat_lt
              have HNX := Lib.hid (show hashG 2166136261 (z.take (k + 1)) = mixF g b by rw [take_snoc8 hb, hashG_snoc, hg])
              have e0 : IntKind.u64.wrap (b.toNat : Int) = (b.toNat : Int) := wraps_u64 _ (by omega) (by omega)
              have e1 := xor_u64 g b.toNat (by omega) (by omega)
              obtain ⟨v, hv⟩ : ∃ v, v = g ^^^ b.toNat := ⟨_, rfl⟩
              have hvl : v < 4294967296 := by rw [hv]; exact xor_lt hgl (by omega)
              have e2 := mul_u64 v hvl
              have e3 := mul_mod v
              obtain ⟨r, hr⟩ : ∃ r, r = v * 16777619 % 4294967296 := ⟨_, rfl⟩
              have HRE := Lib.hid (show mixF g b = r by rw [hr, hv]; rfl)
              have e4 : IntKind.u64.wrap (r : Int) = (r : Int) := wraps_u64 _ (by omega) (by omega)
              have v0 : (0 : Int) ≤ (v : Int) * 16777619 := by omega
              rw [← hv] at e1
              rw [← hr] at e3
              have HE3 := Lib.hid e3
              rw [← hg]
              have i0 : (0 : Int) ≤ k := by omega
              have i1 : (k : Int) < n7 := by omega
              have i2 : (k : Int) < 13 := by omega
              have d0 : decide ((k : Int) < (n7 : Int)) = true := decide_eq_true (by omega)
              have d1 : decide (k < n7) = true := decide_eq_true hlt
              clear hb hc hg hgl hbl hv hvl hr
              go_wp2_with fail
              go_round
              case rel => exact ⟨k + 1, hlt, rfl, by rw [HNX.out, HRE.out]; first | rfl | rw [← HE3.out]⟩
              case measure => simp [intOf]; omega
            · obtain rfl : k = n7 := by omega
              have d0 : decide ((k : Int) < (k : Int)) = false := decide_eq_false (by omega)
              have d1 : decide (k < k) = false := decide_eq_false (by omega)
              obtain ⟨g, hg⟩ : ∃ g, g = hashG 2166136261 (z.take k) := ⟨_, rfl⟩
              have hgl : g < 4294967296 := by rw [hg]; exact hashG_lt (by decide) _
              have HG := Lib.hid (show hashF z = g by rw [hg, List.take_of_length_le (by rw [HZL.out]; exact Nat.le_refl _)]; rfl)
              have e4 : IntKind.u32.wrap (g : Int) = (g : Int) := wraps_u32 _ (by omega) (by omega)
              rw [← hg]
              clear hg hgl hk hlt hk13
              go_wp2_with fail
              go_ret2
              exact ⟨by rw [show hashB h p = z from HZ.out.symm, HG.out]; rfl, HBX.out⟩
        · have d4 : decide ((4 : Int) ≤ (m : Int)) = true := decide_eq_true (by omega)
          have h4m : 4 ≤ m := by omega
          have HZN := Lib.hid (show hashP h p = p.take 4 by unfold hashP; rw [if_pos ⟨.inl H6P.out, HFF.out, by have := HM.out; omega⟩])
          clear h4
          go_wp2_with fail
          refine HFR.out.mono ?_
          rintro e w5 ⟨rfl, hb5⟩
          have HB5 := Lib.hid hb5
          have x2 : ∀ wx : World, (Instr.slice 22 (.slice Ap m cp) none (some (.int .i64 4)) none).run Try.prog wx = .ok (.slice Ap 4 cp) wx := fun wx => sl_hi Ap m cp wx 4 (by have := HCP.out; omega)
          have hp5 : Reads w5 (fun k => k < w1.heap.size) 1 Ap 4 (bytesV (p.take 4)) := by
            have := HP9.out.keep (Same.ofBelow HB5.out fun _ hk => Nat.lt_of_lt_of_le hk (by have := HK9.out.lt; have := HGH.out; omega))
            rw [HM.out] at this
            exact reads_take this (by have := HM.out; omega)
          have HP5 := Lib.hid hp5
          have HR5 := Lib.hid (HRW.out.below HB5.out)
          have hx63 : z0.length + 4 ≤ 140737488355328 := by have := HNZ.out; have := HN7.out; omega
          have HT4 := Lib.hid (show (p.take 4).length = 4 by rw [List.length_take]; have := HM.out; omega)
          have HBX5 := Lib.hid (HB9.out.trans (HB5.out.mono HB9.out.size))
          have HBS := Lib.hid (show B ≤ w5.heap.size by have := HB5.out.size; have := (HK9.out.lt); rw [HBE.out]; exact Nat.le_trans (Nat.le_refl _) (Nat.le_trans HW29.out HB5.out.size))
          clear hb5 hl9 c7' hp5
          go_wp2_with (at_builtin; refine wpList_app8 w5 rfl (.tmp 49) (.tmp 51) rfl rfl B _ z0 rfl HR5.out _ Ap 4 cp (p.take 4) rfl HT4.out HP5.out hx63 HBS.out ?_; intro v6 w6 h6 hg6 hz6; clear hz6; obtain ⟨A8, c8, rfl, _⟩ := h6.form; have H6 := Lib.hid h6; have HBY := Lib.hid (HBX5.out.grown hg6 HBX5.out.size fun g hg => Nat.le_trans HWB.out (own_lt HR5.out hg).1); have hl6 : (z0 ++ p.take 4 : By).length = n7 + 4 := (by rw [List.length_append, HT4.out, HNZ.out]); rw [hl6] at H6; rw [hl6]; clear h6 hg6 hl6)
          obtain ⟨n8, hn8⟩ : ∃ n, n = n7 + 4 := ⟨_, rfl⟩
          rw [← hn8] at H6 ⊢
          have HN8 := Lib.hid hn8
          clear hn8 x2 hx63
          obtain ⟨z, hz⟩ : ∃ z, z = hashB h p := ⟨_, rfl⟩
          have HROW := Lib.hid (show Reads w6 (fun k => k < w6.heap.size) 1 A8 n8 (bytesV z) from by rw [hz, show hashB h p = z0 ++ p.take 4 from by unfold hashB; rw [HZN.out, HZ0.out]]; exact (row_reads H6.out).mono fun _ h => h.2)
          have HZL := Lib.hid (show z.length = n8 from by rw [hz, show hashB h p = z0 ++ p.take 4 from by unfold hashB; rw [HZN.out, HZ0.out], List.length_append, HT4.out, HN8.out, HNZ.out])
          have HN13 := Lib.hid (show n8 ≤ 13 by have := HN7.out; have := HN8.out; omega)
          have HBX := Lib.hid (show Below w.heap.size w w6 from HBY.out)
          have HZ := Lib.hid hz
          rw [← hz]
          clear hz
          go_wp2_with fail
          go_loop [8, 9] (fun v i => ∃ k : Nat, k ≤ n8 ∧ i = .int .i64 (k : Int) ∧ v = .int .u64 (hashG 2166136261 (z.take k) : Int)) (fun _ i => n8 - (intOf i).toNat)
          case atStart => exact ⟨0, Nat.zero_le _, rfl, rfl⟩
          case round =>
            obtain ⟨k, hk, rfl, rfl⟩ := hrel
            have hk13 := HN13.out
            by_cases hlt : k < n8
            · obtain ⟨b, hb⟩ : ∃ b, z[k]? = some b := ⟨z[k]'(by rw [HZL.out]; exact hlt), List.getElem?_eq_getElem _⟩
              obtain ⟨ad, rfl, _, _, hc⟩ := HROW.out.2 (by omega)
              have hcell : w6.cell? (ad.add k) = some (.int .u8 (b.toNat : Int)) := hc _ _ (by simp [bytesV, hb])
              have hld := load8 hcell
              obtain ⟨g, hg⟩ : ∃ g, g = hashG 2166136261 (z.take k) := ⟨_, rfl⟩
              have hgl : g < 4294967296 := by rw [hg]; exact hashG_lt (by decide) _
              have hbl := b.toNat_lt
              have HNX := Lib.hid (show hashG 2166136261 (z.take (k + 1)) = mixF g b by rw [take_snoc8 hb, hashG_snoc, hg])
              have e0 : IntKind.u64.wrap (b.toNat : Int) = (b.toNat : Int) := wraps_u64 _ (by omega) (by omega)
              have e1 := xor_u64 g b.toNat (by omega) (by omega)
              obtain ⟨v, hv⟩ : ∃ v, v = g ^^^ b.toNat := ⟨_, rfl⟩
              have hvl : v < 4294967296 := by rw [hv]; exact xor_lt hgl (by omega)
              have e2 := mul_u64 v hvl
              have e3 := mul_mod v
              obtain ⟨r, hr⟩ : ∃ r, r = v * 16777619 % 4294967296 := ⟨_, rfl⟩
              have HRE := Lib.hid (show mixF g b = r by rw [hr, hv]; rfl)
              have e4 : IntKind.u64.wrap (r : Int) = (r : Int) := wraps_u64 _ (by omega) (by omega)
              have v0 : (0 : Int) ≤ (v : Int) * 16777619 := by omega
              rw [← hv] at e1
              rw [← hr] at e3
              have HE3 := Lib.hid e3
              rw [← hg]
              have i0 : (0 : Int) ≤ k := by omega
              have i1 : (k : Int) < n8 := by omega
              have i2 : (k : Int) < 13 := by omega
              have d0 : decide ((k : Int) < (n8 : Int)) = true := decide_eq_true (by omega)
              have d1 : decide (k < n8) = true := decide_eq_true hlt
              clear hb hc hg hgl hbl hv hvl hr
              go_wp2_with fail
              go_round
              case rel => exact ⟨k + 1, hlt, rfl, by rw [HNX.out, HRE.out]; first | rfl | rw [← HE3.out]⟩
              case measure => simp [intOf]; omega
            · obtain rfl : k = n8 := by omega
              have d0 : decide ((k : Int) < (k : Int)) = false := decide_eq_false (by omega)
              have d1 : decide (k < k) = false := decide_eq_false (by omega)
              obtain ⟨g, hg⟩ : ∃ g, g = hashG 2166136261 (z.take k) := ⟨_, rfl⟩
              have hgl : g < 4294967296 := by rw [hg]; exact hashG_lt (by decide) _
              have HG := Lib.hid (show hashF z = g by rw [hg, List.take_of_length_le (by rw [HZL.out]; exact Nat.le_refl _)]; rfl)
              have e4 : IntKind.u32.wrap (g : Int) = (g : Int) := wraps_u32 _ (by omega) (by omega)
              rw [← hg]
              clear hg hgl hk hlt hk13
              go_wp2_with fail
              go_ret2
              exact ⟨by rw [show hashB h p = z from HZ.out.symm, HG.out]; rfl, HBX.out⟩
    have e6 : ((h.proto : Int) == 6) = false := by rw [beq_eq_false_iff_ne]; omega
    by_cases h17 : h.proto = 17
    · have e17 : ((h.proto : Int) == 17) = true := by rw [beq_iff_eq]; omega
      have H17P := Lib.hid h17
      clear h6 h17
      cases hfr : fragH h with
      | true =>
        rw [hfr] at HFR
        have HZN := Lib.hid (show hashP h p = [] by unfold hashP; rw [if_neg]; intro hh; have := hh.2.1; rw [hfr] at this; cases this)
        clear hfr
        go_wp2_with fail
        refine HFR.out.mono ?_
        rintro e w5 ⟨rfl, hb5⟩
        have HB5 := Lib.hid hb5
        clear hb5 hl9 c7'
        obtain ⟨z, hz⟩ : ∃ z, z = hashB h p := ⟨_, rfl⟩
        have HROW := Lib.hid (show Reads w5 (fun k => k < w5.heap.size) 1 A7 n7 (bytesV z) from by rw [hz, show hashB h p = z0 from by unfold hashB; rw [HZN.out, List.append_nil, HZ0.out]]; exact (row_reads (HRW.out.below HB5.out)).mono fun _ h => h.2)
        have HZL := Lib.hid (show z.length = n7 from by rw [hz, show hashB h p = z0 from by unfold hashB; rw [HZN.out, List.append_nil, HZ0.out], HNZ.out])
        have HN13 := Lib.hid (show n7 ≤ 13 by have := HN7.out; omega)
        have HBX := Lib.hid (show Below w.heap.size w w5 from HB9.out.trans (HB5.out.mono HB9.out.size))
        have HZ := Lib.hid hz
        rw [← hz]
        clear hz
        go_wp2_with fail
        go_loop [8, 9] (fun v i => ∃ k : Nat, k ≤ n7 ∧ i = .int .i64 (k : Int) ∧ v = .int .u64 (hashG 2166136261 (z.take k) : Int)) (fun _ i => n7 - (intOf i).toNat)
        case atStart => exact ⟨0, Nat.zero_le _, rfl, rfl⟩
        case round =>
          obtain ⟨k, hk, rfl, rfl⟩ := hrel
          have hk13 := HN13.out
          by_cases hlt : k < n7
          · obtain ⟨b, hb⟩ : ∃ b, z[k]? = some b := ⟨z[k]'(by rw [HZL.out]; exact hlt), List.getElem?_eq_getElem _⟩
            obtain ⟨ad, rfl, _, _, hc⟩ := HROW.out.2 (by omega)
            have hcell : w5.cell? (ad.add k) = some (.int .u8 (b.toNat : Int)) := hc _ _ (by simp [bytesV, hb])
            have hld := load8 hcell
            obtain ⟨g, hg⟩ : ∃ g, g = hashG 2166136261 (z.take k) := ⟨_, rfl⟩
            have hgl : g < 4294967296 := by rw [hg]; exact hashG_lt (by decide) _
            have hbl := b.toNat_lt
            have HNX := Lib.hid (show hashG 2166136261 (z.take (k + 1)) = mixF g b by rw [take_snoc8 hb, hashG_snoc, hg])
            have e0 : IntKind.u64.wrap (b.toNat : Int) = (b.toNat : Int) := wraps_u64 _ (by omega) (by omega)
            have e1 := xor_u64 g b.toNat (by omega) (by omega)
            obtain ⟨v, hv⟩ : ∃ v, v = g ^^^ b.toNat := ⟨_, rfl⟩
            have hvl : v < 4294967296 := by rw [hv]; exact xor_lt hgl (by omega)
            have e2 := mul_u64 v hvl
            have e3 := mul_mod v
            obtain ⟨r, hr⟩ : ∃ r, r = v * 16777619 % 4294967296 := ⟨_, rfl⟩
            have HRE := Lib.hid (show mixF g b = r by rw [hr, hv]; rfl)
            have e4 : IntKind.u64.wrap (r : Int) = (r : Int) := wraps_u64 _ (by omega) (by omega)
            have v0 : (0 : Int) ≤ (v : Int) * 16777619 := by omega
            rw [← hv] at e1
            rw [← hr] at e3
            have HE3 := Lib.hid e3
            rw [← hg]
            have i0 : (0 : Int) ≤ k := by omega
            have i1 : (k : Int) < n7 := by omega
            have i2 : (k : Int) < 13 := by omega
            have d0 : decide ((k : Int) < (n7 : Int)) = true := decide_eq_true (by omega)
            have d1 : decide (k < n7) = true := decide_eq_true hlt
            clear hb hc hg hgl hbl hv hvl hr
            go_wp2_with fail
            go_round
            case rel => exact ⟨k + 1, hlt, rfl, by rw [HNX.out, HRE.out]; first | rfl | rw [← HE3.out]⟩
            case measure => simp [intOf]; omega
          · obtain rfl : k = n7 := by omega
            have d0 : decide ((k : Int) < (k : Int)) = false := decide_eq_false (by omega)
            have d1 : decide (k < k) = false := decide_eq_false (by omega)
            obtain ⟨g, hg⟩ : ∃ g, g = hashG 2166136261 (z.take k) := ⟨_, rfl⟩
            have hgl : g < 4294967296 := by rw [hg]; exact hashG_lt (by decide) _
            have HG := Lib.hid (show hashF z = g by rw [hg, List.take_of_length_le (by rw [HZL.out]; exact Nat.le_refl _)]; rfl)
            have e4 : IntKind.u32.wrap (g : Int) = (g : Int) := wraps_u32 _ (by omega) (by omega)
            rw [← hg]
            clear hg hgl hk hlt hk13
            go_wp2_with fail
            go_ret2
            exact ⟨by rw [show hashB h p = z from HZ.out.symm, HG.out]; rfl, HBX.out⟩
      | false =>
        rw [hfr] at HFR
        have HFF := Lib.hid hfr
        clear hfr
        by_cases h4 : m < 4
        · have d4 : decide ((4 : Int) ≤ (m : Int)) = false := decide_eq_false (by omega)
          have HZN := Lib.hid (show hashP h p = [] by unfold hashP; rw [if_neg]; intro hh; have := hh.2.2; have := HM.out; omega)
          clear h4
          go_wp2_with fail
          refine HFR.out.mono ?_
          rintro e w5 ⟨rfl, hb5⟩
          have HB5 := Lib.hid hb5
          clear hb5 hl9 c7'
          obtain ⟨z, hz⟩ : ∃ z, z = hashB h p := ⟨_, rfl⟩
          have HROW := Lib.hid (show Reads w5 (fun k => k < w5.heap.size) 1 A7 n7 (bytesV z) from by rw [hz, show hashB h p = z0 from by unfold hashB; rw [HZN.out, List.append_nil, HZ0.out]]; exact (row_reads (HRW.out.below HB5.out)).mono fun _ h => h.2)
          have HZL := Lib.hid (show z.length = n7 from by rw [hz, show hashB h p = z0 from by unfold hashB; rw [HZN.out, List.append_nil, HZ0.out], HNZ.out])
          have HN13 := Lib.hid (show n7 ≤ 13 by have := HN7.out; omega)
          have HBX := Lib.hid (show Below w.heap.size w w5 from HB9.out.trans (HB5.out.mono HB9.out.size))
          have HZ := Lib.hid hz
          rw [← hz]
          clear hz
          go_wp2_with fail
          go_loop [8, 9] (fun v i => ∃ k : Nat, k ≤ n7 ∧ i = .int .i64 (k : Int) ∧ v = .int .u64 (hashG 2166136261 (z.take k) : Int)) (fun _ i => n7 - (intOf i).toNat)
          case atStart => exact ⟨0, Nat.zero_le _, rfl, rfl⟩
          case round =>
            obtain ⟨k, hk, rfl, rfl⟩ := hrel
            have hk13 := HN13.out
            by_cases hlt : k < n7
            · obtain ⟨b, hb⟩ : ∃ b, z[k]? = some b := ⟨z[k]'(by rw [HZL.out]; exact hlt), List.getElem?_eq_getElem _⟩
              obtain ⟨ad, rfl, _, _, hc⟩ := HROW.out.2 (by omega)
              have hcell : w5.cell? (ad.add k) = some (.int .u8 (b.toNat : Int)) := hc _ _ (by simp [bytesV, hb])
              have hld := load8 hcell
              obtain ⟨g, hg⟩ : ∃ g, g = hashG 2166136261 (z.take k) := ⟨_, rfl⟩
              have hgl : g < 4294967296 := by rw [hg]; exact hashG_lt (by decide) _
              have hbl := b.toNat_lt
              have HNX := Lib.hid (show hashG 2166136261 (z.take (k + 1)) = mixF g b by rw [take_snoc8 hb, hashG_snoc, hg])
              have e0 : IntKind.u64.wrap (b.toNat : Int) = (b.toNat : Int) := wraps_u64 _ (by omega) (by omega)
              have e1 := xor_u64 g b.toNat (by omega) (by omega)
              obtain ⟨v, hv⟩ : ∃ v, v = g ^^^ b.toNat := ⟨_, rfl⟩
              have hvl : v < 4294967296 := by rw [hv]; exact xor_lt hgl (by omega)
              have e2 := mul_u64 v hvl
              have e3 := mul_mod v
              obtain ⟨r, hr⟩ : ∃ r, r = v * 16777619 % 4294967296 := ⟨_, rfl⟩
              have HRE := Lib.hid (show mixF g b = r by rw [hr, hv]; rfl)
              have e4 : IntKind.u64.wrap (r : Int) = (r : Int) := wraps_u64 _ (by omega) (by omega)
              have v0 : (0 : Int) ≤ (v : Int) * 16777619 := by omega
              rw [← hv] at e1
              rw [← hr] at e3
              have HE3 := Lib.hid e3
              rw [← hg]
              have i0 : (0 : Int) ≤ k := by omega
              have i1 : (k : Int) < n7 := by omega
              have i2 : (k : Int) < 13 := by omega
              have d0 : decide ((k : Int) < (n7 : Int)) = true := decide_eq_true (by omega)
              have d1 : decide (k < n7) = true := decide_eq_true hlt
              clear hb hc hg hgl hbl hv hvl hr
              go_wp2_with fail
              go_round
              case rel => exact ⟨k + 1, hlt, rfl, by rw [HNX.out, HRE.out]; first | rfl | rw [← HE3.out]⟩
              case measure => simp [intOf]; omega
            · obtain rfl : k = n7 := by omega
              have d0 : decide ((k : Int) < (k : Int)) = false := decide_eq_false (by omega)
              have d1 : decide (k < k) = false := decide_eq_false (by omega)
              obtain ⟨g, hg⟩ : ∃ g, g = hashG 2166136261 (z.take k) := ⟨_, rfl⟩
              have hgl : g < 4294967296 := by rw [hg]; exact hashG_lt (by decide) _
              have HG := Lib.hid (show hashF z = g by rw [hg, List.take_of_length_le (by rw [HZL.out]; exact Nat.le_refl _)]; rfl)
              have e4 : IntKind.u32.wrap (g : Int) = (g : Int) := wraps_u32 _ (by omega) (by omega)
              rw [← hg]
              clear hg hgl hk hlt hk13
              go_wp2_with fail
              go_ret2
              exact ⟨by rw [show hashB h p = z from HZ.out.symm, HG.out]; rfl, HBX.out⟩
        · have d4 : decide ((4 : Int) ≤ (m : Int)) = true := decide_eq_true (by omega)
          have h4m : 4 ≤ m := by omega
          have HZN := Lib.hid (show hashP h p = p.take 4 by unfold hashP; rw [if_pos ⟨.inr H17P.out, HFF.out, by have := HM.out; omega⟩])
          clear h4
          go_wp2_with fail
          refine HFR.out.mono ?_
          rintro e w5 ⟨rfl, hb5⟩
          have HB5 := Lib.hid hb5
          have x2 : ∀ wx : World, (Instr.slice 22 (.slice Ap m cp) none (some (.int .i64 4)) none).run Try.prog wx = .ok (.slice Ap 4 cp) wx := fun wx => sl_hi Ap m cp wx 4 (by have := HCP.out; omega)
          have hp5 : Reads w5 (fun k => k < w1.heap.size) 1 Ap 4 (bytesV (p.take 4)) := by
            have := HP9.out.keep (Same.ofBelow HB5.out fun _ hk => Nat.lt_of_lt_of_le hk (by have := HK9.out.lt; have := HGH.out; omega))
            rw [HM.out] at this
            exact reads_take this (by have := HM.out; omega)
          have HP5 := Lib.hid hp5
          have HR5 := Lib.hid (HRW.out.below HB5.out)
          have hx63 : z0.length + 4 ≤ 140737488355328 := by have := HNZ.out; have := HN7.out; omega
          have HT4 := Lib.hid (show (p.take 4).length = 4 by rw [List.length_take]; have := HM.out; omega)
          have HBX5 := Lib.hid (HB9.out.trans (HB5.out.mono HB9.out.size))
          have HBS := Lib.hid (show B ≤ w5.heap.size by have := HB5.out.size; have := (HK9.out.lt); rw [HBE.out]; exact Nat.le_trans (Nat.le_refl _) (Nat.le_trans HW29.out HB5.out.size))
          clear hb5 hl9 c7' hp5
          go_wp2_with (at_builtin; refine wpList_app8 w5 rfl (.tmp 49) (.tmp 51) rfl rfl B _ z0 rfl HR5.out _ Ap 4 cp (p.take 4) rfl HT4.out HP5.out hx63 HBS.out ?_; intro v6 w6 h6 hg6 hz6; clear hz6; obtain ⟨A8, c8, rfl, _⟩ := h6.form; have H6 := Lib.hid h6; have HBY := Lib.hid (HBX5.out.grown hg6 HBX5.out.size fun g hg => Nat.le_trans HWB.out (own_lt HR5.out hg).1); have hl6 : (z0 ++ p.take 4 : By).length = n7 + 4 := (by rw [List.length_append, HT4.out, HNZ.out]); rw [hl6] at H6; rw [hl6]; clear h6 hg6 hl6)
          obtain ⟨n8, hn8⟩ : ∃ n, n = n7 + 4 := ⟨_, rfl⟩
          rw [← hn8] at H6 ⊢
          have HN8 := Lib.hid hn8
          clear hn8 x2 hx63
          obtain ⟨z, hz⟩ : ∃ z, z = hashB h p := ⟨_, rfl⟩
          have HROW := Lib.hid (show Reads w6 (fun k => k < w6.heap.size) 1 A8 n8 (bytesV z) from by rw [hz, show hashB h p = z0 ++ p.take 4 from by unfold hashB; rw [HZN.out, HZ0.out]]; exact (row_reads H6.out).mono fun _ h => h.2)
          have HZL := Lib.hid (show z.length = n8 from by rw [hz, show hashB h p = z0 ++ p.take 4 from by unfold hashB; rw [HZN.out, HZ0.out], List.length_append, HT4.out, HN8.out, HNZ.out])
          have HN13 := Lib.hid (show n8 ≤ 13 by have := HN7.out; have := HN8.out; omega)
          have HBX := Lib.hid (show Below w.heap.size w w6 from HBY.out)
          have HZ := Lib.hid hz
          rw [← hz]
          clear hz
          go_wp2_with fail
          go_loop [8, 9] (fun v i => ∃ k : Nat, k ≤ n8 ∧ i = .int .i64 (k : Int) ∧ v = .int .u64 (hashG 2166136261 (z.take k) : Int)) (fun _ i => n8 - (intOf i).toNat)
          case atStart => exact ⟨0, Nat.zero_le _, rfl, rfl⟩
          case round =>
            obtain ⟨k, hk, rfl, rfl⟩ := hrel
            have hk13 := HN13.out
            by_cases hlt : k < n8
            · obtain ⟨b, hb⟩ : ∃ b, z[k]? = some b := ⟨z[k]'(by rw [HZL.out]; exact hlt), List.getElem?_eq_getElem _⟩
              obtain ⟨ad, rfl, _, _, hc⟩ := HROW.out.2 (by omega)
              have hcell : w6.cell? (ad.add k) = some (.int .u8 (b.toNat : Int)) := hc _ _ (by simp [bytesV, hb])
              have hld := load8 hcell
              obtain ⟨g, hg⟩ : ∃ g, g = hashG 2166136261 (z.take k) := ⟨_, rfl⟩
              have hgl : g < 4294967296 := by rw [hg]; exact hashG_lt (by decide) _
              have hbl := b.toNat_lt
              have HNX := Lib.hid (show hashG 2166136261 (z.take (k + 1)) = mixF g b by rw [take_snoc8 hb, hashG_snoc, hg])
              have e0 : IntKind.u64.wrap (b.toNat : Int) = (b.toNat : Int) := wraps_u64 _ (by omega) (by omega)
              have e1 := xor_u64 g b.toNat (by omega) (by omega)
              obtain ⟨v, hv⟩ : ∃ v, v = g ^^^ b.toNat := ⟨_, rfl⟩
              have hvl : v < 4294967296 := by rw [hv]; exact xor_lt hgl (by omega)
              have e2 := mul_u64 v hvl
              have e3 := mul_mod v
              obtain ⟨r, hr⟩ : ∃ r, r = v * 16777619 % 4294967296 := ⟨_, rfl⟩
              have HRE := Lib.hid (show mixF g b = r by rw [hr, hv]; rfl)
              have e4 : IntKind.u64.wrap (r : Int) = (r : Int) := wraps_u64 _ (by omega) (by omega)
              have v0 : (0 : Int) ≤ (v : Int) * 16777619 := by omega
              rw [← hv] at e1
              rw [← hr] at e3
              have HE3 := Lib.hid e3
              rw [← hg]
              have i0 : (0 : Int) ≤ k := by omega
              have i1 : (k : Int) < n8 := by omega
              have i2 : (k : Int) < 13 := by omega
              have d0 : decide ((k : Int) < (n8 : Int)) = true := decide_eq_true (by omega)
              have d1 : decide (k < n8) = true := decide_eq_true hlt
              clear hb hc hg hgl hbl hv hvl hr
              go_wp2_with fail
              go_round
              case rel => exact ⟨k + 1, hlt, rfl, by rw [HNX.out, HRE.out]; first | rfl | rw [← HE3.out]⟩
              case measure => simp [intOf]; omega
            · obtain rfl : k = n8 := by omega
              have d0 : decide ((k : Int) < (k : Int)) = false := decide_eq_false (by omega)
              have d1 : decide (k < k) = false := decide_eq_false (by omega)
              obtain ⟨g, hg⟩ : ∃ g, g = hashG 2166136261 (z.take k) := ⟨_, rfl⟩
              have hgl : g < 4294967296 := by rw [hg]; exact hashG_lt (by decide) _
              have HG := Lib.hid (show hashF z = g by rw [hg, List.take_of_length_le (by rw [HZL.out]; exact Nat.le_refl _)]; rfl)
              have e4 : IntKind.u32.wrap (g : Int) = (g : Int) := wraps_u32 _ (by omega) (by omega)
              rw [← hg]
              clear hg hgl hk hlt hk13
              go_wp2_with fail
              go_ret2
              exact ⟨by rw [show hashB h p = z from HZ.out.symm, HG.out]; rfl, HBX.out⟩
    have e17 : ((h.proto : Int) == 17) = false := by rw [beq_eq_false_iff_ne]; omega
    have HZN := Lib.hid (show hashP h p = [] by unfold hashP; rw [if_neg]; intro hh; rcases hh.1 with hh | hh; exact h6 hh; exact h17 hh)
    clear h6 h17
    go_upto_region 7 with (fail)
    clear hl9 c7'
    obtain ⟨z, hz⟩ : ∃ z, z = hashB h p := ⟨_, rfl⟩
    have HROW := Lib.hid (show Reads w9 (fun k => k < w9.heap.size) 1 A7 n7 (bytesV z) from by rw [hz, show hashB h p = z0 from by unfold hashB; rw [HZN.out, List.append_nil, HZ0.out]]; exact (row_reads HRW.out).mono fun _ h => h.2)
    have HZL := Lib.hid (show z.length = n7 from by rw [hz, show hashB h p = z0 from by unfold hashB; rw [HZN.out, List.append_nil, HZ0.out], HNZ.out])
    have HN13 := Lib.hid (show n7 ≤ 13 by have := HN7.out; omega)
    have HBX := Lib.hid (show Below w.heap.size w w9 from HB9.out)
    have HZ := Lib.hid hz
    rw [← hz]
    clear hz
    go_wp2_with fail
    go_loop [8, 9] (fun v i => ∃ k : Nat, k ≤ n7 ∧ i = .int .i64 (k : Int) ∧ v = .int .u64 (hashG 2166136261 (z.take k) : Int)) (fun _ i => n7 - (intOf i).toNat)
    case atStart => exact ⟨0, Nat.zero_le _, rfl, rfl⟩
    case round =>
      obtain ⟨k, hk, rfl, rfl⟩ := hrel
      have hk13 := HN13.out
      by_cases hlt : k < n7
      · obtain ⟨b, hb⟩ : ∃ b, z[k]? = some b := ⟨z[k]'(by rw [HZL.out]; exact hlt), List.getElem?_eq_getElem _⟩
        obtain ⟨ad, rfl, _, _, hc⟩ := HROW.out.2 (by omega)
        have hcell : w9.cell? (ad.add k) = some (.int .u8 (b.toNat : Int)) := hc _ _ (by simp [bytesV, hb])
        have hld := load8 hcell
        obtain ⟨g, hg⟩ : ∃ g, g = hashG 2166136261 (z.take k) := ⟨_, rfl⟩
        have hgl : g < 4294967296 := by rw [hg]; exact hashG_lt (by decide) _
        have hbl := b.toNat_lt
        have HNX := Lib.hid (show hashG 2166136261 (z.take (k + 1)) = mixF g b by rw [take_snoc8 hb, hashG_snoc, hg])
        have e0 : IntKind.u64.wrap (b.toNat : Int) = (b.toNat : Int) := wraps_u64 _ (by omega) (by omega)
        have e1 := xor_u64 g b.toNat (by omega) (by omega)
        obtain ⟨v, hv⟩ : ∃ v, v = g ^^^ b.toNat := ⟨_, rfl⟩
        have hvl : v < 4294967296 := by rw [hv]; exact xor_lt hgl (by omega)
        have e2 := mul_u64 v hvl
        have e3 := mul_mod v
        obtain ⟨r, hr⟩ : ∃ r, r = v * 16777619 % 4294967296 := ⟨_, rfl⟩
        have HRE := Lib.hid (show mixF g b = r by rw [hr, hv]; rfl)
        have e4 : IntKind.u64.wrap (r : Int) = (r : Int) := wraps_u64 _ (by omega) (by omega)
        have v0 : (0 : Int) ≤ (v : Int) * 16777619 := by omega
        rw [← hv] at e1
        rw [← hr] at e3
        have HE3 := Lib.hid e3
        rw [← hg]
        have i0 : (0 : Int) ≤ k := by omega
        have i1 : (k : Int) < n7 := by omega
        have i2 : (k : Int) < 13 := by omega
        have d0 : decide ((k : Int) < (n7 : Int)) = true := decide_eq_true (by omega)
        have d1 : decide (k < n7) = true := decide_eq_true hlt
        clear hb hc hg hgl hbl hv hvl hr
        go_wp2_with fail
        go_round
        case rel => exact ⟨k + 1, hlt, rfl, by rw [HNX.out, HRE.out]; first | rfl | rw [← HE3.out]⟩
        case measure => simp [intOf]; omega
      · obtain rfl : k = n7 := by omega
        have d0 : decide ((k : Int) < (k : Int)) = false := decide_eq_false (by omega)
        have d1 : decide (k < k) = false := decide_eq_false (by omega)
        obtain ⟨g, hg⟩ : ∃ g, g = hashG 2166136261 (z.take k) := ⟨_, rfl⟩
        have hgl : g < 4294967296 := by rw [hg]; exact hashG_lt (by decide) _
        have HG := Lib.hid (show hashF z = g by rw [hg, List.take_of_length_le (by rw [HZL.out]; exact Nat.le_refl _)]; rfl)
        have e4 : IntKind.u32.wrap (g : Int) = (g : Int) := wraps_u32 _ (by omega) (by omega)
        rw [← hg]
        clear hg hgl hk hlt hk13
        go_wp2_with fail
        go_ret2
        exact ⟨by rw [show hashB h p = z from HZ.out.symm, HG.out]; rfl, HBX.out⟩
end Go.Proofs.Ytfddkehnhkfjeaa
