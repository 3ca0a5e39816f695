/- Frag: the closure piece (Pieces$2). -/
import Derived.Test.YtfddkehnhkfjeaaFrA
import Derived.Test.YtfddkehnhkfjeaaFrC
import Derived.Test.YtfddkehnhkfjeaaIlF
import Derived.Test.YtfddkehnhkfjeaaIpB
import Derived.Lib.QuietBelow
namespace Go.Proofs.Ytfddkehnhkfjeaa
open Go.RowKit Go.Sort Go.BigFrame
/-- A header with nothing but options. -/
def optH (o : By) : Hd := ⟨0, 0, false, false, false, 0, 0, 0, 0, 0, o⟩
theorem st_int {w : World} {g i : Nat} {u : Value} (hu : w.cell? ⟨g, i, none⟩ = some u) (hf : w.frozen? ⟨g, i, none⟩ = false) (z : Int) : (Instr.storeAt 3 (.pointer (some ⟨g, i, none⟩)) (.int .i64 z)).run Try.prog w = .ok () (w.setCell ⟨g, i, none⟩ (.int .i64 z)) := by
  simp [go_sem, hu, hf]
theorem st_true {w : World} {g i : Nat} {u : Value} (hu : w.cell? ⟨g, i, none⟩ = some u) (hf : w.frozen? ⟨g, i, none⟩ = false) : (Instr.storeAt 4 (.pointer (some ⟨g, i, none⟩)) (.bool true)).run Try.prog w = .ok () (w.setCell ⟨g, i, none⟩ (.bool true)) := by
  simp [go_sem, hu, hf]
theorem st_8s {w : World} {g i : Nat} {u : Value} (hu : w.cell? ⟨g, i, none⟩ = some u) (hf : w.frozen? ⟨g, i, none⟩ = false) (A : Option Addr) (n c : Nat) : (Instr.storeAt 22 (.pointer (some ⟨g, i, none⟩)) (.slice A n c)).run Try.prog w = .ok () (w.setCell ⟨g, i, none⟩ (.slice A n c)) := by
  simp [go_sem, hu, hf]
theorem ld_int {w : World} {a : Addr} {z : Int} (hu : w.cell? a = some (.int .i64 z)) : (Instr.loadAt 3 (.pointer (some a))).run Try.prog w = .ok (.int .i64 z) w := by
  simp [go_sem, hu]
theorem res_hd1 {w : World} {g : Nat} {cs : Array Value} {fn : Func} {p u : Tmp} (hf : fn.results = #[.cell p 28, .tmp u]) (tmps : Array Value) (hp : tmps.getD p undef = .pointer (some ⟨g, 0, none⟩)) (h : Blk w g 28 cs) (hc : cs.size = 11) :
    (results fn tmps).run Try.prog w = .ok (.tuple #[.agg cs, tmps.getD u undef]) w := by
  have hl := run_loadVar_mid (P := Try.prog) w g 0 28 cs.toList _ (blk_range h) Try.underlying28 rfl (by simpa [hc] using hd_info)
  have e1 : tmps[p]?.getD undef = .pointer (some ⟨g, 0, none⟩) := by simpa using hp
  simp only [results, hf]
  simp [Result.andThen, e1, asAddr, hl]
/-- Within piece: the result's variable, x's. -/
structure PgS (w wx : World) (bs : Nat) (g : Hd) (v : Value) : Prop where
  below : Below w.heap.size w wx
  res : ∃ cs, Blk wx w.heap.size 28 cs ∧ cs.size = 11
  var : Blk wx bs 28 (hdC g v)
  lt : w.heap.size < bs
section
variable {w wx wy : World} {bs : Nat} {g : Hd} {v : Value}
theorem PgS.keep (h : PgS w wx bs g v) (hb : Below wx.heap.size wx wy) : PgS w wy bs g v := by
  obtain ⟨cs, h1, h2⟩ := h.res
  exact ⟨h.below.trans (hb.mono h.below.size), ⟨cs, h1.below hb h1.lt, h2⟩, h.var.below hb h.var.lt, h.lt⟩
theorem PgS.set (h : PgS w wx bs g v) (i : Nat) (u : Value) {g2 : Hd} {v2 : Value} (e : (hdC g v).setIfInBounds i u = hdC g2 v2) : PgS w (wx.setCell ⟨bs, i, none⟩ u) bs g2 v2 := by
  obtain ⟨cs, h1, h2⟩ := h.res
  refine ⟨h.below.setCell (p := ⟨bs, i, none⟩) (Nat.le_of_lt h.lt) _, ⟨cs, ?_, h2⟩, ?_, h.lt⟩
  · exact h1.far (p := ⟨bs, i, none⟩) (Nat.ne_of_lt h.lt) u
  · rw [← e]; exact h.var.set_ i u
end
def PgPost (h : Hd) (L m at_ : Nat) (w : World) (e : Ending) (w' : World) : Prop :=
  ∃ v2, e = .returned (.tuple #[hdV (pcF h L m at_).1 v2, .int .i64 ((pcF h L m at_).2 : Int)]) ∧ Sl8 w' (fun k => k < w'.heap.size) v2 (pcF h L m at_).1.opts ∧ Below w.heap.size w w'
attribute [-go_sem] Instr.storeAt Instr.loadAt in
set_option maxRecDepth 100000 in
set_option maxHeartbeats 8000000 in
theorem piece_any (h : Hd) (A1 : Option Addr) (n1 c1 bh bp bm : Nat) (Ap : Option Addr) (L cp : Nat) (m : Int) (at_ : Nat) (w : World) (hbh : Blk w bh 28 (hdC h (.slice A1 n1 c1))) (hbp : Blk w bp 22 #[.slice Ap L cp]) (hbm : Blk w bm 3 #[.int .i64 m]) (hv : Sl8 w (fun k => k < w.heap.size) (.slice A1 n1 c1) h.opts) (hmay : mayH h = true) (h68 : 68 ≤ m) (hm2 : m ≤ 65535) (hlt : at_ < L) (hL : L ≤ 1000000) :
    Calls Try.prog 94 #[.int .i64 (at_ : Int), .pointer (some ⟨bh, 0, none⟩), .pointer (some ⟨bp, 0, none⟩), .pointer (some ⟨bm, 0, none⟩)] w (PgPost h L m.toNat at_ w) := by
  obtain ⟨W0, hW0⟩ : ∃ W0, W0 = w.alloc (.cells #[.int .u8 0, .int .u16 0, .bool false, .bool false, .bool false, .int .i64 0, .int .u8 0, .int .u8 0, .int .u32 0, .int .u32 0, .slice none 0 0] 28) := ⟨_, rfl⟩
  have hb0 : Below w.heap.size w W0 := by rw [hW0]; exact (Below.refl _ _).alloc (Nat.le_refl _) _
  have hr0 : Blk W0 w.heap.size 28 #[.int .u8 0, .int .u16 0, .bool false, .bool false, .bool false, .int .i64 0, .int .u8 0, .int .u8 0, .int .u32 0, .int .u32 0, .slice none 0 0] := by rw [hW0]; exact Blk.new _ _ _
  have hl1 := hd_load (hbh.below hb0 hbh.lt) rfl
  obtain ⟨W2, hst2, hb2, hb02, hk2⟩ := hd_var hb0 hb0.size h A1 n1 c1
  have hst : (Instr.storeAt 28 (.pointer (some ⟨W0.heap.size, 0, none⟩)) (.agg (hdC h (.slice A1 n1 c1)))).run Try.prog (W0.alloc (.cells #[.int .u8 0, .int .u16 0, .bool false, .bool false, .bool false, .int .i64 0, .int .u8 0, .int .u8 0, .int .u32 0, .int .u32 0, .slice none 0 0] 28)) = .ok () W2 := hst2
  clear hst2
  have q5 := ld_int (hk2.cell 5)
  have f5 := st_int (hk2.cell 5) (hk2.frozen 5) (h.off + (at_ : Int) / 8)
  obtain ⟨hg, h40, h4, ho0, ho1⟩ := may_opts hmay
  have e0 : 0 ≤ h.off + (at_ : Int) / 8 := by omega
  have e1 : h.off + (at_ : Int) / 8 < 1000000000 := by omega
  obtain ⟨hc40, hc4⟩ := cop_le h4
  have hs0 : W0.heap.size = w.heap.size + 1 := by rw [hW0]; simp
  have hpg : PgS w W2 W0.heap.size h (.slice A1 n1 c1) := ⟨hb2, ⟨_, hr0.below hb02 hr0.lt, rfl⟩, hk2, by omega⟩
  obtain ⟨F, hF⟩ : ∃ F, F = pcF h L m.toNat at_ := ⟨_, rfl⟩
  have HF := Lib.hid hF
  unfold PgPost
  rw [← hF]
  obtain ⟨bs, hbs⟩ : ∃ bs, bs = W0.heap.size := ⟨_, rfl⟩
  have HW0 := Lib.hid hW0
  have HPG := Lib.hid hpg
  have HBH := Lib.hid hbh
  have HBP := Lib.hid hbp
  have HBM := Lib.hid hbm
  have HV := Lib.hid hv
  have HGD := Lib.hid hg
  have HC4 := Lib.hid hc4
  clear hW0 hb0 hbh hb2 hb02 hk2 hpg hr0 hbp hbm hv hF hs0
  go_enter Try.func94, Try.ntmps94
  go_upto_region 1 with (fail)
  rw [← HW0.out]
  go_upto_region 3 with (fail)
  obtain ⟨W3, hW3⟩ : ∃ W3, W3 = W2.setCell ⟨W0.heap.size, 5, none⟩ (.int .i64 (h.off + (at_ : Int) / 8)) := ⟨_, rfl⟩
  rw [← hW3]
  obtain ⟨h3, hh3⟩ : ∃ h3 : Hd, h3 = { h with off := h.off + (at_ : Int) / 8 } := ⟨_, rfl⟩
  have pg3 : PgS w W3 W0.heap.size h3 (.slice A1 n1 c1) := by rw [hW3, hh3]; exact HPG.out.set 5 _ rfl
  rw [← hbs] at pg3 HPG ⊢
  have PG3 := Lib.hid pg3
  have p3 := ld8s ((HBP.out.below pg3.below HBP.out.lt).cell 0)
  have HH3 := Lib.hid hh3
  clear hW3 hst hl1 q5 f5 pg3 HPG hh3 hbs
  by_cases hat : at_ = 0
  · subst hat
    obtain ⟨o, ho⟩ : ∃ o, o = h.opts := ⟨_, rfl⟩
    have ho40 : o.length ≤ 40 := by rw [ho]; exact h40
    have hgo : goodF o = true ∧ o.length % 4 = 0 := by rw [ho]; exact ⟨HGD.out, h4⟩
    have hsl := HV.out.keep (Same.ofBelow PG3.out.below fun k hk => hk)
    have hsl3 : Sl8 W3 (fun k => k < W3.heap.size ∧ k ≠ bs ∧ k ≠ w.heap.size) (.slice A1 n1 c1) o := by rw [ho]; exact hsl.mono fun k hk => ⟨Nat.lt_of_lt_of_le hk PG3.out.below.size, by have := PG3.out.lt; omega, by omega⟩
    have hF0 : F = if m.toNat - (20 + o.length) < L - 0 then ({ h3 with opts := o, mf := true }, (m.toNat - (20 + o.length)) / 8 * 8) else ({ h3 with opts := o }, L - 0) := by
      rw [HF.out, HH3.out, ho]
      unfold pcF
      simp
    have pg4 : PgS w W3 bs { h3 with opts := o } (.slice A1 n1 c1) := ⟨PG3.out.below, PG3.out.res, PG3.out.var, PG3.out.lt⟩
    have PG := Lib.hid pg4
    have HF0 := Lib.hid hF0
    have HGO := Lib.hid hgo
    have HSL := Lib.hid hsl3
    clear hsl hsl3 ho hF0 hgo pg4 PG3 HF HV HGD hc40 HC4 h40 h4
    go_upto_region 6 with (fail)
    have hso : sizeH (optH o) = 20 + o.length := by
      unfold sizeH
      rw [if_pos (by unfold mayH optH; simp [HGO.out.1, HGO.out.2, ho40])]
      rfl
    have hcs := fun (d : Nat) (os : Array Obj) => Calls.regrown_of (size_any (optH o) (.slice A1 n1 c1) (fun k => k < W3.heap.size ∧ k ≠ bs ∧ k ≠ w.heap.size) (grow (redrawn W3 d) os) (HSL.out.keep (Same.ofBelow (below_regrown W3 d os) fun k hk => hk.1)) (show o.length ≤ 1000000 by omega))
    rw [hso] at hcs
    have k0 := cell_regrown ((HBM.out.below PG.out.below HBM.out.lt).cell 0)
    have k1 := cell_regrown (PG.out.var.cell 10)
    have l0 := fun d os => ld_int (k0 d os)
    have l1 := fun d os => ld8s (k1 d os)
    unfold optH hdV at hcs
    clear k0 k1 p3
    refine wp_region_quiet_below (by kernel_rfl) (by kernel_rfl) ?_
    repeat (go_big_quiet_step (exact hcs _ _))
    refine wpQuiet_nil ?_
    intro _ hw'
    obtain ⟨⟨dq, osq⟩, hw''⟩ := hw'
    subst hw''
    clear hcs l0 l1
    have hbq := below_regrown W3 dq osq
    generalize grow (redrawn W3 dq) osq = wq at hbq
    have pgq := PG.out.keep hbq
    have hslq := HSL.out.keep (Same.ofBelow hbq fun k hk => hk.1)
    have HSQ := Lib.hid (hslq.mono (J := fun k => k < wq.heap.size ∧ k ≠ bs ∧ k ≠ w.heap.size) fun k hk => ⟨Nat.lt_of_lt_of_le hk.1 hbq.size, hk.2⟩)
    clear hslq hbq
    by_cases hr : m.toNat - (20 + o.length) < L - 0
    · have hF1 := HF0.out
      rw [if_pos hr] at hF1
      obtain ⟨W6, hW6⟩ : ∃ W6, W6 = wq.setCell ⟨bs, 4, none⟩ (.bool true) := ⟨_, rfl⟩
      have f4 := st_true (pgq.var.cell 4) (pgq.var.frozen 4)
      rw [← hW6] at f4
      have pg6 : PgS w W6 bs { h3 with opts := o, mf := true } (.slice A1 n1 c1) := by rw [hW6]; exact pgq.set 4 _ rfl
      have hl6 := hd_load pg6.var rfl
      obtain ⟨cs6, hr6, hc6⟩ := pg6.res
      have hst6 := hd_store (vs := hdC { h3 with opts := o, mf := true } (.slice A1 n1 c1)) hr6 hc6 rfl (by simp [hdC, Value.oneCell'])
      have hsl6 := (HSQ.out.keep ((upd_set wq bs 4 (.bool true)).same fun k hk hi => hi.2.1 hk))
      rw [← hW6] at hsl6
      clear hW6
      have hsl7 := hsl6.keep ((Upd.setCells (hdC { h3 with opts := o, mf := true } (.slice A1 n1 c1)).toList 0 _ (Upd.refl (fun k => k = w.heap.size) W6) (.inl rfl)).same fun k hk hi => hi.2.2 hk)
      have hr7 := blk_setCells (vs := hdC { h3 with opts := o, mf := true } (.slice A1 n1 c1)) hr6 hc6
      have hb7 := below_setCells (Nat.le_refl _) (hdC { h3 with opts := o, mf := true } (.slice A1 n1 c1)).toList 0 _ pg6.below
      obtain ⟨W7, hW7⟩ : ∃ W7, W7 = W6.setCells w.heap.size 0 (hdC { h3 with opts := o, mf := true } (.slice A1 n1 c1)).toList := ⟨_, rfl⟩
      rw [← hW7] at hst6 hsl7 hr7 hb7
      have hn : (m - (20 + (o.length : Int))) / 8 * 8 = (((m.toNat - (20 + o.length)) / 8 * 8 : Nat) : Int) := by omega
      have HN := Lib.hid hn
      have HSL7 := Lib.hid hsl7
      have HR7 := Lib.hid hr7
      have HB7 := Lib.hid hb7
      have HF1 := Lib.hid hF1
      clear hsl6 hsl7 hr7 hb7 hW7 hr6 hc6 pg6 pgq hF1 hn
      go_wp2_with fail
      refine bodyPost_ret_by (res_hd1 rfl _ rfl HR7.out rfl) rfl ?_
      rw [HF1.out]
      refine ⟨_, ?_, HSL7.out.lt.mono fun k hk => hk.2, HB7.out⟩
      simp only
      rw [← HN.out]
      rfl
    · have hF1 := HF0.out
      rw [if_neg hr] at hF1
      have pg6 := pgq
      have hl6 := hd_load pg6.var rfl
      obtain ⟨cs6, hr6, hc6⟩ := pg6.res
      have hst6 := hd_store (vs := hdC { h3 with opts := o } (.slice A1 n1 c1)) hr6 hc6 rfl (by simp [hdC, Value.oneCell'])
      have hsl6 := HSQ.out
      have hsl7 := hsl6.keep ((Upd.setCells (hdC { h3 with opts := o } (.slice A1 n1 c1)).toList 0 _ (Upd.refl (fun k => k = w.heap.size) wq) (.inl rfl)).same fun k hk hi => hi.2.2 hk)
      have hr7 := blk_setCells (vs := hdC { h3 with opts := o } (.slice A1 n1 c1)) hr6 hc6
      have hb7 := below_setCells (Nat.le_refl _) (hdC { h3 with opts := o } (.slice A1 n1 c1)).toList 0 _ pg6.below
      obtain ⟨W7, hW7⟩ : ∃ W7, W7 = wq.setCells w.heap.size 0 (hdC { h3 with opts := o } (.slice A1 n1 c1)).toList := ⟨_, rfl⟩
      rw [← hW7] at hst6 hsl7 hr7 hb7
      have hn : (L : Int) - ((0 : Nat) : Int) = ((L - 0 : Nat) : Int) := by omega
      have HN := Lib.hid hn
      have HSL7 := Lib.hid hsl7
      have HR7 := Lib.hid hr7
      have HB7 := Lib.hid hb7
      have HF1 := Lib.hid hF1
      clear hsl6 hsl7 hr7 hb7 hW7 hr6 hc6 pg6 pgq hF1 hn
      go_wp2_with fail
      refine bodyPost_ret_by (res_hd1 rfl _ rfl HR7.out rfl) rfl ?_
      rw [HF1.out]
      refine ⟨_, ?_, HSL7.out.lt.mono fun k hk => hk.2, HB7.out⟩
      simp only
      rw [← HN.out]
      rfl
  · have ha : (0 : Int) < at_ := by omega
    obtain ⟨o, ho⟩ : ∃ o, o = copF h.opts := ⟨_, rfl⟩
    have ho40 : o.length ≤ 40 := by rw [ho]; omega
    have hgo : goodF o = true ∧ o.length % 4 = 0 := by rw [ho]; exact ⟨good_cop _, HC4.out⟩
    have hF0 : F = if m.toNat - (20 + o.length) < L - at_ then ({ h3 with opts := o, mf := true }, (m.toNat - (20 + o.length)) / 8 * 8) else ({ h3 with opts := o }, L - at_) := by
      have e : (if 0 < at_ then copF h.opts else h.opts) = copF h.opts := if_pos (by omega)
      rw [HF.out, HH3.out, ho]
      unfold pcF
      simp only [e]
      simp
    have hl3 := ld8s ((HBH.out.below PG3.out.below HBH.out.lt).cell 10)
    have hcp := copied_any (.slice A1 n1 c1) h.opts (fun k => k < w.heap.size) W3 (HV.out.keep (Same.ofBelow PG3.out.below fun k hk => hk)) (show h.opts.length ≤ 1000000 by omega)
    have HF0 := Lib.hid hF0
    have HGO := Lib.hid hgo
    have HCP := Lib.hid hcp
    have HO := Lib.hid ho
    clear ho hF0 hgo HF HV HGD hc40 HC4 h40 h4 hcp
    go_wp2_with fail
    refine HCP.out.mono ?_
    rintro e w4 ⟨v4, rfl, hr4, hb4⟩
    rw [← HO.out] at hr4
    obtain ⟨A4, c4, rfl, _⟩ := hr4.form
    have pg4 := PG3.out.keep hb4
    have f10 := st_8s (pg4.var.cell 10) (pg4.var.frozen 10) A4 o.length c4
    obtain ⟨W5, hW5⟩ : ∃ W5, W5 = w4.setCell ⟨bs, 10, none⟩ (.slice A4 o.length c4) := ⟨_, rfl⟩
    have pg5 : PgS w W5 bs { h3 with opts := o } (.slice A4 o.length c4) := by rw [hW5]; exact pg4.set 10 _ rfl
    have hu5 : Same (fun k => W3.heap.size ≤ k ∧ k < w4.heap.size) w4 W5 := by rw [hW5]; exact (upd_set w4 bs 10 _).same fun k (hk : k = bs) hh => by have := PG3.out.var.lt; omega
    have hsl5 : Sl8 W5 (fun k => k < W5.heap.size ∧ k ≠ bs ∧ k ≠ w.heap.size) (.slice A4 o.length c4) o := (hr4.sl.keep hu5).mono fun k hk => ⟨Nat.lt_of_lt_of_le hk.2 hu5.1, by have := PG3.out.var.lt; omega, by have := PG3.out.var.lt; have := PG3.out.lt; omega⟩
    have p5 := ld8s ((HBP.out.below pg5.below HBP.out.lt).cell 0)
    rw [← hW5] at f10
    have PG := Lib.hid pg5
    have HSL := Lib.hid hsl5
    clear pg4 pg5 hr4 hb4 hW5 hu5 hsl5 PG3 p3
    go_upto_region 6 with (fail)
    have hso : sizeH (optH o) = 20 + o.length := by
      unfold sizeH
      rw [if_pos (by unfold mayH optH; simp [HGO.out.1, HGO.out.2, ho40])]
      rfl
    have hcs := fun (d : Nat) (os : Array Obj) => Calls.regrown_of (size_any (optH o) (.slice A4 o.length c4) (fun k => k < W5.heap.size ∧ k ≠ bs ∧ k ≠ w.heap.size) (grow (redrawn W5 d) os) (HSL.out.keep (Same.ofBelow (below_regrown W5 d os) fun k hk => hk.1)) (show o.length ≤ 1000000 by omega))
    rw [hso] at hcs
    have k0 := cell_regrown ((HBM.out.below PG.out.below HBM.out.lt).cell 0)
    have k1 := cell_regrown (PG.out.var.cell 10)
    have l0 := fun d os => ld_int (k0 d os)
    have l1 := fun d os => ld8s (k1 d os)
    unfold optH hdV at hcs
    clear k0 k1 p5
    refine wp_region_quiet_below (by kernel_rfl) (by kernel_rfl) ?_
    repeat (go_big_quiet_step (exact hcs _ _))
    refine wpQuiet_nil ?_
    intro _ hw'
    obtain ⟨⟨dq, osq⟩, hw''⟩ := hw'
    subst hw''
    clear hcs l0 l1
    have hbq := below_regrown W5 dq osq
    generalize grow (redrawn W5 dq) osq = wq at hbq
    have pgq := PG.out.keep hbq
    have hslq := HSL.out.keep (Same.ofBelow hbq fun k hk => hk.1)
    have HSQ := Lib.hid (hslq.mono (J := fun k => k < wq.heap.size ∧ k ≠ bs ∧ k ≠ w.heap.size) fun k hk => ⟨Nat.lt_of_lt_of_le hk.1 hbq.size, hk.2⟩)
    clear hslq hbq
    by_cases hr : m.toNat - (20 + o.length) < L - at_
    · have hF1 := HF0.out
      rw [if_pos hr] at hF1
      obtain ⟨W6, hW6⟩ : ∃ W6, W6 = wq.setCell ⟨bs, 4, none⟩ (.bool true) := ⟨_, rfl⟩
      have f4 := st_true (pgq.var.cell 4) (pgq.var.frozen 4)
      rw [← hW6] at f4
      have pg6 : PgS w W6 bs { h3 with opts := o, mf := true } (.slice A4 o.length c4) := by rw [hW6]; exact pgq.set 4 _ rfl
      have hl6 := hd_load pg6.var rfl
      obtain ⟨cs6, hr6, hc6⟩ := pg6.res
      have hst6 := hd_store (vs := hdC { h3 with opts := o, mf := true } (.slice A4 o.length c4)) hr6 hc6 rfl (by simp [hdC, Value.oneCell'])
      have hsl6 := (HSQ.out.keep ((upd_set wq bs 4 (.bool true)).same fun k hk hi => hi.2.1 hk))
      rw [← hW6] at hsl6
      clear hW6
      have hsl7 := hsl6.keep ((Upd.setCells (hdC { h3 with opts := o, mf := true } (.slice A4 o.length c4)).toList 0 _ (Upd.refl (fun k => k = w.heap.size) W6) (.inl rfl)).same fun k hk hi => hi.2.2 hk)
      have hr7 := blk_setCells (vs := hdC { h3 with opts := o, mf := true } (.slice A4 o.length c4)) hr6 hc6
      have hb7 := below_setCells (Nat.le_refl _) (hdC { h3 with opts := o, mf := true } (.slice A4 o.length c4)).toList 0 _ pg6.below
      obtain ⟨W7, hW7⟩ : ∃ W7, W7 = W6.setCells w.heap.size 0 (hdC { h3 with opts := o, mf := true } (.slice A4 o.length c4)).toList := ⟨_, rfl⟩
      rw [← hW7] at hst6 hsl7 hr7 hb7
      have hn : (m - (20 + (o.length : Int))) / 8 * 8 = (((m.toNat - (20 + o.length)) / 8 * 8 : Nat) : Int) := by omega
      have HN := Lib.hid hn
      have HSL7 := Lib.hid hsl7
      have HR7 := Lib.hid hr7
      have HB7 := Lib.hid hb7
      have HF1 := Lib.hid hF1
      clear hsl6 hsl7 hr7 hb7 hW7 hr6 hc6 pg6 pgq hF1 hn
      go_wp2_with fail
      refine bodyPost_ret_by (res_hd1 rfl _ rfl HR7.out rfl) rfl ?_
      rw [HF1.out]
      refine ⟨_, ?_, HSL7.out.lt.mono fun k hk => hk.2, HB7.out⟩
      simp only
      rw [← HN.out]
      rfl
    · have hF1 := HF0.out
      rw [if_neg hr] at hF1
      have pg6 := pgq
      have hl6 := hd_load pg6.var rfl
      obtain ⟨cs6, hr6, hc6⟩ := pg6.res
      have hst6 := hd_store (vs := hdC { h3 with opts := o } (.slice A4 o.length c4)) hr6 hc6 rfl (by simp [hdC, Value.oneCell'])
      have hsl6 := HSQ.out
      have hsl7 := hsl6.keep ((Upd.setCells (hdC { h3 with opts := o } (.slice A4 o.length c4)).toList 0 _ (Upd.refl (fun k => k = w.heap.size) wq) (.inl rfl)).same fun k hk hi => hi.2.2 hk)
      have hr7 := blk_setCells (vs := hdC { h3 with opts := o } (.slice A4 o.length c4)) hr6 hc6
      have hb7 := below_setCells (Nat.le_refl _) (hdC { h3 with opts := o } (.slice A4 o.length c4)).toList 0 _ pg6.below
      obtain ⟨W7, hW7⟩ : ∃ W7, W7 = wq.setCells w.heap.size 0 (hdC { h3 with opts := o } (.slice A4 o.length c4)).toList := ⟨_, rfl⟩
      rw [← hW7] at hst6 hsl7 hr7 hb7
      have hn : (L : Int) - ((at_ : Nat) : Int) = ((L - at_ : Nat) : Int) := by omega
      have HN := Lib.hid hn
      have HSL7 := Lib.hid hsl7
      have HR7 := Lib.hid hr7
      have HB7 := Lib.hid hb7
      have HF1 := Lib.hid hF1
      clear hsl6 hsl7 hr7 hb7 hW7 hr6 hc6 pg6 pgq hF1 hn
      go_wp2_with fail
      refine bodyPost_ret_by (res_hd1 rfl _ rfl HR7.out rfl) rfl ?_
      rw [HF1.out]
      refine ⟨_, ?_, HSL7.out.lt.mono fun k hk => hk.2, HB7.out⟩
      simp only
      rw [← HN.out]
      rfl
end Go.Proofs.Ytfddkehnhkfjeaa
