/- Layer 16: the document's Take. -/
import Derived.Test.YtihfihehiifdkaaRzD
import Derived.Test.YtihfihehiifdkaaIrD
namespace Go.Proofs.Ytihfihehiifdkaa
open Go.RowKit Go.Sort Go.BigFrame
attribute [local go_sem] comesV_value comesV_skip comesV_enter
def setMany : List Value → Nat → List Value → List Value
  | xs, _, [] => xs
  | xs, o, u :: us => setMany (xs.set o u) (o + 1) us
theorem setMany_get : ∀ (us : List Value) (xs : List Value) (o j : Nat), o + us.length ≤ xs.length → (setMany xs o us)[j]? = if o ≤ j ∧ j < o + us.length then us[j - o]? else xs[j]?
  | [], xs, o, j, _ => by
    rw [if_neg (by rw [List.length_nil]; omega)]
    rfl
  | u :: us, xs, o, j, h => by
    rw [List.length_cons] at h ⊢
    show (setMany (xs.set o u) (o + 1) us)[j]? = _
    rw [setMany_get us _ _ _ (by rw [List.length_set]; omega), List.getElem?_set]
    by_cases h1 : o + 1 ≤ j ∧ j < o + 1 + us.length
    · rw [if_pos h1, if_pos (by omega), show j - o = (j - (o + 1)) + 1 by omega, List.getElem?_cons_succ]
    · rw [if_neg h1]
      by_cases h2 : o = j
      · subst h2
        rw [if_pos rfl, if_pos (by omega), if_pos (by omega), Nat.sub_self, List.getElem?_cons_zero]
      · rw [if_neg h2, if_neg (by omega)]
theorem flatR_set {R : List Rg} {i : Nat} {x y : Rg} (h : R[i]? = some x) : setMany (flatR R) (i * 19) (rgL y) = flatR (R.set i y) := by
  have hi := (List.getElem?_eq_some_iff.1 h).1
  refine List.ext_getElem? fun j => ?_
  rw [setMany_get _ _ _ _ (by rw [flatR_len, rgL_len]; omega), rgL_len]
  have hd := Nat.div_add_mod j 19
  have hm := Nat.mod_lt j (show 0 < 19 by decide)
  rcases Nat.lt_or_ge (j / 19) R.length with hlt | hge
  · by_cases he : j / 19 = i
    · rw [if_pos (by omega)]
      have h2 : (R.set i y)[i]? = some y := List.getElem?_set_self hi
      have := flatR_get h2 hm
      rw [show i * 19 + j % 19 = j by omega] at this
      rw [this, show j - i * 19 = j % 19 by omega]
    · rw [if_neg (by omega)]
      obtain ⟨z, hz⟩ : ∃ z, R[j / 19]? = some z := ⟨_, List.getElem?_eq_getElem hlt⟩
      have h1 := flatR_get hz hm
      have h2 : (R.set i y)[j / 19]? = some z := by rw [List.getElem?_set, if_neg (fun e => he e.symm)]; exact hz
      have h3 := flatR_get h2 hm
      rw [show j / 19 * 19 + j % 19 = j by omega] at h1 h3
      rw [h1, h3]
  · rw [if_neg (by omega), List.getElem?_eq_none (by rw [flatR_len]; omega), List.getElem?_eq_none (by rw [flatR_len, List.length_set]; omega)]
theorem own_setCells {base g n cap : Nat} {e : TypeId} {size : Nat} : ∀ (us : List Value) (o : Nat) (xs : List Value) (w : World), w.ownsRow base e size (.slice (some ⟨g, 0, none⟩) n cap) n xs → (w.setCells g o us).ownsRow base e size (.slice (some ⟨g, 0, none⟩) n cap) n (setMany xs o us)
  | [], _, _, _, h => h
  | u :: us, o, xs, w, h => own_setCells us (o + 1) (xs.set o u) (w.setCell ⟨g, o, none⟩ u) (h.stored o u).1
theorem rgL_all {w : World} {lo : Nat} {g : Rg} (h : RgOk w lo g) : (rgA g).all (·.oneCell') = true := by
  unfold rgA
  rw [List.all_toArray, List.all_eq_true]
  exact fun u hu => h.one u hu
section
variable {w w' : World} {lo rb : Nat} {v : Value} {R : List Rg}
/-- A flow is stored in its place. -/
theorem RfM.put {g cap n : Nat} (h : RfM w lo rb (.slice (some ⟨g, 0, none⟩) n cap) R) (hn : n = R.length) {i : Nat} {x : Rg} (hx : R[i]? = some x) {y : Rg} (hy : RgOk w lo y) :
    ∃ w2, (Instr.storeAt 126 (.pointer (some ⟨g, i * 19, none⟩)) (.agg (rgA y))).run Try.prog w = .ok () w2 ∧ RfM w2 lo rb (.slice (some ⟨g, 0, none⟩) n cap) (R.set i y) ∧ Upd (only g) w w2 ∧ RgOk w2 lo y := by
  subst hn
  have hi := (List.getElem?_eq_some_iff.1 hx).1
  have hu : Upd (only g) w (w.setCells g (i * 19) (rgA y).toList) := Upd.setCells _ _ _ (Upd.refl _ _) (.inl rfl)
  have hU : ∀ k, only g k → RfU rb (.slice (some ⟨g, 0, none⟩) R.length cap) k := fun k (e : k = g) => .inr (by rw [e]; rfl)
  have hne : rb ≠ g := fun e => h.ne (by rw [e]; rfl)
  have hk : ∀ z, RgOk w lo z → RgOk (w.setCells g (i * 19) (rgA y).toList) lo z := fun z hz => hz.upd hu fun k hk => h.neN (hU k hk) hz
  refine ⟨_, run_storeAt_mid w g (i * 19) _ (rgA y) (fun j hj => ?_) (show (Try.prog.info? 126).map (·.size) = some 19 by kernel_rfl) (rgL_all hy), ⟨h.blk.upd hu hne, ?_, fun z hz => ?_, by rw [List.length_set]; exact h.len, h.lo⟩, hu, hk y hy⟩
  · have hj' : j < 19 := hj
    obtain ⟨u, hu⟩ : ∃ u, (rgL x)[j]? = some u := ⟨_, List.getElem?_eq_getElem (by rw [rgL_len]; exact hj')⟩
    exact ⟨by rw [h.cell rfl hx hj' hu]; rfl, h.row.frozenAt _⟩
  · have := own_setCells (rgL y) (i * 19) _ w h.row
    rw [flatR_set hx] at this
    rw [List.length_set]
    exact this
  · rcases List.mem_or_eq_of_mem_set hz with hz | rfl
    · exact hk z (h.fl z hz)
    · exact hk _ hy
end
theorem fl_var {B : Nat} {w w1 : World} (hb : Below B w w1) (hB : B ≤ w1.heap.size) (X : Array Value) (hX : X.size = 19) (h1 : X.all (·.oneCell') = true) : ∃ w2, (Instr.storeAt 126 (.pointer (some ⟨w1.heap.size, 0, none⟩)) (.agg X)).run Try.prog (w1.alloc (.cells #[.int .u32 0, .int .u32 0, .int .u8 0, .int .u16 0, .slice none 0 0, .slice none 0 0, .int .i64 0, .int .u8 0, .int .u16 0, .bool false, .bool false, .bool false, .int .i64 0, .int .u8 0, .int .u8 0, .int .u32 0, .int .u32 0, .slice none 0 0, .bool false] 126)) = .ok () w2 ∧ Below B w w2 ∧ Below w1.heap.size w1 w2 ∧ Blk w2 w1.heap.size 126 X :=
  ⟨_, fl_store (vs := X) (Blk.new w1 _ _) rfl hX h1, below_setCells hB _ 0 _ (hb.alloc hB _), below_setCells (Nat.le_refl _) _ 0 _ ((Below.refl _ _).alloc (Nat.le_refl _) _), blk_setCells (Blk.new w1 _ _) hX.symm⟩
theorem ld_hd7 {w : World} {b : Nat} {g : Rg} (h : Blk w b 126 (rgA g)) : (Instr.loadAt 32 (.pointer (some ⟨b, 7, none⟩))).run Try.prog w = .ok (hdV g.f.hd g.vo) w := by
  have := run_loadAt_mid (P := Try.prog) w b 7 32 (hdC g.f.hd g.vo).toList _ (fun j u hu => by
    have hj : j < 11 := by
      rcases Nat.lt_or_ge j 11 with hl | hg
      · exact hl
      · rw [List.getElem?_eq_none (by simpa [hdC] using hg)] at hu; cases hu
    rw [show (⟨b, 7 + j, none⟩ : Addr) = ⟨b, 7 + j, none⟩ from rfl, h.cell]
    rw [rgA_get, ← hu]
    rcases (by omega : j = 0 ∨ j = 1 ∨ j = 2 ∨ j = 3 ∨ j = 4 ∨ j = 5 ∨ j = 6 ∨ j = 7 ∨ j = 8 ∨ j = 9 ∨ j = 10) with rfl | rfl | rfl | rfl | rfl | rfl | rfl | rfl | rfl | rfl | rfl <;> rfl) Try.underlying32 rfl hd_info
  simpa [hdV_eq] using this
/-- A new flow. -/
def rg0 (k : Key) : Rg := ⟨fl0 k, .slice none 0 0, .slice none 0 0, .slice none 0 0⟩
theorem bd_fl (w : World) (a b c d : Int) : (Instr.build 126 #[(0, .agg #[.int .u32 a, .int .u32 b, .int .u8 c, .int .u16 d]), (3, .int .i64 (-1))]).run Try.prog w = .ok (.agg #[.int .u32 a, .int .u32 b, .int .u8 c, .int .u16 d, .slice none 0 0, .slice none 0 0, .int .i64 (-1), .int .u8 0, .int .u16 0, .bool false, .bool false, .bool false, .int .i64 0, .int .u8 0, .int .u8 0, .int .u32 0, .int .u32 0, .slice none 0 0, .bool false]) w := by kernel_rfl
theorem bs_fl (w : World) (a b c d : Int) : (Instr.buildSlice 77 1 #[(0, .agg #[.int .u32 a, .int .u32 b, .int .u8 c, .int .u16 d, .slice none 0 0, .slice none 0 0, .int .i64 (-1), .int .u8 0, .int .u16 0, .bool false, .bool false, .bool false, .int .i64 0, .int .u8 0, .int .u8 0, .int .u32 0, .int .u32 0, .slice none 0 0, .bool false])]).run Try.prog w = .ok (.slice (some ⟨w.heap.size, 0, none⟩) 1 1) (w.alloc (.cells #[.int .u32 a, .int .u32 b, .int .u8 c, .int .u16 d, .slice none 0 0, .slice none 0 0, .int .i64 (-1), .int .u8 0, .int .u16 0, .bool false, .bool false, .bool false, .int .i64 0, .int .u8 0, .int .u8 0, .int .u32 0, .int .u32 0, .slice none 0 0, .bool false] 126)) := by kernel_rfl
theorem rg0_ok (w : World) (lo : Nat) {k : Key} (hk : kOk k) : RgOk w lo (rg0 k) := ⟨Row8.nil 0 w, World.ownsRow_nil _ _ _ _, ⟨none, 0, rfl, Nat.le_refl _, rfl, fun h => absurd h (Nat.lt_irrefl _)⟩, fl0_ok k, hk⟩
def TkΦ (rb _gh gr nr cr i Ln cq co lo Wz : Nat) (Aq Ao : Option Addr) (gg : Rg) (g : Hd) (y : By) : Nat → Value → World → Prop
  | 0, u, _ => u = .pointer (some ⟨rb, 0, none⟩)
  | 1, u, _ => u = .pointer (some ⟨rb, 0, none⟩)
  | 2, u, _ => u = .pointer (some ⟨rb, 0, none⟩)
  | 3, u, _ => u = .slice (some ⟨gr, 0, none⟩) nr cr
  | 4, u, _ => u = .int .i64 (i : Int)
  | 5, u, _ => u = .pointer (some ⟨gr, i * 19, none⟩)
  | 6, u, _ => u = .agg (rgA gg)
  | 7, u, _ => u = .agg (hdC g (.slice Ao g.opts.length co))
  | 8, u, _ => u = .slice Aq Ln cq
  | 9, u, w => ∃ gn, u = .agg (rgA gn) ∧ gn.f = layF gg.f g y ∧ RgOk w lo gn ∧ ∀ k, RgN gn k → Wz ≤ k
  | 10, u, w => ∃ b, u = .pointer (some ⟨b, 0, none⟩) ∧ Wz ≤ b ∧ Blk w b 126 fl0V
  | _, _, _ => True
theorem TkΦ.keep {rb gh gr nr cr i Ln cq co lo Wz : Nat} {Aq Ao : Option Addr} {gg : Rg} {g : Hd} {y : By} {wx wy : World} (hb : Below wx.heap.size wx wy) : ∀ (j : Nat) (u : Value), TkΦ rb gh gr nr cr i Ln cq co lo Wz Aq Ao gg g y j u wx → TkΦ rb gh gr nr cr i Ln cq co lo Wz Aq Ao gg g y j u wy := by
  intro j u h
  unfold TkΦ at h ⊢
  split at h
  all_goals first
    | exact h
    | (obtain ⟨gn, e, hf, hok, hN⟩ := h; exact ⟨gn, e, hf, hok.below hb, hN⟩)
    | (obtain ⟨b, e, hq, hk⟩ := h; exact ⟨b, e, hq, hk.below hb hk.lt⟩)
/-- What Take answers. -/
def RkPost (w : World) (lo rb : Nat) (v : Value) (R : List Rg) (r : List Fl × By × Nat) (e : Ending) (w' : World) : Prop := ∃ yv v' R', e = .returned (.tuple #[yv, .int .i64 (r.2.2 : Int)]) ∧ Sl8 w' (fun _ => True) yv r.2.1 ∧ R'.map Rg.f = r.1 ∧ RfM w' lo rb v' R' ∧ Upd (RfU rb v) w w' ∧ (∀ k, RfU rb v' k → RfU rb v k ∨ w.heap.size ≤ k) ∧ ∀ z ∈ R', z ∈ R ∨ ∀ k, RgN z k → w.heap.size ≤ k
theorem rk_same {w w' : World} {lo rb : Nat} {v : Value} {R : List Rg} (h : RfM w lo rb v R) (hb : Below w.heap.size w w') {yv : Value} {y : By} {n : Nat} (hy : Sl8 w' (fun _ => True) yv y) : RkPost w lo rb v R (R.map Rg.f, y, n) (.returned (.tuple #[yv, .int .i64 (n : Int)])) w' :=
  ⟨yv, v, R, rfl, hy, rfl, h.below hb, Upd.ofBelow hb _, fun _ hk => .inl hk, fun _ hz => .inl hz⟩
theorem map_eraseR (R : List Rg) (i : Nat) : (R.eraseIdx i).map Rg.f = (R.map Rg.f).eraseIdx i := by rw [eraseIdx_eq, eraseIdx_eq, List.map_append, List.map_take, List.map_drop]
set_option maxRecDepth 100000 in
set_option maxHeartbeats 16000000 in
attribute [-go_sem] Instr.storeAt Instr.loadAt in
theorem rtake16_any {w : World} {lo rb : Nat} {v : Value} {R : List Rg} (h : RfM w lo rb v R) (hlo : lo ≤ w.heap.size) (A : Option Addr) (n q : Nat) (x : By) (hx : Reads w (fun k => k < lo) 1 A n (bytesV x)) (hn : x.length = n) (hc : n ≤ q) (hsm : n ≤ 1000000) :
    Calls Try.prog 87 #[.pointer (some ⟨rb, 0, none⟩), .slice A n q] w (RkPost w lo rb v R (takeF (R.map Rg.f) x)) := by
  have HT := Lib.hid (fun wx (hb : Below w.heap.size w wx) => h.below hb)
  have HX := Lib.hid (fun wx (hb : Below w.heap.size w wx) => hx.lt.keep (Same.ofBelow hb fun k hk => hk.2))
  have hpa := rparse_any A n q x (fun k => k < lo) w hx hn hc hsm
  have HLO := Lib.hid hlo
  have hpl := prs_len x
  have hok := prs_ok x
  have hmay := prs_may (x := x)
  have hwh := prs_whole (x := x)
  have htk : takeF (R.map Rg.f) x = takeF (R.map Rg.f) x := rfl
  conv at htk => rhs; unfold takeF
  obtain ⟨P, hP⟩ : ∃ P, P = prsF x := ⟨_, rfl⟩
  rw [← hP] at hpa hpl hok hmay hwh htk
  obtain ⟨g, y, fl⟩ := P
  unfold RPrs at hpa
  simp only at hpa hpl hok hmay hwh htk
  have HTK := Lib.hid htk
  have HPA := Lib.hid hpa
  have HOK := Lib.hid hok
  have HMAY := Lib.hid hmay
  have HWH := Lib.hid hwh
  have HPL := Lib.hid hpl
  have HXN := Lib.hid hn
  have HXC := Lib.hid hc
  have hlen := h.len
  clear h hx hn hP hpa hpl hok hmay hwh htk hlo hc
  go_enter Try.func87, Try.ntmps87
  go_upto_region 2 with (go_at_call 16; refine HPA.out.mono ?_; rintro e w1 ⟨vo, vq, rfl, hro, hry, hb1⟩; obtain ⟨Ao, co, rfl, hcoo, hroo⟩ := hro; obtain ⟨Aq, cq, rfl, hcq, hryy⟩ := hry; obtain ⟨w2, hst, hb2, hb12, hk2⟩ := hd_var hb1 hb1.size g Ao g.opts.length co; have HB2 := Lib.hid hb2; have HK2 := Lib.hid hk2; have HRO2 := Lib.hid (show ∀ wx, Below w2.heap.size w2 wx → Sl8 wx (fun k => k < lo) (.slice Ao g.opts.length co) g.opts from fun wx hb => (Sl8.keep (w2 := wx) (⟨Ao, co, rfl, hcoo, hroo⟩ : Sl8 w1 (fun k => k < lo ∧ k < w.heap.size) (.slice Ao g.opts.length co) g.opts) (Same.ofBelow (hb12.trans (hb.mono hb12.size)) fun k hk => Nat.lt_of_lt_of_le hk.2 hb1.size)).mono fun k hk => hk.1); have HRY2 := Lib.hid (show ∀ wx, Below w2.heap.size w2 wx → Sl8 wx (fun k => k < lo) (.slice Aq y.length cq) y from fun wx hb => (Sl8.keep (w2 := wx) (⟨Aq, cq, rfl, hcq, hryy⟩ : Sl8 w1 (fun k => k < lo ∧ k < w.heap.size) (.slice Aq y.length cq) y) (Same.ofBelow (hb12.trans (hb.mono hb12.size)) fun k hk => Nat.lt_of_lt_of_le hk.2 hb1.size)).mono fun k hk => hk.1); have HCQ := Lib.hid hcq; have HB1 := Lib.hid hb1.size; clear hroo hryy hb1 hb2 hb12 hk2 hcq hcoo)
  clear hst
  obtain ⟨gh, hgh⟩ : ∃ z, z = w1.heap.size := ⟨_, rfl⟩
  rw [← hgh] at HK2 ⊢
  have HGH := Lib.hid (show w.heap.size ≤ gh by rw [hgh]; exact HB1.out)
  clear hgh
  obtain ⟨Ln, hLn⟩ : ∃ z, z = y.length := ⟨_, rfl⟩
  rw [← hLn] at HRY2 ⊢
  have HLN := Lib.hid hLn
  clear hLn
  have hl1 : Ln ≤ 1000000 := by have := HPL.out.1; have := HXN.out; have := HLN.out; omega
  by_cases h0 : fl = 0
  rotate_left
  · have b1 : ((fl : Int) != 0) = true := by rw [bne_iff_ne]; omega
    have hfin : takeF (R.map Rg.f) x = (R.map Rg.f, [], 4) := by rw [HTK.out, if_pos h0]
    have HFIN := Lib.hid hfin
    clear h0 hfin
    go_wp2_with fail
    go_ret2
    rw [HFIN.out]
    exact rk_same (HT.out w (Below.refl _ _)) HB2.out (sl_nil _ _)
  subst h0
  have hmy := (HMAY.out rfl).1
  have HMY := Lib.hid hmy
  have ht1 : takeF (R.map Rg.f) x = _ := HTK.out
  rw [if_neg (by omega)] at ht1
  have HT1 := Lib.hid ht1
  have rl2 := hd_load HK2.out rfl
  have HFR := Lib.hid (rfrag_any g Ao g.opts.length co w2)
  rw [hdV_eq] at HFR
  clear hmy ht1
  by_cases hfr : fragH g = false
  · rw [hfr] at HFR
    have hfin : takeF (R.map Rg.f) x = (R.map Rg.f, x.take (20 + g.opts.length + y.length), 0) := by rw [HT1.out, if_pos hfr]
    have HFIN := Lib.hid hfin
    obtain ⟨t, ht⟩ : ∃ t, t = 20 + g.opts.length + y.length := ⟨_, rfl⟩
    have hw0 := HWH.out rfl
    rw [← ht] at HFIN
    have htn : t ≤ n := by rw [ht]; have := HXN.out; omega
    have hcut := fun wx => sl_hi A n q wx t (by have := HXC.out; omega)
    obtain ⟨gl, hgl⟩ : ∃ z, z = g.opts.length := ⟨_, rfl⟩
    rw [← hgl] at ht
    have e1 : (20 : Int) + (gl : Int) + (Ln : Int) = (t : Int) := by rw [HLN.out]; omega
    have HCL := Lib.hid (show ∀ wx, Below w.heap.size w wx → Sl8 wx (fun _ => True) (.slice A t q) (x.take t) from fun wx hb => (cut_hi (cap := q) (k := t) (by rw [HXN.out]; exact HX.out wx hb) (by rw [HXN.out]; exact htn) (by have := HXC.out; omega)).mono fun _ _ => trivial)
    have HC10 := Lib.hid (show ∀ wx, Below w2.heap.size w2 wx → wx.cell? ⟨gh, 10, none⟩ = some (.slice Ao gl co) from fun wx hb => by rw [(HK2.out.below hb HK2.out.lt).cell, hgl]; rfl)
    have hgl2 : gl ≤ 1000000 := by rw [hgl]; have := HPL.out; have := HXN.out; omega
    clear hfin hfr ht hgl hw0
    go_upto_region 5 with (go_at_call 75; refine HFR.out.mono ?_; rintro e w3 ⟨rfl, hb3⟩; have HB23 := Lib.hid hb3; have HB3 := Lib.hid (HB2.out.trans (hb3.mono HB2.out.size)); clear hb3)
    clear rl2
    have rl3 := ld8s (HC10.out w3 HB23.out)
    go_wp2_with fail
    go_ret2
    rw [HFIN.out]
    exact rk_same (n := 0) (HT.out w (Below.refl _ _)) HB3.out (HCL.out w3 HB3.out)
  have hfr' : fragH g = true := by cases hf : fragH g with | true => rfl | false => exact absurd hf hfr
  rw [hfr'] at HFR
  have ht2 : takeF (R.map Rg.f) x = _ := HT1.out
  rw [if_neg hfr] at ht2
  have HT2 := Lib.hid ht2
  clear hfr hfr' ht2
  go_upto_region 6 with (go_at_call 75; refine HFR.out.mono ?_; rintro e w3 ⟨rfl, hb3⟩; have HB23 := Lib.hid hb3; have HB3 := Lib.hid (HB2.out.trans (hb3.mono HB2.out.size)); have HK3 := Lib.hid (HK2.out.below hb3 HK2.out.lt); clear hb3)
  clear rl2
  have r4 := ld_bool (HK3.out.cell 4)
  have r5 := ld_int (HK3.out.cell 5)
  obtain ⟨hg0, hg40, _, ho0, ho1⟩ := may_opts HMY.out
  obtain ⟨off, hoff⟩ : ∃ o : Nat, g.off = (o : Int) := ⟨g.off.toNat, by omega⟩
  have r5' : (Instr.loadAt 3 (.pointer (some ⟨gh, 5, none⟩))).run Try.prog w3 = .ok (.int .i64 (off : Int)) w3 := by rw [← hoff]; exact r5
  have HOFF := Lib.hid hoff
  have ho8 : (off : Int) ≤ 8191 := by omega
  have HG40 := Lib.hid hg40
  clear r5 hg0 ho0 ho1 hoff hg40
  by_cases c1 : Ln = 0
  · have d1 : ((Ln : Int) == 0) = true := by rw [beq_iff_eq]; omega
    have hfin : takeF (R.map Rg.f) x = (R.map Rg.f, [], 7) := by rw [HT2.out, if_pos (by left; rw [← HLN.out]; exact c1)]
    have HFIN := Lib.hid hfin
    clear hfin
    go_wp2_with fail
    go_ret2
    rw [HFIN.out]
    exact rk_same (HT.out w (Below.refl _ _)) HB3.out (sl_nil _ _)
  have d1 : ((Ln : Int) == 0) = false := by rw [beq_eq_false_iff_ne]; omega
  have hLp : 0 < Ln := by omega
  cases hmf : g.mf with
  | true =>
    rw [hmf] at r4
    have HMF := Lib.hid hmf
    clear hmf
    by_cases c2 : Ln % 8 = 0
    rotate_left
    · have d2 : ((Ln : Int) % 8 != 0) = true := by rw [bne_iff_ne]; omega
      have hfin : takeF (R.map Rg.f) x = (R.map Rg.f, [], 7) := by rw [HT2.out, if_pos (by right; left; rw [← HLN.out]; exact ⟨HMF.out, c2⟩)]
      have HFIN := Lib.hid hfin
      clear hfin
      go_wp2_with fail
      go_ret2
      rw [HFIN.out]
      exact rk_same (HT.out w (Below.refl _ _)) HB3.out (sl_nil _ _)
    have d2 : ((Ln : Int) % 8 != 0) = false := by rw [bne_eq_false_iff_eq]; omega
    by_cases c3 : 65535 < 8 * off + Ln
    · have d3 : (65535 : Int) < 8 * (off : Int) + (Ln : Int) := by omega
      have hfin : takeF (R.map Rg.f) x = (R.map Rg.f, [], 7) := by rw [HT2.out, if_pos (by right; right; rw [← HLN.out, HOFF.out]; simpa using c3)]
      have HFIN := Lib.hid hfin
      clear hfin
      go_wp2_with fail
      go_ret2
      rw [HFIN.out]
      exact rk_same (HT.out w (Below.refl _ _)) HB3.out (sl_nil _ _)
    have d3 : ¬ ((65535 : Int) < 8 * (off : Int) + (Ln : Int)) := by omega
    have hgood : ¬ (y.length = 0 ∨ (g.mf = true ∧ y.length % 8 ≠ 0) ∨ 65535 < 8 * g.off.toNat + y.length) := by rw [← HLN.out, HOFF.out]; simp; omega
    obtain ⟨hg1, hg2, hg3⟩ : y.length ≠ 0 ∧ (g.mf = true → y.length % 8 = 0) ∧ 8 * g.off.toNat + y.length ≤ 65535 := ⟨fun e => hgood (.inl e), fun hm => Classical.byContradiction fun e => hgood (.inr (.inl ⟨hm, e⟩)), by have := fun e => hgood (.inr (.inr e)); omega⟩
    have HPK := Lib.hid (show PieceOk g y from ⟨HOK.out, HMY.out, by omega, hg2, hg3⟩)
    clear hg1 hg2 hg3
    have ht3 : takeF (R.map Rg.f) x = _ := HT2.out
    rw [if_neg hgood] at ht3
    have HT3A := Lib.hid ht3
    clear hgood ht3
    go_upto_region 8 with (fail)
    clear r4 r5'
    have rl3 := hd_load HK3.out rfl
    have hky := rkey_any g (.slice Ao g.opts.length co) w3
    rw [hdV_eq] at hky
    have HKY := Lib.hid hky
    have HFI := Lib.hid (fun wx (hb : Below w.heap.size w wx) => find16_any (HT.out wx hb) (keyF g))
    have HIC := Lib.hid (idxR_cases R (keyF g))
    obtain ⟨zi, hzi⟩ : ∃ z, z = idxR R (keyF g) := ⟨_, rfl⟩
    rw [← hzi] at HFI HIC
    clear hky hzi
    go_upto_region 9 with (first | (go_at_call 45; refine HKY.out.mono ?_; rintro e w4 ⟨rfl, hb4⟩; have HB4 := Lib.hid (HB3.out.trans (hb4.mono HB3.out.size)); have HB24 := Lib.hid (HB23.out.trans (hb4.mono HB23.out.size)); clear hb4) | (go_at_call 88; refine (HFI.out w4 HB4.out).mono ?_; rintro e w5 ⟨rfl, hb5⟩; have HB5 := Lib.hid (HB4.out.trans (hb5.mono HB4.out.size)); have HB25 := Lib.hid (HB24.out.trans (hb5.mono HB24.out.size)); clear hb5))
    clear rl3
    have HK5 := Lib.hid (HK2.out.below HB25.out HK2.out.lt)
    have hic := HIC.out
    rcases hic with ⟨ez, ek⟩ | ⟨i, gg, ez, hgi, hkk, ek⟩
    · subst ez
      have ht4 : takeF (R.map Rg.f) x = _ := HT3A.out
      rw [ek] at ht4
      simp only [List.length_map] at ht4
      have HT4 := Lib.hid ht4
      clear ht4 ek
      have ht5 := HT.out w5 HB5.out
      obtain ⟨Av0, cv0, hvv, hcv0⟩ := ht5.form
      obtain ⟨i, hi⟩ : ∃ z, z = R.length := ⟨_, rfl⟩
      rw [← hi] at hvv hcv0 hlen
      have HIR := Lib.hid hi
      have HVV := Lib.hid hvv
      have l0 := ld_rl (w := w5) (b := rb) (A := Av0) (n := i) (c := cv0) (by rw [ht5.blk.cell, hvv]; rfl)
      have HT5 := Lib.hid ht5
      clear ht5 hvv hcv0 hi
      by_cases hfull : 64 ≤ i
      · have hfin : takeF (R.map Rg.f) x = (R.map Rg.f, [], 5) := by rw [HT4.out, if_pos (by rw [← HIR.out]; exact hfull)]
        have HFIN := Lib.hid hfin
        clear hfin
        go_wp2_with fail
        go_ret2
        rw [HFIN.out]
        exact rk_same (HT.out w (Below.refl _ _)) HB5.out (sl_nil _ _)
      have hnf : (i : Int) < 64 := by omega
      obtain ⟨gg, hgg⟩ : ∃ z, z = rg0 (keyF g) := ⟨_, rfl⟩
      obtain ⟨RS, hRS⟩ : ∃ RS, RS = R ++ [gg] := ⟨_, rfl⟩
      have HRS := Lib.hid hRS
      have HGG := Lib.hid hgg
      have HT3 := Lib.hid (show takeF (R.map Rg.f) x = stepF (RS.map Rg.f) i (layF gg.f g y) by rw [HT4.out, if_neg (by rw [← HIR.out]; exact hfull), hRS, hgg, List.map_append, HIR.out]; rfl)
      clear hfull hRS hgg
      go_upto_region 13 with (fail)
      obtain ⟨i9, hi9, hz9, hz8, hz7⟩ := info_parts info_fl
      have HI := Lib.hid (And.intro hi9 (And.intro hz9 (And.intro hz8 hz7)))
      have HKYN := Lib.hid (fun wx => rkey_any g (.slice Ao g.opts.length co) wx)
      rw [hdV_eq] at HKYN
      clear hi9 hz9 hz8 hz7 l0
      have bd := fun (wx : World) => bd_fl wx ((keyF g).1 : Int) ((keyF g).2.1 : Int) ((keyF g).2.2.1 : Int) ((keyF g).2.2.2 : Int)
      have HBS := Lib.hid (fun (wx : World) => bs_fl wx ((keyF g).1 : Int) ((keyF g).2.1 : Int) ((keyF g).2.2.1 : Int) ((keyF g).2.2.2 : Int))
      have hc5 : Blk w5 rb 79 #[v] ∧ Blk w5 gh 32 (hdC g (.slice Ao g.opts.length co)) := ⟨HT5.out.blk, HK5.out⟩
      refine wp_region_mix [(true, 8), (false, 5)] 2 (by kernel_rfl) (fun wx => Blk wx rb 79 #[v] ∧ Blk wx gh 32 (hdC g (.slice Ao g.opts.length co))) (fun _ _ h k => ⟨h.1.below k h.1.lt, h.2.below k h.2.lt⟩) (by kernel_rfl) hc5 (a' := ?_) (fun wz hz => ?_) fun wz hz => ?_
      rotate_left
      · have l0 := fun (d : Nat) (os : Array Obj) => ld_rl (w := grow (redrawn wz d) os) (b := rb) (A := Av0) (n := i) (c := cv0) (by rw [(hz.1.below (below_regrown wz d os) hz.1.lt).cell, HVV.out]; rfl)
        have l1 := fun (d : Nat) (os : Array Obj) => hd_load (hz.2.below (below_regrown wz d os) hz.2.lt) rfl
        have cl := fun (d : Nat) (os : Array Obj) => Calls.regrown_of (HKYN.out (grow (redrawn wz d) os))
        unfold pcV pcC at cl
        clear hz
        simp only [pick_nil, pick_tt, pick_ft, List.take_succ_cons, List.take_zero, List.drop_succ_cons, List.drop_zero, List.append_nil]
        repeat (go_big_quiet_step (with_reducible exact cl _ _))
        refine wpQuiet_nil ?_
        rfl
      simp only [pick_nil, pick_ff, pick_tf, List.take_succ_cons, List.take_zero, List.drop_succ_cons, List.drop_zero, List.append_nil]
      have HZ5 := Lib.hid hz
      clear hz bd
      obtain ⟨hi9, hz9, hz8, hz7⟩ := HI.out
      have htz := HT5.out.below HZ5.out
      have hown5 := htz.row
      rw [HVV.out, ← HIR.out] at hown5
      have hmx5 : i + 1 ≤ maxLen := by unfold maxLen; omega
      have hmb5 : (i + 1) * 136 ≤ 140737488355328 := by omega
      have hlo5 : lo ≤ wz.heap.size := by have := HLO.out; have := HB5.out.size; have := HZ5.out.size; omega
      have hgz := HK5.out.below HZ5.out HK5.out.lt
      refine wpMix_push (fun _ _ h k => ⟨h.1.below k h.1.lt, h.2.below k h.2.lt⟩) ⟨htz.blk, hgz⟩ 126 (rgL (rg0 (keyF g))) rfl (fun w' => by
        have := HBS.out w'
        unfold execOp
        simp [go_sem]
        rfl) rfl (.tmp 75) (.tmp 79) _ rfl rfl lo i9 _ 19 136 Try.underlying77 hi9 hz9 hz8 hz7 rfl (by decide) _ i _ (fun _ => rfl) (fun _ => rfl) hown5 rfl (rg0_ok wz lo (key_ok HOK.out)).one hmx5 hmb5 hlo5 fun g5 v6 w6 h6 hg6 hj6 => ?_
      have hu6 : Upd (RfU rb v) wz w6 := (Upd.refl (RfU rb v) wz).grown hg6 fun k hk => .inl (.inr (by rw [HVV.out]; exact hk))
      have hok6 : ∀ z, RgOk wz lo z → RgOk w6 lo z := fun z hz => hz.upd hu6 fun k hk => htz.neN hk hz
      have hbk6 := htz.blk.grown hg6 (own_blk_ne hown5 htz.blk (by decide))
      have hgh6 := hgz.grown hg6 (own_blk_ne hown5 hgz (by decide))
      refine wpMix_step ⟨hbk6, hgh6⟩ fun wb0 hb0 => ?_
      obtain ⟨A6, c6, hv6, _⟩ := own_form h6
      subst hv6
      have h7 := own_below h6 hb0
      have hbk7 := hbk6.below hb0 hbk6.lt
      have hgh7 := hgh6.below hb0 hgh6.lt
      have st6 := st_rl (hbk7.cell 0) (hbk7.frozen 0) A6 (i + 1) c6
      obtain ⟨W7, hW7⟩ : ∃ Z, Z = wb0.setCell ⟨rb, 0, none⟩ (.slice A6 (i + 1) c6) := ⟨_, rfl⟩
      have hne7 := own_blk_ne h7 hbk7 (by decide)
      have hrow7 := ownsRow_setCell_other (a := ⟨rb, 0, none⟩) h7 hne7 (.slice A6 (i + 1) c6)
      have hbk8 := hbk7.set_ 0 (.slice A6 (i + 1) c6)
      have hus := upd_set wb0 rb 0 (.slice A6 (i + 1) c6)
      rw [← hW7] at st6 hrow7 hbk8 hus
      have hu7 : Upd (RfU rb v) wz W7 := Upd.trans (hu6.trans_ (Upd.ofBelow hb0 _)) hus fun k (e : k = rb) => .inl (.inl e)
      have hlow : ∀ k, RfU rb v k → lo ≤ k := fun k hk => by
        rcases hk with hk | hk
        · rw [hk]; exact htz.lo
        · exact (own_lt htz.row hk).1
      have hokS : ∀ z ∈ RS, RgOk W7 lo z := fun z hz => by
        rw [HRS.out] at hz
        have hzz : RgOk wz lo z := by
          rcases List.mem_append.1 hz with hz | hz
          · exact htz.fl z hz
          · rw [List.mem_singleton.1 hz, HGG.out]; exact rg0_ok wz lo (key_ok HOK.out)
        exact hzz.upd hu7 fun k hk => htz.neN hk hzz
      have hlS : RS.length = i + 1 := by rw [HRS.out, List.length_append, ← HIR.out]; rfl
      have hfS : flatR RS = flatR R ++ rgL (rg0 (keyF g)) := by rw [HRS.out, flatR_append, HGG.out]; unfold flatR; simp
      obtain ⟨vW, hvW⟩ : ∃ z, z = Value.slice A6 (i + 1) c6 := ⟨_, rfl⟩
      have htw : RfM W7 lo rb vW RS := ⟨by rw [hvW]; exact hbk8, by rw [hlS, hfS, hvW]; exact hrow7, hokS, by rw [hlS]; omega, htz.lo⟩
      have HTW := Lib.hid htw
      have HGI := Lib.hid (show RS[i]? = some gg by rw [HRS.out, HIR.out]; simp)
      have hrbw : rb < w.heap.size := (HT.out w (Below.refl _ _)).blk.lt
      have HKW := Lib.hid (hgh7.upd hus fun (e : gh = rb) => by have := HGH.out; omega)
      have hsl : ∀ (u : Value) (xx : By), Sl8 wz (fun k => k < lo) u xx → ∀ wx, Below W7.heap.size W7 wx → Sl8 wx (fun k => k < lo) u xx := fun u xx hs wx hb => by
        have h1 := hs.keep (hu7.same (I := fun k => k < lo) fun k hU hI => by have := hlow k hU; omega)
        exact (h1.lt.keep (Same.ofBelow hb fun k hk => hk.2)).mono fun k hk => hk.1
      have HROW := Lib.hid (hsl _ _ (HRO2.out wz (HB25.out.trans (HZ5.out.mono HB25.out.size))))
      have HRYW := Lib.hid (hsl _ _ (HRY2.out wz (HB25.out.trans (HZ5.out.mono HB25.out.size))))
      have HUPW := Lib.hid (Upd.trans ((Upd.ofBelow HB5.out (RfU rb v)).trans_ (Upd.ofBelow HZ5.out _)) hu7 fun k hk => .inl hk)
      have HOWN := Lib.hid (show ∀ k, RfU rb vW k → RfU rb v k ∨ w.heap.size ≤ k from fun k hk => by
        rcases hk with hk | hk
        · exact .inl (.inl hk)
        · rw [hvW] at hk
          rcases hj6 with hj | ⟨g9, hj, hjl⟩
          · rw [hj] at hk; exact .inl (.inr (by rw [HVV.out]; exact hk))
          · rw [hj] at hk; injection hk with hk; right; have := HB5.out.size; have := HZ5.out.size; omega)
      have HPROV := Lib.hid (show ∀ z ∈ RS, z ∈ R ∨ ∀ k, RgN z k → w.heap.size ≤ k from fun z hz => by
        rw [HRS.out] at hz
        rcases List.mem_append.1 hz with hz | hz
        · exact .inl hz
        · rw [List.mem_singleton.1 hz, HGG.out]
          exact .inr fun k hk => by rcases hk with hk | hk <;> cases hk)
      clear htz hown5 hmx5 hmb5 hlo5 hgz h6 hg6 hj6 hu6 hok6 hbk6 hgh6 hb0 h7 hbk7 hgh7 hne7 hrow7 hbk8 hus hu7 hlow hokS hlS hfS hvW htw hrbw hsl hi9 hz9 hz8 hz7 hW7
      go_wp2_with fail
      refine wpMix_plain ?_
      have hi00 : (0 : Int) ≤ (i : Int) := by omega
      go_upto_region 14 with (fail)
      obtain ⟨gr, cr, hvr, _⟩ := HTW.out.at_ (by have := (List.getElem?_eq_some_iff.1 HGI.out).1; omega)
      subst hvr
      obtain ⟨nr, hnr⟩ : ∃ z, z = RS.length := ⟨_, rfl⟩
      rw [← hnr] at HTW HOWN
      have HNR := Lib.hid hnr
      have hir : i < nr := by rw [hnr]; exact (List.getElem?_eq_some_iff.1 HGI.out).1
      have hnr64 : nr ≤ 64 := by rw [hnr]; exact HTW.out.len
      clear hnr
      have i0 : (0 : Int) ≤ (i : Int) := by omega
      have i1 : (i : Int) < (nr : Int) := by omega
      refine wp_region_rel (by kernel_rfl) (fun p q => Below W7.heap.size p q) (TkΦ rb gh gr nr cr i Ln cq co lo W7.heap.size Aq Ao gg g y) 11 (fun val w9 => ∃ gn b, val 10 = .pointer (some ⟨b, 0, none⟩) ∧ W7.heap.size ≤ b ∧ Blk w9 b 126 (rgA gn) ∧ gn.f = layF gg.f g y ∧ RgOk w9 lo gn ∧ (∀ k, RgN gn k → W7.heap.size ≤ k) ∧ Below W7.heap.size W7 w9) (fun _ _ => false) (by kernel_rfl) (fun p => Below.refl _ p) (fun h k => h.trans k) (obl_of ?_) (fun o ho => ?_) ?_
      · refine ⟨fun _ => ?_, fun _ => ?_, fun _ => ?_, fun _ => ?_, fun _ => ?_, fun _ => ?_, fun _ => ?_, fun _ => ?_, fun _ => ?_, fun _ => ?_, fun _ => ?_, fun h => absurd rfl h, trivial⟩
        · -- 0
          intro val wx hg hd hb hs K hK
          generalize hρ : rhoV _ _ val = ρ
          have cc : ∀ u, ρ (.const u) = u := fun u => by rw [← hρ]; rfl
          have ff : ∀ u, ρ (.func u) = .func (.func u) #[] #[] := fun u => by rw [← hρ]; rfl
          have r0 : ρ (.tmp 0) = .pointer (some ⟨rb, 0, none⟩) := by rw [← hρ]; rfl
          clear hρ hd hb hs
          refine ifv rfl ?_
          go_simp
          exact hK _ _ (Below.refl _ _) rfl fun _ _ _ _ h => h
        · -- 1
          intro val wx hg hd hb hs K hK
          generalize hρ : rhoV _ _ val = ρ
          have cc : ∀ u, ρ (.const u) = u := fun u => by rw [← hρ]; rfl
          have ff : ∀ u, ρ (.func u) = .func (.func u) #[] #[] := fun u => by rw [← hρ]; rfl
          have r83 : ρ (.tmp 83) = .pointer (some ⟨rb, 0, none⟩) := by rw [← hρ]; exact hd 0 rfl rfl
          clear hρ hd hb hs
          refine ifv rfl ?_
          go_simp
          exact hK _ _ (Below.refl _ _) rfl fun _ _ _ _ h => h
        · -- 2
          intro val wx hg hd hb hs K hK
          generalize hρ : rhoV _ _ val = ρ
          have cc : ∀ u, ρ (.const u) = u := fun u => by rw [← hρ]; rfl
          have ff : ∀ u, ρ (.func u) = .func (.func u) #[] #[] := fun u => by rw [← hρ]; rfl
          have r84 : ρ (.tmp 84) = .pointer (some ⟨rb, 0, none⟩) := by rw [← hρ]; exact hd 1 rfl rfl
          clear hρ hd hb hs
          refine ifv rfl ?_
          go_simp
          exact hK _ _ (Below.refl _ _) rfl fun _ _ _ _ h => h
        · -- 3
          intro val wx hg hd hb hs K hK
          generalize hρ : rhoV _ _ val = ρ
          have cc : ∀ u, ρ (.const u) = u := fun u => by rw [← hρ]; rfl
          have ff : ∀ u, ρ (.func u) = .func (.func u) #[] #[] := fun u => by rw [← hρ]; rfl
          have r85 : ρ (.tmp 85) = .pointer (some ⟨rb, 0, none⟩) := by rw [← hρ]; exact hd 2 rfl rfl
          have hbx : Below W7.heap.size W7 wx := ⟨hg.os, hg.tape, hg.output, hg.size, hg.block⟩
          have h4 := ld_rl ((HTW.out.below hbx).blk.cell 0)
          clear hρ hd hb hs
          refine ifv rfl ?_
          go_simp
          exact hK _ _ (Below.refl _ _) rfl fun _ _ _ _ h => h
        · -- 4
          intro val wx hg hd hb hs K hK
          generalize hρ : rhoV _ _ val = ρ
          have cc : ∀ u, ρ (.const u) = u := fun u => by rw [← hρ]; rfl
          have ff : ∀ u, ρ (.func u) = .func (.func u) #[] #[] := fun u => by rw [← hρ]; rfl
          have r9 : ρ (.tmp 9) = .int .i64 (i : Int) := by rw [← hρ]; rfl
          clear hρ hd hb hs
          refine ifv rfl ?_
          go_simp
          exact hK _ _ (Below.refl _ _) rfl fun _ _ _ _ h => h
        · -- 5
          intro val wx hg hd hb hs K hK
          generalize hρ : rhoV _ _ val = ρ
          have cc : ∀ u, ρ (.const u) = u := fun u => by rw [← hρ]; rfl
          have ff : ∀ u, ρ (.func u) = .func (.func u) #[] #[] := fun u => by rw [← hρ]; rfl
          have r86 : ρ (.tmp 86) = .slice (some ⟨gr, 0, none⟩) nr cr := by rw [← hρ]; exact hd 3 rfl rfl
          have r87 : ρ (.tmp 87) = .int .i64 (i : Int) := by rw [← hρ]; exact hd 4 rfl rfl
          clear hρ hd hb hs
          refine ifv rfl ?_
          go_simp
          exact hK _ _ (Below.refl _ _) rfl fun _ _ _ _ h => h
        · -- 6
          intro val wx hg hd hb hs K hK
          generalize hρ : rhoV _ _ val = ρ
          have cc : ∀ u, ρ (.const u) = u := fun u => by rw [← hρ]; rfl
          have ff : ∀ u, ρ (.func u) = .func (.func u) #[] #[] := fun u => by rw [← hρ]; rfl
          have r88 : ρ (.tmp 88) = .pointer (some ⟨gr, i * 19, none⟩) := by rw [← hρ]; exact hd 5 rfl rfl
          have hbx : Below W7.heap.size W7 wx := ⟨hg.os, hg.tape, hg.output, hg.size, hg.block⟩
          have h4 := RfM.ld (HTW.out.below hbx) HNR.out HGI.out
          clear hρ hd hb hs
          refine ifv rfl ?_
          go_simp
          exact hK _ _ (Below.refl _ _) rfl fun _ _ _ _ h => h
        · -- 7
          intro val wx hg hd hb hs K hK
          generalize hρ : rhoV _ _ val = ρ
          have cc : ∀ u, ρ (.const u) = u := fun u => by rw [← hρ]; rfl
          have ff : ∀ u, ρ (.func u) = .func (.func u) #[] #[] := fun u => by rw [← hρ]; rfl
          have r6 : ρ (.tmp 6) = .pointer (some ⟨gh, 0, none⟩) := by rw [← hρ]; rfl
          have hbx : Below W7.heap.size W7 wx := ⟨hg.os, hg.tape, hg.output, hg.size, hg.block⟩
          have h4 := hd_load (HKW.out.below hbx HKW.out.lt) rfl
          clear hρ hd hb hs
          refine ifv rfl ?_
          go_simp
          exact hK _ _ (Below.refl _ _) rfl fun _ _ _ _ h => h
        · -- 8
          intro val wx hg hd hb hs K hK
          generalize hρ : rhoV _ _ val = ρ
          have cc : ∀ u, ρ (.const u) = u := fun u => by rw [← hρ]; rfl
          have ff : ∀ u, ρ (.func u) = .func (.func u) #[] #[] := fun u => by rw [← hρ]; rfl
          have r7 : ρ (.tmp 7) = .slice Aq Ln cq := by rw [← hρ]; rfl
          clear hρ hd hb hs
          refine ifv rfl ?_
          go_simp
          exact hK _ _ (Below.refl _ _) rfl fun _ _ _ _ h => h
        · -- 9
          intro val wx hg hd hb hs K hK
          generalize hρ : rhoV _ _ val = ρ
          have cc : ∀ u, ρ (.const u) = u := fun u => by rw [← hρ]; rfl
          have ff : ∀ u, ρ (.func u) = .func (.func u) #[] #[] := fun u => by rw [← hρ]; rfl
          have r89 : ρ (.tmp 89) = .agg (rgA gg) := by rw [← hρ]; exact hd 6 rfl rfl
          have r90 : ρ (.tmp 90) = .agg (hdC g (.slice Ao g.opts.length co)) := by rw [← hρ]; exact hd 7 rfl rfl
          have r91 : ρ (.tmp 91) = .slice Aq Ln cq := by rw [← hρ]; exact hd 8 rfl rfl
          have hbx : Below W7.heap.size W7 wx := ⟨hg.os, hg.tape, hg.output, hg.size, hg.block⟩
          have hc := laid_any ((HTW.out.below hbx).fl gg (List.mem_of_getElem? HGI.out)) HPK.out _ (HROW.out wx hbx) _ (HRYW.out wx hbx)
          rw [hdV_eq] at hc
          have hzx : W7.heap.size ≤ wx.heap.size := hg.size
          clear hρ hd hb hs
          refine ifv rfl ?_
          go_simp
          refine hc.mono ?_
          rintro e w3 ⟨gn, rfl, hf, hok, hN, hb3⟩
          exact ⟨_, rfl, hK _ _ (hb3.mono hzx) ⟨gn, rfl, hf, hok, fun k hk => Nat.le_trans hzx (hN k hk)⟩ fun j _ _ _ h => TkΦ.keep hb3 j _ h⟩
        · -- 10
          intro val wx hg hd hb hs K hK
          generalize hρ : rhoV _ _ val = ρ
          have cc : ∀ u, ρ (.const u) = u := fun u => by rw [← hρ]; rfl
          have ff : ∀ u, ρ (.func u) = .func (.func u) #[] #[] := fun u => by rw [← hρ]; rfl
          have hzx : W7.heap.size ≤ wx.heap.size := hg.size
          have hbl : Below wx.heap.size wx (wx.alloc (.cells fl0V 126)) := (Below.refl _ _).alloc (Nat.le_refl _) _
          clear hρ hd hb hs
          refine ifv rfl ?_
          go_simp
          exact hK _ _ (hbl.mono hzx) ⟨_, rfl, hzx, Blk.new _ _ _⟩ fun j _ _ _ h => TkΦ.keep hbl j _ h
      · replace ho := Option.some.inj ho
        subst ho
        intro val wx hg hd hs K hK
        generalize hρ : rhoV _ _ val = ρ
        have r10 : ρ (.tmp 10) = val 10 := by rw [← hρ]; rfl
        have r92 : ρ (.tmp 92) = val 9 := by rw [← hρ]; rfl
        obtain ⟨gn, e9, hf, hok, hN⟩ : ∃ gn, val 9 = .agg (rgA gn) ∧ gn.f = layF gg.f g y ∧ RgOk wx lo gn ∧ ∀ k, RgN gn k → W7.heap.size ≤ k := hd 9 (by decide) (by decide) fun _ _ _ => rfl
        obtain ⟨b, e10, hq, hk⟩ : ∃ b, val 10 = .pointer (some ⟨b, 0, none⟩) ∧ W7.heap.size ≤ b ∧ Blk wx b 126 fl0V := hd 10 (by decide) (by decide) fun _ _ _ => rfl
        have st := fl_store (vs := rgA gn) hk rfl rfl (rgL_all hok)
        have hk2 : Blk (wx.setCells b 0 (rgA gn).toList) b 126 (rgA gn) := blk_setCells hk rfl
        have hu : Upd (only b) wx (wx.setCells b 0 (rgA gn).toList) := Upd.setCells _ _ _ (Upd.refl _ _) (.inl rfl)
        have hbx : Below W7.heap.size W7 wx := ⟨hg.os, hg.tape, hg.output, hg.size, hg.block⟩
        have hok2 : RgOk (wx.setCells b 0 (rgA gn).toList) lo gn := hok.upd hu fun k (e : k = b) => ⟨by have := HTW.out.blk.lt; have := HTW.out.lo; omega, fun hx => by
          rw [e] at hx
          rcases hx with hx | hx
          · exact own_blk_ne hok.b hk (by decide) hx
          · exact own_blk_ne hok.h hk (by decide) hx⟩
        have hb2 : Below W7.heap.size W7 (wx.setCells b 0 (rgA gn).toList) := hbx.trans (hu.below (fun k (e : k = b) => by omega) hbx.size)
        rw [e9] at r92
        rw [e10] at r10
        clear hρ hd hs
        refine ifv rfl ?_
        go_simp
        exact hK _ _ ⟨gn, b, by rw [← e10]; rfl, hq, hk2, hf, hok2, hN, hb2⟩
      intro val w2x h9
      rw [if_pos (by decide)] at h9
      obtain ⟨gn, fk, e10, hfk, hk2x, hf, hok2, hNn, hb2x⟩ := h9
      have HNN := Lib.hid hNn
      have HFF := Lib.hid hf
      have HB2X := Lib.hid hb2x
      have HK2X := Lib.hid hk2x
      have HOK2 := Lib.hid hok2
      have HT2X := Lib.hid (HTW.out.below hb2x)
      have HLW := Lib.hid (show gr < W7.heap.size from (own_lt HTW.out.row rfl).2)
      have HRBW := Lib.hid (show rb < W7.heap.size from HTW.out.blk.lt)
      have HFK := Lib.hid hfk
      simp only [putAll]
      simp only [Act.put, List.setIfInBounds_toArray, List.set_cons_succ, List.set_cons_zero, Nat.zero_add, Nat.reduceAdd]
      clear hf hb2x hk2x hok2 hfk hNn
      generalize val 0 = x0, val 1 = x1, val 2 = x2, val 3 = x3, val 4 = x4, val 5 = x5, val 6 = x6, val 7 = x7, val 8 = x8, val 9 = x9, val 10 = x10 at e10 ⊢
      subst e10
      go_upto_region 15 with (fail)
      refine wp_region_mix [(true, 7), (false, 1)] 0 (by kernel_rfl) (fun wx => Below w2x.heap.size w2x wx) (fun _ _ h k => h.trans (k.mono h.size)) (by kernel_rfl) (Below.refl _ _) (a' := ?_) (fun wz hz => ?_) fun wz hz => ?_
      rotate_left
      · have l0 := fun (d : Nat) (os : Array Obj) => ld_rl ((HT2X.out.below (hz.trans ((below_regrown wz d os).mono hz.size))).blk.cell 0)
        have l1 := fun (d : Nat) (os : Array Obj) => fl_load (HK2X.out.below (hz.trans ((below_regrown wz d os).mono hz.size)) HK2X.out.lt) rfl
        clear hz
        simp only [pick_nil, pick_tt, pick_ft, List.take_succ_cons, List.take_zero, List.drop_succ_cons, List.drop_zero, List.append_nil]
        repeat (go_big_quiet_step (fail))
        refine wpQuiet_nil ?_
        rfl
      simp only [pick_nil, pick_ff, pick_tf, List.take_succ_cons, List.take_zero, List.drop_succ_cons, List.drop_zero, List.append_nil]
      have HZ2 := Lib.hid hz
      clear hz
      refine wpMix_step HZ2.out fun wc hc2 => ?_
      have hzc := HZ2.out.trans (hc2.mono HZ2.out.size)
      obtain ⟨w3x, hst3, ht3, hu3, hok3⟩ := (HT2X.out.below hzc).put HNR.out HGI.out (HOK2.out.below hzc)
      have HT3X := Lib.hid ht3
      have HOK3 := Lib.hid hok3
      have HK3X := Lib.hid ((HK2X.out.below hzc HK2X.out.lt).upd hu3 fun (e : fk = gr) => by have := HFK.out; have := HLW.out; omega)
      have HUP3 := Lib.hid (Upd.trans ((HUPW.out.trans_ (Upd.ofBelow HB2X.out _)).trans_ (Upd.ofBelow hzc _)) hu3 fun k (e : k = gr) => HOWN.out k (.inr (by rw [e]; rfl)))
      clear hzc hc2 ht3 hu3 hok3
      go_wp2_with fail
      refine wpMix_plain ?_
      go_upto_region 16 with (fail)
      clear hst3
      have rlx := fl_load HK3X.out rfl
      have HWHO := Lib.hid (whole16_any HOK3.out)
      have HFIN0 := Lib.hid HT3.out
      rw [← HFF.out] at HFIN0
      by_cases hwf : wholeF' gn.f = true
      · rw [hwf] at HWHO
        obtain ⟨e0, he0⟩ : ∃ e0 : Nat, gn.f.en = (e0 : Int) := ⟨gn.f.en.toNat, by have := hwf; rw [whole_iff HOK3.out.ok] at this; simp only [Bool.and_eq_true, decide_eq_true_eq] at this; omega⟩
        have hpay := pay_by HOK3.out.ok hwf
        rw [he0, Int.toNat_natCast] at hpay
        have hebl : e0 ≤ gn.f.bl := by have := HOK3.out.ok.e1; omega
        have hhd := HOK3.out.ok.h (by have := hwf; rw [whole_iff HOK3.out.ok] at this; simp only [Bool.and_eq_true] at this; exact this.1.1)
        have HHD := Lib.hid hhd
        have HPAY := Lib.hid hpay
        have HE0 := Lib.hid he0
        have HEBL := Lib.hid hebl
        have HBLM := Lib.hid HOK3.out.ok.bl
        have hfin : takeF (R.map Rg.f) x = ((RS.map Rg.f).eraseIdx i, outF gn.f) := by rw [HFIN0.out]; unfold stepF; rw [if_pos hwf]
        have HFIN := Lib.hid hfin
        clear hwf hfin hhd hpay he0 hebl
        go_upto_region 18 with (go_at_call 103; refine HWHO.out.mono ?_; rintro e w4 ⟨rfl, hb4⟩; have HB34 := Lib.hid hb4; have HT4 := Lib.hid (HT3X.out.below hb4); have HOK4 := Lib.hid (HOK3.out.below hb4); have HK4 := Lib.hid (HK3X.out.below hb4 HK3X.out.lt); have HUP4 := Lib.hid (HUP3.out.trans_ (Upd.ofBelow hb4 _)); clear hb4)
        clear rlx
        have hdr := drop16_any HT4.out (by have := HUP4.out.size; have := HLO.out; omega) i (by rw [List.length_set, ← HNR.out]; exact hir)
        have HDR := Lib.hid hdr
        clear hdr
        go_upto_region 19 with (go_at_call 89; refine HDR.out.mono ?_; rintro e w5 ⟨rfl, v5, ht5, hu5, hj5⟩; have HT5 := Lib.hid ht5; have HJ5 := Lib.hid hj5; have HOK5 := Lib.hid (HOK4.out.upd hu5 fun k (e : k = rb) => HT4.out.neN (.inl e) HOK4.out); have HK5 := Lib.hid (HK4.out.upd hu5 fun (e : fk = rb) => by have := HFK.out; have := HRBW.out; omega); have HUP5 := Lib.hid (HUP4.out.trans_ (hu5.mono fun k (e : k = rb) => .inl (.inl e))); clear ht5 hu5 hj5)
        rw [erase_set] at HT5
        have l7 := ld_hd7 HK5.out
        obtain ⟨Av, cv, hvo9, hcv, hrv⟩ := HOK5.out.o
        obtain ⟨w6, hst6, hb6, _, hk6⟩ := hd_var (Below.refl w5.heap.size w5) (Nat.le_refl _) gn.f.hd Av gn.f.hd.opts.length cv
        rw [hvo9] at l7
        have HB6 := Lib.hid hb6
        have HK6 := Lib.hid hk6
        have HVO := Lib.hid hvo9
        clear hb6 hk6 hcv hrv hvo9
        unfold hdV at l7 hst6
        go_upto_region 20 with (fail)
        clear l7 hst6
        obtain ⟨hq, hhq⟩ : ∃ z, z = w5.heap.size := ⟨_, rfl⟩
        rw [← hhq] at HK6 ⊢
        have HHQ := Lib.hid hhq
        have s7 := st_boolv (HK6.out.cell 4) (HK6.out.frozen 4) false
        obtain ⟨w7, hw7⟩ : ∃ z, z = w6.setCell ⟨hq, 4, none⟩ (.bool false) := ⟨_, rfl⟩
        have hk7 := HK6.out.set_ 4 (.bool false)
        have hb7 : Below w5.heap.size w5 (w6.setCell ⟨hq, 4, none⟩ (.bool false)) := HB6.out.setCell (p := ⟨hq, 4, none⟩) (by rw [HHQ.out]; exact Nat.le_refl _) _
        rw [← hw7] at s7 hk7 hb7
        rw [show (hdC gn.f.hd (.slice Av gn.f.hd.opts.length cv)).setIfInBounds 4 (.bool false) = hdC { gn.f.hd with mf := false } (.slice Av gn.f.hd.opts.length cv) from rfl] at hk7
        have HB7 := Lib.hid hb7
        have HK7 := Lib.hid hk7
        clear hk7 hb7 hw7 hhq
        go_upto_region 21 with (fail)
        clear s7
        obtain ⟨Ab, cb, hbv, hcb⟩ := HOK5.out.b.form
        rw [bL_len] at hbv hcb
        have HBV := Lib.hid hbv
        have HCB := Lib.hid hcb
        obtain ⟨bl, hbl⟩ : ∃ z, z = gn.f.bl := ⟨_, rfl⟩
        rw [← hbl] at HBV HCB HEBL HBLM
        have HBL := Lib.hid hbl
        obtain ⟨Lo, hLo⟩ : ∃ z, z = gn.f.hd.opts.length := ⟨_, rfl⟩
        have HPS := Lib.hid (show ∀ wx, Below w5.heap.size w5 wx → Sl8 wx (fun _ => True) (.slice Ab e0 cb) (payF gn.f) from fun wx hb => by
          have hr := ((HOK5.out.below hb).b)
          rw [HBV.out] at hr
          have h2 := cut_hi (cap := cb) (k := e0) hr.sl.len.2.2 (by rw [bL_len, ← HBL.out]; exact HEBL.out) (by have := HCB.out; have := HEBL.out; omega)
          rw [HPAY.out]
          exact h2.mono fun _ _ => trivial)
        have HOS := Lib.hid (show ∀ wx, Below w5.heap.size w5 wx → Sl8 wx (fun _ => True) (.slice Av gn.f.hd.opts.length cv) ({ gn.f.hd with mf := false } : Hd).opts from fun wx hb => by
          have := (HOK5.out.below hb).o
          rw [HVO.out] at this
          exact this.mono fun _ _ => trivial)
        have HCC := Lib.hid (show ∀ wx, Below w5.heap.size w5 wx → wx.cell? ⟨fk, 4, none⟩ = some (.slice Ab bl cb) ∧ wx.cell? ⟨fk, 6, none⟩ = some (.int .i64 (e0 : Int)) from fun wx hb => by
          have := HK5.out.below hb HK5.out.lt
          exact ⟨by rw [this.cell, ← HBV.out]; rfl, by rw [this.cell, ← HE0.out]; rfl⟩)
        have hol : gn.f.hd.opts.length ≤ 1000000 := by have := (may_opts HHD.out.2.1).2.1; omega
        have hsl := fun wx => sl_hi Ab bl cb wx e0 (by have := HCB.out; have := HEBL.out; omega)
        clear hbv hcb hbl hLo
        have q0 := fun (d : Nat) (os : Array Obj) => hd_load (HK7.out.below (below_regrown w7 d os) HK7.out.lt) rfl
        have q1 := fun (d : Nat) (os : Array Obj) => ld8s (HCC.out _ (HB7.out.trans ((below_regrown w7 d os).mono HB7.out.size))).1
        have q2 := fun (d : Nat) (os : Array Obj) => ld_int (HCC.out _ (HB7.out.trans ((below_regrown w7 d os).mono HB7.out.size))).2
        have cl := fun (d : Nat) (os : Array Obj) => Calls.regrown_of (fits_any { gn.f.hd with mf := false } _ _ (payF gn.f) (fun _ => True) (grow (redrawn w7 d) os) (HOS.out _ (HB7.out.trans ((below_regrown w7 d os).mono HB7.out.size))) (HPS.out _ (HB7.out.trans ((below_regrown w7 d os).mono HB7.out.size))) hol)
        rw [hdV_eq] at cl
        have HQ0 := Lib.hid (show ∀ wx, Below w7.heap.size w7 wx → _ from fun wx hb => hd_load (HK7.out.below hb HK7.out.lt) rfl)
        have hzo : outF gn.f = if fitsH { gn.f.hd with mf := false } (payF gn.f) = true then (bytesF { gn.f.hd with mf := false } (payF gn.f), 0) else ([], 3) := rfl
        have HZO := Lib.hid hzo
        clear hzo
        by_cases hfit : fitsH { gn.f.hd with mf := false } (payF gn.f) = true
        · have HFIT := Lib.hid hfit
          rw [hfit] at cl
          rw [if_pos hfit] at HZO
          clear hfit
          refine wp_region_quiet_below (by kernel_rfl) (by kernel_rfl) ?_
          repeat (go_big_quiet_step (with_reducible exact cl _ _))
          refine wpQuiet_nil ?_
          intro _ hw'
          obtain ⟨⟨dq, osq⟩, hw''⟩ := hw'
          subst hw''
          have hbq := below_regrown w7 dq osq
          generalize grow (redrawn w7 dq) osq = w8 at hbq
          have HB78 := Lib.hid hbq
          have HB8 := Lib.hid (HB7.out.trans (hbq.mono HB7.out.size))
          have HUP8 := Lib.hid (HUP5.out.trans_ (Upd.ofBelow HB8.out _))
          clear q0 q1 q2 cl hbq
          go_upto_region 23 with (fail)
          refine wp_region_mix [(true, 6), (false, 3)] 0 (by kernel_rfl) (fun wx => Below w8.heap.size w8 wx) (fun _ _ h k => h.trans (k.mono h.size)) (by kernel_rfl) (Below.refl _ _) (a' := ?_) (fun wz hz => ?_) fun wz hz => ?_
          rotate_left
          · have q0 := fun (d : Nat) (os : Array Obj) => HQ0.out _ (HB78.out.trans ((hz.trans ((below_regrown wz d os).mono hz.size)).mono HB78.out.size))
            have q1 := fun (d : Nat) (os : Array Obj) => ld8s (HCC.out _ (HB8.out.trans ((hz.trans ((below_regrown wz d os).mono hz.size)).mono HB8.out.size))).1
            have q2 := fun (d : Nat) (os : Array Obj) => ld_int (HCC.out _ (HB8.out.trans ((hz.trans ((below_regrown wz d os).mono hz.size)).mono HB8.out.size))).2
            clear hz
            simp only [pick_nil, pick_tt, pick_ft, List.take_succ_cons, List.take_zero, List.drop_succ_cons, List.drop_zero, List.append_nil]
            repeat (go_big_quiet_step (fail))
            refine wpQuiet_nil ?_
            rfl
          simp only [pick_nil, pick_ff, pick_tf, List.take_succ_cons, List.take_zero, List.drop_succ_cons, List.drop_zero, List.append_nil]
          have HZ8 := Lib.hid hz
          clear hz
          refine wpMix_step HZ8.out fun wa9 ha9 => ?_
          have hb9 := HB8.out.trans ((HZ8.out.trans (ha9.mono HZ8.out.size)).mono HB8.out.size)
          have hby := rbytes_any { gn.f.hd with mf := false } _ _ (payF gn.f) (fun _ => True) wa9 (HOS.out _ hb9) (HPS.out _ hb9) HHD.out.1 HFIT.out
          rw [hdV_eq] at hby
          have HBY := Lib.hid hby
          have HB9 := Lib.hid hb9
          clear ha9 hb9 hby
          go_wp2_with (go_at_call 38; refine HBY.out.mono ?_; rintro e w9 ⟨v9, rfl, hr9, hbb9⟩; have HR9 := Lib.hid hr9; have HBB9 := Lib.hid (HB9.out.trans (hbb9.mono HB9.out.size)); clear hr9 hbb9)
          refine wpMix_plain ?_
          go_wp2_with fail
          go_ret2
          rw [HFIN.out, HZO.out]
          exact ⟨_, v5, RS.eraseIdx i, rfl, row_sl HR9.out, map_eraseR _ _, HT5.out.below HBB9.out, HUP5.out.trans_ (Upd.ofBelow HBB9.out _), fun k hk => by
            rcases hk with hk | hk
            · exact .inl (.inl hk)
            · exact .inr (Nat.le_trans HUP4.out.size (HJ5.out k hk)), fun z hz => HPROV.out z (List.mem_of_mem_eraseIdx hz)⟩
        · have hfit' : fitsH { gn.f.hd with mf := false } (payF gn.f) = false := by simpa using hfit
          rw [hfit'] at cl
          rw [if_neg hfit] at HZO
          clear hfit hfit'
          refine wp_region_quiet_below (by kernel_rfl) (by kernel_rfl) ?_
          repeat (go_big_quiet_step (with_reducible exact cl _ _))
          refine wpQuiet_nil ?_
          intro _ hw'
          obtain ⟨⟨dq, osq⟩, hw''⟩ := hw'
          subst hw''
          have hbq := below_regrown w7 dq osq
          generalize grow (redrawn w7 dq) osq = w8 at hbq
          have HB78 := Lib.hid hbq
          have HB8 := Lib.hid (HB7.out.trans (hbq.mono HB7.out.size))
          have HUP8 := Lib.hid (HUP5.out.trans_ (Upd.ofBelow HB8.out _))
          clear q0 q1 q2 cl hbq
          go_wp2_with fail
          go_ret2
          rw [HFIN.out, HZO.out]
          exact ⟨_, v5, RS.eraseIdx i, rfl, sl_nil _ _, map_eraseR _ _, HT5.out.below HB8.out, HUP8.out, fun k hk => by
            rcases hk with hk | hk
            · exact .inl (.inl hk)
            · exact .inr (Nat.le_trans HUP4.out.size (HJ5.out k hk)), fun z hz => HPROV.out z (List.mem_of_mem_eraseIdx hz)⟩
      · have hwf' : wholeF' gn.f = false := by simpa using hwf
        rw [hwf'] at HWHO
        have hfin : takeF (R.map Rg.f) x = ((RS.map Rg.f).set i gn.f, [], 0) := by rw [HFIN0.out]; unfold stepF; rw [if_neg hwf]
        have HFIN := Lib.hid hfin
        clear hwf hwf' hfin
        go_wp2_with (go_at_call 103; refine HWHO.out.mono ?_; rintro e w4 ⟨rfl, hb4⟩; have HB34 := Lib.hid hb4; have HT4 := Lib.hid (HT3X.out.below hb4); have HUP4 := Lib.hid (HUP3.out.trans_ (Upd.ofBelow hb4 _)); clear hb4)
        go_ret2
        rw [HFIN.out]
        exact ⟨_, _, RS.set i gn, rfl, sl_nil _ _, List.map_set, HT4.out, HUP4.out, HOWN.out, fun z hz => by
          rcases List.mem_or_eq_of_mem_set hz with hz | rfl
          · exact HPROV.out z hz
          · exact .inr fun k hk => Nat.le_trans HUPW.out.size (HNN.out k hk)⟩
    · subst ez
      have HGI := Lib.hid hgi
      obtain ⟨RS, hRS⟩ : ∃ RS, RS = R := ⟨_, rfl⟩
      have HT3 := Lib.hid (show takeF (R.map Rg.f) x = stepF (RS.map Rg.f) i (layF gg.f g y) by rw [HT3A.out, ek, hRS]; simp only; rw [List.getD_eq_getElem?_getD, List.getElem?_map, hgi]; rfl)
      have HTW := Lib.hid (HT.out w5 HB5.out)
      rw [← hRS] at HGI HTW
      have HKW := Lib.hid HK5.out
      have HROW := Lib.hid (fun wx (hb : Below w5.heap.size w5 wx) => HRO2.out wx (HB25.out.trans (hb.mono HB25.out.size)))
      have HRYW := Lib.hid (fun wx (hb : Below w5.heap.size w5 wx) => HRY2.out wx (HB25.out.trans (hb.mono HB25.out.size)))
      obtain ⟨vW, hvW⟩ : ∃ z, z = v := ⟨_, rfl⟩
      have HUPW := Lib.hid (Upd.ofBelow HB5.out (RfU rb v))
      have HOWN := Lib.hid (show ∀ k, RfU rb vW k → RfU rb v k ∨ w.heap.size ≤ k from fun k hk => .inl (by rw [← hvW]; exact hk))
      rw [← hvW] at HTW
      have HPROV := Lib.hid (show ∀ z ∈ RS, z ∈ R ∨ ∀ k, RgN z k → w.heap.size ≤ k from fun z hz => .inl (by rw [← hRS]; exact hz))
      clear hgi hkk ek hRS hvW
      have hi00 : (0 : Int) ≤ (i : Int) := by omega
      go_upto_region 14 with (fail)
      obtain ⟨gr, cr, hvr, _⟩ := HTW.out.at_ (by have := (List.getElem?_eq_some_iff.1 HGI.out).1; omega)
      subst hvr
      obtain ⟨nr, hnr⟩ : ∃ z, z = RS.length := ⟨_, rfl⟩
      rw [← hnr] at HTW HOWN
      have HNR := Lib.hid hnr
      have hir : i < nr := by rw [hnr]; exact (List.getElem?_eq_some_iff.1 HGI.out).1
      have hnr64 : nr ≤ 64 := by rw [hnr]; exact HTW.out.len
      clear hnr
      have i0 : (0 : Int) ≤ (i : Int) := by omega
      have i1 : (i : Int) < (nr : Int) := by omega
      refine wp_region_rel (by kernel_rfl) (fun p q => Below w5.heap.size p q) (TkΦ rb gh gr nr cr i Ln cq co lo w5.heap.size Aq Ao gg g y) 11 (fun val w9 => ∃ gn b, val 10 = .pointer (some ⟨b, 0, none⟩) ∧ w5.heap.size ≤ b ∧ Blk w9 b 126 (rgA gn) ∧ gn.f = layF gg.f g y ∧ RgOk w9 lo gn ∧ (∀ k, RgN gn k → w5.heap.size ≤ k) ∧ Below w5.heap.size w5 w9) (fun _ _ => false) (by kernel_rfl) (fun p => Below.refl _ p) (fun h k => h.trans k) (obl_of ?_) (fun o ho => ?_) ?_
      · refine ⟨fun _ => ?_, fun _ => ?_, fun _ => ?_, fun _ => ?_, fun _ => ?_, fun _ => ?_, fun _ => ?_, fun _ => ?_, fun _ => ?_, fun _ => ?_, fun _ => ?_, fun h => absurd rfl h, trivial⟩
        · -- 0
          intro val wx hg hd hb hs K hK
          generalize hρ : rhoV _ _ val = ρ
          have cc : ∀ u, ρ (.const u) = u := fun u => by rw [← hρ]; rfl
          have ff : ∀ u, ρ (.func u) = .func (.func u) #[] #[] := fun u => by rw [← hρ]; rfl
          have r0 : ρ (.tmp 0) = .pointer (some ⟨rb, 0, none⟩) := by rw [← hρ]; rfl
          clear hρ hd hb hs
          refine ifv rfl ?_
          go_simp
          exact hK _ _ (Below.refl _ _) rfl fun _ _ _ _ h => h
        · -- 1
          intro val wx hg hd hb hs K hK
          generalize hρ : rhoV _ _ val = ρ
          have cc : ∀ u, ρ (.const u) = u := fun u => by rw [← hρ]; rfl
          have ff : ∀ u, ρ (.func u) = .func (.func u) #[] #[] := fun u => by rw [← hρ]; rfl
          have r83 : ρ (.tmp 83) = .pointer (some ⟨rb, 0, none⟩) := by rw [← hρ]; exact hd 0 rfl rfl
          clear hρ hd hb hs
          refine ifv rfl ?_
          go_simp
          exact hK _ _ (Below.refl _ _) rfl fun _ _ _ _ h => h
        · -- 2
          intro val wx hg hd hb hs K hK
          generalize hρ : rhoV _ _ val = ρ
          have cc : ∀ u, ρ (.const u) = u := fun u => by rw [← hρ]; rfl
          have ff : ∀ u, ρ (.func u) = .func (.func u) #[] #[] := fun u => by rw [← hρ]; rfl
          have r84 : ρ (.tmp 84) = .pointer (some ⟨rb, 0, none⟩) := by rw [← hρ]; exact hd 1 rfl rfl
          clear hρ hd hb hs
          refine ifv rfl ?_
          go_simp
          exact hK _ _ (Below.refl _ _) rfl fun _ _ _ _ h => h
        · -- 3
          intro val wx hg hd hb hs K hK
          generalize hρ : rhoV _ _ val = ρ
          have cc : ∀ u, ρ (.const u) = u := fun u => by rw [← hρ]; rfl
          have ff : ∀ u, ρ (.func u) = .func (.func u) #[] #[] := fun u => by rw [← hρ]; rfl
          have r85 : ρ (.tmp 85) = .pointer (some ⟨rb, 0, none⟩) := by rw [← hρ]; exact hd 2 rfl rfl
          have hbx : Below w5.heap.size w5 wx := ⟨hg.os, hg.tape, hg.output, hg.size, hg.block⟩
          have h4 := ld_rl ((HTW.out.below hbx).blk.cell 0)
          clear hρ hd hb hs
          refine ifv rfl ?_
          go_simp
          exact hK _ _ (Below.refl _ _) rfl fun _ _ _ _ h => h
        · -- 4
          intro val wx hg hd hb hs K hK
          generalize hρ : rhoV _ _ val = ρ
          have cc : ∀ u, ρ (.const u) = u := fun u => by rw [← hρ]; rfl
          have ff : ∀ u, ρ (.func u) = .func (.func u) #[] #[] := fun u => by rw [← hρ]; rfl
          have r9 : ρ (.tmp 9) = .int .i64 (i : Int) := by rw [← hρ]; rfl
          clear hρ hd hb hs
          refine ifv rfl ?_
          go_simp
          exact hK _ _ (Below.refl _ _) rfl fun _ _ _ _ h => h
        · -- 5
          intro val wx hg hd hb hs K hK
          generalize hρ : rhoV _ _ val = ρ
          have cc : ∀ u, ρ (.const u) = u := fun u => by rw [← hρ]; rfl
          have ff : ∀ u, ρ (.func u) = .func (.func u) #[] #[] := fun u => by rw [← hρ]; rfl
          have r86 : ρ (.tmp 86) = .slice (some ⟨gr, 0, none⟩) nr cr := by rw [← hρ]; exact hd 3 rfl rfl
          have r87 : ρ (.tmp 87) = .int .i64 (i : Int) := by rw [← hρ]; exact hd 4 rfl rfl
          clear hρ hd hb hs
          refine ifv rfl ?_
          go_simp
          exact hK _ _ (Below.refl _ _) rfl fun _ _ _ _ h => h
        · -- 6
          intro val wx hg hd hb hs K hK
          generalize hρ : rhoV _ _ val = ρ
          have cc : ∀ u, ρ (.const u) = u := fun u => by rw [← hρ]; rfl
          have ff : ∀ u, ρ (.func u) = .func (.func u) #[] #[] := fun u => by rw [← hρ]; rfl
          have r88 : ρ (.tmp 88) = .pointer (some ⟨gr, i * 19, none⟩) := by rw [← hρ]; exact hd 5 rfl rfl
          have hbx : Below w5.heap.size w5 wx := ⟨hg.os, hg.tape, hg.output, hg.size, hg.block⟩
          have h4 := RfM.ld (HTW.out.below hbx) HNR.out HGI.out
          clear hρ hd hb hs
          refine ifv rfl ?_
          go_simp
          exact hK _ _ (Below.refl _ _) rfl fun _ _ _ _ h => h
        · -- 7
          intro val wx hg hd hb hs K hK
          generalize hρ : rhoV _ _ val = ρ
          have cc : ∀ u, ρ (.const u) = u := fun u => by rw [← hρ]; rfl
          have ff : ∀ u, ρ (.func u) = .func (.func u) #[] #[] := fun u => by rw [← hρ]; rfl
          have r6 : ρ (.tmp 6) = .pointer (some ⟨gh, 0, none⟩) := by rw [← hρ]; rfl
          have hbx : Below w5.heap.size w5 wx := ⟨hg.os, hg.tape, hg.output, hg.size, hg.block⟩
          have h4 := hd_load (HKW.out.below hbx HKW.out.lt) rfl
          clear hρ hd hb hs
          refine ifv rfl ?_
          go_simp
          exact hK _ _ (Below.refl _ _) rfl fun _ _ _ _ h => h
        · -- 8
          intro val wx hg hd hb hs K hK
          generalize hρ : rhoV _ _ val = ρ
          have cc : ∀ u, ρ (.const u) = u := fun u => by rw [← hρ]; rfl
          have ff : ∀ u, ρ (.func u) = .func (.func u) #[] #[] := fun u => by rw [← hρ]; rfl
          have r7 : ρ (.tmp 7) = .slice Aq Ln cq := by rw [← hρ]; rfl
          clear hρ hd hb hs
          refine ifv rfl ?_
          go_simp
          exact hK _ _ (Below.refl _ _) rfl fun _ _ _ _ h => h
        · -- 9
          intro val wx hg hd hb hs K hK
          generalize hρ : rhoV _ _ val = ρ
          have cc : ∀ u, ρ (.const u) = u := fun u => by rw [← hρ]; rfl
          have ff : ∀ u, ρ (.func u) = .func (.func u) #[] #[] := fun u => by rw [← hρ]; rfl
          have r89 : ρ (.tmp 89) = .agg (rgA gg) := by rw [← hρ]; exact hd 6 rfl rfl
          have r90 : ρ (.tmp 90) = .agg (hdC g (.slice Ao g.opts.length co)) := by rw [← hρ]; exact hd 7 rfl rfl
          have r91 : ρ (.tmp 91) = .slice Aq Ln cq := by rw [← hρ]; exact hd 8 rfl rfl
          have hbx : Below w5.heap.size w5 wx := ⟨hg.os, hg.tape, hg.output, hg.size, hg.block⟩
          have hc := laid_any ((HTW.out.below hbx).fl gg (List.mem_of_getElem? HGI.out)) HPK.out _ (HROW.out wx hbx) _ (HRYW.out wx hbx)
          rw [hdV_eq] at hc
          have hzx : w5.heap.size ≤ wx.heap.size := hg.size
          clear hρ hd hb hs
          refine ifv rfl ?_
          go_simp
          refine hc.mono ?_
          rintro e w3 ⟨gn, rfl, hf, hok, hN, hb3⟩
          exact ⟨_, rfl, hK _ _ (hb3.mono hzx) ⟨gn, rfl, hf, hok, fun k hk => Nat.le_trans hzx (hN k hk)⟩ fun j _ _ _ h => TkΦ.keep hb3 j _ h⟩
        · -- 10
          intro val wx hg hd hb hs K hK
          generalize hρ : rhoV _ _ val = ρ
          have cc : ∀ u, ρ (.const u) = u := fun u => by rw [← hρ]; rfl
          have ff : ∀ u, ρ (.func u) = .func (.func u) #[] #[] := fun u => by rw [← hρ]; rfl
          have hzx : w5.heap.size ≤ wx.heap.size := hg.size
          have hbl : Below wx.heap.size wx (wx.alloc (.cells fl0V 126)) := (Below.refl _ _).alloc (Nat.le_refl _) _
          clear hρ hd hb hs
          refine ifv rfl ?_
          go_simp
          exact hK _ _ (hbl.mono hzx) ⟨_, rfl, hzx, Blk.new _ _ _⟩ fun j _ _ _ h => TkΦ.keep hbl j _ h
      · replace ho := Option.some.inj ho
        subst ho
        intro val wx hg hd hs K hK
        generalize hρ : rhoV _ _ val = ρ
        have r10 : ρ (.tmp 10) = val 10 := by rw [← hρ]; rfl
        have r92 : ρ (.tmp 92) = val 9 := by rw [← hρ]; rfl
        obtain ⟨gn, e9, hf, hok, hN⟩ : ∃ gn, val 9 = .agg (rgA gn) ∧ gn.f = layF gg.f g y ∧ RgOk wx lo gn ∧ ∀ k, RgN gn k → w5.heap.size ≤ k := hd 9 (by decide) (by decide) fun _ _ _ => rfl
        obtain ⟨b, e10, hq, hk⟩ : ∃ b, val 10 = .pointer (some ⟨b, 0, none⟩) ∧ w5.heap.size ≤ b ∧ Blk wx b 126 fl0V := hd 10 (by decide) (by decide) fun _ _ _ => rfl
        have st := fl_store (vs := rgA gn) hk rfl rfl (rgL_all hok)
        have hk2 : Blk (wx.setCells b 0 (rgA gn).toList) b 126 (rgA gn) := blk_setCells hk rfl
        have hu : Upd (only b) wx (wx.setCells b 0 (rgA gn).toList) := Upd.setCells _ _ _ (Upd.refl _ _) (.inl rfl)
        have hbx : Below w5.heap.size w5 wx := ⟨hg.os, hg.tape, hg.output, hg.size, hg.block⟩
        have hok2 : RgOk (wx.setCells b 0 (rgA gn).toList) lo gn := hok.upd hu fun k (e : k = b) => ⟨by have := HTW.out.blk.lt; have := HTW.out.lo; omega, fun hx => by
          rw [e] at hx
          rcases hx with hx | hx
          · exact own_blk_ne hok.b hk (by decide) hx
          · exact own_blk_ne hok.h hk (by decide) hx⟩
        have hb2 : Below w5.heap.size w5 (wx.setCells b 0 (rgA gn).toList) := hbx.trans (hu.below (fun k (e : k = b) => by omega) hbx.size)
        rw [e9] at r92
        rw [e10] at r10
        clear hρ hd hs
        refine ifv rfl ?_
        go_simp
        exact hK _ _ ⟨gn, b, by rw [← e10]; rfl, hq, hk2, hf, hok2, hN, hb2⟩
      intro val w2x h9
      rw [if_pos (by decide)] at h9
      obtain ⟨gn, fk, e10, hfk, hk2x, hf, hok2, hNn, hb2x⟩ := h9
      have HNN := Lib.hid hNn
      have HFF := Lib.hid hf
      have HB2X := Lib.hid hb2x
      have HK2X := Lib.hid hk2x
      have HOK2 := Lib.hid hok2
      have HT2X := Lib.hid (HTW.out.below hb2x)
      have HLW := Lib.hid (show gr < w5.heap.size from (own_lt HTW.out.row rfl).2)
      have HRBW := Lib.hid (show rb < w5.heap.size from HTW.out.blk.lt)
      have HFK := Lib.hid hfk
      simp only [putAll]
      simp only [Act.put, List.setIfInBounds_toArray, List.set_cons_succ, List.set_cons_zero, Nat.zero_add, Nat.reduceAdd]
      clear hf hb2x hk2x hok2 hfk hNn
      generalize val 0 = x0, val 1 = x1, val 2 = x2, val 3 = x3, val 4 = x4, val 5 = x5, val 6 = x6, val 7 = x7, val 8 = x8, val 9 = x9, val 10 = x10 at e10 ⊢
      subst e10
      go_upto_region 15 with (fail)
      refine wp_region_mix [(true, 7), (false, 1)] 0 (by kernel_rfl) (fun wx => Below w2x.heap.size w2x wx) (fun _ _ h k => h.trans (k.mono h.size)) (by kernel_rfl) (Below.refl _ _) (a' := ?_) (fun wz hz => ?_) fun wz hz => ?_
      rotate_left
      · have l0 := fun (d : Nat) (os : Array Obj) => ld_rl ((HT2X.out.below (hz.trans ((below_regrown wz d os).mono hz.size))).blk.cell 0)
        have l1 := fun (d : Nat) (os : Array Obj) => fl_load (HK2X.out.below (hz.trans ((below_regrown wz d os).mono hz.size)) HK2X.out.lt) rfl
        clear hz
        simp only [pick_nil, pick_tt, pick_ft, List.take_succ_cons, List.take_zero, List.drop_succ_cons, List.drop_zero, List.append_nil]
        repeat (go_big_quiet_step (fail))
        refine wpQuiet_nil ?_
        rfl
      simp only [pick_nil, pick_ff, pick_tf, List.take_succ_cons, List.take_zero, List.drop_succ_cons, List.drop_zero, List.append_nil]
      have HZ2 := Lib.hid hz
      clear hz
      refine wpMix_step HZ2.out fun wc hc2 => ?_
      have hzc := HZ2.out.trans (hc2.mono HZ2.out.size)
      obtain ⟨w3x, hst3, ht3, hu3, hok3⟩ := (HT2X.out.below hzc).put HNR.out HGI.out (HOK2.out.below hzc)
      have HT3X := Lib.hid ht3
      have HOK3 := Lib.hid hok3
      have HK3X := Lib.hid ((HK2X.out.below hzc HK2X.out.lt).upd hu3 fun (e : fk = gr) => by have := HFK.out; have := HLW.out; omega)
      have HUP3 := Lib.hid (Upd.trans ((HUPW.out.trans_ (Upd.ofBelow HB2X.out _)).trans_ (Upd.ofBelow hzc _)) hu3 fun k (e : k = gr) => HOWN.out k (.inr (by rw [e]; rfl)))
      clear hzc hc2 ht3 hu3 hok3
      go_wp2_with fail
      refine wpMix_plain ?_
      go_upto_region 16 with (fail)
      clear hst3
      have rlx := fl_load HK3X.out rfl
      have HWHO := Lib.hid (whole16_any HOK3.out)
      have HFIN0 := Lib.hid HT3.out
      rw [← HFF.out] at HFIN0
      by_cases hwf : wholeF' gn.f = true
      · rw [hwf] at HWHO
        obtain ⟨e0, he0⟩ : ∃ e0 : Nat, gn.f.en = (e0 : Int) := ⟨gn.f.en.toNat, by have := hwf; rw [whole_iff HOK3.out.ok] at this; simp only [Bool.and_eq_true, decide_eq_true_eq] at this; omega⟩
        have hpay := pay_by HOK3.out.ok hwf
        rw [he0, Int.toNat_natCast] at hpay
        have hebl : e0 ≤ gn.f.bl := by have := HOK3.out.ok.e1; omega
        have hhd := HOK3.out.ok.h (by have := hwf; rw [whole_iff HOK3.out.ok] at this; simp only [Bool.and_eq_true] at this; exact this.1.1)
        have HHD := Lib.hid hhd
        have HPAY := Lib.hid hpay
        have HE0 := Lib.hid he0
        have HEBL := Lib.hid hebl
        have HBLM := Lib.hid HOK3.out.ok.bl
        have hfin : takeF (R.map Rg.f) x = ((RS.map Rg.f).eraseIdx i, outF gn.f) := by rw [HFIN0.out]; unfold stepF; rw [if_pos hwf]
        have HFIN := Lib.hid hfin
        clear hwf hfin hhd hpay he0 hebl
        go_upto_region 18 with (go_at_call 103; refine HWHO.out.mono ?_; rintro e w4 ⟨rfl, hb4⟩; have HB34 := Lib.hid hb4; have HT4 := Lib.hid (HT3X.out.below hb4); have HOK4 := Lib.hid (HOK3.out.below hb4); have HK4 := Lib.hid (HK3X.out.below hb4 HK3X.out.lt); have HUP4 := Lib.hid (HUP3.out.trans_ (Upd.ofBelow hb4 _)); clear hb4)
        clear rlx
        have hdr := drop16_any HT4.out (by have := HUP4.out.size; have := HLO.out; omega) i (by rw [List.length_set, ← HNR.out]; exact hir)
        have HDR := Lib.hid hdr
        clear hdr
        go_upto_region 19 with (go_at_call 89; refine HDR.out.mono ?_; rintro e w5 ⟨rfl, v5, ht5, hu5, hj5⟩; have HT5 := Lib.hid ht5; have HJ5 := Lib.hid hj5; have HOK5 := Lib.hid (HOK4.out.upd hu5 fun k (e : k = rb) => HT4.out.neN (.inl e) HOK4.out); have HK5 := Lib.hid (HK4.out.upd hu5 fun (e : fk = rb) => by have := HFK.out; have := HRBW.out; omega); have HUP5 := Lib.hid (HUP4.out.trans_ (hu5.mono fun k (e : k = rb) => .inl (.inl e))); clear ht5 hu5 hj5)
        rw [erase_set] at HT5
        have l7 := ld_hd7 HK5.out
        obtain ⟨Av, cv, hvo9, hcv, hrv⟩ := HOK5.out.o
        obtain ⟨w6, hst6, hb6, _, hk6⟩ := hd_var (Below.refl w5.heap.size w5) (Nat.le_refl _) gn.f.hd Av gn.f.hd.opts.length cv
        rw [hvo9] at l7
        have HB6 := Lib.hid hb6
        have HK6 := Lib.hid hk6
        have HVO := Lib.hid hvo9
        clear hb6 hk6 hcv hrv hvo9
        unfold hdV at l7 hst6
        go_upto_region 20 with (fail)
        clear l7 hst6
        obtain ⟨hq, hhq⟩ : ∃ z, z = w5.heap.size := ⟨_, rfl⟩
        rw [← hhq] at HK6 ⊢
        have HHQ := Lib.hid hhq
        have s7 := st_boolv (HK6.out.cell 4) (HK6.out.frozen 4) false
        obtain ⟨w7, hw7⟩ : ∃ z, z = w6.setCell ⟨hq, 4, none⟩ (.bool false) := ⟨_, rfl⟩
        have hk7 := HK6.out.set_ 4 (.bool false)
        have hb7 : Below w5.heap.size w5 (w6.setCell ⟨hq, 4, none⟩ (.bool false)) := HB6.out.setCell (p := ⟨hq, 4, none⟩) (by rw [HHQ.out]; exact Nat.le_refl _) _
        rw [← hw7] at s7 hk7 hb7
        rw [show (hdC gn.f.hd (.slice Av gn.f.hd.opts.length cv)).setIfInBounds 4 (.bool false) = hdC { gn.f.hd with mf := false } (.slice Av gn.f.hd.opts.length cv) from rfl] at hk7
        have HB7 := Lib.hid hb7
        have HK7 := Lib.hid hk7
        clear hk7 hb7 hw7 hhq
        go_upto_region 21 with (fail)
        clear s7
        obtain ⟨Ab, cb, hbv, hcb⟩ := HOK5.out.b.form
        rw [bL_len] at hbv hcb
        have HBV := Lib.hid hbv
        have HCB := Lib.hid hcb
        obtain ⟨bl, hbl⟩ : ∃ z, z = gn.f.bl := ⟨_, rfl⟩
        rw [← hbl] at HBV HCB HEBL HBLM
        have HBL := Lib.hid hbl
        obtain ⟨Lo, hLo⟩ : ∃ z, z = gn.f.hd.opts.length := ⟨_, rfl⟩
        have HPS := Lib.hid (show ∀ wx, Below w5.heap.size w5 wx → Sl8 wx (fun _ => True) (.slice Ab e0 cb) (payF gn.f) from fun wx hb => by
          have hr := ((HOK5.out.below hb).b)
          rw [HBV.out] at hr
          have h2 := cut_hi (cap := cb) (k := e0) hr.sl.len.2.2 (by rw [bL_len, ← HBL.out]; exact HEBL.out) (by have := HCB.out; have := HEBL.out; omega)
          rw [HPAY.out]
          exact h2.mono fun _ _ => trivial)
        have HOS := Lib.hid (show ∀ wx, Below w5.heap.size w5 wx → Sl8 wx (fun _ => True) (.slice Av gn.f.hd.opts.length cv) ({ gn.f.hd with mf := false } : Hd).opts from fun wx hb => by
          have := (HOK5.out.below hb).o
          rw [HVO.out] at this
          exact this.mono fun _ _ => trivial)
        have HCC := Lib.hid (show ∀ wx, Below w5.heap.size w5 wx → wx.cell? ⟨fk, 4, none⟩ = some (.slice Ab bl cb) ∧ wx.cell? ⟨fk, 6, none⟩ = some (.int .i64 (e0 : Int)) from fun wx hb => by
          have := HK5.out.below hb HK5.out.lt
          exact ⟨by rw [this.cell, ← HBV.out]; rfl, by rw [this.cell, ← HE0.out]; rfl⟩)
        have hol : gn.f.hd.opts.length ≤ 1000000 := by have := (may_opts HHD.out.2.1).2.1; omega
        have hsl := fun wx => sl_hi Ab bl cb wx e0 (by have := HCB.out; have := HEBL.out; omega)
        clear hbv hcb hbl hLo
        have q0 := fun (d : Nat) (os : Array Obj) => hd_load (HK7.out.below (below_regrown w7 d os) HK7.out.lt) rfl
        have q1 := fun (d : Nat) (os : Array Obj) => ld8s (HCC.out _ (HB7.out.trans ((below_regrown w7 d os).mono HB7.out.size))).1
        have q2 := fun (d : Nat) (os : Array Obj) => ld_int (HCC.out _ (HB7.out.trans ((below_regrown w7 d os).mono HB7.out.size))).2
        have cl := fun (d : Nat) (os : Array Obj) => Calls.regrown_of (fits_any { gn.f.hd with mf := false } _ _ (payF gn.f) (fun _ => True) (grow (redrawn w7 d) os) (HOS.out _ (HB7.out.trans ((below_regrown w7 d os).mono HB7.out.size))) (HPS.out _ (HB7.out.trans ((below_regrown w7 d os).mono HB7.out.size))) hol)
        rw [hdV_eq] at cl
        have HQ0 := Lib.hid (show ∀ wx, Below w7.heap.size w7 wx → _ from fun wx hb => hd_load (HK7.out.below hb HK7.out.lt) rfl)
        have hzo : outF gn.f = if fitsH { gn.f.hd with mf := false } (payF gn.f) = true then (bytesF { gn.f.hd with mf := false } (payF gn.f), 0) else ([], 3) := rfl
        have HZO := Lib.hid hzo
        clear hzo
        by_cases hfit : fitsH { gn.f.hd with mf := false } (payF gn.f) = true
        · have HFIT := Lib.hid hfit
          rw [hfit] at cl
          rw [if_pos hfit] at HZO
          clear hfit
          refine wp_region_quiet_below (by kernel_rfl) (by kernel_rfl) ?_
          repeat (go_big_quiet_step (with_reducible exact cl _ _))
          refine wpQuiet_nil ?_
          intro _ hw'
          obtain ⟨⟨dq, osq⟩, hw''⟩ := hw'
          subst hw''
          have hbq := below_regrown w7 dq osq
          generalize grow (redrawn w7 dq) osq = w8 at hbq
          have HB78 := Lib.hid hbq
          have HB8 := Lib.hid (HB7.out.trans (hbq.mono HB7.out.size))
          have HUP8 := Lib.hid (HUP5.out.trans_ (Upd.ofBelow HB8.out _))
          clear q0 q1 q2 cl hbq
          go_upto_region 23 with (fail)
          refine wp_region_mix [(true, 6), (false, 3)] 0 (by kernel_rfl) (fun wx => Below w8.heap.size w8 wx) (fun _ _ h k => h.trans (k.mono h.size)) (by kernel_rfl) (Below.refl _ _) (a' := ?_) (fun wz hz => ?_) fun wz hz => ?_
          rotate_left
          · have q0 := fun (d : Nat) (os : Array Obj) => HQ0.out _ (HB78.out.trans ((hz.trans ((below_regrown wz d os).mono hz.size)).mono HB78.out.size))
            have q1 := fun (d : Nat) (os : Array Obj) => ld8s (HCC.out _ (HB8.out.trans ((hz.trans ((below_regrown wz d os).mono hz.size)).mono HB8.out.size))).1
            have q2 := fun (d : Nat) (os : Array Obj) => ld_int (HCC.out _ (HB8.out.trans ((hz.trans ((below_regrown wz d os).mono hz.size)).mono HB8.out.size))).2
            clear hz
            simp only [pick_nil, pick_tt, pick_ft, List.take_succ_cons, List.take_zero, List.drop_succ_cons, List.drop_zero, List.append_nil]
            repeat (go_big_quiet_step (fail))
            refine wpQuiet_nil ?_
            rfl
          simp only [pick_nil, pick_ff, pick_tf, List.take_succ_cons, List.take_zero, List.drop_succ_cons, List.drop_zero, List.append_nil]
          have HZ8 := Lib.hid hz
          clear hz
          refine wpMix_step HZ8.out fun wa9 ha9 => ?_
          have hb9 := HB8.out.trans ((HZ8.out.trans (ha9.mono HZ8.out.size)).mono HB8.out.size)
          have hby := rbytes_any { gn.f.hd with mf := false } _ _ (payF gn.f) (fun _ => True) wa9 (HOS.out _ hb9) (HPS.out _ hb9) HHD.out.1 HFIT.out
          rw [hdV_eq] at hby
          have HBY := Lib.hid hby
          have HB9 := Lib.hid hb9
          clear ha9 hb9 hby
          go_wp2_with (go_at_call 38; refine HBY.out.mono ?_; rintro e w9 ⟨v9, rfl, hr9, hbb9⟩; have HR9 := Lib.hid hr9; have HBB9 := Lib.hid (HB9.out.trans (hbb9.mono HB9.out.size)); clear hr9 hbb9)
          refine wpMix_plain ?_
          go_wp2_with fail
          go_ret2
          rw [HFIN.out, HZO.out]
          exact ⟨_, v5, RS.eraseIdx i, rfl, row_sl HR9.out, map_eraseR _ _, HT5.out.below HBB9.out, HUP5.out.trans_ (Upd.ofBelow HBB9.out _), fun k hk => by
            rcases hk with hk | hk
            · exact .inl (.inl hk)
            · exact .inr (Nat.le_trans HUP4.out.size (HJ5.out k hk)), fun z hz => HPROV.out z (List.mem_of_mem_eraseIdx hz)⟩
        · have hfit' : fitsH { gn.f.hd with mf := false } (payF gn.f) = false := by simpa using hfit
          rw [hfit'] at cl
          rw [if_neg hfit] at HZO
          clear hfit hfit'
          refine wp_region_quiet_below (by kernel_rfl) (by kernel_rfl) ?_
          repeat (go_big_quiet_step (with_reducible exact cl _ _))
          refine wpQuiet_nil ?_
          intro _ hw'
          obtain ⟨⟨dq, osq⟩, hw''⟩ := hw'
          subst hw''
          have hbq := below_regrown w7 dq osq
          generalize grow (redrawn w7 dq) osq = w8 at hbq
          have HB78 := Lib.hid hbq
          have HB8 := Lib.hid (HB7.out.trans (hbq.mono HB7.out.size))
          have HUP8 := Lib.hid (HUP5.out.trans_ (Upd.ofBelow HB8.out _))
          clear q0 q1 q2 cl hbq
          go_wp2_with fail
          go_ret2
          rw [HFIN.out, HZO.out]
          exact ⟨_, v5, RS.eraseIdx i, rfl, sl_nil _ _, map_eraseR _ _, HT5.out.below HB8.out, HUP8.out, fun k hk => by
            rcases hk with hk | hk
            · exact .inl (.inl hk)
            · exact .inr (Nat.le_trans HUP4.out.size (HJ5.out k hk)), fun z hz => HPROV.out z (List.mem_of_mem_eraseIdx hz)⟩
      · have hwf' : wholeF' gn.f = false := by simpa using hwf
        rw [hwf'] at HWHO
        have hfin : takeF (R.map Rg.f) x = ((RS.map Rg.f).set i gn.f, [], 0) := by rw [HFIN0.out]; unfold stepF; rw [if_neg hwf]
        have HFIN := Lib.hid hfin
        clear hwf hwf' hfin
        go_wp2_with (go_at_call 103; refine HWHO.out.mono ?_; rintro e w4 ⟨rfl, hb4⟩; have HB34 := Lib.hid hb4; have HT4 := Lib.hid (HT3X.out.below hb4); have HUP4 := Lib.hid (HUP3.out.trans_ (Upd.ofBelow hb4 _)); clear hb4)
        go_ret2
        rw [HFIN.out]
        exact ⟨_, _, RS.set i gn, rfl, sl_nil _ _, List.map_set, HT4.out, HUP4.out, HOWN.out, fun z hz => by
          rcases List.mem_or_eq_of_mem_set hz with hz | rfl
          · exact HPROV.out z hz
          · exact .inr fun k hk => Nat.le_trans HUPW.out.size (HNN.out k hk)⟩
  | false =>
    rw [hmf] at r4
    have HMF := Lib.hid hmf
    clear hmf
    by_cases c3 : 65535 < 8 * off + Ln
    · have d3 : (65535 : Int) < 8 * (off : Int) + (Ln : Int) := by omega
      have hfin : takeF (R.map Rg.f) x = (R.map Rg.f, [], 7) := by rw [HT2.out, if_pos (by right; right; rw [← HLN.out, HOFF.out]; simpa using c3)]
      have HFIN := Lib.hid hfin
      clear hfin
      go_wp2_with fail
      go_ret2
      rw [HFIN.out]
      exact rk_same (HT.out w (Below.refl _ _)) HB3.out (sl_nil _ _)
    have d3 : ¬ ((65535 : Int) < 8 * (off : Int) + (Ln : Int)) := by omega
    have hgood : ¬ (y.length = 0 ∨ (g.mf = true ∧ y.length % 8 ≠ 0) ∨ 65535 < 8 * g.off.toNat + y.length) := by rw [← HLN.out, HOFF.out, HMF.out]; simp; omega
    obtain ⟨hg1, hg2, hg3⟩ : y.length ≠ 0 ∧ (g.mf = true → y.length % 8 = 0) ∧ 8 * g.off.toNat + y.length ≤ 65535 := ⟨fun e => hgood (.inl e), fun hm => Classical.byContradiction fun e => hgood (.inr (.inl ⟨hm, e⟩)), by have := fun e => hgood (.inr (.inr e)); omega⟩
    have HPK := Lib.hid (show PieceOk g y from ⟨HOK.out, HMY.out, by omega, hg2, hg3⟩)
    clear hg1 hg2 hg3
    have ht3 : takeF (R.map Rg.f) x = _ := HT2.out
    rw [if_neg hgood] at ht3
    have HT3A := Lib.hid ht3
    clear hgood ht3
    go_upto_region 8 with (fail)
    clear r4 r5'
    have rl3 := hd_load HK3.out rfl
    have hky := rkey_any g (.slice Ao g.opts.length co) w3
    rw [hdV_eq] at hky
    have HKY := Lib.hid hky
    have HFI := Lib.hid (fun wx (hb : Below w.heap.size w wx) => find16_any (HT.out wx hb) (keyF g))
    have HIC := Lib.hid (idxR_cases R (keyF g))
    obtain ⟨zi, hzi⟩ : ∃ z, z = idxR R (keyF g) := ⟨_, rfl⟩
    rw [← hzi] at HFI HIC
    clear hky hzi
    go_upto_region 9 with (first | (go_at_call 45; refine HKY.out.mono ?_; rintro e w4 ⟨rfl, hb4⟩; have HB4 := Lib.hid (HB3.out.trans (hb4.mono HB3.out.size)); have HB24 := Lib.hid (HB23.out.trans (hb4.mono HB23.out.size)); clear hb4) | (go_at_call 88; refine (HFI.out w4 HB4.out).mono ?_; rintro e w5 ⟨rfl, hb5⟩; have HB5 := Lib.hid (HB4.out.trans (hb5.mono HB4.out.size)); have HB25 := Lib.hid (HB24.out.trans (hb5.mono HB24.out.size)); clear hb5))
    clear rl3
    have HK5 := Lib.hid (HK2.out.below HB25.out HK2.out.lt)
    have hic := HIC.out
    rcases hic with ⟨ez, ek⟩ | ⟨i, gg, ez, hgi, hkk, ek⟩
    · subst ez
      have ht4 : takeF (R.map Rg.f) x = _ := HT3A.out
      rw [ek] at ht4
      simp only [List.length_map] at ht4
      have HT4 := Lib.hid ht4
      clear ht4 ek
      have ht5 := HT.out w5 HB5.out
      obtain ⟨Av0, cv0, hvv, hcv0⟩ := ht5.form
      obtain ⟨i, hi⟩ : ∃ z, z = R.length := ⟨_, rfl⟩
      rw [← hi] at hvv hcv0 hlen
      have HIR := Lib.hid hi
      have HVV := Lib.hid hvv
      have l0 := ld_rl (w := w5) (b := rb) (A := Av0) (n := i) (c := cv0) (by rw [ht5.blk.cell, hvv]; rfl)
      have HT5 := Lib.hid ht5
      clear ht5 hvv hcv0 hi
      by_cases hfull : 64 ≤ i
      · have hfin : takeF (R.map Rg.f) x = (R.map Rg.f, [], 5) := by rw [HT4.out, if_pos (by rw [← HIR.out]; exact hfull)]
        have HFIN := Lib.hid hfin
        clear hfin
        go_wp2_with fail
        go_ret2
        rw [HFIN.out]
        exact rk_same (HT.out w (Below.refl _ _)) HB5.out (sl_nil _ _)
      have hnf : (i : Int) < 64 := by omega
      obtain ⟨gg, hgg⟩ : ∃ z, z = rg0 (keyF g) := ⟨_, rfl⟩
      obtain ⟨RS, hRS⟩ : ∃ RS, RS = R ++ [gg] := ⟨_, rfl⟩
      have HRS := Lib.hid hRS
      have HGG := Lib.hid hgg
      have HT3 := Lib.hid (show takeF (R.map Rg.f) x = stepF (RS.map Rg.f) i (layF gg.f g y) by rw [HT4.out, if_neg (by rw [← HIR.out]; exact hfull), hRS, hgg, List.map_append, HIR.out]; rfl)
      clear hfull hRS hgg
      go_upto_region 13 with (fail)
      obtain ⟨i9, hi9, hz9, hz8, hz7⟩ := info_parts info_fl
      have HI := Lib.hid (And.intro hi9 (And.intro hz9 (And.intro hz8 hz7)))
      have HKYN := Lib.hid (fun wx => rkey_any g (.slice Ao g.opts.length co) wx)
      rw [hdV_eq] at HKYN
      clear hi9 hz9 hz8 hz7 l0
      have bd := fun (wx : World) => bd_fl wx ((keyF g).1 : Int) ((keyF g).2.1 : Int) ((keyF g).2.2.1 : Int) ((keyF g).2.2.2 : Int)
      have HBS := Lib.hid (fun (wx : World) => bs_fl wx ((keyF g).1 : Int) ((keyF g).2.1 : Int) ((keyF g).2.2.1 : Int) ((keyF g).2.2.2 : Int))
      have hc5 : Blk w5 rb 79 #[v] ∧ Blk w5 gh 32 (hdC g (.slice Ao g.opts.length co)) := ⟨HT5.out.blk, HK5.out⟩
      refine wp_region_mix [(true, 8), (false, 5)] 2 (by kernel_rfl) (fun wx => Blk wx rb 79 #[v] ∧ Blk wx gh 32 (hdC g (.slice Ao g.opts.length co))) (fun _ _ h k => ⟨h.1.below k h.1.lt, h.2.below k h.2.lt⟩) (by kernel_rfl) hc5 (a' := ?_) (fun wz hz => ?_) fun wz hz => ?_
      rotate_left
      · have l0 := fun (d : Nat) (os : Array Obj) => ld_rl (w := grow (redrawn wz d) os) (b := rb) (A := Av0) (n := i) (c := cv0) (by rw [(hz.1.below (below_regrown wz d os) hz.1.lt).cell, HVV.out]; rfl)
        have l1 := fun (d : Nat) (os : Array Obj) => hd_load (hz.2.below (below_regrown wz d os) hz.2.lt) rfl
        have cl := fun (d : Nat) (os : Array Obj) => Calls.regrown_of (HKYN.out (grow (redrawn wz d) os))
        unfold pcV pcC at cl
        clear hz
        simp only [pick_nil, pick_tt, pick_ft, List.take_succ_cons, List.take_zero, List.drop_succ_cons, List.drop_zero, List.append_nil]
        repeat (go_big_quiet_step (with_reducible exact cl _ _))
        refine wpQuiet_nil ?_
        rfl
      simp only [pick_nil, pick_ff, pick_tf, List.take_succ_cons, List.take_zero, List.drop_succ_cons, List.drop_zero, List.append_nil]
      have HZ5 := Lib.hid hz
      clear hz bd
      obtain ⟨hi9, hz9, hz8, hz7⟩ := HI.out
      have htz := HT5.out.below HZ5.out
      have hown5 := htz.row
      rw [HVV.out, ← HIR.out] at hown5
      have hmx5 : i + 1 ≤ maxLen := by unfold maxLen; omega
      have hmb5 : (i + 1) * 136 ≤ 140737488355328 := by omega
      have hlo5 : lo ≤ wz.heap.size := by have := HLO.out; have := HB5.out.size; have := HZ5.out.size; omega
      have hgz := HK5.out.below HZ5.out HK5.out.lt
      refine wpMix_push (fun _ _ h k => ⟨h.1.below k h.1.lt, h.2.below k h.2.lt⟩) ⟨htz.blk, hgz⟩ 126 (rgL (rg0 (keyF g))) rfl (fun w' => by
        have := HBS.out w'
        unfold execOp
        simp [go_sem]
        rfl) rfl (.tmp 75) (.tmp 79) _ rfl rfl lo i9 _ 19 136 Try.underlying77 hi9 hz9 hz8 hz7 rfl (by decide) _ i _ (fun _ => rfl) (fun _ => rfl) hown5 rfl (rg0_ok wz lo (key_ok HOK.out)).one hmx5 hmb5 hlo5 fun g5 v6 w6 h6 hg6 hj6 => ?_
      have hu6 : Upd (RfU rb v) wz w6 := (Upd.refl (RfU rb v) wz).grown hg6 fun k hk => .inl (.inr (by rw [HVV.out]; exact hk))
      have hok6 : ∀ z, RgOk wz lo z → RgOk w6 lo z := fun z hz => hz.upd hu6 fun k hk => htz.neN hk hz
      have hbk6 := htz.blk.grown hg6 (own_blk_ne hown5 htz.blk (by decide))
      have hgh6 := hgz.grown hg6 (own_blk_ne hown5 hgz (by decide))
      refine wpMix_step ⟨hbk6, hgh6⟩ fun wb0 hb0 => ?_
      obtain ⟨A6, c6, hv6, _⟩ := own_form h6
      subst hv6
      have h7 := own_below h6 hb0
      have hbk7 := hbk6.below hb0 hbk6.lt
      have hgh7 := hgh6.below hb0 hgh6.lt
      have st6 := st_rl (hbk7.cell 0) (hbk7.frozen 0) A6 (i + 1) c6
      obtain ⟨W7, hW7⟩ : ∃ Z, Z = wb0.setCell ⟨rb, 0, none⟩ (.slice A6 (i + 1) c6) := ⟨_, rfl⟩
      have hne7 := own_blk_ne h7 hbk7 (by decide)
      have hrow7 := ownsRow_setCell_other (a := ⟨rb, 0, none⟩) h7 hne7 (.slice A6 (i + 1) c6)
      have hbk8 := hbk7.set_ 0 (.slice A6 (i + 1) c6)
      have hus := upd_set wb0 rb 0 (.slice A6 (i + 1) c6)
      rw [← hW7] at st6 hrow7 hbk8 hus
      have hu7 : Upd (RfU rb v) wz W7 := Upd.trans (hu6.trans_ (Upd.ofBelow hb0 _)) hus fun k (e : k = rb) => .inl (.inl e)
      have hlow : ∀ k, RfU rb v k → lo ≤ k := fun k hk => by
        rcases hk with hk | hk
        · rw [hk]; exact htz.lo
        · exact (own_lt htz.row hk).1
      have hokS : ∀ z ∈ RS, RgOk W7 lo z := fun z hz => by
        rw [HRS.out] at hz
        have hzz : RgOk wz lo z := by
          rcases List.mem_append.1 hz with hz | hz
          · exact htz.fl z hz
          · rw [List.mem_singleton.1 hz, HGG.out]; exact rg0_ok wz lo (key_ok HOK.out)
        exact hzz.upd hu7 fun k hk => htz.neN hk hzz
      have hlS : RS.length = i + 1 := by rw [HRS.out, List.length_append, ← HIR.out]; rfl
      have hfS : flatR RS = flatR R ++ rgL (rg0 (keyF g)) := by rw [HRS.out, flatR_append, HGG.out]; unfold flatR; simp
      obtain ⟨vW, hvW⟩ : ∃ z, z = Value.slice A6 (i + 1) c6 := ⟨_, rfl⟩
      have htw : RfM W7 lo rb vW RS := ⟨by rw [hvW]; exact hbk8, by rw [hlS, hfS, hvW]; exact hrow7, hokS, by rw [hlS]; omega, htz.lo⟩
      have HTW := Lib.hid htw
      have HGI := Lib.hid (show RS[i]? = some gg by rw [HRS.out, HIR.out]; simp)
      have hrbw : rb < w.heap.size := (HT.out w (Below.refl _ _)).blk.lt
      have HKW := Lib.hid (hgh7.upd hus fun (e : gh = rb) => by have := HGH.out; omega)
      have hsl : ∀ (u : Value) (xx : By), Sl8 wz (fun k => k < lo) u xx → ∀ wx, Below W7.heap.size W7 wx → Sl8 wx (fun k => k < lo) u xx := fun u xx hs wx hb => by
        have h1 := hs.keep (hu7.same (I := fun k => k < lo) fun k hU hI => by have := hlow k hU; omega)
        exact (h1.lt.keep (Same.ofBelow hb fun k hk => hk.2)).mono fun k hk => hk.1
      have HROW := Lib.hid (hsl _ _ (HRO2.out wz (HB25.out.trans (HZ5.out.mono HB25.out.size))))
      have HRYW := Lib.hid (hsl _ _ (HRY2.out wz (HB25.out.trans (HZ5.out.mono HB25.out.size))))
      have HUPW := Lib.hid (Upd.trans ((Upd.ofBelow HB5.out (RfU rb v)).trans_ (Upd.ofBelow HZ5.out _)) hu7 fun k hk => .inl hk)
      have HOWN := Lib.hid (show ∀ k, RfU rb vW k → RfU rb v k ∨ w.heap.size ≤ k from fun k hk => by
        rcases hk with hk | hk
        · exact .inl (.inl hk)
        · rw [hvW] at hk
          rcases hj6 with hj | ⟨g9, hj, hjl⟩
          · rw [hj] at hk; exact .inl (.inr (by rw [HVV.out]; exact hk))
          · rw [hj] at hk; injection hk with hk; right; have := HB5.out.size; have := HZ5.out.size; omega)
      have HPROV := Lib.hid (show ∀ z ∈ RS, z ∈ R ∨ ∀ k, RgN z k → w.heap.size ≤ k from fun z hz => by
        rw [HRS.out] at hz
        rcases List.mem_append.1 hz with hz | hz
        · exact .inl hz
        · rw [List.mem_singleton.1 hz, HGG.out]
          exact .inr fun k hk => by rcases hk with hk | hk <;> cases hk)
      clear htz hown5 hmx5 hmb5 hlo5 hgz h6 hg6 hj6 hu6 hok6 hbk6 hgh6 hb0 h7 hbk7 hgh7 hne7 hrow7 hbk8 hus hu7 hlow hokS hlS hfS hvW htw hrbw hsl hi9 hz9 hz8 hz7 hW7
      go_wp2_with fail
      refine wpMix_plain ?_
      have hi00 : (0 : Int) ≤ (i : Int) := by omega
      go_upto_region 14 with (fail)
      obtain ⟨gr, cr, hvr, _⟩ := HTW.out.at_ (by have := (List.getElem?_eq_some_iff.1 HGI.out).1; omega)
      subst hvr
      obtain ⟨nr, hnr⟩ : ∃ z, z = RS.length := ⟨_, rfl⟩
      rw [← hnr] at HTW HOWN
      have HNR := Lib.hid hnr
      have hir : i < nr := by rw [hnr]; exact (List.getElem?_eq_some_iff.1 HGI.out).1
      have hnr64 : nr ≤ 64 := by rw [hnr]; exact HTW.out.len
      clear hnr
      have i0 : (0 : Int) ≤ (i : Int) := by omega
      have i1 : (i : Int) < (nr : Int) := by omega
      refine wp_region_rel (by kernel_rfl) (fun p q => Below W7.heap.size p q) (TkΦ rb gh gr nr cr i Ln cq co lo W7.heap.size Aq Ao gg g y) 11 (fun val w9 => ∃ gn b, val 10 = .pointer (some ⟨b, 0, none⟩) ∧ W7.heap.size ≤ b ∧ Blk w9 b 126 (rgA gn) ∧ gn.f = layF gg.f g y ∧ RgOk w9 lo gn ∧ (∀ k, RgN gn k → W7.heap.size ≤ k) ∧ Below W7.heap.size W7 w9) (fun _ _ => false) (by kernel_rfl) (fun p => Below.refl _ p) (fun h k => h.trans k) (obl_of ?_) (fun o ho => ?_) ?_
      · refine ⟨fun _ => ?_, fun _ => ?_, fun _ => ?_, fun _ => ?_, fun _ => ?_, fun _ => ?_, fun _ => ?_, fun _ => ?_, fun _ => ?_, fun _ => ?_, fun _ => ?_, fun h => absurd rfl h, trivial⟩
        · -- 0
          intro val wx hg hd hb hs K hK
          generalize hρ : rhoV _ _ val = ρ
          have cc : ∀ u, ρ (.const u) = u := fun u => by rw [← hρ]; rfl
          have ff : ∀ u, ρ (.func u) = .func (.func u) #[] #[] := fun u => by rw [← hρ]; rfl
          have r0 : ρ (.tmp 0) = .pointer (some ⟨rb, 0, none⟩) := by rw [← hρ]; rfl
          clear hρ hd hb hs
          refine ifv rfl ?_
          go_simp
          exact hK _ _ (Below.refl _ _) rfl fun _ _ _ _ h => h
        · -- 1
          intro val wx hg hd hb hs K hK
          generalize hρ : rhoV _ _ val = ρ
          have cc : ∀ u, ρ (.const u) = u := fun u => by rw [← hρ]; rfl
          have ff : ∀ u, ρ (.func u) = .func (.func u) #[] #[] := fun u => by rw [← hρ]; rfl
          have r83 : ρ (.tmp 83) = .pointer (some ⟨rb, 0, none⟩) := by rw [← hρ]; exact hd 0 rfl rfl
          clear hρ hd hb hs
          refine ifv rfl ?_
          go_simp
          exact hK _ _ (Below.refl _ _) rfl fun _ _ _ _ h => h
        · -- 2
          intro val wx hg hd hb hs K hK
          generalize hρ : rhoV _ _ val = ρ
          have cc : ∀ u, ρ (.const u) = u := fun u => by rw [← hρ]; rfl
          have ff : ∀ u, ρ (.func u) = .func (.func u) #[] #[] := fun u => by rw [← hρ]; rfl
          have r84 : ρ (.tmp 84) = .pointer (some ⟨rb, 0, none⟩) := by rw [← hρ]; exact hd 1 rfl rfl
          clear hρ hd hb hs
          refine ifv rfl ?_
          go_simp
          exact hK _ _ (Below.refl _ _) rfl fun _ _ _ _ h => h
        · -- 3
          intro val wx hg hd hb hs K hK
          generalize hρ : rhoV _ _ val = ρ
          have cc : ∀ u, ρ (.const u) = u := fun u => by rw [← hρ]; rfl
          have ff : ∀ u, ρ (.func u) = .func (.func u) #[] #[] := fun u => by rw [← hρ]; rfl
          have r85 : ρ (.tmp 85) = .pointer (some ⟨rb, 0, none⟩) := by rw [← hρ]; exact hd 2 rfl rfl
          have hbx : Below W7.heap.size W7 wx := ⟨hg.os, hg.tape, hg.output, hg.size, hg.block⟩
          have h4 := ld_rl ((HTW.out.below hbx).blk.cell 0)
          clear hρ hd hb hs
          refine ifv rfl ?_
          go_simp
          exact hK _ _ (Below.refl _ _) rfl fun _ _ _ _ h => h
        · -- 4
          intro val wx hg hd hb hs K hK
          generalize hρ : rhoV _ _ val = ρ
          have cc : ∀ u, ρ (.const u) = u := fun u => by rw [← hρ]; rfl
          have ff : ∀ u, ρ (.func u) = .func (.func u) #[] #[] := fun u => by rw [← hρ]; rfl
          have r9 : ρ (.tmp 9) = .int .i64 (i : Int) := by rw [← hρ]; rfl
          clear hρ hd hb hs
          refine ifv rfl ?_
          go_simp
          exact hK _ _ (Below.refl _ _) rfl fun _ _ _ _ h => h
        · -- 5
          intro val wx hg hd hb hs K hK
          generalize hρ : rhoV _ _ val = ρ
          have cc : ∀ u, ρ (.const u) = u := fun u => by rw [← hρ]; rfl
          have ff : ∀ u, ρ (.func u) = .func (.func u) #[] #[] := fun u => by rw [← hρ]; rfl
          have r86 : ρ (.tmp 86) = .slice (some ⟨gr, 0, none⟩) nr cr := by rw [← hρ]; exact hd 3 rfl rfl
          have r87 : ρ (.tmp 87) = .int .i64 (i : Int) := by rw [← hρ]; exact hd 4 rfl rfl
          clear hρ hd hb hs
          refine ifv rfl ?_
          go_simp
          exact hK _ _ (Below.refl _ _) rfl fun _ _ _ _ h => h
        · -- 6
          intro val wx hg hd hb hs K hK
          generalize hρ : rhoV _ _ val = ρ
          have cc : ∀ u, ρ (.const u) = u := fun u => by rw [← hρ]; rfl
          have ff : ∀ u, ρ (.func u) = .func (.func u) #[] #[] := fun u => by rw [← hρ]; rfl
          have r88 : ρ (.tmp 88) = .pointer (some ⟨gr, i * 19, none⟩) := by rw [← hρ]; exact hd 5 rfl rfl
          have hbx : Below W7.heap.size W7 wx := ⟨hg.os, hg.tape, hg.output, hg.size, hg.block⟩
          have h4 := RfM.ld (HTW.out.below hbx) HNR.out HGI.out
          clear hρ hd hb hs
          refine ifv rfl ?_
          go_simp
          exact hK _ _ (Below.refl _ _) rfl fun _ _ _ _ h => h
        · -- 7
          intro val wx hg hd hb hs K hK
          generalize hρ : rhoV _ _ val = ρ
          have cc : ∀ u, ρ (.const u) = u := fun u => by rw [← hρ]; rfl
          have ff : ∀ u, ρ (.func u) = .func (.func u) #[] #[] := fun u => by rw [← hρ]; rfl
          have r6 : ρ (.tmp 6) = .pointer (some ⟨gh, 0, none⟩) := by rw [← hρ]; rfl
          have hbx : Below W7.heap.size W7 wx := ⟨hg.os, hg.tape, hg.output, hg.size, hg.block⟩
          have h4 := hd_load (HKW.out.below hbx HKW.out.lt) rfl
          clear hρ hd hb hs
          refine ifv rfl ?_
          go_simp
          exact hK _ _ (Below.refl _ _) rfl fun _ _ _ _ h => h
        · -- 8
          intro val wx hg hd hb hs K hK
          generalize hρ : rhoV _ _ val = ρ
          have cc : ∀ u, ρ (.const u) = u := fun u => by rw [← hρ]; rfl
          have ff : ∀ u, ρ (.func u) = .func (.func u) #[] #[] := fun u => by rw [← hρ]; rfl
          have r7 : ρ (.tmp 7) = .slice Aq Ln cq := by rw [← hρ]; rfl
          clear hρ hd hb hs
          refine ifv rfl ?_
          go_simp
          exact hK _ _ (Below.refl _ _) rfl fun _ _ _ _ h => h
        · -- 9
          intro val wx hg hd hb hs K hK
          generalize hρ : rhoV _ _ val = ρ
          have cc : ∀ u, ρ (.const u) = u := fun u => by rw [← hρ]; rfl
          have ff : ∀ u, ρ (.func u) = .func (.func u) #[] #[] := fun u => by rw [← hρ]; rfl
          have r89 : ρ (.tmp 89) = .agg (rgA gg) := by rw [← hρ]; exact hd 6 rfl rfl
          have r90 : ρ (.tmp 90) = .agg (hdC g (.slice Ao g.opts.length co)) := by rw [← hρ]; exact hd 7 rfl rfl
          have r91 : ρ (.tmp 91) = .slice Aq Ln cq := by rw [← hρ]; exact hd 8 rfl rfl
          have hbx : Below W7.heap.size W7 wx := ⟨hg.os, hg.tape, hg.output, hg.size, hg.block⟩
          have hc := laid_any ((HTW.out.below hbx).fl gg (List.mem_of_getElem? HGI.out)) HPK.out _ (HROW.out wx hbx) _ (HRYW.out wx hbx)
          rw [hdV_eq] at hc
          have hzx : W7.heap.size ≤ wx.heap.size := hg.size
          clear hρ hd hb hs
          refine ifv rfl ?_
          go_simp
          refine hc.mono ?_
          rintro e w3 ⟨gn, rfl, hf, hok, hN, hb3⟩
          exact ⟨_, rfl, hK _ _ (hb3.mono hzx) ⟨gn, rfl, hf, hok, fun k hk => Nat.le_trans hzx (hN k hk)⟩ fun j _ _ _ h => TkΦ.keep hb3 j _ h⟩
        · -- 10
          intro val wx hg hd hb hs K hK
          generalize hρ : rhoV _ _ val = ρ
          have cc : ∀ u, ρ (.const u) = u := fun u => by rw [← hρ]; rfl
          have ff : ∀ u, ρ (.func u) = .func (.func u) #[] #[] := fun u => by rw [← hρ]; rfl
          have hzx : W7.heap.size ≤ wx.heap.size := hg.size
          have hbl : Below wx.heap.size wx (wx.alloc (.cells fl0V 126)) := (Below.refl _ _).alloc (Nat.le_refl _) _
          clear hρ hd hb hs
          refine ifv rfl ?_
          go_simp
          exact hK _ _ (hbl.mono hzx) ⟨_, rfl, hzx, Blk.new _ _ _⟩ fun j _ _ _ h => TkΦ.keep hbl j _ h
      · replace ho := Option.some.inj ho
        subst ho
        intro val wx hg hd hs K hK
        generalize hρ : rhoV _ _ val = ρ
        have r10 : ρ (.tmp 10) = val 10 := by rw [← hρ]; rfl
        have r92 : ρ (.tmp 92) = val 9 := by rw [← hρ]; rfl
        obtain ⟨gn, e9, hf, hok, hN⟩ : ∃ gn, val 9 = .agg (rgA gn) ∧ gn.f = layF gg.f g y ∧ RgOk wx lo gn ∧ ∀ k, RgN gn k → W7.heap.size ≤ k := hd 9 (by decide) (by decide) fun _ _ _ => rfl
        obtain ⟨b, e10, hq, hk⟩ : ∃ b, val 10 = .pointer (some ⟨b, 0, none⟩) ∧ W7.heap.size ≤ b ∧ Blk wx b 126 fl0V := hd 10 (by decide) (by decide) fun _ _ _ => rfl
        have st := fl_store (vs := rgA gn) hk rfl rfl (rgL_all hok)
        have hk2 : Blk (wx.setCells b 0 (rgA gn).toList) b 126 (rgA gn) := blk_setCells hk rfl
        have hu : Upd (only b) wx (wx.setCells b 0 (rgA gn).toList) := Upd.setCells _ _ _ (Upd.refl _ _) (.inl rfl)
        have hbx : Below W7.heap.size W7 wx := ⟨hg.os, hg.tape, hg.output, hg.size, hg.block⟩
        have hok2 : RgOk (wx.setCells b 0 (rgA gn).toList) lo gn := hok.upd hu fun k (e : k = b) => ⟨by have := HTW.out.blk.lt; have := HTW.out.lo; omega, fun hx => by
          rw [e] at hx
          rcases hx with hx | hx
          · exact own_blk_ne hok.b hk (by decide) hx
          · exact own_blk_ne hok.h hk (by decide) hx⟩
        have hb2 : Below W7.heap.size W7 (wx.setCells b 0 (rgA gn).toList) := hbx.trans (hu.below (fun k (e : k = b) => by omega) hbx.size)
        rw [e9] at r92
        rw [e10] at r10
        clear hρ hd hs
        refine ifv rfl ?_
        go_simp
        exact hK _ _ ⟨gn, b, by rw [← e10]; rfl, hq, hk2, hf, hok2, hN, hb2⟩
      intro val w2x h9
      rw [if_pos (by decide)] at h9
      obtain ⟨gn, fk, e10, hfk, hk2x, hf, hok2, hNn, hb2x⟩ := h9
      have HNN := Lib.hid hNn
      have HFF := Lib.hid hf
      have HB2X := Lib.hid hb2x
      have HK2X := Lib.hid hk2x
      have HOK2 := Lib.hid hok2
      have HT2X := Lib.hid (HTW.out.below hb2x)
      have HLW := Lib.hid (show gr < W7.heap.size from (own_lt HTW.out.row rfl).2)
      have HRBW := Lib.hid (show rb < W7.heap.size from HTW.out.blk.lt)
      have HFK := Lib.hid hfk
      simp only [putAll]
      simp only [Act.put, List.setIfInBounds_toArray, List.set_cons_succ, List.set_cons_zero, Nat.zero_add, Nat.reduceAdd]
      clear hf hb2x hk2x hok2 hfk hNn
      generalize val 0 = x0, val 1 = x1, val 2 = x2, val 3 = x3, val 4 = x4, val 5 = x5, val 6 = x6, val 7 = x7, val 8 = x8, val 9 = x9, val 10 = x10 at e10 ⊢
      subst e10
      go_upto_region 15 with (fail)
      refine wp_region_mix [(true, 7), (false, 1)] 0 (by kernel_rfl) (fun wx => Below w2x.heap.size w2x wx) (fun _ _ h k => h.trans (k.mono h.size)) (by kernel_rfl) (Below.refl _ _) (a' := ?_) (fun wz hz => ?_) fun wz hz => ?_
      rotate_left
      · have l0 := fun (d : Nat) (os : Array Obj) => ld_rl ((HT2X.out.below (hz.trans ((below_regrown wz d os).mono hz.size))).blk.cell 0)
        have l1 := fun (d : Nat) (os : Array Obj) => fl_load (HK2X.out.below (hz.trans ((below_regrown wz d os).mono hz.size)) HK2X.out.lt) rfl
        clear hz
        simp only [pick_nil, pick_tt, pick_ft, List.take_succ_cons, List.take_zero, List.drop_succ_cons, List.drop_zero, List.append_nil]
        repeat (go_big_quiet_step (fail))
        refine wpQuiet_nil ?_
        rfl
      simp only [pick_nil, pick_ff, pick_tf, List.take_succ_cons, List.take_zero, List.drop_succ_cons, List.drop_zero, List.append_nil]
      have HZ2 := Lib.hid hz
      clear hz
      refine wpMix_step HZ2.out fun wc hc2 => ?_
      have hzc := HZ2.out.trans (hc2.mono HZ2.out.size)
      obtain ⟨w3x, hst3, ht3, hu3, hok3⟩ := (HT2X.out.below hzc).put HNR.out HGI.out (HOK2.out.below hzc)
      have HT3X := Lib.hid ht3
      have HOK3 := Lib.hid hok3
      have HK3X := Lib.hid ((HK2X.out.below hzc HK2X.out.lt).upd hu3 fun (e : fk = gr) => by have := HFK.out; have := HLW.out; omega)
      have HUP3 := Lib.hid (Upd.trans ((HUPW.out.trans_ (Upd.ofBelow HB2X.out _)).trans_ (Upd.ofBelow hzc _)) hu3 fun k (e : k = gr) => HOWN.out k (.inr (by rw [e]; rfl)))
      clear hzc hc2 ht3 hu3 hok3
      go_wp2_with fail
      refine wpMix_plain ?_
      go_upto_region 16 with (fail)
      clear hst3
      have rlx := fl_load HK3X.out rfl
      have HWHO := Lib.hid (whole16_any HOK3.out)
      have HFIN0 := Lib.hid HT3.out
      rw [← HFF.out] at HFIN0
      by_cases hwf : wholeF' gn.f = true
      · rw [hwf] at HWHO
        obtain ⟨e0, he0⟩ : ∃ e0 : Nat, gn.f.en = (e0 : Int) := ⟨gn.f.en.toNat, by have := hwf; rw [whole_iff HOK3.out.ok] at this; simp only [Bool.and_eq_true, decide_eq_true_eq] at this; omega⟩
        have hpay := pay_by HOK3.out.ok hwf
        rw [he0, Int.toNat_natCast] at hpay
        have hebl : e0 ≤ gn.f.bl := by have := HOK3.out.ok.e1; omega
        have hhd := HOK3.out.ok.h (by have := hwf; rw [whole_iff HOK3.out.ok] at this; simp only [Bool.and_eq_true] at this; exact this.1.1)
        have HHD := Lib.hid hhd
        have HPAY := Lib.hid hpay
        have HE0 := Lib.hid he0
        have HEBL := Lib.hid hebl
        have HBLM := Lib.hid HOK3.out.ok.bl
        have hfin : takeF (R.map Rg.f) x = ((RS.map Rg.f).eraseIdx i, outF gn.f) := by rw [HFIN0.out]; unfold stepF; rw [if_pos hwf]
        have HFIN := Lib.hid hfin
        clear hwf hfin hhd hpay he0 hebl
        go_upto_region 18 with (go_at_call 103; refine HWHO.out.mono ?_; rintro e w4 ⟨rfl, hb4⟩; have HB34 := Lib.hid hb4; have HT4 := Lib.hid (HT3X.out.below hb4); have HOK4 := Lib.hid (HOK3.out.below hb4); have HK4 := Lib.hid (HK3X.out.below hb4 HK3X.out.lt); have HUP4 := Lib.hid (HUP3.out.trans_ (Upd.ofBelow hb4 _)); clear hb4)
        clear rlx
        have hdr := drop16_any HT4.out (by have := HUP4.out.size; have := HLO.out; omega) i (by rw [List.length_set, ← HNR.out]; exact hir)
        have HDR := Lib.hid hdr
        clear hdr
        go_upto_region 19 with (go_at_call 89; refine HDR.out.mono ?_; rintro e w5 ⟨rfl, v5, ht5, hu5, hj5⟩; have HT5 := Lib.hid ht5; have HJ5 := Lib.hid hj5; have HOK5 := Lib.hid (HOK4.out.upd hu5 fun k (e : k = rb) => HT4.out.neN (.inl e) HOK4.out); have HK5 := Lib.hid (HK4.out.upd hu5 fun (e : fk = rb) => by have := HFK.out; have := HRBW.out; omega); have HUP5 := Lib.hid (HUP4.out.trans_ (hu5.mono fun k (e : k = rb) => .inl (.inl e))); clear ht5 hu5 hj5)
        rw [erase_set] at HT5
        have l7 := ld_hd7 HK5.out
        obtain ⟨Av, cv, hvo9, hcv, hrv⟩ := HOK5.out.o
        obtain ⟨w6, hst6, hb6, _, hk6⟩ := hd_var (Below.refl w5.heap.size w5) (Nat.le_refl _) gn.f.hd Av gn.f.hd.opts.length cv
        rw [hvo9] at l7
        have HB6 := Lib.hid hb6
        have HK6 := Lib.hid hk6
        have HVO := Lib.hid hvo9
        clear hb6 hk6 hcv hrv hvo9
        unfold hdV at l7 hst6
        go_upto_region 20 with (fail)
        clear l7 hst6
        obtain ⟨hq, hhq⟩ : ∃ z, z = w5.heap.size := ⟨_, rfl⟩
        rw [← hhq] at HK6 ⊢
        have HHQ := Lib.hid hhq
        have s7 := st_boolv (HK6.out.cell 4) (HK6.out.frozen 4) false
        obtain ⟨w7, hw7⟩ : ∃ z, z = w6.setCell ⟨hq, 4, none⟩ (.bool false) := ⟨_, rfl⟩
        have hk7 := HK6.out.set_ 4 (.bool false)
        have hb7 : Below w5.heap.size w5 (w6.setCell ⟨hq, 4, none⟩ (.bool false)) := HB6.out.setCell (p := ⟨hq, 4, none⟩) (by rw [HHQ.out]; exact Nat.le_refl _) _
        rw [← hw7] at s7 hk7 hb7
        rw [show (hdC gn.f.hd (.slice Av gn.f.hd.opts.length cv)).setIfInBounds 4 (.bool false) = hdC { gn.f.hd with mf := false } (.slice Av gn.f.hd.opts.length cv) from rfl] at hk7
        have HB7 := Lib.hid hb7
        have HK7 := Lib.hid hk7
        clear hk7 hb7 hw7 hhq
        go_upto_region 21 with (fail)
        clear s7
        obtain ⟨Ab, cb, hbv, hcb⟩ := HOK5.out.b.form
        rw [bL_len] at hbv hcb
        have HBV := Lib.hid hbv
        have HCB := Lib.hid hcb
        obtain ⟨bl, hbl⟩ : ∃ z, z = gn.f.bl := ⟨_, rfl⟩
        rw [← hbl] at HBV HCB HEBL HBLM
        have HBL := Lib.hid hbl
        obtain ⟨Lo, hLo⟩ : ∃ z, z = gn.f.hd.opts.length := ⟨_, rfl⟩
        have HPS := Lib.hid (show ∀ wx, Below w5.heap.size w5 wx → Sl8 wx (fun _ => True) (.slice Ab e0 cb) (payF gn.f) from fun wx hb => by
          have hr := ((HOK5.out.below hb).b)
          rw [HBV.out] at hr
          have h2 := cut_hi (cap := cb) (k := e0) hr.sl.len.2.2 (by rw [bL_len, ← HBL.out]; exact HEBL.out) (by have := HCB.out; have := HEBL.out; omega)
          rw [HPAY.out]
          exact h2.mono fun _ _ => trivial)
        have HOS := Lib.hid (show ∀ wx, Below w5.heap.size w5 wx → Sl8 wx (fun _ => True) (.slice Av gn.f.hd.opts.length cv) ({ gn.f.hd with mf := false } : Hd).opts from fun wx hb => by
          have := (HOK5.out.below hb).o
          rw [HVO.out] at this
          exact this.mono fun _ _ => trivial)
        have HCC := Lib.hid (show ∀ wx, Below w5.heap.size w5 wx → wx.cell? ⟨fk, 4, none⟩ = some (.slice Ab bl cb) ∧ wx.cell? ⟨fk, 6, none⟩ = some (.int .i64 (e0 : Int)) from fun wx hb => by
          have := HK5.out.below hb HK5.out.lt
          exact ⟨by rw [this.cell, ← HBV.out]; rfl, by rw [this.cell, ← HE0.out]; rfl⟩)
        have hol : gn.f.hd.opts.length ≤ 1000000 := by have := (may_opts HHD.out.2.1).2.1; omega
        have hsl := fun wx => sl_hi Ab bl cb wx e0 (by have := HCB.out; have := HEBL.out; omega)
        clear hbv hcb hbl hLo
        have q0 := fun (d : Nat) (os : Array Obj) => hd_load (HK7.out.below (below_regrown w7 d os) HK7.out.lt) rfl
        have q1 := fun (d : Nat) (os : Array Obj) => ld8s (HCC.out _ (HB7.out.trans ((below_regrown w7 d os).mono HB7.out.size))).1
        have q2 := fun (d : Nat) (os : Array Obj) => ld_int (HCC.out _ (HB7.out.trans ((below_regrown w7 d os).mono HB7.out.size))).2
        have cl := fun (d : Nat) (os : Array Obj) => Calls.regrown_of (fits_any { gn.f.hd with mf := false } _ _ (payF gn.f) (fun _ => True) (grow (redrawn w7 d) os) (HOS.out _ (HB7.out.trans ((below_regrown w7 d os).mono HB7.out.size))) (HPS.out _ (HB7.out.trans ((below_regrown w7 d os).mono HB7.out.size))) hol)
        rw [hdV_eq] at cl
        have HQ0 := Lib.hid (show ∀ wx, Below w7.heap.size w7 wx → _ from fun wx hb => hd_load (HK7.out.below hb HK7.out.lt) rfl)
        have hzo : outF gn.f = if fitsH { gn.f.hd with mf := false } (payF gn.f) = true then (bytesF { gn.f.hd with mf := false } (payF gn.f), 0) else ([], 3) := rfl
        have HZO := Lib.hid hzo
        clear hzo
        by_cases hfit : fitsH { gn.f.hd with mf := false } (payF gn.f) = true
        · have HFIT := Lib.hid hfit
          rw [hfit] at cl
          rw [if_pos hfit] at HZO
          clear hfit
          refine wp_region_quiet_below (by kernel_rfl) (by kernel_rfl) ?_
          repeat (go_big_quiet_step (with_reducible exact cl _ _))
          refine wpQuiet_nil ?_
          intro _ hw'
          obtain ⟨⟨dq, osq⟩, hw''⟩ := hw'
          subst hw''
          have hbq := below_regrown w7 dq osq
          generalize grow (redrawn w7 dq) osq = w8 at hbq
          have HB78 := Lib.hid hbq
          have HB8 := Lib.hid (HB7.out.trans (hbq.mono HB7.out.size))
          have HUP8 := Lib.hid (HUP5.out.trans_ (Upd.ofBelow HB8.out _))
          clear q0 q1 q2 cl hbq
          go_upto_region 23 with (fail)
          refine wp_region_mix [(true, 6), (false, 3)] 0 (by kernel_rfl) (fun wx => Below w8.heap.size w8 wx) (fun _ _ h k => h.trans (k.mono h.size)) (by kernel_rfl) (Below.refl _ _) (a' := ?_) (fun wz hz => ?_) fun wz hz => ?_
          rotate_left
          · have q0 := fun (d : Nat) (os : Array Obj) => HQ0.out _ (HB78.out.trans ((hz.trans ((below_regrown wz d os).mono hz.size)).mono HB78.out.size))
            have q1 := fun (d : Nat) (os : Array Obj) => ld8s (HCC.out _ (HB8.out.trans ((hz.trans ((below_regrown wz d os).mono hz.size)).mono HB8.out.size))).1
            have q2 := fun (d : Nat) (os : Array Obj) => ld_int (HCC.out _ (HB8.out.trans ((hz.trans ((below_regrown wz d os).mono hz.size)).mono HB8.out.size))).2
            clear hz
            simp only [pick_nil, pick_tt, pick_ft, List.take_succ_cons, List.take_zero, List.drop_succ_cons, List.drop_zero, List.append_nil]
            repeat (go_big_quiet_step (fail))
            refine wpQuiet_nil ?_
            rfl
          simp only [pick_nil, pick_ff, pick_tf, List.take_succ_cons, List.take_zero, List.drop_succ_cons, List.drop_zero, List.append_nil]
          have HZ8 := Lib.hid hz
          clear hz
          refine wpMix_step HZ8.out fun wa9 ha9 => ?_
          have hb9 := HB8.out.trans ((HZ8.out.trans (ha9.mono HZ8.out.size)).mono HB8.out.size)
          have hby := rbytes_any { gn.f.hd with mf := false } _ _ (payF gn.f) (fun _ => True) wa9 (HOS.out _ hb9) (HPS.out _ hb9) HHD.out.1 HFIT.out
          rw [hdV_eq] at hby
          have HBY := Lib.hid hby
          have HB9 := Lib.hid hb9
          clear ha9 hb9 hby
          go_wp2_with (go_at_call 38; refine HBY.out.mono ?_; rintro e w9 ⟨v9, rfl, hr9, hbb9⟩; have HR9 := Lib.hid hr9; have HBB9 := Lib.hid (HB9.out.trans (hbb9.mono HB9.out.size)); clear hr9 hbb9)
          refine wpMix_plain ?_
          go_wp2_with fail
          go_ret2
          rw [HFIN.out, HZO.out]
          exact ⟨_, v5, RS.eraseIdx i, rfl, row_sl HR9.out, map_eraseR _ _, HT5.out.below HBB9.out, HUP5.out.trans_ (Upd.ofBelow HBB9.out _), fun k hk => by
            rcases hk with hk | hk
            · exact .inl (.inl hk)
            · exact .inr (Nat.le_trans HUP4.out.size (HJ5.out k hk)), fun z hz => HPROV.out z (List.mem_of_mem_eraseIdx hz)⟩
        · have hfit' : fitsH { gn.f.hd with mf := false } (payF gn.f) = false := by simpa using hfit
          rw [hfit'] at cl
          rw [if_neg hfit] at HZO
          clear hfit hfit'
          refine wp_region_quiet_below (by kernel_rfl) (by kernel_rfl) ?_
          repeat (go_big_quiet_step (with_reducible exact cl _ _))
          refine wpQuiet_nil ?_
          intro _ hw'
          obtain ⟨⟨dq, osq⟩, hw''⟩ := hw'
          subst hw''
          have hbq := below_regrown w7 dq osq
          generalize grow (redrawn w7 dq) osq = w8 at hbq
          have HB78 := Lib.hid hbq
          have HB8 := Lib.hid (HB7.out.trans (hbq.mono HB7.out.size))
          have HUP8 := Lib.hid (HUP5.out.trans_ (Upd.ofBelow HB8.out _))
          clear q0 q1 q2 cl hbq
          go_wp2_with fail
          go_ret2
          rw [HFIN.out, HZO.out]
          exact ⟨_, v5, RS.eraseIdx i, rfl, sl_nil _ _, map_eraseR _ _, HT5.out.below HB8.out, HUP8.out, fun k hk => by
            rcases hk with hk | hk
            · exact .inl (.inl hk)
            · exact .inr (Nat.le_trans HUP4.out.size (HJ5.out k hk)), fun z hz => HPROV.out z (List.mem_of_mem_eraseIdx hz)⟩
      · have hwf' : wholeF' gn.f = false := by simpa using hwf
        rw [hwf'] at HWHO
        have hfin : takeF (R.map Rg.f) x = ((RS.map Rg.f).set i gn.f, [], 0) := by rw [HFIN0.out]; unfold stepF; rw [if_neg hwf]
        have HFIN := Lib.hid hfin
        clear hwf hwf' hfin
        go_wp2_with (go_at_call 103; refine HWHO.out.mono ?_; rintro e w4 ⟨rfl, hb4⟩; have HB34 := Lib.hid hb4; have HT4 := Lib.hid (HT3X.out.below hb4); have HUP4 := Lib.hid (HUP3.out.trans_ (Upd.ofBelow hb4 _)); clear hb4)
        go_ret2
        rw [HFIN.out]
        exact ⟨_, _, RS.set i gn, rfl, sl_nil _ _, List.map_set, HT4.out, HUP4.out, HOWN.out, fun z hz => by
          rcases List.mem_or_eq_of_mem_set hz with hz | rfl
          · exact HPROV.out z hz
          · exact .inr fun k hk => Nat.le_trans HUPW.out.size (HNN.out k hk)⟩
    · subst ez
      have HGI := Lib.hid hgi
      obtain ⟨RS, hRS⟩ : ∃ RS, RS = R := ⟨_, rfl⟩
      have HT3 := Lib.hid (show takeF (R.map Rg.f) x = stepF (RS.map Rg.f) i (layF gg.f g y) by rw [HT3A.out, ek, hRS]; simp only; rw [List.getD_eq_getElem?_getD, List.getElem?_map, hgi]; rfl)
      have HTW := Lib.hid (HT.out w5 HB5.out)
      rw [← hRS] at HGI HTW
      have HKW := Lib.hid HK5.out
      have HROW := Lib.hid (fun wx (hb : Below w5.heap.size w5 wx) => HRO2.out wx (HB25.out.trans (hb.mono HB25.out.size)))
      have HRYW := Lib.hid (fun wx (hb : Below w5.heap.size w5 wx) => HRY2.out wx (HB25.out.trans (hb.mono HB25.out.size)))
      obtain ⟨vW, hvW⟩ : ∃ z, z = v := ⟨_, rfl⟩
      have HUPW := Lib.hid (Upd.ofBelow HB5.out (RfU rb v))
      have HOWN := Lib.hid (show ∀ k, RfU rb vW k → RfU rb v k ∨ w.heap.size ≤ k from fun k hk => .inl (by rw [← hvW]; exact hk))
      rw [← hvW] at HTW
      have HPROV := Lib.hid (show ∀ z ∈ RS, z ∈ R ∨ ∀ k, RgN z k → w.heap.size ≤ k from fun z hz => .inl (by rw [← hRS]; exact hz))
      clear hgi hkk ek hRS hvW
      have hi00 : (0 : Int) ≤ (i : Int) := by omega
      go_upto_region 14 with (fail)
      obtain ⟨gr, cr, hvr, _⟩ := HTW.out.at_ (by have := (List.getElem?_eq_some_iff.1 HGI.out).1; omega)
      subst hvr
      obtain ⟨nr, hnr⟩ : ∃ z, z = RS.length := ⟨_, rfl⟩
      rw [← hnr] at HTW HOWN
      have HNR := Lib.hid hnr
      have hir : i < nr := by rw [hnr]; exact (List.getElem?_eq_some_iff.1 HGI.out).1
      have hnr64 : nr ≤ 64 := by rw [hnr]; exact HTW.out.len
      clear hnr
      have i0 : (0 : Int) ≤ (i : Int) := by omega
      have i1 : (i : Int) < (nr : Int) := by omega
      refine wp_region_rel (by kernel_rfl) (fun p q => Below w5.heap.size p q) (TkΦ rb gh gr nr cr i Ln cq co lo w5.heap.size Aq Ao gg g y) 11 (fun val w9 => ∃ gn b, val 10 = .pointer (some ⟨b, 0, none⟩) ∧ w5.heap.size ≤ b ∧ Blk w9 b 126 (rgA gn) ∧ gn.f = layF gg.f g y ∧ RgOk w9 lo gn ∧ (∀ k, RgN gn k → w5.heap.size ≤ k) ∧ Below w5.heap.size w5 w9) (fun _ _ => false) (by kernel_rfl) (fun p => Below.refl _ p) (fun h k => h.trans k) (obl_of ?_) (fun o ho => ?_) ?_
      · refine ⟨fun _ => ?_, fun _ => ?_, fun _ => ?_, fun _ => ?_, fun _ => ?_, fun _ => ?_, fun _ => ?_, fun _ => ?_, fun _ => ?_, fun _ => ?_, fun _ => ?_, fun h => absurd rfl h, trivial⟩
        · -- 0
          intro val wx hg hd hb hs K hK
          generalize hρ : rhoV _ _ val = ρ
          have cc : ∀ u, ρ (.const u) = u := fun u => by rw [← hρ]; rfl
          have ff : ∀ u, ρ (.func u) = .func (.func u) #[] #[] := fun u => by rw [← hρ]; rfl
          have r0 : ρ (.tmp 0) = .pointer (some ⟨rb, 0, none⟩) := by rw [← hρ]; rfl
          clear hρ hd hb hs
          refine ifv rfl ?_
          go_simp
          exact hK _ _ (Below.refl _ _) rfl fun _ _ _ _ h => h
        · -- 1
          intro val wx hg hd hb hs K hK
          generalize hρ : rhoV _ _ val = ρ
          have cc : ∀ u, ρ (.const u) = u := fun u => by rw [← hρ]; rfl
          have ff : ∀ u, ρ (.func u) = .func (.func u) #[] #[] := fun u => by rw [← hρ]; rfl
          have r83 : ρ (.tmp 83) = .pointer (some ⟨rb, 0, none⟩) := by rw [← hρ]; exact hd 0 rfl rfl
          clear hρ hd hb hs
          refine ifv rfl ?_
          go_simp
          exact hK _ _ (Below.refl _ _) rfl fun _ _ _ _ h => h
        · -- 2
          intro val wx hg hd hb hs K hK
          generalize hρ : rhoV _ _ val = ρ
          have cc : ∀ u, ρ (.const u) = u := fun u => by rw [← hρ]; rfl
          have ff : ∀ u, ρ (.func u) = .func (.func u) #[] #[] := fun u => by rw [← hρ]; rfl
          have r84 : ρ (.tmp 84) = .pointer (some ⟨rb, 0, none⟩) := by rw [← hρ]; exact hd 1 rfl rfl
          clear hρ hd hb hs
          refine ifv rfl ?_
          go_simp
          exact hK _ _ (Below.refl _ _) rfl fun _ _ _ _ h => h
        · -- 3
          intro val wx hg hd hb hs K hK
          generalize hρ : rhoV _ _ val = ρ
          have cc : ∀ u, ρ (.const u) = u := fun u => by rw [← hρ]; rfl
          have ff : ∀ u, ρ (.func u) = .func (.func u) #[] #[] := fun u => by rw [← hρ]; rfl
          have r85 : ρ (.tmp 85) = .pointer (some ⟨rb, 0, none⟩) := by rw [← hρ]; exact hd 2 rfl rfl
          have hbx : Below w5.heap.size w5 wx := ⟨hg.os, hg.tape, hg.output, hg.size, hg.block⟩
          have h4 := ld_rl ((HTW.out.below hbx).blk.cell 0)
          clear hρ hd hb hs
          refine ifv rfl ?_
          go_simp
          exact hK _ _ (Below.refl _ _) rfl fun _ _ _ _ h => h
        · -- 4
          intro val wx hg hd hb hs K hK
          generalize hρ : rhoV _ _ val = ρ
          have cc : ∀ u, ρ (.const u) = u := fun u => by rw [← hρ]; rfl
          have ff : ∀ u, ρ (.func u) = .func (.func u) #[] #[] := fun u => by rw [← hρ]; rfl
          have r9 : ρ (.tmp 9) = .int .i64 (i : Int) := by rw [← hρ]; rfl
          clear hρ hd hb hs
          refine ifv rfl ?_
          go_simp
          exact hK _ _ (Below.refl _ _) rfl fun _ _ _ _ h => h
        · -- 5
          intro val wx hg hd hb hs K hK
          generalize hρ : rhoV _ _ val = ρ
          have cc : ∀ u, ρ (.const u) = u := fun u => by rw [← hρ]; rfl
          have ff : ∀ u, ρ (.func u) = .func (.func u) #[] #[] := fun u => by rw [← hρ]; rfl
          have r86 : ρ (.tmp 86) = .slice (some ⟨gr, 0, none⟩) nr cr := by rw [← hρ]; exact hd 3 rfl rfl
          have r87 : ρ (.tmp 87) = .int .i64 (i : Int) := by rw [← hρ]; exact hd 4 rfl rfl
          clear hρ hd hb hs
          refine ifv rfl ?_
          go_simp
          exact hK _ _ (Below.refl _ _) rfl fun _ _ _ _ h => h
        · -- 6
          intro val wx hg hd hb hs K hK
          generalize hρ : rhoV _ _ val = ρ
          have cc : ∀ u, ρ (.const u) = u := fun u => by rw [← hρ]; rfl
          have ff : ∀ u, ρ (.func u) = .func (.func u) #[] #[] := fun u => by rw [← hρ]; rfl
          have r88 : ρ (.tmp 88) = .pointer (some ⟨gr, i * 19, none⟩) := by rw [← hρ]; exact hd 5 rfl rfl
          have hbx : Below w5.heap.size w5 wx := ⟨hg.os, hg.tape, hg.output, hg.size, hg.block⟩
          have h4 := RfM.ld (HTW.out.below hbx) HNR.out HGI.out
          clear hρ hd hb hs
          refine ifv rfl ?_
          go_simp
          exact hK _ _ (Below.refl _ _) rfl fun _ _ _ _ h => h
        · -- 7
          intro val wx hg hd hb hs K hK
          generalize hρ : rhoV _ _ val = ρ
          have cc : ∀ u, ρ (.const u) = u := fun u => by rw [← hρ]; rfl
          have ff : ∀ u, ρ (.func u) = .func (.func u) #[] #[] := fun u => by rw [← hρ]; rfl
          have r6 : ρ (.tmp 6) = .pointer (some ⟨gh, 0, none⟩) := by rw [← hρ]; rfl
          have hbx : Below w5.heap.size w5 wx := ⟨hg.os, hg.tape, hg.output, hg.size, hg.block⟩
          have h4 := hd_load (HKW.out.below hbx HKW.out.lt) rfl
          clear hρ hd hb hs
          refine ifv rfl ?_
          go_simp
          exact hK _ _ (Below.refl _ _) rfl fun _ _ _ _ h => h
        · -- 8
          intro val wx hg hd hb hs K hK
          generalize hρ : rhoV _ _ val = ρ
          have cc : ∀ u, ρ (.const u) = u := fun u => by rw [← hρ]; rfl
          have ff : ∀ u, ρ (.func u) = .func (.func u) #[] #[] := fun u => by rw [← hρ]; rfl
          have r7 : ρ (.tmp 7) = .slice Aq Ln cq := by rw [← hρ]; rfl
          clear hρ hd hb hs
          refine ifv rfl ?_
          go_simp
          exact hK _ _ (Below.refl _ _) rfl fun _ _ _ _ h => h
        · -- 9
          intro val wx hg hd hb hs K hK
          generalize hρ : rhoV _ _ val = ρ
          have cc : ∀ u, ρ (.const u) = u := fun u => by rw [← hρ]; rfl
          have ff : ∀ u, ρ (.func u) = .func (.func u) #[] #[] := fun u => by rw [← hρ]; rfl
          have r89 : ρ (.tmp 89) = .agg (rgA gg) := by rw [← hρ]; exact hd 6 rfl rfl
          have r90 : ρ (.tmp 90) = .agg (hdC g (.slice Ao g.opts.length co)) := by rw [← hρ]; exact hd 7 rfl rfl
          have r91 : ρ (.tmp 91) = .slice Aq Ln cq := by rw [← hρ]; exact hd 8 rfl rfl
          have hbx : Below w5.heap.size w5 wx := ⟨hg.os, hg.tape, hg.output, hg.size, hg.block⟩
          have hc := laid_any ((HTW.out.below hbx).fl gg (List.mem_of_getElem? HGI.out)) HPK.out _ (HROW.out wx hbx) _ (HRYW.out wx hbx)
          rw [hdV_eq] at hc
          have hzx : w5.heap.size ≤ wx.heap.size := hg.size
          clear hρ hd hb hs
          refine ifv rfl ?_
          go_simp
          refine hc.mono ?_
          rintro e w3 ⟨gn, rfl, hf, hok, hN, hb3⟩
          exact ⟨_, rfl, hK _ _ (hb3.mono hzx) ⟨gn, rfl, hf, hok, fun k hk => Nat.le_trans hzx (hN k hk)⟩ fun j _ _ _ h => TkΦ.keep hb3 j _ h⟩
        · -- 10
          intro val wx hg hd hb hs K hK
          generalize hρ : rhoV _ _ val = ρ
          have cc : ∀ u, ρ (.const u) = u := fun u => by rw [← hρ]; rfl
          have ff : ∀ u, ρ (.func u) = .func (.func u) #[] #[] := fun u => by rw [← hρ]; rfl
          have hzx : w5.heap.size ≤ wx.heap.size := hg.size
          have hbl : Below wx.heap.size wx (wx.alloc (.cells fl0V 126)) := (Below.refl _ _).alloc (Nat.le_refl _) _
          clear hρ hd hb hs
          refine ifv rfl ?_
          go_simp
          exact hK _ _ (hbl.mono hzx) ⟨_, rfl, hzx, Blk.new _ _ _⟩ fun j _ _ _ h => TkΦ.keep hbl j _ h
      · replace ho := Option.some.inj ho
        subst ho
        intro val wx hg hd hs K hK
        generalize hρ : rhoV _ _ val = ρ
        have r10 : ρ (.tmp 10) = val 10 := by rw [← hρ]; rfl
        have r92 : ρ (.tmp 92) = val 9 := by rw [← hρ]; rfl
        obtain ⟨gn, e9, hf, hok, hN⟩ : ∃ gn, val 9 = .agg (rgA gn) ∧ gn.f = layF gg.f g y ∧ RgOk wx lo gn ∧ ∀ k, RgN gn k → w5.heap.size ≤ k := hd 9 (by decide) (by decide) fun _ _ _ => rfl
        obtain ⟨b, e10, hq, hk⟩ : ∃ b, val 10 = .pointer (some ⟨b, 0, none⟩) ∧ w5.heap.size ≤ b ∧ Blk wx b 126 fl0V := hd 10 (by decide) (by decide) fun _ _ _ => rfl
        have st := fl_store (vs := rgA gn) hk rfl rfl (rgL_all hok)
        have hk2 : Blk (wx.setCells b 0 (rgA gn).toList) b 126 (rgA gn) := blk_setCells hk rfl
        have hu : Upd (only b) wx (wx.setCells b 0 (rgA gn).toList) := Upd.setCells _ _ _ (Upd.refl _ _) (.inl rfl)
        have hbx : Below w5.heap.size w5 wx := ⟨hg.os, hg.tape, hg.output, hg.size, hg.block⟩
        have hok2 : RgOk (wx.setCells b 0 (rgA gn).toList) lo gn := hok.upd hu fun k (e : k = b) => ⟨by have := HTW.out.blk.lt; have := HTW.out.lo; omega, fun hx => by
          rw [e] at hx
          rcases hx with hx | hx
          · exact own_blk_ne hok.b hk (by decide) hx
          · exact own_blk_ne hok.h hk (by decide) hx⟩
        have hb2 : Below w5.heap.size w5 (wx.setCells b 0 (rgA gn).toList) := hbx.trans (hu.below (fun k (e : k = b) => by omega) hbx.size)
        rw [e9] at r92
        rw [e10] at r10
        clear hρ hd hs
        refine ifv rfl ?_
        go_simp
        exact hK _ _ ⟨gn, b, by rw [← e10]; rfl, hq, hk2, hf, hok2, hN, hb2⟩
      intro val w2x h9
      rw [if_pos (by decide)] at h9
      obtain ⟨gn, fk, e10, hfk, hk2x, hf, hok2, hNn, hb2x⟩ := h9
      have HNN := Lib.hid hNn
      have HFF := Lib.hid hf
      have HB2X := Lib.hid hb2x
      have HK2X := Lib.hid hk2x
      have HOK2 := Lib.hid hok2
      have HT2X := Lib.hid (HTW.out.below hb2x)
      have HLW := Lib.hid (show gr < w5.heap.size from (own_lt HTW.out.row rfl).2)
      have HRBW := Lib.hid (show rb < w5.heap.size from HTW.out.blk.lt)
      have HFK := Lib.hid hfk
      simp only [putAll]
      simp only [Act.put, List.setIfInBounds_toArray, List.set_cons_succ, List.set_cons_zero, Nat.zero_add, Nat.reduceAdd]
      clear hf hb2x hk2x hok2 hfk hNn
      generalize val 0 = x0, val 1 = x1, val 2 = x2, val 3 = x3, val 4 = x4, val 5 = x5, val 6 = x6, val 7 = x7, val 8 = x8, val 9 = x9, val 10 = x10 at e10 ⊢
      subst e10
      go_upto_region 15 with (fail)
      refine wp_region_mix [(true, 7), (false, 1)] 0 (by kernel_rfl) (fun wx => Below w2x.heap.size w2x wx) (fun _ _ h k => h.trans (k.mono h.size)) (by kernel_rfl) (Below.refl _ _) (a' := ?_) (fun wz hz => ?_) fun wz hz => ?_
      rotate_left
      · have l0 := fun (d : Nat) (os : Array Obj) => ld_rl ((HT2X.out.below (hz.trans ((below_regrown wz d os).mono hz.size))).blk.cell 0)
        have l1 := fun (d : Nat) (os : Array Obj) => fl_load (HK2X.out.below (hz.trans ((below_regrown wz d os).mono hz.size)) HK2X.out.lt) rfl
        clear hz
        simp only [pick_nil, pick_tt, pick_ft, List.take_succ_cons, List.take_zero, List.drop_succ_cons, List.drop_zero, List.append_nil]
        repeat (go_big_quiet_step (fail))
        refine wpQuiet_nil ?_
        rfl
      simp only [pick_nil, pick_ff, pick_tf, List.take_succ_cons, List.take_zero, List.drop_succ_cons, List.drop_zero, List.append_nil]
      have HZ2 := Lib.hid hz
      clear hz
      refine wpMix_step HZ2.out fun wc hc2 => ?_
      have hzc := HZ2.out.trans (hc2.mono HZ2.out.size)
      obtain ⟨w3x, hst3, ht3, hu3, hok3⟩ := (HT2X.out.below hzc).put HNR.out HGI.out (HOK2.out.below hzc)
      have HT3X := Lib.hid ht3
      have HOK3 := Lib.hid hok3
      have HK3X := Lib.hid ((HK2X.out.below hzc HK2X.out.lt).upd hu3 fun (e : fk = gr) => by have := HFK.out; have := HLW.out; omega)
      have HUP3 := Lib.hid (Upd.trans ((HUPW.out.trans_ (Upd.ofBelow HB2X.out _)).trans_ (Upd.ofBelow hzc _)) hu3 fun k (e : k = gr) => HOWN.out k (.inr (by rw [e]; rfl)))
      clear hzc hc2 ht3 hu3 hok3
      go_wp2_with fail
      refine wpMix_plain ?_
      go_upto_region 16 with (fail)
      clear hst3
      have rlx := fl_load HK3X.out rfl
      have HWHO := Lib.hid (whole16_any HOK3.out)
      have HFIN0 := Lib.hid HT3.out
      rw [← HFF.out] at HFIN0
      by_cases hwf : wholeF' gn.f = true
      · rw [hwf] at HWHO
        obtain ⟨e0, he0⟩ : ∃ e0 : Nat, gn.f.en = (e0 : Int) := ⟨gn.f.en.toNat, by have := hwf; rw [whole_iff HOK3.out.ok] at this; simp only [Bool.and_eq_true, decide_eq_true_eq] at this; omega⟩
        have hpay := pay_by HOK3.out.ok hwf
        rw [he0, Int.toNat_natCast] at hpay
        have hebl : e0 ≤ gn.f.bl := by have := HOK3.out.ok.e1; omega
        have hhd := HOK3.out.ok.h (by have := hwf; rw [whole_iff HOK3.out.ok] at this; simp only [Bool.and_eq_true] at this; exact this.1.1)
        have HHD := Lib.hid hhd
        have HPAY := Lib.hid hpay
        have HE0 := Lib.hid he0
        have HEBL := Lib.hid hebl
        have HBLM := Lib.hid HOK3.out.ok.bl
        have hfin : takeF (R.map Rg.f) x = ((RS.map Rg.f).eraseIdx i, outF gn.f) := by rw [HFIN0.out]; unfold stepF; rw [if_pos hwf]
        have HFIN := Lib.hid hfin
        clear hwf hfin hhd hpay he0 hebl
        go_upto_region 18 with (go_at_call 103; refine HWHO.out.mono ?_; rintro e w4 ⟨rfl, hb4⟩; have HB34 := Lib.hid hb4; have HT4 := Lib.hid (HT3X.out.below hb4); have HOK4 := Lib.hid (HOK3.out.below hb4); have HK4 := Lib.hid (HK3X.out.below hb4 HK3X.out.lt); have HUP4 := Lib.hid (HUP3.out.trans_ (Upd.ofBelow hb4 _)); clear hb4)
        clear rlx
        have hdr := drop16_any HT4.out (by have := HUP4.out.size; have := HLO.out; omega) i (by rw [List.length_set, ← HNR.out]; exact hir)
        have HDR := Lib.hid hdr
        clear hdr
        go_upto_region 19 with (go_at_call 89; refine HDR.out.mono ?_; rintro e w5 ⟨rfl, v5, ht5, hu5, hj5⟩; have HT5 := Lib.hid ht5; have HJ5 := Lib.hid hj5; have HOK5 := Lib.hid (HOK4.out.upd hu5 fun k (e : k = rb) => HT4.out.neN (.inl e) HOK4.out); have HK5 := Lib.hid (HK4.out.upd hu5 fun (e : fk = rb) => by have := HFK.out; have := HRBW.out; omega); have HUP5 := Lib.hid (HUP4.out.trans_ (hu5.mono fun k (e : k = rb) => .inl (.inl e))); clear ht5 hu5 hj5)
        rw [erase_set] at HT5
        have l7 := ld_hd7 HK5.out
        obtain ⟨Av, cv, hvo9, hcv, hrv⟩ := HOK5.out.o
        obtain ⟨w6, hst6, hb6, _, hk6⟩ := hd_var (Below.refl w5.heap.size w5) (Nat.le_refl _) gn.f.hd Av gn.f.hd.opts.length cv
        rw [hvo9] at l7
        have HB6 := Lib.hid hb6
        have HK6 := Lib.hid hk6
        have HVO := Lib.hid hvo9
        clear hb6 hk6 hcv hrv hvo9
        unfold hdV at l7 hst6
        go_upto_region 20 with (fail)
        clear l7 hst6
        obtain ⟨hq, hhq⟩ : ∃ z, z = w5.heap.size := ⟨_, rfl⟩
        rw [← hhq] at HK6 ⊢
        have HHQ := Lib.hid hhq
        have s7 := st_boolv (HK6.out.cell 4) (HK6.out.frozen 4) false
        obtain ⟨w7, hw7⟩ : ∃ z, z = w6.setCell ⟨hq, 4, none⟩ (.bool false) := ⟨_, rfl⟩
        have hk7 := HK6.out.set_ 4 (.bool false)
        have hb7 : Below w5.heap.size w5 (w6.setCell ⟨hq, 4, none⟩ (.bool false)) := HB6.out.setCell (p := ⟨hq, 4, none⟩) (by rw [HHQ.out]; exact Nat.le_refl _) _
        rw [← hw7] at s7 hk7 hb7
        rw [show (hdC gn.f.hd (.slice Av gn.f.hd.opts.length cv)).setIfInBounds 4 (.bool false) = hdC { gn.f.hd with mf := false } (.slice Av gn.f.hd.opts.length cv) from rfl] at hk7
        have HB7 := Lib.hid hb7
        have HK7 := Lib.hid hk7
        clear hk7 hb7 hw7 hhq
        go_upto_region 21 with (fail)
        clear s7
        obtain ⟨Ab, cb, hbv, hcb⟩ := HOK5.out.b.form
        rw [bL_len] at hbv hcb
        have HBV := Lib.hid hbv
        have HCB := Lib.hid hcb
        obtain ⟨bl, hbl⟩ : ∃ z, z = gn.f.bl := ⟨_, rfl⟩
        rw [← hbl] at HBV HCB HEBL HBLM
        have HBL := Lib.hid hbl
        obtain ⟨Lo, hLo⟩ : ∃ z, z = gn.f.hd.opts.length := ⟨_, rfl⟩
        have HPS := Lib.hid (show ∀ wx, Below w5.heap.size w5 wx → Sl8 wx (fun _ => True) (.slice Ab e0 cb) (payF gn.f) from fun wx hb => by
          have hr := ((HOK5.out.below hb).b)
          rw [HBV.out] at hr
          have h2 := cut_hi (cap := cb) (k := e0) hr.sl.len.2.2 (by rw [bL_len, ← HBL.out]; exact HEBL.out) (by have := HCB.out; have := HEBL.out; omega)
          rw [HPAY.out]
          exact h2.mono fun _ _ => trivial)
        have HOS := Lib.hid (show ∀ wx, Below w5.heap.size w5 wx → Sl8 wx (fun _ => True) (.slice Av gn.f.hd.opts.length cv) ({ gn.f.hd with mf := false } : Hd).opts from fun wx hb => by
          have := (HOK5.out.below hb).o
          rw [HVO.out] at this
          exact this.mono fun _ _ => trivial)
        have HCC := Lib.hid (show ∀ wx, Below w5.heap.size w5 wx → wx.cell? ⟨fk, 4, none⟩ = some (.slice Ab bl cb) ∧ wx.cell? ⟨fk, 6, none⟩ = some (.int .i64 (e0 : Int)) from fun wx hb => by
          have := HK5.out.below hb HK5.out.lt
          exact ⟨by rw [this.cell, ← HBV.out]; rfl, by rw [this.cell, ← HE0.out]; rfl⟩)
        have hol : gn.f.hd.opts.length ≤ 1000000 := by have := (may_opts HHD.out.2.1).2.1; omega
        have hsl := fun wx => sl_hi Ab bl cb wx e0 (by have := HCB.out; have := HEBL.out; omega)
        clear hbv hcb hbl hLo
        have q0 := fun (d : Nat) (os : Array Obj) => hd_load (HK7.out.below (below_regrown w7 d os) HK7.out.lt) rfl
        have q1 := fun (d : Nat) (os : Array Obj) => ld8s (HCC.out _ (HB7.out.trans ((below_regrown w7 d os).mono HB7.out.size))).1
        have q2 := fun (d : Nat) (os : Array Obj) => ld_int (HCC.out _ (HB7.out.trans ((below_regrown w7 d os).mono HB7.out.size))).2
        have cl := fun (d : Nat) (os : Array Obj) => Calls.regrown_of (fits_any { gn.f.hd with mf := false } _ _ (payF gn.f) (fun _ => True) (grow (redrawn w7 d) os) (HOS.out _ (HB7.out.trans ((below_regrown w7 d os).mono HB7.out.size))) (HPS.out _ (HB7.out.trans ((below_regrown w7 d os).mono HB7.out.size))) hol)
        rw [hdV_eq] at cl
        have HQ0 := Lib.hid (show ∀ wx, Below w7.heap.size w7 wx → _ from fun wx hb => hd_load (HK7.out.below hb HK7.out.lt) rfl)
        have hzo : outF gn.f = if fitsH { gn.f.hd with mf := false } (payF gn.f) = true then (bytesF { gn.f.hd with mf := false } (payF gn.f), 0) else ([], 3) := rfl
        have HZO := Lib.hid hzo
        clear hzo
        by_cases hfit : fitsH { gn.f.hd with mf := false } (payF gn.f) = true
        · have HFIT := Lib.hid hfit
          rw [hfit] at cl
          rw [if_pos hfit] at HZO
          clear hfit
          refine wp_region_quiet_below (by kernel_rfl) (by kernel_rfl) ?_
          repeat (go_big_quiet_step (with_reducible exact cl _ _))
          refine wpQuiet_nil ?_
          intro _ hw'
          obtain ⟨⟨dq, osq⟩, hw''⟩ := hw'
          subst hw''
          have hbq := below_regrown w7 dq osq
          generalize grow (redrawn w7 dq) osq = w8 at hbq
          have HB78 := Lib.hid hbq
          have HB8 := Lib.hid (HB7.out.trans (hbq.mono HB7.out.size))
          have HUP8 := Lib.hid (HUP5.out.trans_ (Upd.ofBelow HB8.out _))
          clear q0 q1 q2 cl hbq
          go_upto_region 23 with (fail)
          refine wp_region_mix [(true, 6), (false, 3)] 0 (by kernel_rfl) (fun wx => Below w8.heap.size w8 wx) (fun _ _ h k => h.trans (k.mono h.size)) (by kernel_rfl) (Below.refl _ _) (a' := ?_) (fun wz hz => ?_) fun wz hz => ?_
          rotate_left
          · have q0 := fun (d : Nat) (os : Array Obj) => HQ0.out _ (HB78.out.trans ((hz.trans ((below_regrown wz d os).mono hz.size)).mono HB78.out.size))
            have q1 := fun (d : Nat) (os : Array Obj) => ld8s (HCC.out _ (HB8.out.trans ((hz.trans ((below_regrown wz d os).mono hz.size)).mono HB8.out.size))).1
            have q2 := fun (d : Nat) (os : Array Obj) => ld_int (HCC.out _ (HB8.out.trans ((hz.trans ((below_regrown wz d os).mono hz.size)).mono HB8.out.size))).2
            clear hz
            simp only [pick_nil, pick_tt, pick_ft, List.take_succ_cons, List.take_zero, List.drop_succ_cons, List.drop_zero, List.append_nil]
            repeat (go_big_quiet_step (fail))
            refine wpQuiet_nil ?_
            rfl
          simp only [pick_nil, pick_ff, pick_tf, List.take_succ_cons, List.take_zero, List.drop_succ_cons, List.drop_zero, List.append_nil]
          have HZ8 := Lib.hid hz
          clear hz
          refine wpMix_step HZ8.out fun wa9 ha9 => ?_
          have hb9 := HB8.out.trans ((HZ8.out.trans (ha9.mono HZ8.out.size)).mono HB8.out.size)
          have hby := rbytes_any { gn.f.hd with mf := false } _ _ (payF gn.f) (fun _ => True) wa9 (HOS.out _ hb9) (HPS.out _ hb9) HHD.out.1 HFIT.out
          rw [hdV_eq] at hby
          have HBY := Lib.hid hby
          have HB9 := Lib.hid hb9
          clear ha9 hb9 hby
          go_wp2_with (go_at_call 38; refine HBY.out.mono ?_; rintro e w9 ⟨v9, rfl, hr9, hbb9⟩; have HR9 := Lib.hid hr9; have HBB9 := Lib.hid (HB9.out.trans (hbb9.mono HB9.out.size)); clear hr9 hbb9)
          refine wpMix_plain ?_
          go_wp2_with fail
          go_ret2
          rw [HFIN.out, HZO.out]
          exact ⟨_, v5, RS.eraseIdx i, rfl, row_sl HR9.out, map_eraseR _ _, HT5.out.below HBB9.out, HUP5.out.trans_ (Upd.ofBelow HBB9.out _), fun k hk => by
            rcases hk with hk | hk
            · exact .inl (.inl hk)
            · exact .inr (Nat.le_trans HUP4.out.size (HJ5.out k hk)), fun z hz => HPROV.out z (List.mem_of_mem_eraseIdx hz)⟩
        · have hfit' : fitsH { gn.f.hd with mf := false } (payF gn.f) = false := by simpa using hfit
          rw [hfit'] at cl
          rw [if_neg hfit] at HZO
          clear hfit hfit'
          refine wp_region_quiet_below (by kernel_rfl) (by kernel_rfl) ?_
          repeat (go_big_quiet_step (with_reducible exact cl _ _))
          refine wpQuiet_nil ?_
          intro _ hw'
          obtain ⟨⟨dq, osq⟩, hw''⟩ := hw'
          subst hw''
          have hbq := below_regrown w7 dq osq
          generalize grow (redrawn w7 dq) osq = w8 at hbq
          have HB78 := Lib.hid hbq
          have HB8 := Lib.hid (HB7.out.trans (hbq.mono HB7.out.size))
          have HUP8 := Lib.hid (HUP5.out.trans_ (Upd.ofBelow HB8.out _))
          clear q0 q1 q2 cl hbq
          go_wp2_with fail
          go_ret2
          rw [HFIN.out, HZO.out]
          exact ⟨_, v5, RS.eraseIdx i, rfl, sl_nil _ _, map_eraseR _ _, HT5.out.below HB8.out, HUP8.out, fun k hk => by
            rcases hk with hk | hk
            · exact .inl (.inl hk)
            · exact .inr (Nat.le_trans HUP4.out.size (HJ5.out k hk)), fun z hz => HPROV.out z (List.mem_of_mem_eraseIdx hz)⟩
      · have hwf' : wholeF' gn.f = false := by simpa using hwf
        rw [hwf'] at HWHO
        have hfin : takeF (R.map Rg.f) x = ((RS.map Rg.f).set i gn.f, [], 0) := by rw [HFIN0.out]; unfold stepF; rw [if_neg hwf]
        have HFIN := Lib.hid hfin
        clear hwf hwf' hfin
        go_wp2_with (go_at_call 103; refine HWHO.out.mono ?_; rintro e w4 ⟨rfl, hb4⟩; have HB34 := Lib.hid hb4; have HT4 := Lib.hid (HT3X.out.below hb4); have HUP4 := Lib.hid (HUP3.out.trans_ (Upd.ofBelow hb4 _)); clear hb4)
        go_ret2
        rw [HFIN.out]
        exact ⟨_, _, RS.set i gn, rfl, sl_nil _ _, List.map_set, HT4.out, HUP4.out, HOWN.out, fun z hz => by
          rcases List.mem_or_eq_of_mem_set hz with hz | rfl
          · exact HPROV.out z hz
          · exact .inr fun k hk => Nat.le_trans HUPW.out.size (HNN.out k hk)⟩
end Go.Proofs.Ytihfihehiifdkaa
