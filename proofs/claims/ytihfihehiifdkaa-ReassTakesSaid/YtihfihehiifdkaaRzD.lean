/- Layer 16: the document's laid. -/
import Derived.Test.YtihfihehiifdkaaRzC
import Derived.Deep.LoopGhost
import Derived.Deep.QuietTactic
import Derived.BigQuiet
namespace Go.Proofs.Ytihfihehiifdkaa
open Go.RowKit Go.Sort Go.BigFrame
attribute [local go_sem] comesV_value comesV_skip comesV_enter
/-- Rows that grow. -/
def byM (f : Fl) (m : Nat) : By := (List.range m).map (byF f)
def hasM (f : Fl) (m : Nat) : List Bool := (List.range m).map (hasF f)
theorem has_no {f : Fl} (hf : FlOk f) {m : Nat} (hm : f.bl ≤ m) : hasF f m = false := by
  cases h : hasF f m with
  | false => rfl
  | true => have := has_lt hf h; omega
theorem byM_snoc {f : Fl} (hf : FlOk f) {m : Nat} (hm : f.bl ≤ m) : byM f (m + 1) = byM f m ++ [0] := by
  unfold byM
  rw [List.range_succ, List.map_append]
  simp only [List.map_cons, List.map_nil]
  rw [by_no (has_no hf hm)]
theorem hasM_snoc {f : Fl} (hf : FlOk f) {m : Nat} (hm : f.bl ≤ m) : hasM f (m + 1) = hasM f m ++ [false] := by
  unfold hasM
  rw [List.range_succ, List.map_append]
  simp only [List.map_cons, List.map_nil]
  rw [has_no hf hm]
theorem bytesV_snoc0 (x : By) : bytesV (x ++ [0]) = bytesV x ++ [.int .u8 0] := by simp [bytesV]
theorem boolV_snoc0 (x : List Bool) : boolV (x ++ [false]) = boolV x ++ [.bool false] := by simp [boolV]
/-- Rows while a piece is laid: its first j bytes. -/
def byJ (f : Fl) (at_ : Nat) (p : By) (j m : Nat) : By := (List.range m).map fun n => if hasF f n = true then byF f n else if at_ ≤ n ∧ n < at_ + j then p.getD (n - at_) 0 else 0
def hasJ (f : Fl) (at_ j m : Nat) : List Bool := (List.range m).map fun n => hasF f n || decide (at_ ≤ n ∧ n < at_ + j)
theorem byJ_len (f : Fl) (a : Nat) (p : By) (j m : Nat) : (byJ f a p j m).length = m := by simp [byJ]
theorem hasJ_len (f : Fl) (a j m : Nat) : (hasJ f a j m).length = m := by simp [hasJ]
theorem byJ_zero (f : Fl) (a : Nat) (p : By) (m : Nat) : byJ f a p 0 m = byM f m := by
  unfold byJ byM
  refine List.map_congr_left fun n _ => ?_
  split
  · rfl
  · rename_i h
    rw [if_neg (by omega), by_no (by simpa using h)]
theorem hasJ_zero (f : Fl) (a m : Nat) : hasJ f a 0 m = hasM f m := by
  unfold hasJ hasM
  refine List.map_congr_left fun n _ => ?_
  rw [decide_eq_false (by omega), Bool.or_false]
theorem hasJ_get (f : Fl) (a j m : Nat) (h : a + j < m) : (hasJ f a j m)[a + j]? = some (hasF f (a + j)) := by
  unfold hasJ
  rw [List.getElem?_map, List.getElem?_range h]
  show some (hasF f (a + j) || _) = _
  rw [decide_eq_false (by omega), Bool.or_false]
theorem byJ_had {f : Fl} {a : Nat} {p : By} {j m : Nat} (h : hasF f (a + j) = true) : byJ f a p (j + 1) m = byJ f a p j m ∧ hasJ f a (j + 1) m = hasJ f a j m := by
  unfold byJ hasJ
  refine ⟨List.map_congr_left fun n _ => ?_, List.map_congr_left fun n _ => ?_⟩
  · by_cases hn : n = a + j
    · rw [hn, if_pos h, if_pos h]
    · split
      · rfl
      · by_cases h1 : a ≤ n ∧ n < a + j
        · rw [if_pos h1, if_pos (by omega)]
        · rw [if_neg h1, if_neg (by omega)]
  · by_cases hn : n = a + j
    · rw [hn, h]; rfl
    · congr 1
      rw [decide_eq_decide]
      omega
theorem byJ_new {f : Fl} {a : Nat} {p : By} {j m : Nat} {b : UInt8} (h : hasF f (a + j) = false) (hb : p[j]? = some b) (hm : a + j < m) : byJ f a p (j + 1) m = (byJ f a p j m).set (a + j) b ∧ hasJ f a (j + 1) m = (hasJ f a j m).set (a + j) true := by
  refine ⟨List.ext_getElem? fun n => ?_, List.ext_getElem? fun n => ?_⟩
  · rw [List.getElem?_set, byJ_len]
    by_cases hn : n < m
    · unfold byJ
      rw [List.getElem?_map, List.getElem?_range hn, List.getElem?_map, List.getElem?_range hn]
      simp only [Option.map_some]
      by_cases he : a + j = n
      · rw [if_pos he, if_pos hm, ← he, if_neg (by rw [h]; simp), if_pos (by omega), List.getD_eq_getElem?_getD, show a + j - a = j by omega, hb]
        rfl
      · rw [if_neg he]
        split
        · rfl
        · by_cases h1 : a ≤ n ∧ n < a + j
          · rw [if_pos h1, if_pos (by omega)]
          · rw [if_neg h1, if_neg (by omega)]
    · rw [List.getElem?_eq_none (by rw [byJ_len]; omega), if_neg (by omega), List.getElem?_eq_none (by rw [byJ_len]; omega)]
  · rw [List.getElem?_set, hasJ_len]
    by_cases hn : n < m
    · unfold hasJ
      rw [List.getElem?_map, List.getElem?_range hn, List.getElem?_map, List.getElem?_range hn]
      simp only [Option.map_some]
      by_cases he : a + j = n
      · rw [if_pos he, if_pos hm, ← he, decide_eq_true (by omega), Bool.or_true]
      · rw [if_neg he]
        congr 2
        rw [decide_eq_decide]
        omega
    · rw [List.getElem?_eq_none (by rw [hasJ_len]; omega), if_neg (by omega), List.getElem?_eq_none (by rw [hasJ_len]; omega)]
theorem byJ_end (f : Fl) (h : Hd) (p : By) : bL (layF f h p) = byJ f (8 * h.off.toNat) p p.length (max f.bl (8 * h.off.toNat + p.length)) ∧ hL (layF f h p) = hasJ f (8 * h.off.toNat) p.length (max f.bl (8 * h.off.toNat + p.length)) := by
  unfold bL hL byJ hasJ
  rw [lay_bl]
  exact ⟨List.map_congr_left fun n _ => lay_by f h p n, List.map_congr_left fun n _ => lay_has f h p n⟩
theorem bL_byM (f : Fl) : bL f = byM f f.bl := rfl
theorem hL_hasM (f : Fl) : hL f = hasM f f.bl := rfl
theorem boolV_set (l : List Bool) (i : Nat) (b : Bool) : (boolV l).set i (.bool b) = boolV (l.set i b) := by unfold boolV; rw [List.map_set]
def rgX (k : Key) (bv hv : Value) (en : Int) (hd : Hd) (vo : Value) (fi : Bool) : Array Value := #[.int .u32 (k.1 : Int), .int .u32 (k.2.1 : Int), .int .u8 (k.2.2.1 : Int), .int .u16 (k.2.2.2 : Int), bv, hv, .int .i64 en,
  .int .u8 (hd.tos : Int), .int .u16 (hd.id : Int), .bool hd.evil, .bool hd.df, .bool hd.mf, .int .i64 hd.off, .int .u8 (hd.ttl : Int), .int .u8 (hd.proto : Int), .int .u32 (hd.src : Int), .int .u32 (hd.dst : Int), vo, .bool fi]
theorem rgA_eq (g : Rg) : rgA g = rgX g.f.key g.bv g.hv g.f.en g.f.hd g.vo g.f.first := rfl
theorem rgX_size (k : Key) (bv hv : Value) (en : Int) (hd : Hd) (vo : Value) (fi : Bool) : (rgX k bv hv en hd vo fi).size = 19 := rfl
theorem fl_info : (Try.prog.info? 126).map (·.size) = some 19 := by kernel_rfl
theorem fl_store {w : World} {g : Nat} {cs vs : Array Value} (h : Blk w g 126 cs) (hc : cs.size = 19) (hv : vs.size = 19) (h1 : vs.all (·.oneCell') = true) : (Instr.storeAt 126 (.pointer (some ⟨g, 0, none⟩)) (.agg vs)).run Try.prog w = .ok () (w.setCells g 0 vs.toList) :=
  run_storeAt_mid w g 0 _ vs (by have := blk_there h; rwa [hc, ← hv] at this) (by rw [hv]; exact fl_info) h1
theorem fl_load {w : World} {g : Nat} {cs : Array Value} (h : Blk w g 126 cs) (hc : cs.size = 19) : (Instr.loadAt 126 (.pointer (some ⟨g, 0, none⟩))).run Try.prog w = .ok (.agg cs) w := by
  have := run_loadAt_mid (P := Try.prog) w g 0 126 cs.toList _ (blk_range h) Try.underlying126 rfl (by simpa [hc] using fl_info)
  simpa using this
theorem ld_u8x {w : World} {a : Addr} {z : Int} (hu : w.cell? a = some (.int .u8 z)) : (Instr.loadAt 5 (.pointer (some a))).run Try.prog w = .ok (.int .u8 z) w := by simp [go_sem, hu]
theorem own_one {w : World} {base : Nat} {e : TypeId} {size n : Nat} {v : Value} {xs : List Value} (h : w.ownsRow base e size v n xs) : ∃ A n c, v = .slice A n c := by
  obtain ⟨A, c, e, _⟩ := own_form h
  exact ⟨_, _, _, e⟩
theorem sl_one {w : World} {I : Nat → Prop} {v : Value} {x : By} (h : Sl8 w I v x) : ∃ A n c, v = .slice A n c := by
  obtain ⟨A, c, e, _⟩ := h
  exact ⟨_, _, _, e⟩
theorem rgX_one {k : Key} {bv hv vo : Value} {en : Int} {hd : Hd} {fi : Bool} (h1 : ∃ A n c, bv = .slice A n c) (h2 : ∃ A n c, hv = .slice A n c) (h3 : ∃ A n c, vo = .slice A n c) : (rgX k bv hv en hd vo fi).all (·.oneCell') = true := by
  obtain ⟨_, _, _, rfl⟩ := h1
  obtain ⟨_, _, _, rfl⟩ := h2
  obtain ⟨_, _, _, rfl⟩ := h3
  unfold rgX
  simp [Value.oneCell']
theorem own_upd {w w' : World} {base b t : Nat} {e : TypeId} {size n : Nat} {v : Value} {xs : List Value} {cs : Array Value} (h : w.ownsRow base e size v n xs) (hu : Upd (only b) w w') (hb : Blk w b t cs) (hne : e ≠ t) : w'.ownsRow base e size v n xs :=
  own_keep h (hu.same (I := fun k => v.ownBlock = some k) fun k (hk : k = b) hv => own_blk_ne h hb hne (by rw [hv, hk])) fun _ e => e
theorem bytesV_set (l : By) (i : Nat) (b : UInt8) : bytesV (l.set i b) = (bytesV l).set i (.int .u8 (b.toNat : Int)) := by unfold bytesV; rw [List.map_set]
/-- A flow's header is stored. -/
theorem put_hd {fb hb ob : Nat} {k : Key} {bv hv vo vo' : Value} {en : Int} {hd h' : Hd} {fi : Bool} {H : Array Value} {w : World} (h : LnC fb hb ob (rgX k bv hv en hd vo fi) H w) (h1 : fb ≠ hb) (h2 : fb ≠ ob) (hv' : ∃ A n c, vo' = .slice A n c) :
    (Instr.storeAt 32 (.pointer (some ⟨fb, 7, none⟩)) (.agg (hdC h' vo'))).run Try.prog w = .ok () (w.setCells fb 7 (hdC h' vo').toList) ∧ LnC fb hb ob (rgX k bv hv en h' vo' fi) H (w.setCells fb 7 (hdC h' vo').toList) ∧ Upd (only fb) w (w.setCells fb 7 (hdC h' vo').toList) := by
  have hu : Upd (only fb) w (w.setCells fb 7 (hdC h' vo').toList) := Upd.setCells _ _ _ (Upd.refl _ _) (.inl rfl)
  refine ⟨?_, ⟨?_, h.2.1.upd hu fun e => h1 e.symm, h.2.2.upd hu fun e => h2 e.symm⟩, hu⟩
  · refine run_storeAt_mid w fb 7 _ (hdC h' vo') (fun j hj => ?_) (by kernel_rfl) (by obtain ⟨_, _, _, rfl⟩ := hv'; simp [hdC, Value.oneCell'])
    have hj' : j < 11 := hj
    have hlt : 7 + j < (rgX k bv hv en hd vo fi).size := by rw [rgX_size]; omega
    exact ⟨by rw [h.1.cell]; simp [hlt], h.1.frozen _⟩
  · have := blk_setCells_mid (hdC h' vo').toList [.int .u32 (k.1 : Int), .int .u32 (k.2.1 : Int), .int .u8 (k.2.2.1 : Int), .int .u16 (k.2.2.2 : Int), bv, hv, .int .i64 en] [.int .u8 (hd.tos : Int), .int .u16 (hd.id : Int), .bool hd.evil, .bool hd.df, .bool hd.mf, .int .i64 hd.off, .int .u8 (hd.ttl : Int), .int .u8 (hd.proto : Int), .int .u32 (hd.src : Int), .int .u32 (hd.dst : Int), vo, .bool fi] w (by simp [hdC]) h.1
    exact this
theorem res_fl {w : World} {g : Nat} {cs : Array Value} {fn : Func} {p : Tmp} (hf : fn.results = #[.cell p 126]) (tmps : Array Value) (hp : tmps.getD p undef = .pointer (some ⟨g, 0, none⟩)) (h : Blk w g 126 cs) (hc : cs.size = 19) :
    (results fn tmps).run Try.prog w = .ok (.agg cs) w := by
  have hl := run_loadVar_mid (P := Try.prog) w g 0 126 cs.toList _ (blk_range h) Try.underlying126 rfl (by simpa [hc] using fl_info)
  have e1 : tmps[p]?.getD undef = .pointer (some ⟨g, 0, none⟩) := by simpa using hp
  simp only [results, hf]
  simp [e1, asAddr, hl]
end Go.Proofs.Ytihfihehiifdkaa
namespace Go.Proofs.Ytihfihehiifdkaa
open Go.RowKit Go.Sort Go.BigFrame
attribute [local go_sem] comesV_value comesV_skip comesV_enter
/-- What laid answers. -/
def LaidPost (w : World) (lo : Nat) (g : Rg) (h : Hd) (p : By) (e : Ending) (w' : World) : Prop := ∃ g', e = .returned (.agg (rgA g')) ∧ g'.f = layF g.f h p ∧ RgOk w' lo g' ∧ (∀ k, RgN g' k → w.heap.size ≤ k) ∧ Below w.heap.size w w'
set_option maxRecDepth 100000 in
set_option maxHeartbeats 8000000 in
attribute [-go_sem] Instr.storeAt Instr.loadAt in
theorem laid_any {w : World} {lo : Nat} {g : Rg} {h : Hd} {p : By} (hg : RgOk w lo g) (hp : PieceOk h p) (vo : Value) (hvo : Sl8 w (fun k => k < lo) vo h.opts) (pv : Value) (hpv : Sl8 w (fun k => k < lo) pv p) :
    Calls Try.prog 102 #[.agg (rgA g), hdV h vo, pv] w (LaidPost w lo g h p) := by
  obtain ⟨Ap, cp, rfl, hcp, hrp⟩ := hpv
  obtain ⟨Ao, co, rfl, hco, hro⟩ := hvo
  obtain ⟨o, ho⟩ : ∃ o : Nat, h.off = (o : Int) := ⟨h.off.toNat, by have := (may_opts hp.may).2.2.2.1; omega⟩
  have hon : h.off.toNat = o := by rw [ho]; rfl
  have hle := hp.le
  rw [hon] at hle
  have hpos := hp.pos
  have hblm := hg.ok.bl
  obtain ⟨fb, hfb⟩ : ∃ x, x = w.heap.size := ⟨_, rfl⟩
  obtain ⟨X, hX⟩ : ∃ X : Value → Value → Array Value, X = fun bv hv => rgX g.f.key bv hv g.f.en g.f.hd g.vo g.f.first := ⟨_, rfl⟩
  obtain ⟨H, hH⟩ : ∃ H, H = hdC h (.slice Ao h.opts.length co) := ⟨_, rfl⟩
  obtain ⟨W, hW⟩ : ∃ W, W = ((w.alloc (.cells (X g.bv g.hv) 126)).alloc (.cells H 32)).alloc (.cells fl0V 126) := ⟨_, rfl⟩
  have hln : LnC fb (fb + 1) (fb + 1 + 1) (X g.bv g.hv) H W := by
    rw [hW, hfb]
    refine ⟨((Blk.new _ _ _).alloc _).alloc _, ?_, ?_⟩
    · have := (Blk.new (w.alloc (.cells (X g.bv g.hv) 126)) 32 H).alloc (.cells fl0V 126)
      simpa using this
    · have := Blk.new ((w.alloc (.cells (X g.bv g.hv) 126)).alloc (.cells H 32)) 126 fl0V
      simpa using this
  have hb0 : Below fb w W := by rw [hW, hfb]; exact (((Below.refl _ _).alloc (Nat.le_refl _) _).alloc (by simp) _).alloc (by simp; omega) _
  have hX4 : ∀ v v2, (X v v2)[4]? = some v := fun v v2 => by rw [hX]; rfl
  have hX5 : ∀ v v2, (X v v2)[5]? = some v2 := fun v v2 => by rw [hX]; rfl
  have hX4s : ∀ v v2 u, (X v v2).setIfInBounds 4 u = X u v2 := fun v v2 u => by rw [hX]; rfl
  have hX5s : ∀ v v2 u, (X v v2).setIfInBounds 5 u = X v u := fun v v2 u => by rw [hX]; rfl
  have HX6 := Lib.hid (show ∀ v v2, (X v v2)[6]? = some (.int .i64 g.f.en) from fun v v2 => by rw [hX]; rfl)
  have HX18 := Lib.hid (show ∀ v v2, (X v v2)[18]? = some (.bool g.f.first) from fun v v2 => by rw [hX]; rfl)
  have HX4 := Lib.hid hX4
  have HX5 := Lib.hid hX5
  have HX4S := Lib.hid hX4s
  have HX5S := Lib.hid hX5s
  have HFB := Lib.hid hfb
  have HW := Lib.hid hW
  unfold fl0V at HW
  have HX := Lib.hid hX
  have HH := Lib.hid hH
  have HLN := Lib.hid hln
  have HB0 := Lib.hid hb0
  have HG := Lib.hid (show ∀ wx, Below fb w wx → RgOk wx lo g from fun wx hb => by rw [hfb] at hb; exact hg.below hb)
  have HPR := Lib.hid (show ∀ wx, Below fb w wx → Reads wx (fun k => k < lo ∧ k < fb) 1 Ap p.length (bytesV p) from fun wx hb => by rw [hfb] at hb ⊢; exact hrp.lt.keep (Same.ofBelow hb fun k hk => hk.2))
  have HOR := Lib.hid (show ∀ wx, Below fb w wx → Sl8 wx (fun k => k < lo) (.slice Ao h.opts.length co) h.opts from fun wx hb => by rw [hfb] at hb; exact (Sl8.lt (⟨Ao, co, rfl, hco, hro⟩ : Sl8 w (fun k => k < lo) (.slice Ao h.opts.length co) h.opts)).keep (Same.ofBelow hb fun k hk => hk.2) |>.mono fun k hk => hk.1)
  obtain ⟨Ab, cb, hbv, hcb⟩ := hg.b.form
  obtain ⟨Ah, ch, hhv, hch⟩ := own_form hg.h
  have HBV := Lib.hid hbv
  have HHV := Lib.hid hhv
  rw [bL_len] at hbv
  obtain ⟨bl, hbl⟩ : ∃ b, b = g.f.bl := ⟨_, rfl⟩
  rw [← hbl] at hbv hhv hblm
  have HBL := Lib.hid hbl
  obtain ⟨np, hnp⟩ : ∃ n, n = p.length := ⟨_, rfl⟩
  rw [← hnp] at hle hpos HPR hcp ⊢
  have HNP := Lib.hid hnp
  have HHO := Lib.hid ho
  have HHN := Lib.hid hon
  have HP := Lib.hid hp
  have HCP := Lib.hid hcp
  have HOK := Lib.hid hg.ok
  have HKEY := Lib.hid hg.key
  rw [rgA_eq, hdV_eq, ← hH, show rgX g.f.key g.bv g.hv g.f.en g.f.hd g.vo g.f.first = X g.bv g.hv by rw [hX]]
  obtain ⟨en, hen⟩ : ∃ z, z = g.f.en := ⟨_, rfl⟩
  obtain ⟨fi, hfir⟩ : ∃ z, z = g.f.first := ⟨_, rfl⟩
  rw [← hen] at HX6
  rw [← hfir] at HX18
  have HEN := Lib.hid hen
  have HFI := Lib.hid hfir
  have HC5 := Lib.hid (show H[5]? = some (.int .i64 (o : Int)) by rw [hH, ← ho]; rfl)
  have HC4 := Lib.hid (show H[4]? = some (.bool h.mf) by rw [hH]; rfl)
  have hen0 : -1 ≤ en := by rw [hen]; exact hg.ok.e0
  have hen1 : en ≤ bl := by rw [hen, hbl]; exact hg.ok.e1
  obtain ⟨i0, hi0, hz0, hz1, hz2⟩ := info_parts info_u8
  obtain ⟨i1, hi1, hy0, hy1, hy2⟩ := info_parts info_bool
  have m1 := ld_int (w := W) (a := ⟨fb + 1, 5, none⟩) (z := (o : Int)) (by rw [hln.2.1.cell]; exact HC5.out)
  have m2 := ld8s (w := W) (g := fb) (i := 4) (A := Ab) (n := bl) (c := cb) (by rw [hln.1.cell, hX4, hbv])
  clear hX hH hW hln hb0 hX4 hX5 hX4s hX5s hg hp hrp hro hco hcp ho hon hcb hch hbl hnp hbv hhv hen hfir hfb
  go_enter Try.func102, Try.ntmps102
  go_upto_region 1 with (fail)
  rw [← HW.out, ← HFB.out]
  go_upto_region 2 with (fail)
  clear m1
  have hrb := (HG.out W HB0.out).b
  rw [HBV.out] at hrb
  have hrb' := hrb.reads.2
  rw [bL_len, ← HBL.out] at hrb'
  have hmx : 0 + bl ≤ maxLen := by unfold maxLen; omega
  have hmb : (0 + bl) * 1 ≤ 140737488355328 := by omega
  have hfw : fb ≤ W.heap.size := by rw [HFB.out]; exact HB0.out.size
  clear hrb
  go_upto_region 3 with (at_builtin; refine wpList_append_any _ rfl (.const (.slice none 0 0)) (.tmp 13) _ rfl fb 5 i0 _ 1 1 Try.underlying22 hi0 hz0 hz1 hz2 rfl (by decide) (.slice none 0 0) 0 [] rfl (World.ownsRow_nil _ _ _ _) _ Ab bl cb _ rfl hrb' (bytesV_one _) hmx hmb hfw ?_; intro v1 w1 h1 hg1 _; rw [List.nil_append, Nat.zero_add] at h1; obtain ⟨A1, c1, rfl, _⟩ := own_form h1; have hb1 : Below fb w w1 := HB0.out.grown hg1 hfw fun j hj => (by cases hj); have hl1 : LnC fb (fb + 1) (fb + 1 + 1) (X g.bv g.hv) H w1 := HLN.out.grown (World.ownsRow_nil W fb 5 1) hg1 (by decide) (by decide); have s1 := st_8s (hl1.1.cell 4 |>.trans (HX4.out _ _)) (hl1.1.frozen 4) A1 bl c1; have H1 := Lib.hid h1; have HB1 := Lib.hid hb1; have HL1 := Lib.hid hl1; clear h1 hg1 hb1 hl1 hrb' m2)
  have hl2 := HL1.out.put 4 (.slice A1 bl c1) (by omega) (by omega)
  rw [HX4S.out] at hl2
  have hb2 : Below fb w (w1.setCell ⟨fb, 4, none⟩ (.slice A1 bl c1)) := HB1.out.setCell (p := ⟨fb, 4, none⟩) (Nat.le_refl _) _
  have ho2 := own_set H1.out HL1.out.1 (by decide) 4 (.slice A1 bl c1)
  obtain ⟨W2, hW2⟩ : ∃ Z, Z = w1.setCell ⟨fb, 4, none⟩ (.slice A1 bl c1) := ⟨_, rfl⟩
  rw [← hW2] at hl2 hb2 ho2
  have m3 := ld_bools (w := W2) (b := fb) (o := 5) (A := Ah) (n := bl) (c := ch) (by rw [hl2.1.cell, HX5.out, HHV.out, ← HBL.out])
  have hrh := (HG.out W2 hb2).h
  rw [HHV.out, ← HBL.out] at hrh
  have hrh' := Reads.of_own (I := fun _ => True) hrh fun _ _ => trivial
  have hfw2 : fb ≤ W2.heap.size := by rw [HFB.out]; exact hb2.size
  have HL2 := Lib.hid hl2
  have HB2 := Lib.hid hb2
  have HO2 := Lib.hid ho2
  have HW2 := Lib.hid hW2
  try rw [← hW2]
  clear hrh hl2 hb2 ho2 hW2 s1
  go_upto_region 4 with (at_builtin; refine wpList_append_any _ rfl (.const (.slice none 0 0)) (.tmp 17) _ rfl fb 4 i1 _ 1 1 Try.underlying119 hi1 hy0 hy1 hy2 rfl (by decide) (.slice none 0 0) 0 [] rfl (World.ownsRow_nil _ _ _ _) _ Ah bl ch _ rfl hrh' (boolV_one _) hmx hmb hfw2 ?_; intro v3 w3 h3 hg3 _; rw [List.nil_append, Nat.zero_add] at h3; obtain ⟨A3, c3, rfl, _⟩ := own_form h3; have hb3 : Below fb w w3 := HB2.out.grown hg3 hfw2 fun j hj => (by cases hj); have hl3 : LnC fb (fb + 1) (fb + 1 + 1) (X (.slice A1 bl c1) g.hv) H w3 := HL2.out.grown (World.ownsRow_nil W2 fb 4 1) hg3 (by decide) (by decide); have s3 := st_bs (hl3.1.cell 5 |>.trans (HX5.out _ _)) (hl3.1.frozen 5) A3 bl c3; have ho3 := own_other HO2.out (World.ownsRow_nil W2 fb 4 1) hg3 (by decide); have H3 := Lib.hid h3; have HB3 := Lib.hid hb3; have HL3 := Lib.hid hl3; have HO3 := Lib.hid ho3; clear h3 hg3 hb3 hl3 ho3 hrh' m3)
  have hl4 := HL3.out.put 5 (.slice A3 bl c3) (by omega) (by omega)
  rw [HX5S.out] at hl4
  have hb4 : Below fb w (w3.setCell ⟨fb, 5, none⟩ (.slice A3 bl c3)) := HB3.out.setCell (p := ⟨fb, 5, none⟩) (Nat.le_refl _) _
  have ho4 := own_set HO3.out HL3.out.1 (by decide) 5 (.slice A3 bl c3)
  have hh4 := own_set H3.out HL3.out.1 (by decide) 5 (.slice A3 bl c3)
  obtain ⟨W4, hW4⟩ : ∃ Z, Z = w3.setCell ⟨fb, 5, none⟩ (.slice A3 bl c3) := ⟨_, rfl⟩
  rw [← hW4] at hl4 hb4 ho4 hh4
  have HL4 := Lib.hid hl4
  have HB4 := Lib.hid hb4
  have HO4 := Lib.hid ho4
  have HH4 := Lib.hid hh4
  try rw [← hW4]
  clear hl4 hb4 ho4 hh4 hW4 s3 hmx hmb hfw hfw2
  obtain ⟨M, hM⟩ : ∃ M, M = max bl (8 * o + np) := ⟨_, rfl⟩
  have HM := Lib.hid hM
  have hM1 : M ≤ 65535 := by omega
  clear hM
-- TAIL
  go_loopg [] (M - bl) (fun gk wr => ∃ (m : Nat) (A : Option Addr) (c : Nat) (A2 : Option Addr) (c2 : Nat), m + gk = M ∧ bl ≤ m ∧ LnC fb (fb + 1) (fb + 1 + 1) (X (.slice A m c) (.slice A2 m c2)) H wr ∧ wr.ownsRow fb 5 1 (.slice A m c) m (bytesV (byM g.f m)) ∧ wr.ownsRow fb 4 1 (.slice A2 m c2) m (boolV (hasM g.f m)) ∧ Below fb w wr)
  case atStart => exact ⟨bl, A1, c1, A3, c3, by have := HM.out; omega, Nat.le_refl _, HL4.out, by have := HO4.out; rw [bL_byM, ← HBL.out] at this; exact this, by have := HH4.out; rw [hL_hasM, ← HBL.out] at this; exact this, HB4.out⟩
  case round =>
    obtain ⟨m, A, c, A2, c2, hmg, hbm, hL, hO, hH2, hB⟩ := hrel
    obtain ⟨F, hF⟩ : ∃ F, F = byM g.f m := ⟨_, rfl⟩
    obtain ⟨G, hG⟩ : ∃ G, G = hasM g.f m := ⟨_, rfl⟩
    have HF1 := Lib.hid (show bytesV (byM g.f (m + 1)) = bytesV F ++ [(Value.int .u8 0)] by rw [byM_snoc HOK.out (by rw [← HBL.out]; exact hbm), bytesV_snoc0, hF])
    have HG1 := Lib.hid (show boolV (hasM g.f (m + 1)) = boolV G ++ [(Value.bool false)] by rw [hasM_snoc HOK.out (by rw [← HBL.out]; exact hbm), boolV_snoc0, hG])
    have HHF := Lib.hid (And.intro hF hG)
    rw [← hF] at hO
    rw [← hG] at hH2
    have HL := Lib.hid hL
    have HO := Lib.hid hO
    have HH2 := Lib.hid hH2
    have HB := Lib.hid hB
    have HMG := Lib.hid hmg
    have l4 := ld8s (w := wr) (g := fb) (i := 4) (A := A) (n := m) (c := c) (hL.1.cell 4 |>.trans (HX4.out _ _))
    clear hF hG hL hO hH2 hB hmg
    by_cases hlt : m < 8 * o + np
    · have d1 : (m : Int) < 8 * (o : Int) + (np : Int) := by omega
      have hX4 := HX4.out
      have hX5 := HX5.out
      have hX4s := HX4S.out
      have hX5s := HX5S.out
      have hNB : fb ≠ fb + 1 ∧ fb ≠ fb + 1 + 1 := ⟨by omega, by omega⟩
      have hFB : fb ≤ fb := Nat.le_refl _
      have hBQ : fb ≤ wr.heap.size := by rw [HFB.out]; exact HB.out.size
      have hMX : m + 1 ≤ maxLen := by unfold maxLen; omega
      have hMB : (m + 1) * 1 ≤ 140737488355328 := by omega
      have HFR := Lib.hid (show ∀ i, LaΨ fb fb (fb + 1) (fb + 1 + 1) m A c A2 c2 F G X H i { wr with drawn := wr.drawn + 1 } from fun i => by
        have hb0 : Below wr.heap.size wr { wr with drawn := wr.drawn + 1 } := ⟨rfl, rfl, rfl, Nat.le_refl _, fun _ _ => rfl⟩
        unfold LaΨ
        split
        · exact HL.out.below hb0
        · exact HL.out.below hb0
        · exact HL.out.below hb0
        · exact own_below HO.out hb0
        · exact own_below HH2.out hb0
        · trivial)
      go_upto_region 5 with (fail)
      clear l4
      have hfr := HFR.out
      refine wp_region_psi (by kernel_rfl) (fun p q => Below fb p q) (LaΦ fb fb (fb + 1) (fb + 1 + 1) wr.heap.size m A c A2 c2 F G X H) 12 (fun _ _ => True) laDead (LaΨ fb fb (fb + 1) (fb + 1 + 1) m A c A2 c2 F G X H) (by kernel_rfl) (fun p => Below.refl _ p) (fun h k => h.trans k) hfr (oblp_of ?_) (fun o h => by cases h) ?_
      · refine ⟨fun _ => ?_, fun _ => ?_, fun _ => ?_, fun _ => ?_, fun _ => ?_, fun _ => ?_, fun _ => ?_, fun _ => ?_, fun _ => ?_, fun _ => ?_, fun _ => ?_, fun _ => ?_, trivial⟩
        · -- 0
          intro val wx hg hψ hd hb hs K hK
          generalize hρ : rhoV _ _ val = ρ
          have cc : ∀ u, ρ (.const u) = u := fun u => by rw [← hρ]; rfl
          have ff : ∀ u, ρ (.func u) = .func (.func u) #[] #[] := fun u => by rw [← hρ]; rfl
          have r3 : ρ (.tmp 3) = .pointer (some ⟨fb, 0, none⟩) := by rw [← hρ]; rfl
          clear hρ hd hb hs hψ
          refine ifv rfl ?_
          go_simp
          exact hK _ _ (Below.refl _ _) rfl (fun _ _ _ _ h => h) fun _ _ _ h => h
        · -- 1
          intro val wx hg hψ hd hb hs K hK
          generalize hρ : rhoV _ _ val = ρ
          have cc : ∀ u, ρ (.const u) = u := fun u => by rw [← hρ]; rfl
          have ff : ∀ u, ρ (.func u) = .func (.func u) #[] #[] := fun u => by rw [← hρ]; rfl
          have r28 : ρ (.tmp 28) = .pointer (some ⟨fb, 4, none⟩) := by rw [← hρ]; exact hd 0 rfl rfl
          have l1 : (Instr.loadAt 22 (.pointer (some ⟨fb, 4, none⟩))).run Try.prog wx = .ok (.slice A m c) wx := ld8s ((show LnC fb (fb + 1) (fb + 1 + 1) (X (.slice A m c) (.slice A2 m c2)) H wx from hψ).1.cell 4 |>.trans (hX4 _ _))
          clear hρ hd hb hs hψ
          refine ifv rfl ?_
          go_simp
          exact hK _ _ (Below.refl _ _) rfl (fun _ _ _ _ h => h) fun _ _ _ h => h
        · -- 2
          intro val wx hg hψ hd hb hs K hK
          generalize hρ : rhoV _ _ val = ρ
          have cc : ∀ u, ρ (.const u) = u := fun u => by rw [← hρ]; rfl
          have ff : ∀ u, ρ (.func u) = .func (.func u) #[] #[] := fun u => by rw [← hρ]; rfl
          have hbl : Below wx.heap.size wx (wx.alloc (.cells #[.int .u8 0] 5)) := (Below.refl _ _).alloc (Nat.le_refl _) _
          have hqs : wr.heap.size ≤ wx.heap.size := hg.size
          have hqb : fb ≤ wx.heap.size := Nat.le_trans hBQ hqs
          clear hρ hd hb hs hψ
          refine ifv rfl ?_
          go_simp
          exact hK _ _ (hbl.mono hqb) ⟨_, rfl, hqs, Blk.new _ _ _⟩ (fun i _ _ _ h => h.below hbl) fun i _ _ h => h.below hbl
        · -- 3
          intro val wx hg hψ hd hb hs K hK
          generalize hρ : rhoV _ _ val = ρ
          have cc : ∀ u, ρ (.const u) = u := fun u => by rw [← hρ]; rfl
          have ff : ∀ u, ρ (.func u) = .func (.func u) #[] #[] := fun u => by rw [← hρ]; rfl
          have r29 : ρ (.tmp 29) = .slice A m c := by rw [← hρ]; exact hd 1 rfl rfl
          have r30 : ρ (.tmp 30) = val 2 := by rw [← hρ]; rfl
          have p2 := hd 2 rfl rfl
          obtain ⟨b9, e9, hq9, hb9⟩ := p2
          have hψ1 : wx.ownsRow fb 5 1 (.slice A m c) m (bytesV F) := hψ
          have hrd : Reads wx (fun _ => True) 1 (some ⟨b9, 0, none⟩) 1 [.int .u8 0] := reads_one hb9
          have hqs : wr.heap.size ≤ wx.heap.size := hg.size
          have hqb : fb ≤ wx.heap.size := Nat.le_trans hBQ hqs
          obtain ⟨i0, hi0, hz0, hz1, hz2⟩ := info_parts info_u8
          obtain ⟨v9, w9, hrun, ho9, hg9, _⟩ := run_append_any (P := Try.prog) wx fb 22 22 5 i0 _ 1 1 Try.underlying22 hi0 hz0 hz1 hz2 rfl (by decide) _ m _ hψ1 (fun _ => True) _ 1 1 _ hrd (fun u hu => by rw [List.mem_singleton.1 hu]; rfl) hMX hMB hqb
          have hgr : Below fb wx w9 := (Below.refl _ _).grown hg9 hqb fun g hg => (own_lt hψ1 hg).1
          rw [e9] at r30
          clear hρ hd hb hs hψ
          refine ifv rfl ?_
          unfold execOp
          simp only [resolve, invoke, builtin, Sem.run_bind, Sem.run_pure, Result.andThen_ok, List.map_toArray, List.map_cons, List.map_nil, r29, r30, hrun]
          exact hK _ _ hgr ho9 (fun i hi hdd hbk h => LaΦ.app8 hψ1 hg9 i (by rintro (e | e | e | e); (subst e; exact absurd hdd (by decide)); exact hi e; (subst e; exact Bool.noConfusion ((hbk _ rfl).symm.trans rfl)); (subst e; exact Bool.noConfusion ((hbk _ rfl).symm.trans rfl))) h) fun i hi hbk h => LaΨ.app8 hψ1 hg9 i (by rintro (e | e) <;> first | exact hi e | (subst e; exact Bool.noConfusion (hbk.symm.trans rfl))) h
        · -- 4
          intro val wx hg hψ hd hb hs K hK
          generalize hρ : rhoV _ _ val = ρ
          have cc : ∀ u, ρ (.const u) = u := fun u => by rw [← hρ]; rfl
          have ff : ∀ u, ρ (.func u) = .func (.func u) #[] #[] := fun u => by rw [← hρ]; rfl
          have r3 : ρ (.tmp 3) = .pointer (some ⟨fb, 0, none⟩) := by rw [← hρ]; rfl
          clear hρ hd hb hs hψ
          refine ifv rfl ?_
          go_simp
          exact hK _ _ (Below.refl _ _) rfl (fun _ _ _ _ h => h) fun _ _ _ h => h
        · -- 5
          intro val wx hg hψ hd hb hs K hK
          generalize hρ : rhoV _ _ val = ρ
          have cc : ∀ u, ρ (.const u) = u := fun u => by rw [← hρ]; rfl
          have ff : ∀ u, ρ (.func u) = .func (.func u) #[] #[] := fun u => by rw [← hρ]; rfl
          have r32 : ρ (.tmp 32) = .pointer (some ⟨fb, 5, none⟩) := by rw [← hρ]; exact hd 4 rfl rfl
          have l1 : (Instr.loadAt 119 (.pointer (some ⟨fb, 5, none⟩))).run Try.prog wx = .ok (.slice A2 m c2) wx := ld_bools ((show LnC fb (fb + 1) (fb + 1 + 1) (X (.slice A m c) (.slice A2 m c2)) H wx from hψ).1.cell 5 |>.trans (hX5 _ _))
          clear hρ hd hb hs hψ
          refine ifv rfl ?_
          go_simp
          exact hK _ _ (Below.refl _ _) rfl (fun _ _ _ _ h => h) fun _ _ _ h => h
        · -- 6
          intro val wx hg hψ hd hb hs K hK
          generalize hρ : rhoV _ _ val = ρ
          have cc : ∀ u, ρ (.const u) = u := fun u => by rw [← hρ]; rfl
          have ff : ∀ u, ρ (.func u) = .func (.func u) #[] #[] := fun u => by rw [← hρ]; rfl
          have hbl : Below wx.heap.size wx (wx.alloc (.cells #[.bool false] 4)) := (Below.refl _ _).alloc (Nat.le_refl _) _
          have hqs : wr.heap.size ≤ wx.heap.size := hg.size
          have hqb : fb ≤ wx.heap.size := Nat.le_trans hBQ hqs
          clear hρ hd hb hs hψ
          refine ifv rfl ?_
          go_simp
          exact hK _ _ (hbl.mono hqb) ⟨_, rfl, hqs, Blk.new _ _ _⟩ (fun i _ _ _ h => h.below hbl) fun i _ _ h => h.below hbl
        · -- 7
          intro val wx hg hψ hd hb hs K hK
          generalize hρ : rhoV _ _ val = ρ
          have cc : ∀ u, ρ (.const u) = u := fun u => by rw [← hρ]; rfl
          have ff : ∀ u, ρ (.func u) = .func (.func u) #[] #[] := fun u => by rw [← hρ]; rfl
          have r33 : ρ (.tmp 33) = .slice A2 m c2 := by rw [← hρ]; exact hd 5 rfl rfl
          have r34 : ρ (.tmp 34) = val 6 := by rw [← hρ]; rfl
          have p6 := hd 6 rfl rfl
          obtain ⟨b9, e9, hq9, hb9⟩ := p6
          have hψ1 : wx.ownsRow fb 4 1 (.slice A2 m c2) m (boolV G) := hψ
          have hrd : Reads wx (fun _ => True) 1 (some ⟨b9, 0, none⟩) 1 [.bool false] := reads_one hb9
          have hqs : wr.heap.size ≤ wx.heap.size := hg.size
          have hqb : fb ≤ wx.heap.size := Nat.le_trans hBQ hqs
          obtain ⟨i0, hi0, hz0, hz1, hz2⟩ := info_parts info_bool
          obtain ⟨v9, w9, hrun, ho9, hg9, _⟩ := run_append_any (P := Try.prog) wx fb 119 119 4 i0 _ 1 1 Try.underlying119 hi0 hz0 hz1 hz2 rfl (by decide) _ m _ hψ1 (fun _ => True) _ 1 1 _ hrd (fun u hu => by rw [List.mem_singleton.1 hu]; rfl) hMX hMB hqb
          have hgr : Below fb wx w9 := (Below.refl _ _).grown hg9 hqb fun g hg => (own_lt hψ1 hg).1
          rw [e9] at r34
          clear hρ hd hb hs hψ
          refine ifv rfl ?_
          unfold execOp
          simp only [resolve, invoke, builtin, Sem.run_bind, Sem.run_pure, Result.andThen_ok, List.map_toArray, List.map_cons, List.map_nil, r33, r34, hrun]
          exact hK _ _ hgr ho9 (fun i hi hdd hbk h => LaΦ.app1 hψ1 hg9 i (by rintro (e | e | e | e); (subst e; exact absurd hdd (by decide)); exact hi e; (subst e; exact Bool.noConfusion ((hbk _ rfl).symm.trans rfl)); (subst e; exact Bool.noConfusion ((hbk _ rfl).symm.trans rfl))) h) fun i hi hbk h => LaΨ.app1 hψ1 hg9 i (by rintro (e | e) <;> first | exact hi e | (subst e; exact Bool.noConfusion (hbk.symm.trans rfl))) h
        · -- 8
          intro val wx hg hψ hd hb hs K hK
          generalize hρ : rhoV _ _ val = ρ
          have cc : ∀ u, ρ (.const u) = u := fun u => by rw [← hρ]; rfl
          have ff : ∀ u, ρ (.func u) = .func (.func u) #[] #[] := fun u => by rw [← hρ]; rfl
          have r3 : ρ (.tmp 3) = .pointer (some ⟨fb, 0, none⟩) := by rw [← hρ]; rfl
          clear hρ hd hb hs hψ
          refine ifv rfl ?_
          go_simp
          exact hK _ _ (Below.refl _ _) rfl (fun _ _ _ _ h => h) fun _ _ _ h => h
        · -- 9
          intro val wx hg hψ hd hb hs K hK
          generalize hρ : rhoV _ _ val = ρ
          have cc : ∀ u, ρ (.const u) = u := fun u => by rw [← hρ]; rfl
          have ff : ∀ u, ρ (.func u) = .func (.func u) #[] #[] := fun u => by rw [← hρ]; rfl
          have r36 : ρ (.tmp 36) = .pointer (some ⟨fb, 4, none⟩) := by rw [← hρ]; exact hd 8 rfl rfl
          have r31 : ρ (.tmp 31) = val 3 := by rw [← hρ]; rfl
          have p3 := hd 3 rfl rfl
          have hψ1 : LnC fb (fb + 1) (fb + 1 + 1) (X (.slice A m c) (.slice A2 m c2)) H wx := hψ
          obtain ⟨A9, c9, e9, _⟩ := own_form p3
          have st9 := st_8s (hψ1.1.cell 4 |>.trans (hX4 _ _)) (hψ1.1.frozen 4) A9 (m + 1) c9
          have hne := own_blk_ne p3 hψ1.1 (by decide)
          rw [e9] at r31 p3 hne
          have ho9 := ownsRow_setCell_other (a := ⟨fb, 4, none⟩) p3 hne (.slice A9 (m + 1) c9)
          have hl9 := hψ1.put 4 (.slice A9 (m + 1) c9) hNB.1 hNB.2
          rw [hX4s] at hl9
          have hgr : Below fb wx (wx.setCell ⟨fb, 4, none⟩ (.slice A9 (m + 1) c9)) := (Below.refl _ _).setCell (p := ⟨fb, 4, none⟩) hFB _
          clear hρ hd hb hs hψ
          refine ifv rfl ?_
          go_simp
          exact hK _ _ hgr ⟨_, ho9, hl9⟩ (fun i hi hdd hbk h => LaΦ.set hψ1 4 _ i (by rintro (e | e | e | e); (subst e; exact absurd hdd (by decide)); (subst e; exact absurd hdd (by decide)); exact hi e; (subst e; exact Bool.noConfusion ((hbk _ rfl).symm.trans rfl))) h) fun i hi hbk h => LaΨ.bare i (by rintro (e | e | e | e | e) <;> first | exact hi e | (subst e; exact Bool.noConfusion (hbk.symm.trans rfl))) h
        · -- 10
          intro val wx hg hψ hd hb hs K hK
          generalize hρ : rhoV _ _ val = ρ
          have cc : ∀ u, ρ (.const u) = u := fun u => by rw [← hρ]; rfl
          have ff : ∀ u, ρ (.func u) = .func (.func u) #[] #[] := fun u => by rw [← hρ]; rfl
          have r3 : ρ (.tmp 3) = .pointer (some ⟨fb, 0, none⟩) := by rw [← hρ]; rfl
          clear hρ hd hb hs hψ
          refine ifv rfl ?_
          go_simp
          exact hK _ _ (Below.refl _ _) rfl (fun _ _ _ _ h => h) fun _ _ _ h => h
        · -- 11
          intro val wx hg hψ hd hb hs K hK
          generalize hρ : rhoV _ _ val = ρ
          have cc : ∀ u, ρ (.const u) = u := fun u => by rw [← hρ]; rfl
          have ff : ∀ u, ρ (.func u) = .func (.func u) #[] #[] := fun u => by rw [← hρ]; rfl
          have r37 : ρ (.tmp 37) = .pointer (some ⟨fb, 5, none⟩) := by rw [← hρ]; exact hd 10 rfl rfl
          have r35 : ρ (.tmp 35) = val 7 := by rw [← hρ]; rfl
          have p7 := hd 7 rfl rfl
          obtain ⟨v8, ho8, hψ1⟩ : ∃ v, wx.ownsRow fb 5 1 v (m + 1) (bytesV F ++ [(Value.int .u8 0)]) ∧ LnC fb (fb + 1) (fb + 1 + 1) (X v (.slice A2 m c2)) H wx := hd 9 rfl rfl
          obtain ⟨A9, c9, e9, _⟩ := own_form p7
          have st9 := st_bs (hψ1.1.cell 5 |>.trans (hX5 _ _)) (hψ1.1.frozen 5) A9 (m + 1) c9
          have hne := own_blk_ne p7 hψ1.1 (by decide)
          rw [e9] at r35 p7 hne
          have ho9 := ownsRow_setCell_other (a := ⟨fb, 5, none⟩) p7 hne (.slice A9 (m + 1) c9)
          have hne8 := own_blk_ne ho8 hψ1.1 (by decide)
          have ho7 := ownsRow_setCell_other (a := ⟨fb, 5, none⟩) ho8 hne8 (.slice A9 (m + 1) c9)
          have hl9 := hψ1.put 5 (.slice A9 (m + 1) c9) hNB.1 hNB.2
          rw [hX5s] at hl9
          have hgr : Below fb wx (wx.setCell ⟨fb, 5, none⟩ (.slice A9 (m + 1) c9)) := (Below.refl _ _).setCell (p := ⟨fb, 5, none⟩) hFB _
          clear hρ hd hb hs hψ
          refine ifv rfl ?_
          go_simp
          exact hK _ _ hgr ⟨_, _, ho7, ho9, hl9⟩ (fun i hi hdd hbk h => LaΦ.set hψ1 5 _ i (by rintro (e | e | e | e); (subst e; exact absurd hdd (by decide)); (subst e; exact absurd hdd (by decide)); (subst e; exact absurd hdd (by decide)); exact hi e) h) fun i hi hbk h => LaΨ.bare i (by rintro (e | e | e | e | e) <;> (subst e; exact Bool.noConfusion (hbk.symm.trans rfl))) h
      · intro val w9 h9
        rw [if_neg (by decide)] at h9
        obtain ⟨v8, v9, ho8, ho9, hl9⟩ : ∃ v v2, w9.ownsRow fb 5 1 v (m + 1) (bytesV F ++ [(Value.int .u8 0)]) ∧ w9.ownsRow fb 4 1 v2 (m + 1) (boolV G ++ [(Value.bool false)]) ∧ LnC fb (fb + 1) (fb + 1 + 1) (X v v2) H w9 := h9.2 11 (by decide) fun i _ => by simp [laDead]
        have hb9 : Below fb w w9 := (HB.out.trans (⟨rfl, rfl, rfl, Nat.le_refl _, fun _ _ => rfl⟩ : Below fb wr { wr with drawn := wr.drawn + 1 })).trans h9.1
        obtain ⟨A8, c8, rfl, _⟩ := own_form ho8
        obtain ⟨A9, c9, rfl, _⟩ := own_form ho9
        have HR := Lib.hid (show (∃ (m2 : Nat) (A : Option Addr) (c : Nat) (A2 : Option Addr) (c2 : Nat), m2 + (gk - 1) = M ∧ bl ≤ m2 ∧ LnC fb (fb + 1) (fb + 1 + 1) (X (.slice A m2 c) (.slice A2 m2 c2)) H w9 ∧ w9.ownsRow fb 5 1 (.slice A m2 c) m2 (bytesV (byM g.f m2)) ∧ w9.ownsRow fb 4 1 (.slice A2 m2 c2) m2 (boolV (hasM g.f m2)) ∧ Below fb w w9) ∧ gk - 1 < gk from ⟨⟨m + 1, A8, c8, A9, c9, by have := HMG.out; have := HM.out; omega, by omega, hl9, by rw [HF1.out]; exact ho8, by rw [HG1.out]; exact ho9, hb9⟩, by have := HMG.out; have := HM.out; omega⟩)
        clear h9 hfr ho8 ho9 hl9 hb9
        simp only [putAll]
        simp only [Act.put, List.setIfInBounds_toArray, List.set_cons_succ, List.set_cons_zero, Nat.zero_add, Nat.reduceAdd]
        generalize val 0 = x0, val 1 = x1, val 2 = x2, val 3 = x3, val 4 = x4, val 5 = x5, val 6 = x6, val 7 = x7, val 8 = x8, val 10 = x10
        go_wp2_with fail
        go_roundg (gk - 1)
        case rel => exact HR.out.1
        case measure => exact HR.out.2
    · have hmM : m = M := by have := HMG.out; have := HM.out; omega
      subst hmM
      have hL := HL.out
      obtain ⟨ad, hAp, _, _, hpc⟩ := (HPR.out wr HB.out).2 hpos
      subst hAp
      obtain ⟨g1, c, e1, _⟩ := own_form1 HO.out (by omega)
      injection e1 with e1 _ e2
      subst e1
      subst e2
      obtain ⟨g2, c2, e1, _⟩ := own_form1 HH2.out (by omega)
      injection e1 with e1 _ e2
      subst e1
      subst e2
      obtain ⟨hF, hG⟩ := HHF.out
      have HO6 := Lib.hid (show wr.ownsRow fb 5 1 (.slice (some ⟨g1, 0, none⟩) m c) m (bytesV (byJ g.f (8 * o) p 0 m)) by rw [byJ_zero, ← hF]; exact HO.out)
      have HH6 := Lib.hid (show wr.ownsRow fb 4 1 (.slice (some ⟨g2, 0, none⟩) m c2) m (boolV (hasJ g.f (8 * o) 0 m)) by rw [hasJ_zero, ← hG]; exact HH2.out)
      have d0 : ¬ ((m : Int) < 8 * (o : Int) + (np : Int)) := by omega
      clear hF hG hpc hL
      go_wp2_with fail
      clear l4 d0
-- LOOP2
      go_loopw [8] (fun s8 wt => ∃ j : Nat, s8 = .int .i64 (j : Int) ∧ j ≤ np ∧ LnC fb (fb + 1) (fb + 1 + 1) (X (.slice (some ⟨g1, 0, none⟩) m c) (.slice (some ⟨g2, 0, none⟩) m c2)) H wt ∧ wt.ownsRow fb 5 1 (.slice (some ⟨g1, 0, none⟩) m c) m (bytesV (byJ g.f (8 * o) p j m)) ∧ wt.ownsRow fb 4 1 (.slice (some ⟨g2, 0, none⟩) m c2) m (boolV (hasJ g.f (8 * o) j m)) ∧ Below fb w wt) (fun s8 _ => np - (intOf s8).toNat)
      case atStart => exact ⟨0, rfl, Nat.zero_le _, HL.out, HO6.out, HH6.out, HB.out⟩
      case round =>
        obtain ⟨wt, rfl⟩ : ∃ z, z = wr := ⟨_, rfl⟩
        obtain ⟨j, rfl, hj, hLt, hOt, hHt, hBt⟩ := hrel
        have HLT := Lib.hid hLt
        have HOT := Lib.hid hOt
        have HHT := Lib.hid hHt
        have HBT := Lib.hid hBt
        by_cases hlt : j < np
        · have hjm : 8 * o + j < m := by have := HM.out; omega
          obtain ⟨b, hb⟩ : ∃ b, p[j]? = some b := ⟨_, List.getElem?_eq_getElem (by rw [← HNP.out]; exact hlt)⟩
          have cH : wt.cell? ⟨g2, 8 * o + j, none⟩ = some (.bool (hasF g.f (8 * o + j))) := (hHt.cellAt (8 * o + j) (by omega)).trans (boolV_get (hasJ_get _ _ _ _ hjm))
          have l5 := ld_bools (w := wt) (b := fb) (o := 5) (A := some ⟨g2, 0, none⟩) (n := m) (c := c2) (hLt.1.cell 5 |>.trans (HX5.out _ _))
          have lh := ld_bl cH
          have i0' : (0 : Int) ≤ 8 * (o : Int) + (j : Int) := by omega
          have i1' : 8 * (o : Int) + (j : Int) < (m : Int) := by omega
          have hin : (8 * (o : Int) + (j : Int)).toNat = 8 * o + j := by omega
          have d1 : (j : Int) < (np : Int) := by omega
          clear cH hLt hOt hHt hBt
          cases hh : hasF g.f (8 * o + j) with
          | true =>
            rw [hh] at lh
            obtain ⟨e1, e2⟩ := byJ_had (p := p) (m := m) hh
            have HE := Lib.hid (And.intro e1 e2)
            clear hh e1 e2
            go_wp2_with fail
            go_roundw
            case measure => simp [intOf]; omega
            case rel => exact ⟨j + 1, by go_num, by omega, HLT.out, by rw [HE.out.1]; exact HOT.out, by rw [HE.out.2]; exact HHT.out, HBT.out⟩
          | false =>
            rw [hh] at lh
            obtain ⟨e1, e2⟩ := byJ_new (p := p) (m := m) hh hb hjm
            have HE := Lib.hid (And.intro e1 e2)
            have HHH := Lib.hid hh
            have HBB := Lib.hid hb
            clear hh e1 e2 hb
            go_upto_region 10 with (fail)
            clear l5 lh
            have j0 : (0 : Int) ≤ (j : Int) := by omega
            have hpl := HCP.out
            have hne := own_blk_ne HOT.out HLT.out.1 (by decide)
            refine wp_region_mix [(true, 15), (false, 3)] 1 (by kernel_rfl) (fun wx => LnC fb (fb + 1) (fb + 1 + 1) (X (.slice (some ⟨g1, 0, none⟩) m c) (.slice (some ⟨g2, 0, none⟩) m c2)) H wx ∧ Below fb w wx) (fun _ _ h k => ⟨h.1.below k, h.2.trans (k.mono (by rw [HFB.out]; exact h.2.size))⟩) (by kernel_rfl) ⟨HLT.out, HBT.out⟩ (a' := ?_) (fun wz hz => ?_) fun wz hz => ?_
            rotate_left
            · have hb2 := fun (dd : Nat) (os : Array Obj) => hz.2.trans ((below_regrown wz dd os).mono (by rw [HFB.out]; exact hz.2.size))
              have q4 := fun (dd : Nat) (os : Array Obj) => ld8s (w := grow (redrawn wz dd) os) (g := fb) (i := 4) (A := some ⟨g1, 0, none⟩) (n := m) (c := c) ((hz.1.below (below_regrown wz dd os)).1.cell 4 |>.trans (HX4.out _ _))
              have q5 := fun (dd : Nat) (os : Array Obj) => ld_bools (w := grow (redrawn wz dd) os) (b := fb) (o := 5) (A := some ⟨g2, 0, none⟩) (n := m) (c := c2) ((hz.1.below (below_regrown wz dd os)).1.cell 5 |>.trans (HX5.out _ _))
              have qp := fun (dd : Nat) (os : Array Obj) => ld_u8x (w := grow (redrawn wz dd) os) (z := (b.toNat : Int)) (by
                obtain ⟨ad2, e2, _, _, hpc⟩ := (HPR.out _ (hb2 dd os)).2 hpos
                injection e2 with e2
                subst e2
                exact hpc j _ (by simp [bytesV, HBB.out]))
              clear hz hb2
              simp only [pick_nil, pick_tt, pick_ft, List.take_succ_cons, List.take_zero, List.drop_succ_cons, List.drop_zero, List.append_nil]
              repeat (go_big_quiet_step (fail))
              refine wpQuiet_nil ?_
              rfl
            simp only [pick_nil, pick_ff, pick_tf, List.take_succ_cons, List.take_zero, List.drop_succ_cons, List.drop_zero, List.append_nil]
            have hlz := HLT.out.below hz
            have hbz : Below fb w wz := HBT.out.trans (hz.mono (by rw [HFB.out]; exact HBT.out.size))
            have hoz := own_below HOT.out hz
            have hhz := own_below HHT.out hz
            have HLZ := Lib.hid hlz
            have HBZ := Lib.hid hbz
            have HOZ := Lib.hid hoz
            have HHZ := Lib.hid hhz
            clear hz hlz hbz hoz hhz
            refine wpMix_step ⟨HLZ.out, HBZ.out⟩ fun wa ha => ?_
            have hla := HLZ.out.below ha
            have hba : Below fb w wa := HBZ.out.trans (ha.mono (by rw [HFB.out]; exact HBZ.out.size))
            have hoa := own_below HOZ.out ha
            have hha := own_below HHZ.out ha
            have s1 := st8 (w := wa) (g := g1) (i := 8 * o + j) (hoa.cellAt (8 * o + j) (by omega) |>.trans (List.getElem?_eq_getElem (by rw [hoa.1]; omega))) (hoa.frozenAt _) (b.toNat : Int)
            obtain ⟨w2, hw2⟩ : ∃ z, z = wa.setCell ⟨g1, 8 * o + j, none⟩ (.int .u8 (b.toNat : Int)) := ⟨_, rfl⟩
            have ho2 := (hoa.stored (8 * o + j) (.int .u8 (b.toNat : Int))).1
            have hg2 := (hoa.stored (8 * o + j) (.int .u8 (b.toNat : Int))).2
            rw [← hw2] at s1 ho2 hg2
            have hb2 : Below fb w w2 := hba.grown hg2 (by rw [HFB.out]; exact hba.size) fun k hk => (own_lt hoa hk).1
            have hl2 : LnC fb (fb + 1) (fb + 1 + 1) (X (.slice (some ⟨g1, 0, none⟩) m c) (.slice (some ⟨g2, 0, none⟩) m c2)) H w2 := hla.grown hoa hg2 (by decide) (by decide)
            have hh2 := own_other hha hoa hg2 (by decide)
            have HL2 := Lib.hid hl2
            have HB2 := Lib.hid hb2
            have HO2 := Lib.hid ho2
            have HH2 := Lib.hid hh2
            clear ha hla hba hoa hha ho2 hg2 hl2 hb2 hh2 hw2
            go_wp2_with fail
            refine wpMix_step ⟨HL2.out, HB2.out⟩ fun wb hb => ?_
            have hlb := HL2.out.below hb
            have hbb : Below fb w wb := HB2.out.trans (hb.mono (by rw [HFB.out]; exact HB2.out.size))
            have hob := own_below HO2.out hb
            have hhb := own_below HH2.out hb
            have s2 := st_boolv (w := wb) (g := g2) (i := 8 * o + j) (hhb.cellAt (8 * o + j) (by omega) |>.trans (List.getElem?_eq_getElem (by rw [hhb.1]; omega))) (hhb.frozenAt _) true
            obtain ⟨w3, hw3⟩ : ∃ z, z = wb.setCell ⟨g2, 8 * o + j, none⟩ (.bool true) := ⟨_, rfl⟩
            have hh3 := (hhb.stored (8 * o + j) (.bool true)).1
            have hg3 := (hhb.stored (8 * o + j) (.bool true)).2
            rw [← hw3] at s2 hh3 hg3
            have hb3 : Below fb w w3 := hbb.grown hg3 (by rw [HFB.out]; exact hbb.size) fun k hk => (own_lt hhb hk).1
            have hl3 : LnC fb (fb + 1) (fb + 1 + 1) (X (.slice (some ⟨g1, 0, none⟩) m c) (.slice (some ⟨g2, 0, none⟩) m c2)) H w3 := hlb.grown hhb hg3 (by decide) (by decide)
            have ho3 := own_other hob hhb hg3 (by decide)
            have HL3 := Lib.hid hl3
            have HB3 := Lib.hid hb3
            have HO3 := Lib.hid ho3
            have HH3 := Lib.hid hh3
            clear hb hlb hbb hob hhb ho3 hg3 hl3 hb3 hh3 hw3 s1
            go_wp2_with fail
            refine wpMix_plain ?_
            go_wp2_with fail
            go_roundw
            case measure => simp [intOf]; omega
            case rel => exact ⟨j + 1, by go_num, by omega, HL3.out, by rw [HE.out.1, bytesV_set]; exact HO3.out, by rw [HE.out.2, ← boolV_set]; exact HH3.out, HB3.out⟩
        · obtain rfl : j = np := by omega
          have d1 : ¬ ((j : Int) < (j : Int)) := by omega
-- END
          obtain ⟨A8, hA8⟩ : ∃ a, a = (Value.slice (some ⟨g1, 0, none⟩) m c) := ⟨_, rfl⟩
          obtain ⟨A9, hA9⟩ : ∃ a, a = (Value.slice (some ⟨g2, 0, none⟩) m c2) := ⟨_, rfl⟩
          rw [← hA8, ← hA9] at hLt
          rw [← hA8] at hOt
          rw [← hA9] at hHt
          have hbe := byJ_end g.f h p
          rw [HHN.out, ← HBL.out, ← HNP.out, ← HM.out] at hbe
          have HFIN := Lib.hid (show ∀ (wx : World) (vo9 : Value), Blk wx (fb + 1 + 1) 126 (rgX g.f.key A8 A9 (layF g.f h p).en (layF g.f h p).hd vo9 (layF g.f h p).first) → wx.ownsRow fb 5 1 A8 m (bytesV (byJ g.f (8 * o) p j m)) → wx.ownsRow fb 4 1 A9 m (boolV (hasJ g.f (8 * o) j m)) → Sl8 wx (fun k => k < lo) vo9 (layF g.f h p).hd.opts → Below fb w wx → LaidPost w lo g h p (.returned (.agg (rgX g.f.key A8 A9 (layF g.f h p).en (layF g.f h p).hd vo9 (layF g.f h p).first))) wx from fun wx vo9 hk ho hh hv hb => by
            refine ⟨⟨layF g.f h p, A8, A9, vo9⟩, rfl, rfl, ⟨?_, ?_, hv, (lay_ok HOK.out HP.out).1, HKEY.out⟩, fun k hk => ?_, by rw [← HFB.out]; exact hb⟩
            · show wx.ownsRow 0 5 1 A8 (bL (layF g.f h p)).length (bytesV (bL (layF g.f h p)))
              rw [hbe.1, byJ_len]
              exact own_base ho (Nat.zero_le _)
            · show wx.ownsRow 0 4 1 A9 (layF g.f h p).bl (boolV (hL (layF g.f h p)))
              rw [hbe.2, lay_bl, HHN.out, ← HBL.out, ← HNP.out, ← HM.out]
              exact own_base hh (Nat.zero_le _)
            · rw [← HFB.out]
              rcases hk with hk | hk
              · exact (own_lt ho hk).1
              · exact (own_lt hh hk).1)
          have HLE := Lib.hid (show (layF g.f h p).en = if h.mf = false ∧ en < 0 then ((8 * o + j : Nat) : Int) else en by rw [HEN.out, HNP.out, ← HHN.out]; rfl)
          have HLH := Lib.hid (show (layF g.f h p).hd = if o = 0 ∧ fi = false then h else g.f.hd by rw [HFI.out]; show (if h.off = 0 ∧ g.f.first = false then h else g.f.hd) = _; rw [HHO.out]; simp)
          have HLF := Lib.hid (show (layF g.f h p).first = (fi || decide (o = 0)) by rw [HFI.out]; show (g.f.first || decide (h.off = 0)) = _; rw [HHO.out]; simp)
          have HGV := Lib.hid (show ∀ wx, Below fb w wx → Sl8 wx (fun k => k < lo) g.vo g.f.hd.opts from fun wx hb => (HG.out wx hb).o)
          have hX : X A8 A9 = rgX g.f.key A8 A9 en g.f.hd g.vo fi := by rw [HX.out, HEN.out, HFI.out]
          rw [hX] at hLt
          have HLT := Lib.hid hLt
          have HOT := Lib.hid hOt
          have HHT := Lib.hid hHt
          have lo5 := ld_int (w := wt) (a := ⟨fb + 1, 5, none⟩) (z := (o : Int)) (by rw [hLt.2.1.cell]; exact HC5.out)
          have lf := ld_bl (w := wt) (p := ⟨fb, 18, none⟩) (z := fi) (by rw [hLt.1.cell]; rfl)
          clear hA8 hA9 hbe hX hLt hOt hHt
          by_cases ho0 : o = 0
          · have d0 : ((o : Int) == 0) = true := by rw [beq_iff_eq]; omega
            cases hfv : fi with
            | false =>
              rw [hfv] at lf HLT HLF HLH
              have hs5 := put_hd HLT.out (h' := h) (vo' := .slice Ao h.opts.length co) (by omega) (by omega) ⟨_, _, _, rfl⟩
              obtain ⟨w5, hw5⟩ : ∃ z, z = wt.setCells fb 7 H.toList := ⟨_, rfl⟩
              rw [← HH.out, ← hw5] at hs5
              obtain ⟨s5, hl5, hu5⟩ := hs5
              have lw := hd_load HLT.out.2.1 (by rw [HH.out]; rfl)
              have s6 := st_boolv (w := w5) (g := fb) (i := 18) (hl5.1.cell 18) (hl5.1.frozen 18) true
              obtain ⟨w6, hw6⟩ : ∃ z, z = w5.setCell ⟨fb, 18, none⟩ (.bool true) := ⟨_, rfl⟩
              have hl6 := hl5.put 18 (.bool true) (by omega) (by omega)
              have ho6 := own_set (own_upd HOT.out hu5 HLT.out.1 (by decide)) hl5.1 (by decide) 18 (.bool true)
              have hh6 := own_set (own_upd HHT.out hu5 HLT.out.1 (by decide)) hl5.1 (by decide) 18 (.bool true)
              have hb6 : Below fb w (w5.setCell ⟨fb, 18, none⟩ (.bool true)) := (HBT.out.trans (hu5.below (fun k (e : k = fb) => by omega) (by rw [HFB.out]; exact HBT.out.size))).setCell (p := ⟨fb, 18, none⟩) (Nat.le_refl _) _
              rw [← hw6] at s6 hl6 ho6 hh6 hb6
              rw [show (rgX g.f.key A8 A9 en h (.slice Ao h.opts.length co) false).setIfInBounds 18 (.bool true) = rgX g.f.key A8 A9 en h (.slice Ao h.opts.length co) true from rfl] at hl6
              have HV6 := Lib.hid (HOR.out w6 hb6)
              have HLH2 := Lib.hid (show (layF g.f h p).hd = h by rw [HLH.out, if_pos ⟨ho0, rfl⟩])
              have HLF2 := Lib.hid (show (layF g.f h p).first = true by rw [HLF.out]; rw [decide_eq_true ho0]; rfl)
              have lm := ld_bl (w := w6) (p := ⟨fb + 1, 4, none⟩) (z := h.mf) (by rw [hl6.2.1.cell]; exact HC4.out)
              have le := ld_int (w := w6) (a := ⟨fb, 6, none⟩) (z := en) (by rw [hl6.1.cell]; rfl)
              have HL6 := Lib.hid hl6
              have HO6 := Lib.hid ho6
              have HH6 := Lib.hid hh6
              have HB6 := Lib.hid hb6
              have HW6 := Lib.hid hw6
              clear hl6 ho6 hh6 hb6 hw6 hl5 hu5 hw5 ho0
              by_cases hmf : h.mf = false
              · rw [hmf] at lm
                by_cases hen9 : en < 0
                · have HEN2 := Lib.hid (show (layF g.f h p).en = 8 * (o : Int) + (j : Int) by rw [HLE.out, if_pos ⟨hmf, hen9⟩]; omega)
                  have s7 := st_int (w := w6) (g := fb) (i := 6) (HL6.out.1.cell 6) (HL6.out.1.frozen 6) (8 * (o : Int) + (j : Int))
                  obtain ⟨w7, hw7⟩ : ∃ z, z = w6.setCell ⟨fb, 6, none⟩ (.int .i64 (8 * (o : Int) + (j : Int))) := ⟨_, rfl⟩
                  have hl7 := HL6.out.put 6 (.int .i64 (8 * (o : Int) + (j : Int))) (by omega) (by omega)
                  have ho7 := own_set HO6.out HL6.out.1 (by decide) 6 (.int .i64 (8 * (o : Int) + (j : Int)))
                  have hh7 := own_set HH6.out HL6.out.1 (by decide) 6 (.int .i64 (8 * (o : Int) + (j : Int)))
                  have hb7 : Below fb w (w6.setCell ⟨fb, 6, none⟩ (.int .i64 (8 * (o : Int) + (j : Int)))) := HB6.out.setCell (p := ⟨fb, 6, none⟩) (Nat.le_refl _) _
                  rw [← hw7] at s7 hl7 ho7 hh7 hb7
                  rw [show (rgX g.f.key A8 A9 en h (.slice Ao h.opts.length co) true).setIfInBounds 6 (.int .i64 (8 * (o : Int) + (j : Int))) = rgX g.f.key A8 A9 (8 * (o : Int) + (j : Int)) h (.slice Ao h.opts.length co) true from rfl] at hl7
                  have HV7 := Lib.hid (HOR.out w7 hb7)
                  have lx := fl_load hl7.1 rfl
                  have sx := fl_store (vs := rgX g.f.key A8 A9 (8 * (o : Int) + (j : Int)) h (.slice Ao h.opts.length co) true) hl7.2.2 rfl rfl (rgX_one (own_one ho7) (own_one hh7) (sl_one HV7.out))
                  have hkx : Blk (w7.setCells (fb + 1 + 1) 0 (rgX g.f.key A8 A9 (8 * (o : Int) + (j : Int)) h (.slice Ao h.opts.length co) true).toList) (fb + 1 + 1) 126 (rgX g.f.key A8 A9 (8 * (o : Int) + (j : Int)) h (.slice Ao h.opts.length co) true) := blk_setCells hl7.2.2 rfl
                  have hux : Upd (only (fb + 1 + 1)) w7 (w7.setCells (fb + 1 + 1) 0 (rgX g.f.key A8 A9 (8 * (o : Int) + (j : Int)) h (.slice Ao h.opts.length co) true).toList) := Upd.setCells _ _ _ (Upd.refl _ _) (.inl rfl)
                  obtain ⟨w8, hw8⟩ : ∃ z, z = w7.setCells (fb + 1 + 1) 0 (rgX g.f.key A8 A9 (8 * (o : Int) + (j : Int)) h (.slice Ao h.opts.length co) true).toList := ⟨_, rfl⟩
                  rw [← hw8] at sx hkx hux
                  have ho8 := own_upd ho7 hux hl7.2.2 (by decide)
                  have hh8 := own_upd hh7 hux hl7.2.2 (by decide)
                  have hb8 : Below fb w w8 := hb7.trans (hux.below (fun k (e : k = fb + 1 + 1) => by omega) (by rw [HFB.out]; exact hb7.size))
                  have hv8 := HOR.out w8 hb8
                  have hfin := HFIN.out w8 (.slice Ao h.opts.length co)
                  rw [HEN2.out, HLH2.out, HLF2.out] at hfin
                  have HPOST := Lib.hid (hfin hkx ho8 hh8 hv8 hb8)
                  have HKX := Lib.hid hkx
                  clear hl7 ho7 hh7 hb7 hkx hux ho8 hh8 hb8 hv8 hfin hw7 hw8 hmf
                  go_wp2_with fail
                  refine bodyPost_ret_by (res_fl rfl _ rfl HKX.out rfl) rfl ?_
                  exact HPOST.out
                · have HEN2 := Lib.hid (show (layF g.f h p).en = en by rw [HLE.out, if_neg (fun x => hen9 x.2)])
                  have lx := fl_load HL6.out.1 rfl
                  have sx := fl_store (vs := rgX g.f.key A8 A9 en h (.slice Ao h.opts.length co) true) HL6.out.2.2 rfl rfl (rgX_one (own_one HO6.out) (own_one HH6.out) (sl_one HV6.out))
                  have hkx : Blk (w6.setCells (fb + 1 + 1) 0 (rgX g.f.key A8 A9 en h (.slice Ao h.opts.length co) true).toList) (fb + 1 + 1) 126 (rgX g.f.key A8 A9 en h (.slice Ao h.opts.length co) true) := blk_setCells HL6.out.2.2 rfl
                  have hux : Upd (only (fb + 1 + 1)) w6 (w6.setCells (fb + 1 + 1) 0 (rgX g.f.key A8 A9 en h (.slice Ao h.opts.length co) true).toList) := Upd.setCells _ _ _ (Upd.refl _ _) (.inl rfl)
                  obtain ⟨w8, hw8⟩ : ∃ z, z = w6.setCells (fb + 1 + 1) 0 (rgX g.f.key A8 A9 en h (.slice Ao h.opts.length co) true).toList := ⟨_, rfl⟩
                  rw [← hw8] at sx hkx hux
                  have ho8 := own_upd HO6.out hux HL6.out.2.2 (by decide)
                  have hh8 := own_upd HH6.out hux HL6.out.2.2 (by decide)
                  have hb8 : Below fb w w8 := HB6.out.trans (hux.below (fun k (e : k = fb + 1 + 1) => by omega) (by rw [HFB.out]; exact HB6.out.size))
                  have hv8 := HOR.out w8 hb8
                  have hfin := HFIN.out w8 (.slice Ao h.opts.length co)
                  rw [HEN2.out, HLH2.out, HLF2.out] at hfin
                  have HPOST := Lib.hid (hfin hkx ho8 hh8 hv8 hb8)
                  have HKX := Lib.hid hkx
                  clear hkx hux ho8 hh8 hb8 hv8 hfin hw8 hmf
                  go_wp2_with fail
                  refine bodyPost_ret_by (res_fl rfl _ rfl HKX.out rfl) rfl ?_
                  exact HPOST.out
              · have hmt : h.mf = true := by simpa using hmf
                rw [hmt] at lm
                have HEN2 := Lib.hid (show (layF g.f h p).en = en by rw [HLE.out, if_neg (fun x => hmf x.1)])
                · skip
                  have lx := fl_load HL6.out.1 rfl
                  have sx := fl_store (vs := rgX g.f.key A8 A9 en h (.slice Ao h.opts.length co) true) HL6.out.2.2 rfl rfl (rgX_one (own_one HO6.out) (own_one HH6.out) (sl_one HV6.out))
                  have hkx : Blk (w6.setCells (fb + 1 + 1) 0 (rgX g.f.key A8 A9 en h (.slice Ao h.opts.length co) true).toList) (fb + 1 + 1) 126 (rgX g.f.key A8 A9 en h (.slice Ao h.opts.length co) true) := blk_setCells HL6.out.2.2 rfl
                  have hux : Upd (only (fb + 1 + 1)) w6 (w6.setCells (fb + 1 + 1) 0 (rgX g.f.key A8 A9 en h (.slice Ao h.opts.length co) true).toList) := Upd.setCells _ _ _ (Upd.refl _ _) (.inl rfl)
                  obtain ⟨w8, hw8⟩ : ∃ z, z = w6.setCells (fb + 1 + 1) 0 (rgX g.f.key A8 A9 en h (.slice Ao h.opts.length co) true).toList := ⟨_, rfl⟩
                  rw [← hw8] at sx hkx hux
                  have ho8 := own_upd HO6.out hux HL6.out.2.2 (by decide)
                  have hh8 := own_upd HH6.out hux HL6.out.2.2 (by decide)
                  have hb8 : Below fb w w8 := HB6.out.trans (hux.below (fun k (e : k = fb + 1 + 1) => by omega) (by rw [HFB.out]; exact HB6.out.size))
                  have hv8 := HOR.out w8 hb8
                  have hfin := HFIN.out w8 (.slice Ao h.opts.length co)
                  rw [HEN2.out, HLH2.out, HLF2.out] at hfin
                  have HPOST := Lib.hid (hfin hkx ho8 hh8 hv8 hb8)
                  have HKX := Lib.hid hkx
                  clear hkx hux ho8 hh8 hb8 hv8 hfin hw8 hmf
                  go_wp2_with fail
                  refine bodyPost_ret_by (res_fl rfl _ rfl HKX.out rfl) rfl ?_
                  exact HPOST.out

            | true =>
              rw [hfv] at lf HLT HLF HLH
              obtain ⟨w6, hw6⟩ : ∃ z, z = wt := ⟨_, rfl⟩
              have hl6 := HLT.out
              have ho6 := HOT.out
              have hh6 := HHT.out
              have hb6 := HBT.out
              rw [← hw6] at hl6 ho6 hh6 hb6
              have HV6 := Lib.hid (HGV.out w6 hb6)
              have HLH2 := Lib.hid (show (layF g.f h p).hd = g.f.hd by rw [HLH.out, if_neg (fun x => by cases x.2)])
              have HLF2 := Lib.hid (show (layF g.f h p).first = true by rw [HLF.out]; rfl)
              have lm := ld_bl (w := w6) (p := ⟨fb + 1, 4, none⟩) (z := h.mf) (by rw [hl6.2.1.cell]; exact HC4.out)
              have le := ld_int (w := w6) (a := ⟨fb, 6, none⟩) (z := en) (by rw [hl6.1.cell]; rfl)
              have HL6 := Lib.hid hl6
              have HO6 := Lib.hid ho6
              have HH6 := Lib.hid hh6
              have HB6 := Lib.hid hb6
              have HW6 := Lib.hid hw6
              rw [hw6] at lm le
              clear hl6 ho6 hh6 hb6 hw6 ho0
              by_cases hmf : h.mf = false
              · rw [hmf] at lm
                by_cases hen9 : en < 0
                · have HEN2 := Lib.hid (show (layF g.f h p).en = 8 * (o : Int) + (j : Int) by rw [HLE.out, if_pos ⟨hmf, hen9⟩]; omega)
                  have s7 := st_int (w := w6) (g := fb) (i := 6) (HL6.out.1.cell 6) (HL6.out.1.frozen 6) (8 * (o : Int) + (j : Int))
                  obtain ⟨w7, hw7⟩ : ∃ z, z = w6.setCell ⟨fb, 6, none⟩ (.int .i64 (8 * (o : Int) + (j : Int))) := ⟨_, rfl⟩
                  have hl7 := HL6.out.put 6 (.int .i64 (8 * (o : Int) + (j : Int))) (by omega) (by omega)
                  have ho7 := own_set HO6.out HL6.out.1 (by decide) 6 (.int .i64 (8 * (o : Int) + (j : Int)))
                  have hh7 := own_set HH6.out HL6.out.1 (by decide) 6 (.int .i64 (8 * (o : Int) + (j : Int)))
                  have hb7 : Below fb w (w6.setCell ⟨fb, 6, none⟩ (.int .i64 (8 * (o : Int) + (j : Int)))) := HB6.out.setCell (p := ⟨fb, 6, none⟩) (Nat.le_refl _) _
                  rw [← hw7] at s7 hl7 ho7 hh7 hb7
                  rw [show (rgX g.f.key A8 A9 en g.f.hd g.vo true).setIfInBounds 6 (.int .i64 (8 * (o : Int) + (j : Int))) = rgX g.f.key A8 A9 (8 * (o : Int) + (j : Int)) g.f.hd g.vo true from rfl] at hl7
                  have HV7 := Lib.hid (HGV.out w7 hb7)
                  have lx := fl_load hl7.1 rfl
                  have sx := fl_store (vs := rgX g.f.key A8 A9 (8 * (o : Int) + (j : Int)) g.f.hd g.vo true) hl7.2.2 rfl rfl (rgX_one (own_one ho7) (own_one hh7) (sl_one HV7.out))
                  have hkx : Blk (w7.setCells (fb + 1 + 1) 0 (rgX g.f.key A8 A9 (8 * (o : Int) + (j : Int)) g.f.hd g.vo true).toList) (fb + 1 + 1) 126 (rgX g.f.key A8 A9 (8 * (o : Int) + (j : Int)) g.f.hd g.vo true) := blk_setCells hl7.2.2 rfl
                  have hux : Upd (only (fb + 1 + 1)) w7 (w7.setCells (fb + 1 + 1) 0 (rgX g.f.key A8 A9 (8 * (o : Int) + (j : Int)) g.f.hd g.vo true).toList) := Upd.setCells _ _ _ (Upd.refl _ _) (.inl rfl)
                  obtain ⟨w8, hw8⟩ : ∃ z, z = w7.setCells (fb + 1 + 1) 0 (rgX g.f.key A8 A9 (8 * (o : Int) + (j : Int)) g.f.hd g.vo true).toList := ⟨_, rfl⟩
                  rw [← hw8] at sx hkx hux
                  have ho8 := own_upd ho7 hux hl7.2.2 (by decide)
                  have hh8 := own_upd hh7 hux hl7.2.2 (by decide)
                  have hb8 : Below fb w w8 := hb7.trans (hux.below (fun k (e : k = fb + 1 + 1) => by omega) (by rw [HFB.out]; exact hb7.size))
                  have hv8 := HGV.out w8 hb8
                  have hfin := HFIN.out w8 g.vo
                  rw [HEN2.out, HLH2.out, HLF2.out] at hfin
                  have HPOST := Lib.hid (hfin hkx ho8 hh8 hv8 hb8)
                  have HKX := Lib.hid hkx
                  clear hl7 ho7 hh7 hb7 hkx hux ho8 hh8 hb8 hv8 hfin hw7 hw8 hmf
                  rw [HW6.out] at s7
                  go_wp2_with fail
                  refine bodyPost_ret_by (res_fl rfl _ rfl HKX.out rfl) rfl ?_
                  exact HPOST.out
                · have HEN2 := Lib.hid (show (layF g.f h p).en = en by rw [HLE.out, if_neg (fun x => hen9 x.2)])
                  have lx := fl_load HL6.out.1 rfl
                  have sx := fl_store (vs := rgX g.f.key A8 A9 en g.f.hd g.vo true) HL6.out.2.2 rfl rfl (rgX_one (own_one HO6.out) (own_one HH6.out) (sl_one HV6.out))
                  have hkx : Blk (w6.setCells (fb + 1 + 1) 0 (rgX g.f.key A8 A9 en g.f.hd g.vo true).toList) (fb + 1 + 1) 126 (rgX g.f.key A8 A9 en g.f.hd g.vo true) := blk_setCells HL6.out.2.2 rfl
                  have hux : Upd (only (fb + 1 + 1)) w6 (w6.setCells (fb + 1 + 1) 0 (rgX g.f.key A8 A9 en g.f.hd g.vo true).toList) := Upd.setCells _ _ _ (Upd.refl _ _) (.inl rfl)
                  obtain ⟨w8, hw8⟩ : ∃ z, z = w6.setCells (fb + 1 + 1) 0 (rgX g.f.key A8 A9 en g.f.hd g.vo true).toList := ⟨_, rfl⟩
                  rw [← hw8] at sx hkx hux
                  have ho8 := own_upd HO6.out hux HL6.out.2.2 (by decide)
                  have hh8 := own_upd HH6.out hux HL6.out.2.2 (by decide)
                  have hb8 : Below fb w w8 := HB6.out.trans (hux.below (fun k (e : k = fb + 1 + 1) => by omega) (by rw [HFB.out]; exact HB6.out.size))
                  have hv8 := HGV.out w8 hb8
                  have hfin := HFIN.out w8 g.vo
                  rw [HEN2.out, HLH2.out, HLF2.out] at hfin
                  have HPOST := Lib.hid (hfin hkx ho8 hh8 hv8 hb8)
                  have HKX := Lib.hid hkx
                  clear hkx hux ho8 hh8 hb8 hv8 hfin hw8 hmf
                  rw [HW6.out] at lx sx
                  go_wp2_with fail
                  refine bodyPost_ret_by (res_fl rfl _ rfl HKX.out rfl) rfl ?_
                  exact HPOST.out
              · have hmt : h.mf = true := by simpa using hmf
                rw [hmt] at lm
                have HEN2 := Lib.hid (show (layF g.f h p).en = en by rw [HLE.out, if_neg (fun x => hmf x.1)])
                · skip
                  have lx := fl_load HL6.out.1 rfl
                  have sx := fl_store (vs := rgX g.f.key A8 A9 en g.f.hd g.vo true) HL6.out.2.2 rfl rfl (rgX_one (own_one HO6.out) (own_one HH6.out) (sl_one HV6.out))
                  have hkx : Blk (w6.setCells (fb + 1 + 1) 0 (rgX g.f.key A8 A9 en g.f.hd g.vo true).toList) (fb + 1 + 1) 126 (rgX g.f.key A8 A9 en g.f.hd g.vo true) := blk_setCells HL6.out.2.2 rfl
                  have hux : Upd (only (fb + 1 + 1)) w6 (w6.setCells (fb + 1 + 1) 0 (rgX g.f.key A8 A9 en g.f.hd g.vo true).toList) := Upd.setCells _ _ _ (Upd.refl _ _) (.inl rfl)
                  obtain ⟨w8, hw8⟩ : ∃ z, z = w6.setCells (fb + 1 + 1) 0 (rgX g.f.key A8 A9 en g.f.hd g.vo true).toList := ⟨_, rfl⟩
                  rw [← hw8] at sx hkx hux
                  have ho8 := own_upd HO6.out hux HL6.out.2.2 (by decide)
                  have hh8 := own_upd HH6.out hux HL6.out.2.2 (by decide)
                  have hb8 : Below fb w w8 := HB6.out.trans (hux.below (fun k (e : k = fb + 1 + 1) => by omega) (by rw [HFB.out]; exact HB6.out.size))
                  have hv8 := HGV.out w8 hb8
                  have hfin := HFIN.out w8 g.vo
                  rw [HEN2.out, HLH2.out, HLF2.out] at hfin
                  have HPOST := Lib.hid (hfin hkx ho8 hh8 hv8 hb8)
                  have HKX := Lib.hid hkx
                  clear hkx hux ho8 hh8 hb8 hv8 hfin hw8 hmf
                  rw [HW6.out] at lx sx
                  go_wp2_with fail
                  refine bodyPost_ret_by (res_fl rfl _ rfl HKX.out rfl) rfl ?_
                  exact HPOST.out

          · have d0 : ((o : Int) == 0) = false := by rw [beq_eq_false_iff_ne]; omega
            · skip
              obtain ⟨w6, hw6⟩ : ∃ z, z = wt := ⟨_, rfl⟩
              have hl6 := HLT.out
              have ho6 := HOT.out
              have hh6 := HHT.out
              have hb6 := HBT.out
              rw [← hw6] at hl6 ho6 hh6 hb6
              have HV6 := Lib.hid (HGV.out w6 hb6)
              have HLH2 := Lib.hid (show (layF g.f h p).hd = g.f.hd by rw [HLH.out, if_neg (fun x => ho0 x.1)])
              have HLF2 := Lib.hid (show (layF g.f h p).first = fi by rw [HLF.out]; rw [decide_eq_false ho0, Bool.or_false])
              have lm := ld_bl (w := w6) (p := ⟨fb + 1, 4, none⟩) (z := h.mf) (by rw [hl6.2.1.cell]; exact HC4.out)
              have le := ld_int (w := w6) (a := ⟨fb, 6, none⟩) (z := en) (by rw [hl6.1.cell]; rfl)
              have HL6 := Lib.hid hl6
              have HO6 := Lib.hid ho6
              have HH6 := Lib.hid hh6
              have HB6 := Lib.hid hb6
              have HW6 := Lib.hid hw6
              rw [hw6] at lm le
              clear hl6 ho6 hh6 hb6 hw6 ho0
              by_cases hmf : h.mf = false
              · rw [hmf] at lm
                by_cases hen9 : en < 0
                · have HEN2 := Lib.hid (show (layF g.f h p).en = 8 * (o : Int) + (j : Int) by rw [HLE.out, if_pos ⟨hmf, hen9⟩]; omega)
                  have s7 := st_int (w := w6) (g := fb) (i := 6) (HL6.out.1.cell 6) (HL6.out.1.frozen 6) (8 * (o : Int) + (j : Int))
                  obtain ⟨w7, hw7⟩ : ∃ z, z = w6.setCell ⟨fb, 6, none⟩ (.int .i64 (8 * (o : Int) + (j : Int))) := ⟨_, rfl⟩
                  have hl7 := HL6.out.put 6 (.int .i64 (8 * (o : Int) + (j : Int))) (by omega) (by omega)
                  have ho7 := own_set HO6.out HL6.out.1 (by decide) 6 (.int .i64 (8 * (o : Int) + (j : Int)))
                  have hh7 := own_set HH6.out HL6.out.1 (by decide) 6 (.int .i64 (8 * (o : Int) + (j : Int)))
                  have hb7 : Below fb w (w6.setCell ⟨fb, 6, none⟩ (.int .i64 (8 * (o : Int) + (j : Int)))) := HB6.out.setCell (p := ⟨fb, 6, none⟩) (Nat.le_refl _) _
                  rw [← hw7] at s7 hl7 ho7 hh7 hb7
                  rw [show (rgX g.f.key A8 A9 en g.f.hd g.vo fi).setIfInBounds 6 (.int .i64 (8 * (o : Int) + (j : Int))) = rgX g.f.key A8 A9 (8 * (o : Int) + (j : Int)) g.f.hd g.vo fi from rfl] at hl7
                  have HV7 := Lib.hid (HGV.out w7 hb7)
                  have lx := fl_load hl7.1 rfl
                  have sx := fl_store (vs := rgX g.f.key A8 A9 (8 * (o : Int) + (j : Int)) g.f.hd g.vo fi) hl7.2.2 rfl rfl (rgX_one (own_one ho7) (own_one hh7) (sl_one HV7.out))
                  have hkx : Blk (w7.setCells (fb + 1 + 1) 0 (rgX g.f.key A8 A9 (8 * (o : Int) + (j : Int)) g.f.hd g.vo fi).toList) (fb + 1 + 1) 126 (rgX g.f.key A8 A9 (8 * (o : Int) + (j : Int)) g.f.hd g.vo fi) := blk_setCells hl7.2.2 rfl
                  have hux : Upd (only (fb + 1 + 1)) w7 (w7.setCells (fb + 1 + 1) 0 (rgX g.f.key A8 A9 (8 * (o : Int) + (j : Int)) g.f.hd g.vo fi).toList) := Upd.setCells _ _ _ (Upd.refl _ _) (.inl rfl)
                  obtain ⟨w8, hw8⟩ : ∃ z, z = w7.setCells (fb + 1 + 1) 0 (rgX g.f.key A8 A9 (8 * (o : Int) + (j : Int)) g.f.hd g.vo fi).toList := ⟨_, rfl⟩
                  rw [← hw8] at sx hkx hux
                  have ho8 := own_upd ho7 hux hl7.2.2 (by decide)
                  have hh8 := own_upd hh7 hux hl7.2.2 (by decide)
                  have hb8 : Below fb w w8 := hb7.trans (hux.below (fun k (e : k = fb + 1 + 1) => by omega) (by rw [HFB.out]; exact hb7.size))
                  have hv8 := HGV.out w8 hb8
                  have hfin := HFIN.out w8 g.vo
                  rw [HEN2.out, HLH2.out, HLF2.out] at hfin
                  have HPOST := Lib.hid (hfin hkx ho8 hh8 hv8 hb8)
                  have HKX := Lib.hid hkx
                  clear hl7 ho7 hh7 hb7 hkx hux ho8 hh8 hb8 hv8 hfin hw7 hw8 hmf
                  rw [HW6.out] at s7
                  go_wp2_with fail
                  refine bodyPost_ret_by (res_fl rfl _ rfl HKX.out rfl) rfl ?_
                  exact HPOST.out
                · have HEN2 := Lib.hid (show (layF g.f h p).en = en by rw [HLE.out, if_neg (fun x => hen9 x.2)])
                  have lx := fl_load HL6.out.1 rfl
                  have sx := fl_store (vs := rgX g.f.key A8 A9 en g.f.hd g.vo fi) HL6.out.2.2 rfl rfl (rgX_one (own_one HO6.out) (own_one HH6.out) (sl_one HV6.out))
                  have hkx : Blk (w6.setCells (fb + 1 + 1) 0 (rgX g.f.key A8 A9 en g.f.hd g.vo fi).toList) (fb + 1 + 1) 126 (rgX g.f.key A8 A9 en g.f.hd g.vo fi) := blk_setCells HL6.out.2.2 rfl
                  have hux : Upd (only (fb + 1 + 1)) w6 (w6.setCells (fb + 1 + 1) 0 (rgX g.f.key A8 A9 en g.f.hd g.vo fi).toList) := Upd.setCells _ _ _ (Upd.refl _ _) (.inl rfl)
                  obtain ⟨w8, hw8⟩ : ∃ z, z = w6.setCells (fb + 1 + 1) 0 (rgX g.f.key A8 A9 en g.f.hd g.vo fi).toList := ⟨_, rfl⟩
                  rw [← hw8] at sx hkx hux
                  have ho8 := own_upd HO6.out hux HL6.out.2.2 (by decide)
                  have hh8 := own_upd HH6.out hux HL6.out.2.2 (by decide)
                  have hb8 : Below fb w w8 := HB6.out.trans (hux.below (fun k (e : k = fb + 1 + 1) => by omega) (by rw [HFB.out]; exact HB6.out.size))
                  have hv8 := HGV.out w8 hb8
                  have hfin := HFIN.out w8 g.vo
                  rw [HEN2.out, HLH2.out, HLF2.out] at hfin
                  have HPOST := Lib.hid (hfin hkx ho8 hh8 hv8 hb8)
                  have HKX := Lib.hid hkx
                  clear hkx hux ho8 hh8 hb8 hv8 hfin hw8 hmf
                  rw [HW6.out] at lx sx
                  go_wp2_with fail
                  refine bodyPost_ret_by (res_fl rfl _ rfl HKX.out rfl) rfl ?_
                  exact HPOST.out
              · have hmt : h.mf = true := by simpa using hmf
                rw [hmt] at lm
                have HEN2 := Lib.hid (show (layF g.f h p).en = en by rw [HLE.out, if_neg (fun x => hmf x.1)])
                · skip
                  have lx := fl_load HL6.out.1 rfl
                  have sx := fl_store (vs := rgX g.f.key A8 A9 en g.f.hd g.vo fi) HL6.out.2.2 rfl rfl (rgX_one (own_one HO6.out) (own_one HH6.out) (sl_one HV6.out))
                  have hkx : Blk (w6.setCells (fb + 1 + 1) 0 (rgX g.f.key A8 A9 en g.f.hd g.vo fi).toList) (fb + 1 + 1) 126 (rgX g.f.key A8 A9 en g.f.hd g.vo fi) := blk_setCells HL6.out.2.2 rfl
                  have hux : Upd (only (fb + 1 + 1)) w6 (w6.setCells (fb + 1 + 1) 0 (rgX g.f.key A8 A9 en g.f.hd g.vo fi).toList) := Upd.setCells _ _ _ (Upd.refl _ _) (.inl rfl)
                  obtain ⟨w8, hw8⟩ : ∃ z, z = w6.setCells (fb + 1 + 1) 0 (rgX g.f.key A8 A9 en g.f.hd g.vo fi).toList := ⟨_, rfl⟩
                  rw [← hw8] at sx hkx hux
                  have ho8 := own_upd HO6.out hux HL6.out.2.2 (by decide)
                  have hh8 := own_upd HH6.out hux HL6.out.2.2 (by decide)
                  have hb8 : Below fb w w8 := HB6.out.trans (hux.below (fun k (e : k = fb + 1 + 1) => by omega) (by rw [HFB.out]; exact HB6.out.size))
                  have hv8 := HGV.out w8 hb8
                  have hfin := HFIN.out w8 g.vo
                  rw [HEN2.out, HLH2.out, HLF2.out] at hfin
                  have HPOST := Lib.hid (hfin hkx ho8 hh8 hv8 hb8)
                  have HKX := Lib.hid hkx
                  clear hkx hux ho8 hh8 hb8 hv8 hfin hw8 hmf
                  rw [HW6.out] at lx sx
                  go_wp2_with fail
                  refine bodyPost_ret_by (res_fl rfl _ rfl HKX.out rfl) rfl ?_
                  exact HPOST.out

end Go.Proofs.Ytihfihehiifdkaa
