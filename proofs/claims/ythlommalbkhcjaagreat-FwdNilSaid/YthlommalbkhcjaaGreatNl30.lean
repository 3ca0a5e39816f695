/- Tries of ways: Insert: the fork's two children are stored. -/
import Derived.Test.YthlommalbkhcjaaGreatNl26
import Derived.Deep.RegionHeld3
import Derived.Outline
namespace Go.Proofs.YthlommalbkhcjaaGreat
open Go.RowKit Go.Sort Go.BigFrame
variable {dc : Int → Array Value}
def InsYes (dc : Int → Array Value) (w : World) (M : Nat → Prop) (tb : Nat) (limit : Int) (T2 : TT) (w' : World) : Prop := ∃ M3, IsTr dc w' M3 tb limit T2 ∧ Upd M w w' ∧ ∀ k, M3 k → M k ∨ w.heap.size ≤ k
structure InS (dc : Int → Array Value) (w wx : World) (M : Nat → Prop) (tb : Nat) (limit nn : Int) (pv0 : Value) (T : TT) (p : Bs) (v : Int) (hb ho : Nat) (pv : Value) (S : TT) (Mo Ms : Nat → Prop) (f : TT → TT) : Prop where
  upd : Upd (only tb) w wx
  tbk : Blk wx tb 184 #[pv0, .int .i64 limit, .int .i64 nn, .bool true]
  box : Blk wx w.heap.size 37 #[.int .u32 (padB p : Int), .int .i64 (p.length : Int)]
  way : Blk wx (w.heap.size + 1) 41 (dc v)
  pat : PAt dc w M tb pv0 T p hb ho pv S Mo Ms f
section
variable {w wx wy : World} {M : Nat → Prop} {tb : Nat} {limit nn : Int} {pv0 : Value} {T : TT} {p : Bs} {v : Int} {hb ho : Nat} {pv : Value} {S : TT} {Mo Ms : Nat → Prop} {f : TT → TT}
theorem InS.below (h : InS dc w wx M tb limit nn pv0 T p v hb ho pv S Mo Ms f) (hb' : Below wx.heap.size wx wy) : InS dc w wy M tb limit nn pv0 T p v hb ho pv S Mo Ms f :=
  ⟨h.upd.trans_ (Upd.ofBelow hb' _), h.tbk.below hb' h.tbk.lt, h.box.below hb' h.box.lt, h.way.below hb' h.way.lt, h.pat⟩
theorem InS.blk (h : InS dc w wx M tb limit nn pv0 T p v hb ho pv S Mo Ms f) {k : Nat} {t : TypeId} {cs : Array Value} (hk : Blk w k t cs) (hn : k ≠ tb) : Blk wx k t cs := hk.upd h.upd hn
theorem InS.hole (h : InS dc w wx M tb limit nn pv0 T p v hb ho pv S Mo Ms f) : wx.cell? ⟨hb, ho, none⟩ = some pv ∧ wx.frozen? ⟨hb, ho, none⟩ = false := by
  by_cases e : hb = tb
  · obtain ⟨e1, e2⟩ := h.pat.root e
    subst e; subst e1; subst e2
    exact ⟨h.tbk.cell 0, h.tbk.frozen 0⟩
  · obtain ⟨_, cs, c1, c2⟩ := h.pat.hole e
    exact ⟨((h.blk c1 e).cell ho).trans c2, (h.blk c1 e).frozen ho⟩
theorem InS.count (h : InS dc w wx M tb limit nn pv0 T p v hb ho pv S Mo Ms f) (hne : tb < w.heap.size) (m : Int) : InS dc w (wx.setCell ⟨tb, 2, none⟩ (.int .i64 m)) M tb limit m pv0 T p v hb ho pv S Mo Ms f := by
  refine ⟨h.upd.setCell (p := ⟨tb, 2, none⟩) (.inl rfl) _, ?_, h.box.far (p := ⟨tb, 2, none⟩) (by show w.heap.size ≠ tb; omega) _, h.way.far (p := ⟨tb, 2, none⟩) (by show w.heap.size + 1 ≠ tb; omega) _, h.pat⟩
  have := h.tbk.set_ 2 (.int .i64 m)
  simpa using this
theorem InS.fin0 (h : InS dc w wx M tb limit nn pv0 T p v hb ho pv S Mo Ms f) (ht : IsTr dc w M tb limit T) (hp : p.length ≤ 32) {w2 : World} {M2 : Nat → Prop} {pv2 : Value}
    (hu : Upd M wx w2) (h1 : ∀ k, Mo k → ∀ cs, Blk wx k 192 cs → Blk w2 k 192 (if k = hb then cs.setIfInBounds ho pv2 else cs)) (h2 : IsT dc w2 M2 pv2 (S.ins p v)) (hM2 : ∀ k, M2 k → Ms k ∨ w.heap.size ≤ k)
    (htb : Blk w2 tb 184 #[if hb = tb then pv2 else pv0, .int .i64 limit, .int .i64 ((T.ins p v).list.length : Int), .bool true]) : InsYes dc w M tb limit (T.ins p v) w2 := by
  have pat := h.pat
  have hsz := h.upd.size
  have hz2 := hu.size
  refine ⟨fun k => (M k ∨ w.heap.size ≤ k) ∧ k < w2.heap.size, ⟨⟨_, htb, ?_⟩, ⟨.inl ht.mb, htb.lt⟩, ?_, fun k hk => hk.2⟩, ?_, fun k hk => hk.1⟩
  · rw [pat.ins v]
    refine (pat.wand w2 M2 pv2 _ (fun k hm cs hc => h1 k hm cs (h.blk hc (pat.mo k hm).2)) h2 (fun k hk hm => ?_)).lt.mono fun k hk => ⟨⟨?_, hk.2⟩, ?_⟩
    · rcases hM2 k hk with hs | hs
      · exact pat.dis k hs hm
      · have := ht.lt k (pat.mo k hm).1; omega
    · rcases hk.1 with hk | hk
      · exact .inl (pat.mo k hk).1
      · rcases hM2 k hk with hs | hs
        · exact .inl (pat.ms k hs).1
        · exact .inr hs
    · rcases hk.1 with hk | hk
      · exact (pat.mo k hk).2
      · rcases hM2 k hk with hs | hs
        · exact (pat.ms k hs).2
        · have := ht.lt tb ht.mb; show k ≠ tb; omega
  · exact TT.ins_wf ht.wf List.nil_prefix hp
  · exact (h.upd.mono (G := M) fun k (e : k = tb) => .inl (e ▸ ht.mb)).trans_ hu
theorem InS.fin (ht : IsTr dc w M tb limit T) (hp : p.length ≤ 32) (h : InS dc w wx M tb limit ((T.ins p v).list.length : Int) pv0 T p v hb ho pv S Mo Ms f) {M2 : Nat → Prop} {pv2 : Value}
    (h2 : IsT dc wx M2 pv2 (S.ins p v)) (hM2 : ∀ k, M2 k → Ms k ∨ w.heap.size ≤ k) : InsYes dc w M tb limit (T.ins p v) (wx.setCell ⟨hb, ho, none⟩ pv2) := by
  have hmh : M hb := by
    by_cases e : hb = tb
    · rw [e]; exact ht.mb
    · exact (h.pat.mo hb (h.pat.hole e).1).1
  refine h.fin0 ht hp (w2 := wx.setCell ⟨hb, ho, none⟩ pv2) (M2 := M2) (pv2 := pv2) ((Upd.refl M wx).setCell (p := ⟨hb, ho, none⟩) (.inl hmh) _) (fun k hm cs hc => ?_) (h2.blk fun k hk cs hc => hc.far (p := ⟨hb, ho, none⟩) (fun e : k = hb => ?_) _) hM2 ?_
  · split
    · rename_i e; subst e; exact hc.set_ ho pv2
    · rename_i e; exact hc.far (p := ⟨hb, ho, none⟩) e _
  · subst e
    by_cases e2 : k = tb
    · subst e2
      rcases hM2 k hk with hs | hs
      · exact (h.pat.ms k hs).2 rfl
      · have := ht.lt k ht.mb; omega
    · rcases hM2 k hk with hs | hs
      · exact h.pat.dis k hs (h.pat.hole e2).1
      · have := ht.lt k (h.pat.mo k (h.pat.hole e2).1).1; omega
  · split
    · rename_i e
      subst e
      rw [(h.pat.root rfl).1]
      have := h.tbk.set_ 0 pv2
      simpa using this
    · rename_i e
      exact h.tbk.far (p := ⟨hb, ho, none⟩) (fun e2 : tb = hb => e e2.symm) _
theorem InS.fin2 (ht : IsTr dc w M tb limit T) (hp : p.length ≤ 32) (h : InS dc w wx M tb limit ((T.ins p v).list.length : Int) pv0 T p v hb ho pv S Mo Ms f) {b : Nat} (hms : Ms b) {w2 : World} (hu : Upd (only b) wx w2) (h2 : IsT dc w2 Ms pv (S.ins p v)) : InsYes dc w M tb limit (T.ins p v) w2 := by
  have hbt := (h.pat.ms b hms).2
  refine h.fin0 ht hp (w2 := w2) (M2 := Ms) (pv2 := pv) (hu.mono fun k (e : k = b) => .inl (e ▸ (h.pat.ms b hms).1)) (fun k hm cs hc => ?_) h2 (fun k hk => .inl hk) ?_
  · have hk : Blk w2 k 192 cs := hc.upd hu fun e : k = b => h.pat.dis b hms (e ▸ hm)
    split
    · rename_i e
      subst e
      obtain ⟨_, cs2, c1, c2⟩ := h.pat.hole (h.pat.mo k hm).2
      have c3 := h.blk c1 (h.pat.mo k hm).2
      unfold Blk at hc c3
      rw [hc] at c3
      injection c3 with c3
      injection c3 with c3
      subst c3
      rw [set_same c2]
      exact hk
    · exact hk
  · have e : (if hb = tb then pv else pv0) = pv0 := by
      split
      · rename_i e; exact (h.pat.root e).2
      · rfl
    rw [e]
    exact h.tbk.upd hu fun e : tb = b => hbt e.symm
end
theorem blk_back {w w2 : World} {k : Nat} {t : TypeId} {cs : Array Value} (hb : Below w.heap.size w w2) (hk : k < w.heap.size) (h : Blk w2 k t cs) : Blk w k t cs := (hb.block k hk).symm.trans h
theorem PAt.back {w w2 : World} {M : Nat → Prop} {tb : Nat} {pv0 : Value} {T : TT} {p : Bs} {hb ho : Nat} {pv : Value} {S : TT} {Mo Ms : Nat → Prop} {f : TT → TT} (h : PAt dc w2 M tb pv0 T p hb ho pv S Mo Ms f) (hbl : Below w.heap.size w w2) (lt : ∀ k, M k → k < w.heap.size) : PAt dc w M tb pv0 T p hb ho pv S Mo Ms f :=
  ⟨fun w3 M3 pv3 S3 h1 h2 h3 => h.wand w3 M3 pv3 S3 (fun k hm cs hc => h1 k hm cs (blk_back hbl (lt k (h.mo k hm).1) hc)) h2 h3,
    fun hn => by obtain ⟨hm, cs, c1, c2⟩ := h.hole hn; exact ⟨hm, cs, blk_back hbl (lt _ (h.mo _ hm).1) c1, c2⟩, h.root,
    h.tree.blk fun k hm cs hc => blk_back hbl (lt k (h.ms k hm).1) hc, h.mo, h.ms, h.dis, h.fS, h.ins, h.get, h.ctx⟩
theorem insS_len {p : Bs} {v : Int} : ∀ {L : List (Bs × Int)}, SortedB L → (insS p v L).length = if (getS p L).isSome then L.length else L.length + 1
  | [], _ => rfl
  | e :: r, hs => by
    have ih := insS_len (p := p) (v := v) (sorted_tail hs)
    unfold insS
    split
    · rename_i h
      have hne : e.1 ≠ p := fun e3 => by rw [e3, ltB_irrefl] at h; cases h
      have : getS p (e :: r) = getS p r := by unfold getS; rw [List.find?_cons_of_neg (by simpa using hne)]
      rw [this, List.length_cons, ih, List.length_cons]
      split <;> rfl
    · rename_i h
      split
      · rename_i he
        have : (getS p (e :: r)).isSome = true := by unfold getS; rw [List.find?_cons_of_pos (by simpa using he)]; rfl
        rw [this]; rfl
      · rename_i hne
        have hlt : ltB p e.1 = true := by
          rcases ltB_tri e.1 p with h3 | h3 | h3
          · exact absurd h3 h
          · exact absurd h3 hne
          · exact h3
        have : getS p (e :: r) = none := getS_none fun f hf e2 => by
          rcases List.mem_cons.1 hf with rfl | hf
          · exact hne e2
          · have := ltB_trans hlt ((List.pairwise_cons.1 hs).1 f hf)
            rw [e2, ltB_irrefl] at this; cases this
        rw [this]; rfl
theorem TT.ins_len {T : TT} (wf : T.wf []) {p : Bs} (hp : p.length ≤ 32) (v : Int) : (T.ins p v).list.length = if (T.get p).isSome then T.list.length else T.list.length + 1 := by
  rw [TT.ins_list wf List.nil_prefix hp, insS_len (TT.sorted wf), TT.get_list wf]
end Go.Proofs.YthlommalbkhcjaaGreat
namespace Go.Proofs.YthlommalbkhcjaaGreat
open Go.RowKit Go.Sort Go.BigFrame
def findRegT (n : Nat) : Code → Option Code
  | .region k o d => if k = n then some (.region k o d) else none
  | .block _ c => findRegT n c
  | .seq a b => match findRegT n a with
    | some c => some c
    | none => findRegT n b
  | .cond _ a b => match findRegT n a with
    | some c => some c
    | none => findRegT n b
  | .loop c => findRegT n c
  | _ => none
noncomputable def insReg (n : Nat) : Code := (Tryz.f50.body.bind (findRegT n)).getD .skip
def ForkPost (w8 : World) (kb : Nat) (cs : Array Value) (wx : World) : Prop := Blk wx kb 192 cs ∧ Upd (only kb) w8 wx
set_option maxRecDepth 100000 in
set_option maxHeartbeats 4000000 in
theorem reg26_f {u0 u1 u2 u3 u5 u6 u7 u12 u13 u14 u15 u16 u17 u18 u19 u20 u21 u22 u23 u24 u25 u26 u27 u28 u29 u30 u31 u32 u33 u34 u35 u36 u37 u38 u39 u40 u41 u42 u43 u44 u45 u46 u47 u48 u49 u50 u51 u52 u53 u54 u55 u56 u57 u58 u59 u60 u61 u62 u63 u64 u65 u66 u67 u68 u69 u70 u71 u72 u73 u74 u75 u76 u77 u78 u79 u80 u81 u82 u83 u84 u85 u86 u87 u88 u89 u90 u91 u92 u93 u94 u95 u96 u97 u98 u99 u100 u101 u102 u103 u104 u105 u106 u107 u108 u109 u110 u111 u112 u113 u114 u115 u116 u117 u118 u119 u120 u121 u122 u123 u124 u125 u126 u127 u128 u129 u130 u131 u132 u133 u134 u135 u136 u137 u138 u139 u140 u141 : Value} {K : Act → World → Prop} {R : Ending → World → Prop} {w8 : World} {pb b fb cb kb a qa ca cn : Nat}
    (x0 : w8.cell? ⟨pb, 0, none⟩ = some (.int .u32 (a : Int))) (y0 : w8.cell? ⟨b, 0, none⟩ = some (.int .u32 (qa : Int))) (c1 : w8.cell? ⟨cb, 1, none⟩ = some (.int .i64 (cn : Int)))
    (hn8 : Blk w8 kb 192 (ndX (ca : Int) (cn : Int) wy0 false (.pointer none) (.pointer none))) (hcn31 : cn ≤ 31) (ha32 : a < 2 ^ 32) (hqa32 : qa < 2 ^ 32)
    (he1 : bitI a cn = 0) (he2 : bitI qa cn = 1) (n1 : pb ≠ kb) (n2 : b ≠ kb) (n3 : cb ≠ kb)
    (hK : ∀ (x116 x117 x118 x119 x120 x121 x122 x123 x124 x125 x126 x127 x128 x129 x130 x131 x132 x133 x134 x135 x136 x137 x138 : Value) (wx : World), ForkPost w8 kb (ndX (ca : Int) (cn : Int) wy0 false (.pointer (some ⟨fb, 0, none⟩)) (.pointer (some ⟨b, 0, none⟩))) wx → K ⟨#[u0, u1, u2, u3, .pointer (some ⟨pb, 0, none⟩), u5, u6, u7, .pointer (some ⟨b, 0, none⟩), .pointer (some ⟨fb, 0, none⟩), .pointer (some ⟨cb, 0, none⟩), .pointer (some ⟨kb, 0, none⟩), u12, u13, u14, u15, u16, u17, u18, u19, u20, u21, u22, u23, u24, u25, u26, u27, u28, u29, u30, u31, u32, u33, u34, u35, u36, u37, u38, u39, u40, u41, u42, u43, u44, u45, u46, u47, u48, u49, u50, u51, u52, u53, u54, u55, u56, u57, u58, u59, u60, u61, u62, u63, u64, u65, u66, u67, u68, u69, u70, u71, u72, u73, u74, u75, u76, u77, u78, u79, u80, u81, u82, u83, u84, u85, u86, u87, u88, u89, u90, u91, u92, u93, u94, u95, u96, u97, u98, u99, u100, u101, u102, u103, u104, u105, u106, u107, u108, u109, u110, u111, u112, u113, u114, u115, x116, x117, x118, x119, x120, x121, x122, x123, x124, x125, x126, x127, x128, x129, x130, x131, x132, x133, x134, x135, x136, x137, x138, u139, u140, u141], []⟩ wx) :
    Code.wp Tryz.prog (insReg 26) (Exit.then K (bodyPost Tryz.prog Tryz.f50 R)) ⟨#[u0, u1, u2, u3, .pointer (some ⟨pb, 0, none⟩), u5, u6, u7, .pointer (some ⟨b, 0, none⟩), .pointer (some ⟨fb, 0, none⟩), .pointer (some ⟨cb, 0, none⟩), .pointer (some ⟨kb, 0, none⟩), u12, u13, u14, u15, u16, u17, u18, u19, u20, u21, u22, u23, u24, u25, u26, u27, u28, u29, u30, u31, u32, u33, u34, u35, u36, u37, u38, u39, u40, u41, u42, u43, u44, u45, u46, u47, u48, u49, u50, u51, u52, u53, u54, u55, u56, u57, u58, u59, u60, u61, u62, u63, u64, u65, u66, u67, u68, u69, u70, u71, u72, u73, u74, u75, u76, u77, u78, u79, u80, u81, u82, u83, u84, u85, u86, u87, u88, u89, u90, u91, u92, u93, u94, u95, u96, u97, u98, u99, u100, u101, u102, u103, u104, u105, u106, u107, u108, u109, u110, u111, u112, u113, u114, u115, u116, u117, u118, u119, u120, u121, u122, u123, u124, u125, u126, u127, u128, u129, u130, u131, u132, u133, u134, u135, u136, u137, u138, u139, u140, u141], []⟩ w8 := by
  have HKK := Lib.hid hK
  have HN8 := Lib.hid hn8
  have k4 : w8.cell? ⟨kb, 260, none⟩ = some (.pointer none) := (hn8.cell 260).trans (ndX_l wy0_size)
  have k5 : w8.cell? ⟨kb, 261, none⟩ = some (.pointer none) := (hn8.cell 261).trans (ndX_r wy0_size)
  have j4 : w8.frozen? ⟨kb, 260, none⟩ = false := hn8.frozen 260
  have j5 : w8.frozen? ⟨kb, 261, none⟩ = false := hn8.frozen 261
  have HB1 := Lib.hid (fun (wx : World) => by have h := tbit_any a cn wx hcn31 ha32; rw [he1] at h; exact h)
  have HB2 := Lib.hid (fun (wx : World) => by have h := tbit_any qa cn wx hcn31 hqa32; rw [he2] at h; exact h)
  have n1' : kb ≠ pb := fun e => n1 e.symm
  have n2' : kb ≠ b := fun e => n2 e.symm
  have n3' : kb ≠ cb := fun e => n3 e.symm
  clear hK hn8 he1 he2
  conv => arg 2; whnf
  go_region_held3 (fun w' => w'.cell? ⟨pb, 0, none⟩ = some (.int .u32 (a : Int)) ∧ w'.cell? ⟨b, 0, none⟩ = some (.int .u32 (qa : Int)) ∧ w'.cell? ⟨cb, 1, none⟩ = some (.int .i64 (cn : Int))) (go_keep)
    (first
      | (go_at_call_of 107 (Value.int .u32 (a : Int)); refine (HB1.out _).mono ?_; rintro e w' ⟨rfl, rfl⟩)
      | (go_at_call_of 107 (Value.int .u32 (qa : Int)); refine (HB2.out _).mono ?_; rintro e w' ⟨rfl, rfl⟩))
  all_goals
    go_wp2_with fail
    refine HKK.out _ _ _ _ _ _ _ _ _ _ _ _ _ _ _ _ _ _ _ _ _ _ _ _ ⟨?_, ?_⟩
    · have h := (HN8.out.set_ 260 (.pointer (some ⟨fb, 0, none⟩))).set_ 261 (.pointer (some ⟨b, 0, none⟩))
      have e : (((ndX (ca : Int) (cn : Int) wy0 false (.pointer none) (.pointer none)) : Array Value).setIfInBounds 260 (.pointer (some ⟨fb, 0, none⟩))).setIfInBounds 261 (.pointer (some ⟨b, 0, none⟩)) = (ndX (ca : Int) (cn : Int) wy0 false (.pointer (some ⟨fb, 0, none⟩)) (.pointer (some ⟨b, 0, none⟩))) := by rw [ndX_setL wy0_size, ndX_setR wy0_size]
      rw [e] at h
      exact h
    · have u := ((Upd.refl (only kb) w8).set_ 260 (.pointer (some ⟨fb, 0, none⟩))).set_ 261 (.pointer (some ⟨b, 0, none⟩))
      exact ⟨u.os, u.tape, u.output, u.size, u.block⟩
set_option maxRecDepth 100000 in
set_option maxHeartbeats 4000000 in
theorem reg26_t {u0 u1 u2 u3 u5 u6 u7 u12 u13 u14 u15 u16 u17 u18 u19 u20 u21 u22 u23 u24 u25 u26 u27 u28 u29 u30 u31 u32 u33 u34 u35 u36 u37 u38 u39 u40 u41 u42 u43 u44 u45 u46 u47 u48 u49 u50 u51 u52 u53 u54 u55 u56 u57 u58 u59 u60 u61 u62 u63 u64 u65 u66 u67 u68 u69 u70 u71 u72 u73 u74 u75 u76 u77 u78 u79 u80 u81 u82 u83 u84 u85 u86 u87 u88 u89 u90 u91 u92 u93 u94 u95 u96 u97 u98 u99 u100 u101 u102 u103 u104 u105 u106 u107 u108 u109 u110 u111 u112 u113 u114 u115 u116 u117 u118 u119 u120 u121 u122 u123 u124 u125 u126 u127 u128 u129 u130 u131 u132 u133 u134 u135 u136 u137 u138 u139 u140 u141 : Value} {K : Act → World → Prop} {R : Ending → World → Prop} {w8 : World} {pb b fb cb kb a qa ca cn : Nat}
    (x0 : w8.cell? ⟨pb, 0, none⟩ = some (.int .u32 (a : Int))) (y0 : w8.cell? ⟨b, 0, none⟩ = some (.int .u32 (qa : Int))) (c1 : w8.cell? ⟨cb, 1, none⟩ = some (.int .i64 (cn : Int)))
    (hn8 : Blk w8 kb 192 (ndX (ca : Int) (cn : Int) wy0 false (.pointer none) (.pointer none))) (hcn31 : cn ≤ 31) (ha32 : a < 2 ^ 32) (hqa32 : qa < 2 ^ 32)
    (he1 : bitI a cn = 1) (he2 : bitI qa cn = 0) (n1 : pb ≠ kb) (n2 : b ≠ kb) (n3 : cb ≠ kb)
    (hK : ∀ (x116 x117 x118 x119 x120 x121 x122 x123 x124 x125 x126 x127 x128 x129 x130 x131 x132 x133 x134 x135 x136 x137 x138 : Value) (wx : World), ForkPost w8 kb (ndX (ca : Int) (cn : Int) wy0 false (.pointer (some ⟨b, 0, none⟩)) (.pointer (some ⟨fb, 0, none⟩))) wx → K ⟨#[u0, u1, u2, u3, .pointer (some ⟨pb, 0, none⟩), u5, u6, u7, .pointer (some ⟨b, 0, none⟩), .pointer (some ⟨fb, 0, none⟩), .pointer (some ⟨cb, 0, none⟩), .pointer (some ⟨kb, 0, none⟩), u12, u13, u14, u15, u16, u17, u18, u19, u20, u21, u22, u23, u24, u25, u26, u27, u28, u29, u30, u31, u32, u33, u34, u35, u36, u37, u38, u39, u40, u41, u42, u43, u44, u45, u46, u47, u48, u49, u50, u51, u52, u53, u54, u55, u56, u57, u58, u59, u60, u61, u62, u63, u64, u65, u66, u67, u68, u69, u70, u71, u72, u73, u74, u75, u76, u77, u78, u79, u80, u81, u82, u83, u84, u85, u86, u87, u88, u89, u90, u91, u92, u93, u94, u95, u96, u97, u98, u99, u100, u101, u102, u103, u104, u105, u106, u107, u108, u109, u110, u111, u112, u113, u114, u115, x116, x117, x118, x119, x120, x121, x122, x123, x124, x125, x126, x127, x128, x129, x130, x131, x132, x133, x134, x135, x136, x137, x138, u139, u140, u141], []⟩ wx) :
    Code.wp Tryz.prog (insReg 26) (Exit.then K (bodyPost Tryz.prog Tryz.f50 R)) ⟨#[u0, u1, u2, u3, .pointer (some ⟨pb, 0, none⟩), u5, u6, u7, .pointer (some ⟨b, 0, none⟩), .pointer (some ⟨fb, 0, none⟩), .pointer (some ⟨cb, 0, none⟩), .pointer (some ⟨kb, 0, none⟩), u12, u13, u14, u15, u16, u17, u18, u19, u20, u21, u22, u23, u24, u25, u26, u27, u28, u29, u30, u31, u32, u33, u34, u35, u36, u37, u38, u39, u40, u41, u42, u43, u44, u45, u46, u47, u48, u49, u50, u51, u52, u53, u54, u55, u56, u57, u58, u59, u60, u61, u62, u63, u64, u65, u66, u67, u68, u69, u70, u71, u72, u73, u74, u75, u76, u77, u78, u79, u80, u81, u82, u83, u84, u85, u86, u87, u88, u89, u90, u91, u92, u93, u94, u95, u96, u97, u98, u99, u100, u101, u102, u103, u104, u105, u106, u107, u108, u109, u110, u111, u112, u113, u114, u115, u116, u117, u118, u119, u120, u121, u122, u123, u124, u125, u126, u127, u128, u129, u130, u131, u132, u133, u134, u135, u136, u137, u138, u139, u140, u141], []⟩ w8 := by
  have HKK := Lib.hid hK
  have HN8 := Lib.hid hn8
  have k4 : w8.cell? ⟨kb, 260, none⟩ = some (.pointer none) := (hn8.cell 260).trans (ndX_l wy0_size)
  have k5 : w8.cell? ⟨kb, 261, none⟩ = some (.pointer none) := (hn8.cell 261).trans (ndX_r wy0_size)
  have j4 : w8.frozen? ⟨kb, 260, none⟩ = false := hn8.frozen 260
  have j5 : w8.frozen? ⟨kb, 261, none⟩ = false := hn8.frozen 261
  have HB1 := Lib.hid (fun (wx : World) => by have h := tbit_any a cn wx hcn31 ha32; rw [he1] at h; exact h)
  have HB2 := Lib.hid (fun (wx : World) => by have h := tbit_any qa cn wx hcn31 hqa32; rw [he2] at h; exact h)
  have n1' : kb ≠ pb := fun e => n1 e.symm
  have n2' : kb ≠ b := fun e => n2 e.symm
  have n3' : kb ≠ cb := fun e => n3 e.symm
  clear hK hn8 he1 he2
  conv => arg 2; whnf
  go_region_held3 (fun w' => w'.cell? ⟨pb, 0, none⟩ = some (.int .u32 (a : Int)) ∧ w'.cell? ⟨b, 0, none⟩ = some (.int .u32 (qa : Int)) ∧ w'.cell? ⟨cb, 1, none⟩ = some (.int .i64 (cn : Int))) (go_keep)
    (first
      | (go_at_call_of 107 (Value.int .u32 (a : Int)); refine (HB1.out _).mono ?_; rintro e w' ⟨rfl, rfl⟩)
      | (go_at_call_of 107 (Value.int .u32 (qa : Int)); refine (HB2.out _).mono ?_; rintro e w' ⟨rfl, rfl⟩))
  all_goals
    go_wp2_with fail
    refine HKK.out _ _ _ _ _ _ _ _ _ _ _ _ _ _ _ _ _ _ _ _ _ _ _ _ ⟨?_, ?_⟩
    · have h := (HN8.out.set_ 261 (.pointer (some ⟨fb, 0, none⟩))).set_ 260 (.pointer (some ⟨b, 0, none⟩))
      have e : (((ndX (ca : Int) (cn : Int) wy0 false (.pointer none) (.pointer none)) : Array Value).setIfInBounds 261 (.pointer (some ⟨fb, 0, none⟩))).setIfInBounds 260 (.pointer (some ⟨b, 0, none⟩)) = (ndX (ca : Int) (cn : Int) wy0 false (.pointer (some ⟨b, 0, none⟩)) (.pointer (some ⟨fb, 0, none⟩))) := by rw [ndX_setR wy0_size, ndX_setL wy0_size]
      rw [e] at h
      exact h
    · have u := ((Upd.refl (only kb) w8).set_ 261 (.pointer (some ⟨fb, 0, none⟩))).set_ 260 (.pointer (some ⟨b, 0, none⟩))
      exact ⟨u.os, u.tape, u.output, u.size, u.block⟩
end Go.Proofs.YthlommalbkhcjaaGreat
