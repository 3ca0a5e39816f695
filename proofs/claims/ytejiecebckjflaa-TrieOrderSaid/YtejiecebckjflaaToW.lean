/- The walk of TrieOrder. -/
import Derived.Test.YtejiecebckjflaaToL
import Derived.Test.YtejiecebckjflaaTgW
import Derived.Deep.DeepCutAuto
import Derived.Deep.CutRange
import Derived.Deep.RegionWith
import Derived.Stop.RegionWithIn
import Derived.BigGuardIn
namespace Go.Proofs.Ytejiecebckjflaa
open Go.RowKit Go.Sort Go.BigFrame
attribute [local go_sem] Oper.semAt_some

/-- A piece that ends in nothing but its end. -/
theorem wp_calm {P : Program} {c : Code} {K : Act → World → Prop} {Q : Exit → Act → World → Prop} {a : Act} {w : World} (h : c.wp P (Exit.then K (fun _ _ _ => False)) a w) : c.wp P (Exit.then K Q) a w :=
  wp_mono h fun e a w h => by cases e <;> first | exact h | exact h.elim
theorem cut_ {T G : Prop} (h1 : T → G) (h2 : T) : G := h1 h2
theorem keeps_of_upd {F : Nat → Prop} {W W' : World} (B : Nat) (h : Upd F W W') (hF : ∀ k, F k → ∃ cs t, Blk W k t cs) : KeepsFrom B W W' :=
  ⟨h.size, fun k o _ hk ho => (h.block k (Array.getElem?_eq_some_iff.1 hk).1 fun hf => by
    obtain ⟨cs, t, hb⟩ := hF k hf
    unfold Blk at hb
    rw [hk] at hb
    cases hb
    cases ho).trans hk⟩
abbrev ZF (z : Nat) : Nat → Prop := fun k => k = z ∨ k = z + 1 ∨ k = z + 1 + 1
structure OB (w2 W : World) (hs n : Nat) (e : Bs × Int) : Prop where
  below : Below w2.heap.size w2 W
  h : Blk W w2.heap.size 3 #[.int .i64 (hs : Int)]
  n : Blk W (w2.heap.size + 1) 3 #[.int .i64 (n : Int)]
  l : Blk W (w2.heap.size + 1 + 1) 31 #[.int .u32 (padB e.1 : Int), .int .i64 (e.1.length : Int)]
section
variable {w2 W W' : World} {hs n : Nat} {e : Bs × Int}
theorem OB.later (h : OB w2 W hs n e) (hb : Below W.heap.size W W') : OB w2 W' hs n e := ⟨h.below.trans (hb.mono h.below.size), h.h.below hb h.h.lt, h.n.below hb h.n.lt, h.l.below hb h.l.lt⟩
theorem OB.own {row : Option Nat} (h : OB w2 W hs n e) (hg : W.grownBy W' row) (hr : ∀ r, row = some r → w2.heap.size ≤ r ∧ ∃ o : Obj, W.heap[r]? = some o ∧ o.isCells = false) : OB w2 W' hs n e :=
  ⟨h.below.grown hg h.below.size (fun k e => (hr k e).1), blk_own h.h hg fun r e => (hr r e).2, blk_own h.n hg fun r e => (hr r e).2, blk_own h.l hg fun r e => (hr r e).2⟩
theorem OB.setH (h : OB w2 W hs n e) (k : Nat) : OB w2 (W.setCell ⟨w2.heap.size, 0, none⟩ (.int .i64 (k : Int))) k n e :=
  ⟨h.below.setCell (p := ⟨w2.heap.size, 0, none⟩) (Nat.le_refl _) _, by simpa using h.h.set_ 0 (.int .i64 (k : Int)), h.n.far (p := ⟨w2.heap.size, 0, none⟩) (by show w2.heap.size + 1 ≠ w2.heap.size; omega) _, h.l.far (p := ⟨w2.heap.size, 0, none⟩) (by show w2.heap.size + 1 + 1 ≠ w2.heap.size; omega) _⟩
theorem OB.setN (h : OB w2 W hs n e) (k : Nat) : OB w2 (W.setCell ⟨w2.heap.size + 1, 0, none⟩ (.int .i64 (k : Int))) hs k e :=
  ⟨h.below.setCell (p := ⟨w2.heap.size + 1, 0, none⟩) (Nat.le_succ _) _, h.h.far (p := ⟨w2.heap.size + 1, 0, none⟩) (by show w2.heap.size ≠ w2.heap.size + 1; omega) _, by simpa using h.n.set_ 0 (.int .i64 (k : Int)), h.l.far (p := ⟨w2.heap.size + 1, 0, none⟩) (by show w2.heap.size + 1 + 1 ≠ w2.heap.size + 1; omega) _⟩
theorem OB.setL (h : OB w2 W hs n e) (x : Bs × Int) : OB w2 ((W.setCell ⟨w2.heap.size + 1 + 1, 0, none⟩ (.int .u32 (padB x.1 : Int))).setCell ⟨w2.heap.size + 1 + 1, 1, none⟩ (.int .i64 (x.1.length : Int))) hs n x :=
  ⟨(h.below.setCell (p := ⟨w2.heap.size + 1 + 1, 0, none⟩) (by show _ ≤ w2.heap.size + 1 + 1; omega) _).setCell (p := ⟨w2.heap.size + 1 + 1, 1, none⟩) (by show _ ≤ w2.heap.size + 1 + 1; omega) _,
   (h.h.far (p := ⟨w2.heap.size + 1 + 1, 0, none⟩) (by show w2.heap.size ≠ w2.heap.size + 1 + 1; omega) _).far (p := ⟨w2.heap.size + 1 + 1, 1, none⟩) (by show w2.heap.size ≠ w2.heap.size + 1 + 1; omega) _,
   (h.n.far (p := ⟨w2.heap.size + 1 + 1, 0, none⟩) (by show w2.heap.size + 1 ≠ w2.heap.size + 1 + 1; omega) _).far (p := ⟨w2.heap.size + 1 + 1, 1, none⟩) (by show w2.heap.size + 1 ≠ w2.heap.size + 1 + 1; omega) _,
   by have := (h.l.set_ 0 (.int .u32 (padB x.1 : Int))).set_ 1 (.int .i64 (x.1.length : Int)); simpa using this⟩
theorem OB.far (h : OB w2 W hs n e) {p : Addr} (hp : w2.heap.size + 1 + 1 < p.block) (u : Value) : OB w2 (W.setCell p u) hs n e :=
  ⟨h.below.setCell (p := p) (by omega) _, h.h.far (p := p) (by omega) _, h.n.far (p := p) (by omega) _, h.l.far (p := p) (by omega) _⟩
theorem OB.cells (h : OB w2 W hs n e) : W.cell? ⟨w2.heap.size, 0, none⟩ = some (.int .i64 (hs : Int)) ∧ W.cell? ⟨w2.heap.size + 1, 0, none⟩ = some (.int .i64 (n : Int)) ∧ W.cell? ⟨w2.heap.size + 1 + 1, 0, none⟩ = some (.int .u32 (padB e.1 : Int)) ∧ W.cell? ⟨w2.heap.size + 1 + 1, 1, none⟩ = some (.int .i64 (e.1.length : Int)) :=
  ⟨h.h.cell 0, h.n.cell 0, h.l.cell 0, h.l.cell 1⟩
theorem OB.free (h : OB w2 W hs n e) : W.frozen? ⟨w2.heap.size, 0, none⟩ = false ∧ W.frozen? ⟨w2.heap.size + 1, 0, none⟩ = false ∧ W.frozen? ⟨w2.heap.size + 1 + 1, 0, none⟩ = false ∧ W.frozen? ⟨w2.heap.size + 1 + 1, 1, none⟩ = false :=
  ⟨h.h.frozen 0, h.n.frozen 0, h.l.frozen 0, h.l.frozen 1⟩
theorem OB.keeps {F : Nat → Prop} (h : OB w2 W hs n e) (B : Nat) (hu : Upd F W W') (hF : ∀ k, F k → ZF w2.heap.size k) : KeepsFrom B W W' := keeps_of_upd B hu fun k hk => by
  rcases hF k hk with rfl | rfl | rfl
  · exact ⟨_, _, h.h⟩
  · exact ⟨_, _, h.n⟩
  · exact ⟨_, _, h.l⟩
end
theorem kg_new2 {w wx : World} (hb : Below w.heap.size w wx) (lim : Int) : KG w (wx.alloc (.cells #[.pointer none, .int .i64 lim, .int .i64 0, .bool true] 71)) wx.heap.size lim .nil :=
  ⟨fun k => k = wx.heap.size, ⟨⟨.pointer none, Blk.new _ _ _, rfl⟩, rfl, trivial, fun k hk => by rw [hk]; simp⟩, fun k hk => by rw [hk]; exact hb.size, hb.alloc hb.size _⟩
/-- A trie of the call's own, and blocks beside it. -/
def KB (w wx : World) (tb : Nat) (lim : Int) (T : TT) (B : List (Nat × Obj)) : Prop := ∃ M, IsTr wx M tb lim T ∧ (∀ k, M k → w.heap.size ≤ k) ∧ Below w.heap.size w wx ∧ ∀ x ∈ B, ¬ M x.1 ∧ wx.heap[x.1]? = some x.2
section
variable {w wx wy : World} {tb : Nat} {lim : Int} {T : TT} {B : List (Nat × Obj)}
theorem KB.kg (h : KB w wx tb lim T B) : KG w wx tb lim T := h.elim fun M h => ⟨M, h.1, h.2.1, h.2.2.1⟩
theorem KB.below (h : KB w wx tb lim T B) : Below w.heap.size w wx := h.kg.below
theorem KB.wf (h : KB w wx tb lim T B) : T.wf [] := h.kg.wf
theorem KB.mem (h : KB w wx tb lim T B) {x : Nat × Obj} (hx : x ∈ B) : wx.heap[x.1]? = some x.2 := h.elim fun _ h => (h.2.2.2 x hx).2
theorem KB.later (h : KB w wx tb lim T B) (hb : Below wx.heap.size wx wy) : KB w wy tb lim T B := by
  obtain ⟨M, h1, h2, h3, h4⟩ := h
  exact ⟨M, h1.keep ⟨hb.size, fun k hm _ => hb.block k (h1.lt k hm)⟩, h2, h3.trans (hb.mono h3.size), fun x hx => ⟨(h4 x hx).1, (hb.block _ (Array.getElem?_eq_some_iff.mp (h4 x hx).2).1).trans (h4 x hx).2⟩⟩
theorem KB.yes {M : Nat → Prop} {T2 : TT} (h2 : ∀ k, M k → w.heap.size ≤ k) (h3 : Below w.heap.size w wx) (h4 : ∀ x ∈ B, ¬ M x.1 ∧ wx.heap[x.1]? = some x.2) (h : InsYes wx M tb lim T2 wy) : KB w wy tb lim T2 B := by
  obtain ⟨M3, ht, hu, hm⟩ := h
  refine ⟨M3, ht, fun k hk => (hm k hk).elim (h2 k) fun h => Nat.le_trans h3.size h, h3.trans (hu.below h2 h3.size), fun x hx => ?_⟩
  have hl : x.1 < wx.heap.size := (Array.getElem?_eq_some_iff.mp (h4 x hx).2).1
  exact ⟨fun hk => (hm _ hk).elim (h4 x hx).1 fun h => absurd h (Nat.not_le.mpr hl), (hu.block _ hl (h4 x hx).1).trans (h4 x hx).2⟩
theorem kb_new (hb : Below w.heap.size w wx) (lim : Int) (hB : ∀ x ∈ B, wx.heap[x.1]? = some x.2) : KB w (wx.alloc (.cells #[.pointer none, .int .i64 lim, .int .i64 0, .bool true] 71)) wx.heap.size lim .nil B :=
  ⟨fun k => k = wx.heap.size, ⟨⟨.pointer none, Blk.new _ _ _, rfl⟩, rfl, trivial, fun k hk => by rw [hk]; simp⟩, fun k hk => by rw [hk]; exact hb.size, hb.alloc hb.size _, fun x hx => by
    have hl := (Array.getElem?_eq_some_iff.mp (hB x hx)).1
    exact ⟨by omega, (Below.heap_alloc wx _ x.1 hl).trans (hB x hx)⟩⟩
theorem kb_ins (h : KB w wx tb lim T B) (x : Px) (v : Int) (ha : x.a < 2 ^ 32) (hsm : T.list.length ≤ 1000000) :
    Calls Try.prog 14 #[.pointer (some ⟨tb, 0, none⟩), pxV x.a x.n, .int .i64 v] wx fun e w' => e = .returned (.int .i64 (insP lim x v T).1) ∧ KB w w' tb lim (insP lim x v T).2 B := by
  obtain ⟨M, h1, h2, h3, h4⟩ := h
  exact (ins_any x v tb M lim T wx h1 ha hsm).mono fun e w' ⟨he, hy⟩ => ⟨he, KB.yes h2 h3 h4 hy⟩
theorem kb_del (h : KB w wx tb lim T B) (x : Px) (ha : x.a < 2 ^ 32) (hsm : T.list.length ≤ 1000000) :
    Calls Try.prog 13 #[.pointer (some ⟨tb, 0, none⟩), pxV x.a x.n] wx fun e w' => e = .returned (.int .i64 (delP x T).1) ∧ KB w w' tb lim (delP x T).2 B := by
  obtain ⟨M, h1, h2, h3, h4⟩ := h
  exact (del_any x tb M lim T wx h1 ha hsm).mono fun e w' ⟨he, hy⟩ => ⟨he, KB.yes h2 h3 h4 hy⟩
theorem kb_all (h : KB w wx tb lim T B) (hsm : T.list.length ≤ 1000000) :
    Calls Try.prog 21 #[.pointer (some ⟨tb, 0, none⟩)] wx fun e w' => ∃ f, e = .returned f ∧ SeqOf w' (fun k => wx.heap.size ≤ k ∧ k < w'.heap.size) f T.list ∧ Below wx.heap.size wx w' := by
  obtain ⟨M, h1, h2, h3, h4⟩ := h
  exact (all_any tb M lim T wx h1 hsm).mono fun e w' ⟨f, he, hs, hb⟩ => ⟨f, he, hs.lt, hb⟩
theorem kb_covers (h : KB w wx tb lim T B) (a : Nat) (ha : a < 2 ^ 32) (hsm : T.list.length ≤ 1000000) :
    Calls Try.prog 22 #[.pointer (some ⟨tb, 0, none⟩), .int .u32 (a : Int)] wx fun e w' => ∃ f, e = .returned f ∧ SeqOf w' (fun k => wx.heap.size ≤ k ∧ k < w'.heap.size) f (T.cov (bitsB a 32)) ∧ Below wx.heap.size wx w' := by
  obtain ⟨M, h1, h2, h3, h4⟩ := h
  exact (covers_any a tb M lim T wx h1 ha hsm).mono fun e w' ⟨f, he, hs, hb⟩ => ⟨f, he, hs.lt, hb⟩
end
/-- Behind All and Covers. -/
def ACPost (w w1 : World) (tb : Nat) (lim : Int) (T : TT) (A : Bs) (B : List (Nat × Obj)) (s7 s8 : Value) (wx : World) : Prop :=
  KB w wx tb lim T B ∧ Below w1.heap.size w1 wx ∧ SeqOf wx (fun k => k < wx.heap.size) s7 T.list ∧ SeqOf wx (fun k => k < wx.heap.size) s8 (T.cov A)
theorem sameW_later {w wa wb : World} (hb : Below wa.heap.size wa wb) (h1 : wa.heap = w.heap) (h2 : wa.os = w.os) (h3 : wa.tape = w.tape) (h4 : wa.output = w.output) : Below w.heap.size w wb :=
  ⟨hb.os.trans h2, hb.tape.trans h3, hb.output.trans h4, by have := hb.size; rwa [h1] at this, fun k hk => by have := hb.block k (by rw [h1]; exact hk); rwa [h1] at this⟩
theorem ac_close {w w1 wa wb wc wd wz : World} {tb : Nat} {lim : Int} {T : TT} {B : List (Nat × Obj)} {f g : Value} {L C : List (Bs × Int)} (h : KB w w1 tb lim T B) (hb : Below wa.heap.size wa wb) (hf : SeqOf wb (fun k => wa.heap.size ≤ k ∧ k < wb.heap.size) f L) (hd : Below wc.heap.size wc wd)
    (hg : SeqOf wd (fun k => wc.heap.size ≤ k ∧ k < wd.heap.size) g C) (ha : wa.heap = w1.heap ∧ wa.os = w1.os ∧ wa.tape = w1.tape ∧ wa.output = w1.output) (hc : wc.heap = wb.heap ∧ wc.os = wb.os ∧ wc.tape = wb.tape ∧ wc.output = wb.output) (hz : wz.heap = wd.heap ∧ wz.os = wd.os ∧ wz.tape = wd.tape ∧ wz.output = wd.output) :
    KB w wz tb lim T B ∧ Below w1.heap.size w1 wz ∧ SeqOf wz (fun k => k < wz.heap.size) f L ∧ SeqOf wz (fun k => k < wz.heap.size) g C := by
  have b1 := sameW_later hb ha.1 ha.2.1 ha.2.2.1 ha.2.2.2
  have b2 := sameW_later hd hc.1 hc.2.1 hc.2.2.1 hc.2.2.2
  have b3 : Below wd.heap.size wd wz := ⟨hz.2.1, hz.2.2.1, hz.2.2.2, by rw [hz.1]; exact Nat.le_refl _, fun k _ => by rw [hz.1]⟩
  have b4 := b2.trans (b3.mono b2.size)
  have b5 := b1.trans (b4.mono b1.size)
  refine ⟨h.later b5, b5, ((hf.keep (Same.ofBelow b4 fun k hk => hk.2)).mono fun k hk => Nat.lt_of_lt_of_le hk.2 b4.size), (hg.keep (Same.ofBelow b3 fun k hk => hk.2)).mono fun k hk => Nat.lt_of_lt_of_le hk.2 b3.size⟩

set_option maxRecDepth 100000 in
set_option maxHeartbeats 16000000 in
theorem order_any (A : Option Addr) (n c : Nat) (l : List AcT) (b : Nat) (w : World) (r : Reads w (fun k => k < w.heap.size) 4 A n (l.flatMap AcT.cells)) (hl : l.length = n) (hg : ∀ x ∈ l, x.p.a < 2 ^ 32) (hb : b < 2 ^ 32) :
    Calls Try.prog 5 #[.slice A n c, .int .u32 (b : Int)] w fun e w' => e = .returned (.bool true) ∧ Below w.heap.size w w' := by
  have R := Lib.hid r
  have HG := Lib.hid hg
  have HL := Lib.hid hl
  have HBB := Lib.hid hb
  clear r hg hl hb
  obtain ⟨W0, hW0⟩ : ∃ W0, W0 = (w.alloc (.cells #[.int .u32 (b : Int)] 24)).alloc (.cells #[.bool false] 4) := ⟨_, rfl⟩
  have hz0 : W0.heap.size = w.heap.size + 1 + 1 := by rw [hW0]; simp
  have hB0 : Below w.heap.size w W0 := by rw [hW0]; exact ((Below.refl _ _).alloc (Nat.le_refl _) _).alloc (by simp) _
  have ha0 : Blk W0 w.heap.size 24 #[.int .u32 (b : Int)] := by rw [hW0]; exact (Blk.new _ _ _).alloc _
  have hr0 : Blk W0 (w.heap.size + 1) 4 #[.bool false] := by
    rw [hW0]
    have := Blk.new (w.alloc (.cells #[.int .u32 (b : Int)] 24)) 4 #[.bool false]
    simpa using this
  have hk0 := kb_new (B := [(w.heap.size, .cells #[.int .u32 (b : Int)] 24 (0, 0)), (w.heap.size + 1, .cells #[.bool false] 4 (0, 0))]) hB0 60 (by
    intro x hx
    rcases List.mem_cons.1 hx with rfl | hx
    · exact ha0
    · rcases List.mem_cons.1 hx with rfl | hx
      · exact hr0
      · cases hx)
  by_cases hbig : 100 < n
  · have HW0 := Lib.hid hW0
    have HB0 := Lib.hid hB0
    have r0 : W0.cell? ⟨w.heap.size + 1, 0, none⟩ = some (.bool false) := hr0.cell 0
    have HR0 := Lib.hid hr0
    clear hk0 ha0 hB0 hW0 hr0
    go_enter Try.func5, Try.ntmps5
    go_wp2_with fail
    rw [← HW0.out]
    refine (known_any _).mono ?_
    rintro e w2 ⟨rfl, hb2⟩
    have hr2 := HR0.out.below hb2 HR0.out.lt
    have r2 : w2.cell? ⟨w.heap.size + 1, 0, none⟩ = some (.bool false) := hr2.cell 0
    have f2 : w2.frozen? ⟨w.heap.size + 1, 0, none⟩ = false := hr2.frozen 0
    have HB2 := Lib.hid (HB0.out.trans (hb2.mono HB0.out.size))
    have HR2 := Lib.hid hr2
    clear hb2 hr2
    go_wp2_with fail
    have a0 := (HR2.out.set_ 0 (.bool true)).cell 0
    refine bodyPost_ret (v := .bool true) (by simp [results, Try.f5, go_sem, a0]) rfl ⟨rfl, HB2.out.setCell (p := ⟨w.heap.size + 1, 0, none⟩) (Nat.le_succ _) _⟩
  have HW0 := Lib.hid hW0
  have HB0 := Lib.hid hB0
  rw [hz0] at hk0
  have HK0 := Lib.hid hk0
  have HZ0 := Lib.hid hz0
  clear hk0 hW0 hB0 ha0 hr0 hz0
  refine (callsIn_wide (n := 5)).1 ?_
  refine callsIn_of_wp_marks Try.func5 rfl trivial ?_ rfl
  simp only [Try.ntmps5, List.size_toArray, List.length_cons, List.length_nil, Nat.reduceAdd, Nat.reduceSub, Array.replicate_succ, Array.replicate_zero, List.push_toArray, List.append_toArray, List.nil_append, List.cons_append]
  refine wpIn_wide.2 ?_
  go_wp2_with fail
  rw [← HW0.out]
  refine (new_any 60 _).mono ?_
  rintro e w1 ⟨rfl, rfl⟩
  have HK1 := Lib.hid (show KB w (W0.alloc (.cells #[.pointer none, .int .i64 (max 0 60), .int .i64 0, .bool true] 71)) (w.heap.size + 1 + 1) 60 .nil _ from HK0.out)
  rw [HZ0.out]
  generalize W0.alloc (.cells #[.pointer none, .int .i64 (max 0 60), .int .i64 0, .bool true] 71) = w1 at HK1 ⊢
  clear HK0
  obtain ⟨B, hB⟩ : ∃ B : List (Nat × Obj), B = [(w.heap.size, .cells #[.int .u32 (b : Int)] 24 (0, 0)), (w.heap.size + 1, .cells #[.bool false] 4 (0, 0))] := ⟨_, rfl⟩
  rw [← hB] at HK1
  have mA : (w.heap.size, Obj.cells #[.int .u32 (b : Int)] 24 (0, 0)) ∈ B := by rw [hB]; simp
  have mR : (w.heap.size + 1, Obj.cells #[.bool false] 4 (0, 0)) ∈ B := by rw [hB]; simp
  have MA := Lib.hid mA
  have MR := Lib.hid mR
  clear mA mR hB HB0 HW0 HZ0
  obtain ⟨tb, htb⟩ : ∃ tb, tb = w.heap.size + 1 + 1 := ⟨_, rfl⟩
  rw [← htb] at HK1 ⊢
  have HTB := Lib.hid htb
  clear htb
  go_wp2_with fail
  go_loopw [6] (fun i wr => ∃ (k : Nat) (T : TT), i = .int .i64 (k : Int) ∧ k ≤ n ∧ KB w wr tb 60 T B ∧ T.list.length ≤ k) (fun i _ => n - (intOf i).toNat)
  case atStart => exact ⟨0, .nil, rfl, Nat.zero_le _, HK1.out, Nat.le_refl _⟩
  case round =>
    obtain ⟨k, T, rfl, hk, hK, hT⟩ := hrel
    have KK := Lib.hid hK
    have TT0 := Lib.hid hT
    clear hK hT
    by_cases hlt : k < n
    · obtain ⟨x, hak⟩ : ∃ x, l[k]? = some x := ⟨l[k]'(by rw [HL.out]; exact hlt), List.getElem?_eq_getElem _⟩
      obtain ⟨ad, rfl, _, hadl, hc⟩ := R.out.2 (by omega)
      obtain ⟨e0, e1, e2, e3⟩ := acs_get l k _ hak
      have hbl := KK.out.below
      have hcc0 : wr.cell? (ad.add (k * 4)) = some (.bool x.del) := (hbl.cell (by rw [block_of_add]; exact hadl)).trans (hc _ _ e0)
      have hcc1 : wr.cell? ⟨(ad.add (k * 4)).block, (ad.add (k * 4)).off + 1, none⟩ = some (.int .u32 (x.p.a : Int)) := by
        rw [← add_after ad (k * 4) 1 (by omega)]
        exact (hbl.cell (by rw [block_of_add]; exact hadl)).trans (hc _ _ e1)
      have hcc2 : wr.cell? ⟨(ad.add (k * 4)).block, (ad.add (k * 4)).off + 1 + 1, none⟩ = some (.int .i64 x.p.n) := by
        have := (hbl.cell (p := ad.add (k * 4 + 2)) (by rw [block_of_add]; exact hadl)).trans (hc _ _ e2)
        rw [add_after ad (k * 4) 2 (by omega)] at this
        exact this
      have hcc3 : wr.cell? ⟨(ad.add (k * 4)).block, (ad.add (k * 4)).off + 3, none⟩ = some (.int .i64 x.v) := by
        rw [← add_after ad (k * 4) 3 (by omega)]
        exact (hbl.cell (by rw [block_of_add]; exact hadl)).trans (hc _ _ e3)
      have HX := Lib.hid (List.mem_of_getElem? hak)
      have hi0 : (0 : Int) ≤ k := by omega
      have hi1 : (k : Int) < n := by omega
      clear hak e0 e1 e2 e3 hbl hc hadl
      cases hdel : x.del with
      | true =>
        rw [hdel] at hcc0
        have CI := Lib.hid (kb_del KK.out x.p (HG.out x HX.out) (by have := TT0.out; omega))
        clear hdel
        go_wp2_with fail
        refine CI.out.mono ?_
        rintro e w2 ⟨rfl, h2⟩
        have H2 := Lib.hid h2
        clear h2 hcc0 hcc1 hcc2 hcc3 CI
        go_wp2_with fail
        go_roundw
        case rel => exact ⟨k + 1, _, by simp, by omega, H2.out, Nat.le_trans (delP_len KK.out.wf) (by have := TT0.out; omega)⟩
        case measure => simp [intOf]; omega
      | false =>
        rw [hdel] at hcc0
        have CI := Lib.hid (kb_ins (KK.out.later (Below.trans (Below.refl _ wr) ⟨rfl, rfl, rfl, Nat.le_refl _, fun _ _ => rfl⟩ : Below wr.heap.size wr wr.drew)) x.p x.v (HG.out x HX.out) (by have := TT0.out; omega))
        clear hdel
        go_wp2_with fail
        go_still_tail 11, (by kernel_rfl)
        go_wp2_with fail
        refine CI.out.mono ?_
        rintro e w2 ⟨rfl, h2⟩
        have H2 := Lib.hid h2
        clear h2 hcc0 hcc1 hcc2 hcc3 CI
        go_wp2_with fail
        go_roundw
        case rel => exact ⟨k + 1, _, by simp, by omega, H2.out, Nat.le_trans (insP_len KK.out.wf (HG.out x HX.out)) (by have := TT0.out; omega)⟩
        case measure => simp [intOf]; omega
    · obtain rfl : k = n := by omega
      have MA2 := KK.out.mem MA.out
      have a0 : wr.cell? ⟨w.heap.size, 0, none⟩ = some (.int .u32 (b : Int)) := (show Blk wr w.heap.size 24 #[.int .u32 (b : Int)] from MA2).cell 0
      have hsm : T.list.length ≤ 1000000 := by have := TT0.out; omega
      have hasz : w.heap.size < wr.heap.size := (Array.getElem?_eq_some_iff.1 MA2).1
      have AL := Lib.hid (fun (wx : World) (h : KB w wx tb 60 T B) => kb_all h hsm)
      have AC := Lib.hid (fun (wx : World) (h : KB w wx tb 60 T B) => kb_covers h b HBB.out hsm)
      have KD := Lib.hid (KK.out.later (Below.trans (Below.refl _ wr) ⟨rfl, rfl, rfl, Nat.le_refl _, fun _ _ => rfl⟩ : Below wr.heap.size wr wr.drew))
      clear hsm MA2
      go_wp2_with fail
      apply cut_
      case h1 =>
        intro key
        refine wp_calm ?_
        go_region_with (first
          | (go_at_call 21; refine (AL.out _ KD.out).mono ?_; rintro e wp ⟨f, rfl, hsf, hbf⟩; have ap : wp.cell? ⟨w.heap.size, 0, none⟩ = some (.int .u32 (b : Int)) := ((bcellT hbf).1 _ _ hasz).trans a0; have HBF := Lib.hid hbf; have HSF := Lib.hid hsf; clear hbf hsf)
          | (go_at_call 22; refine (AC.out _ ?_).mono ?_; exact KD.out.later (HBF.out.trans ⟨rfl, rfl, rfl, Nat.le_refl _, fun _ _ => rfl⟩); rintro e wq ⟨g, rfl, hsg, hbg⟩))
        all_goals
          go_simp
          have hac := ac_close (wz := wq) KK.out HBF.out HSF.out hbg hsg ⟨rfl, rfl, rfl, rfl⟩ ⟨rfl, rfl, rfl, rfl⟩ ⟨rfl, rfl, rfl, rfl⟩
          clear HBF HSF hbg hsg ap
          clear wp
          revert hac
          revert f g
          revert wq
          exact key
      case h2 =>
        intro w2 f g hac
        obtain ⟨hkb, hbw, hsf, hsg⟩ := hac
        obtain ⟨L, hL⟩ : ∃ L, L = T.list := ⟨_, rfl⟩
        obtain ⟨D, hD⟩ : ∃ D, D = bitsB b 32 := ⟨_, rfl⟩
        have hC : T.cov (bitsB b 32) = covS D L := by rw [hD, hL, TT.cov_list KK.out.wf]
        rw [hC] at hsg
        rw [← hL] at hsf
        have hLs : SortedB L := by rw [hL]; exact TT.sorted KK.out.wf
        have hL32 : ∀ e ∈ L, e.1.length ≤ 32 := fun e he => by rw [hL] at he; exact (TT.keys_pre KK.out.wf e he).2
        have hLn : L.length ≤ 1000000 := by rw [hL]; have := TT0.out; omega
        obtain ⟨Bf, rfl, hstf⟩ := hsf.fits (by omega) Fence.wide 4 trivial rfl (by omega)
        obtain ⟨Bg, Ag, capg, rfl, hg2, hg3, hg4⟩ := hsg
        have hsg9 : SeqOf w2 (fun k => k < w2.heap.size) (.func (.func 52) #[] #[.pointer (some ⟨Bg, 0, none⟩)]) (covS D L) := ⟨Bg, Ag, capg, rfl, hg2, hg3, hg4⟩
        have HSG := Lib.hid hsg9
        have HST := Lib.hid hstf
        have HKB := Lib.hid hkb
        have HL_ := Lib.hid hL
        have HD := Lib.hid hD
        have HLS := Lib.hid hLs
        have HL32 := Lib.hid hL32
        have HLN := Lib.hid hLn
        clear hsg9 hkb hbw hsf hstf hg2 hg3 hg4 hL hD hLs hL32 hLn hC
        clear AL AC KD a0 hasz
        have hfn : ∀ (w2 : World) (b : Nat), (binOp .eql 51 (.func (.func 52) #[] #[.pointer (some ⟨b, 0, none⟩)]) Value.nilFunc).run Try.prog w2 = .ok (.bool false) w2 := fun w2 b => by kernel_rfl
        go_wp2_with fail
        obtain ⟨W3, hW3⟩ : ∃ W3, W3 = ((w2.alloc (.cells #[.int .i64 0] 3)).alloc (.cells #[.int .i64 0] 3)).alloc (.cells #[.int .u32 0, .int .i64 0] 31) := ⟨_, rfl⟩
        have hob : OB w2 W3 (covS D []).length ([] : List (Bs × Int)).length (lastE []) := by
          have h1 := Blk.new w2 3 #[.int .i64 0]
          have h2 := Blk.new (w2.alloc (.cells #[.int .i64 0] 3)) 3 #[.int .i64 0]
          have h3 := Blk.new ((w2.alloc (.cells #[.int .i64 0] 3)).alloc (.cells #[.int .i64 0] 3)) 31 #[.int .u32 0, .int .i64 0]
          rw [hW3]
          refine ⟨((((Below.refl _ _).alloc (Nat.le_refl _) _).alloc (by simp) _).alloc (by simp; omega) _), (h1.alloc _).alloc _, ?_, ?_⟩
          · have := h2.alloc (.cells #[.int .u32 0, .int .i64 0] 31)
            simpa using this
          · rw [show lastE [] = ([], 0) from rfl]
            simpa [padB, valB] using h3
        have hz3 : W3.heap.size = w2.heap.size + 1 + 1 + 1 := by rw [hW3]; simp
        rw [← hW3]
        have HOB := Lib.hid hob
        clear hob hW3
        refine (wpIn_wide (n := 5)).1 ?_
        refine wpIn_range_fit rfl (by omega) (gf := 52) (lb := #[.pointer (some ⟨Bf, 0, none⟩)]) rfl trivial (enters_of Try.func52 (by kernel_rfl) rfl) HST.out (fun h k => same_t h k) (fun W l o o' hl h h1 h2 => same_b (w := w2) (fun k hk => hk.2) W l o o' (by omega) h h1 h2) HOB.out.below (fun _ => rfl)
          (fun pre W => OB w2 W (covS D pre).length pre.length (lastE pre)) (fun _ _ _ => False) (fun pre W W' row hs hg hr => hs.own hg fun r e => ⟨Nat.le_trans (by omega) (hr r e).1, (hr r e).2⟩) (fun _ _ _ _ _ hs _ _ => hs) HOB.out
          (fun t pre x a' W => pre ++ [x] <+: L ∧ ∃ Bq, W3.heap.size ≤ Bq ∧ Blk W Bq 31 #[.int .u32 (padB x.1 : Int), .int .i64 (x.1.length : Int)] ∧ a' = { tmps := ((t.setIfInBounds 65 (pxV (padB x.1) x.1.length)).setIfInBounds 66 (.int .i64 x.2)).setIfInBounds 12 (.pointer (some ⟨Bq, 0, none⟩)), defers := [] })
          (fun pre x a' _ W W' row hs hg hr => by obtain ⟨h0, Bq, h1, h2, h3⟩ := hs; exact ⟨h0, Bq, h1, blk_own h2 hg fun r e => (hr r e).2, h3⟩) ?assign ?body ?done ?stop
        case assign =>
          intro l pre x W K hi hfit hsz hK
          simp only [entV]
          gi_wp2
          refine hK _ _ ((KeepsOthers.alloc W _).from _) (Same.ofBelow ((Below.refl _ W).alloc (Nat.le_refl _) _) fun k hk => by have := hk.1; omega) (hi.own (World.grownBy_alloc W _ none) fun r e => (by cases e)) ⟨hfit, W.heap.size, hsz, Blk.new _ _ _, rfl⟩
        case body =>
          rintro l pre x a' W hl ⟨rr, hr⟩ hob ⟨hfit, Bq, hBq, bq, rfl⟩
          have hx32 := HL32.out x (mem_snoc hfit)
          have hxlt := pxE_lt hx32
          have hzz := hob.h.lt
          have ha2 : W.cell? ⟨w.heap.size, 0, none⟩ = some (.int .u32 (b : Int)) := ((show Blk w2 w.heap.size 24 #[.int .u32 (b : Int)] from HKB.out.mem MA.out).below hob.below ((show Blk w2 w.heap.size 24 #[.int .u32 (b : Int)] from HKB.out.mem MA.out).lt)).cell 0
          obtain ⟨c0, c1, c2, c3⟩ := hob.cells
          have q0 : W.cell? ⟨Bq, 0, none⟩ = some (.int .u32 (padB x.1 : Int)) := bq.cell 0
          have q1 : W.cell? ⟨Bq, 1, none⟩ = some (.int .i64 (x.1.length : Int)) := bq.cell 1
          by_cases hp : pre = []
          · have c1' : W.cell? ⟨w2.heap.size + 1, 0, none⟩ = some (.int .i64 0) := by rw [c1, hp]; rfl
            clear c1
            gi_wp2_with fail
            refine ⟨trivial, ?_⟩
            gi_wp2_with fail
            have hasc := has_any (pxE x) b W hxlt HBB.out
            refine ⟨trivial, ?_⟩
            refine (CallsIn.inRound l (callsIn_wide.2 hasc)).mono ?_
            rintro e w5 ⟨rfl, hb5⟩
            have ob5 := (hob).later hb5
            have hu5 := Upd.ofBelow (hb5) (ZF w2.heap.size)
            obtain ⟨c0, c1, c2, c3⟩ := ob5.cells
            obtain ⟨f0, f1, f2, f3⟩ := ob5.free
            have q5 := ((bq.below (hb5) bq.lt).cell 0)
            have q6 := ((bq.below (hb5) bq.lt).cell 1)
            have q50 : w5.cell? ⟨Bq, 0, none⟩ = some (.int .u32 (padB x.1 : Int)) := q5
            have q51 : w5.cell? ⟨Bq, 1, none⟩ = some (.int .i64 (x.1.length : Int)) := q6
            have hmn : (0 : Int) ≤ pre.length := by omega
            have hmn2 : (pre.length : Int) < 1000001 := by have := hfit.length_le; have := HLN.out; simp at *; omega
            have hcn : (0 : Int) ≤ (covS D pre).length := by omega
            have hcn2 : ((covS D pre).length : Int) < 1000001 := by have := covS_len D pre; omega
            have OB5 := Lib.hid ob5
            have HU5 := Lib.hid hu5
            have HOBW := Lib.hid hob
            have HFIT := Lib.hid hfit
            have hsn := covS_snoc D pre x
            have hpx := hasP_pxE (e := x) hx32 HBB.out
            rw [← HD.out] at hpx
            have HSN := Lib.hid hsn
            have HPX := Lib.hid hpx
            clear ob5 hu5 hob hfit hb5 hasc bq q5 q6 hsn hpx c1' hp ha2 q0 q1
            cases hh : hasP (pxE x) b with
            | true =>
              have e1 : (covS D (pre ++ [x])).length = (covS D pre).length + 1 := by rw [HSN.out, if_pos (by have := HPX.out; rw [hh] at this; exact of_decide_eq_true this.symm)]
              have E1 := Lib.hid e1
              clear e1 hh
              gi_wp2_with fail
              have hu9 := (((HU5.out.setCell (p := ⟨w2.heap.size, 0, none⟩) (.inl (.inl rfl)) (.int .i64 (((covS D pre).length : Int) + 1))).setCell (p := ⟨w2.heap.size + 1 + 1, 0, none⟩) (.inl (.inr (.inr rfl))) (.int .u32 (padB x.1 : Int))).setCell (p := ⟨w2.heap.size + 1 + 1, 1, none⟩) (.inl (.inr (.inr rfl))) (.int .i64 (x.1.length : Int))).setCell (p := ⟨w2.heap.size + 1, 0, none⟩) (.inl (.inr (.inl rfl))) (.int .i64 ((pre.length : Int) + 1))
              have ob9 := ((OB5.out.setH (((covS D pre).length) + 1)).setL x).setN (pre.length + 1)
              refine ⟨HOBW.out.keeps _ hu9 fun k hk => hk, hu9.same fun k hk hi => ?_, ?_⟩
              · have := hi.1; rcases hk with hk | hk | hk <;> omega
              · show OB w2 _ (covS D (pre ++ [x])).length (pre ++ [x]).length (lastE (pre ++ [x]))
                rw [E1.out, List.length_append, lastE_snoc]
                exact ob9
            | false =>
              have e1 : (covS D (pre ++ [x])).length = (covS D pre).length := by rw [HSN.out, if_neg (by have := HPX.out; rw [hh] at this; exact of_decide_eq_false this.symm)]; rfl
              have E1 := Lib.hid e1
              clear e1 hh
              gi_wp2_with fail
              have hu9 := ((HU5.out.setCell (p := ⟨w2.heap.size + 1 + 1, 0, none⟩) (.inl (.inr (.inr rfl))) (.int .u32 (padB x.1 : Int))).setCell (p := ⟨w2.heap.size + 1 + 1, 1, none⟩) (.inl (.inr (.inr rfl))) (.int .i64 (x.1.length : Int))).setCell (p := ⟨w2.heap.size + 1, 0, none⟩) (.inl (.inr (.inl rfl))) (.int .i64 ((pre.length : Int) + 1))
              have ob9 := (OB5.out.setL x).setN (pre.length + 1)
              refine ⟨HOBW.out.keeps _ hu9 fun k hk => hk, hu9.same fun k hk hi => ?_, ?_⟩
              · have := hi.1; rcases hk with hk | hk | hk <;> omega
              · show OB w2 _ (covS D (pre ++ [x])).length (pre ++ [x]).length (lastE (pre ++ [x]))
                rw [E1.out, List.length_append, lastE_snoc]
                exact ob9
          · have hne : 0 < pre.length := List.length_pos_iff.2 hp
            have hp0 : (0 : Int) < pre.length := by omega
            have hlt := last_lt HLS.out hfit hp
            have hl32 : (lastE pre).1.length ≤ 32 := HL32.out _ ((List.prefix_append pre [x]).subset.trans hfit.subset (lastE_mem hp))
            have hcmp := compare_any (pxE (lastE pre)) (pxE x) W
            rw [cmpP_pxE hl32 hx32 hlt] at hcmp
            clear hl32 hlt hp hne
            gi_wp2_with fail
            refine ⟨trivial, ?_⟩
            refine (CallsIn.inRound l (callsIn_wide.2 hcmp)).mono ?_
            rintro e w4 ⟨rfl, hb4⟩
            have qb4 := bq.below hb4 bq.lt
            have q40 : w4.cell? ⟨Bq, 0, none⟩ = some (.int .u32 (padB x.1 : Int)) := qb4.cell 0
            have q41 : w4.cell? ⟨Bq, 1, none⟩ = some (.int .i64 (x.1.length : Int)) := qb4.cell 1
            have ha4 : w4.cell? ⟨w.heap.size, 0, none⟩ = some (.int .u32 (b : Int)) := (hb4.cell (p := ⟨w.heap.size, 0, none⟩) (World.block_lt_of_cell? W _ ha2)).trans ha2
            have hb4s := hb4.size
            clear hcmp q0 q1 qb4 ha2 c0 c1 c2 c3
            gi_wp2_with fail
            have hasc := has_any (pxE x) b w4 hxlt HBB.out
            refine ⟨trivial, ?_⟩
            refine (CallsIn.inRound l (callsIn_wide.2 hasc)).mono ?_
            rintro e w5 ⟨rfl, hb5⟩
            have ob5 := (hob.later hb4).later hb5
            have hu5 := Upd.ofBelow (hb4.trans (hb5.mono hb4s)) (ZF w2.heap.size)
            obtain ⟨c0, c1, c2, c3⟩ := ob5.cells
            obtain ⟨f0, f1, f2, f3⟩ := ob5.free
            have q5 := ((bq.below (hb4.trans (hb5.mono hb4s)) bq.lt).cell 0)
            have q6 := ((bq.below (hb4.trans (hb5.mono hb4s)) bq.lt).cell 1)
            have q50 : w5.cell? ⟨Bq, 0, none⟩ = some (.int .u32 (padB x.1 : Int)) := q5
            have q51 : w5.cell? ⟨Bq, 1, none⟩ = some (.int .i64 (x.1.length : Int)) := q6
            have hmn : (0 : Int) ≤ pre.length := by omega
            have hmn2 : (pre.length : Int) < 1000001 := by have := hfit.length_le; have := HLN.out; simp at *; omega
            have hcn : (0 : Int) ≤ (covS D pre).length := by omega
            have hcn2 : ((covS D pre).length : Int) < 1000001 := by have := covS_len D pre; omega
            have OB5 := Lib.hid ob5
            have HU5 := Lib.hid hu5
            have HOBW := Lib.hid hob
            have HFIT := Lib.hid hfit
            have hsn := covS_snoc D pre x
            have hpx := hasP_pxE (e := x) hx32 HBB.out
            rw [← HD.out] at hpx
            have HSN := Lib.hid hsn
            have HPX := Lib.hid hpx
            clear ob5 hu5 hob hfit hb5 hasc bq q5 q6 hsn hpx hb4 q40 q41 ha4 hp0
            cases hh : hasP (pxE x) b with
            | true =>
              have e1 : (covS D (pre ++ [x])).length = (covS D pre).length + 1 := by rw [HSN.out, if_pos (by have := HPX.out; rw [hh] at this; exact of_decide_eq_true this.symm)]
              have E1 := Lib.hid e1
              clear e1 hh
              gi_wp2_with fail
              have hu9 := (((HU5.out.setCell (p := ⟨w2.heap.size, 0, none⟩) (.inl (.inl rfl)) (.int .i64 (((covS D pre).length : Int) + 1))).setCell (p := ⟨w2.heap.size + 1 + 1, 0, none⟩) (.inl (.inr (.inr rfl))) (.int .u32 (padB x.1 : Int))).setCell (p := ⟨w2.heap.size + 1 + 1, 1, none⟩) (.inl (.inr (.inr rfl))) (.int .i64 (x.1.length : Int))).setCell (p := ⟨w2.heap.size + 1, 0, none⟩) (.inl (.inr (.inl rfl))) (.int .i64 ((pre.length : Int) + 1))
              have ob9 := ((OB5.out.setH (((covS D pre).length) + 1)).setL x).setN (pre.length + 1)
              refine ⟨HOBW.out.keeps _ hu9 fun k hk => hk, hu9.same fun k hk hi => ?_, ?_⟩
              · have := hi.1; rcases hk with hk | hk | hk <;> omega
              · show OB w2 _ (covS D (pre ++ [x])).length (pre ++ [x]).length (lastE (pre ++ [x]))
                rw [E1.out, List.length_append, lastE_snoc]
                exact ob9
            | false =>
              have e1 : (covS D (pre ++ [x])).length = (covS D pre).length := by rw [HSN.out, if_neg (by have := HPX.out; rw [hh] at this; exact of_decide_eq_false this.symm)]; rfl
              have E1 := Lib.hid e1
              clear e1 hh
              gi_wp2_with fail
              have hu9 := ((HU5.out.setCell (p := ⟨w2.heap.size + 1 + 1, 0, none⟩) (.inl (.inr (.inr rfl))) (.int .u32 (padB x.1 : Int))).setCell (p := ⟨w2.heap.size + 1 + 1, 1, none⟩) (.inl (.inr (.inr rfl))) (.int .i64 (x.1.length : Int))).setCell (p := ⟨w2.heap.size + 1, 0, none⟩) (.inl (.inr (.inl rfl))) (.int .i64 ((pre.length : Int) + 1))
              have ob9 := (OB5.out.setL x).setN (pre.length + 1)
              refine ⟨HOBW.out.keeps _ hu9 fun k hk => hk, hu9.same fun k hk hi => ?_, ?_⟩
              · have := hi.1; rcases hk with hk | hk | hk <;> omega
              · show OB w2 _ (covS D (pre ++ [x])).length (pre ++ [x]).length (lastE (pre ++ [x]))
                rw [E1.out, List.length_append, lastE_snoc]
                exact ob9
        case stop =>
          rintro D c pre W hD _ h
          exact h.elim
        case done =>
          rintro D1 ys W hD1 hys hob hK1
          rw [hys] at hob
          clear hys
          obtain ⟨y, hy⟩ : ∃ y, y = W.heap.size := ⟨_, rfl⟩
          obtain ⟨W4, hW4⟩ : ∃ W4, W4 = W.alloc (.cells #[.int .i64 0] 3) := ⟨_, rfl⟩
          have hb4 : Below W.heap.size W W4 := by rw [hW4]; exact (Below.refl _ _).alloc (Nat.le_refl _) _
          have hm4 : Blk W4 y 3 #[.int .i64 0] := by rw [hW4, hy]; exact Blk.new _ _ _
          have hz4 : W4.heap.size = y + 1 := by rw [hW4, hy]; simp
          have hob4 := hob.later hb4
          have hD1l : D1 < W.heap.size := (Array.getElem?_eq_some_iff.1 hK1).1
          have hk4 : W4.heap[D1]? = some (.deferred (some [])) := (hb4.block D1 hD1l).trans hK1
          obtain ⟨Bg2, hBg, hst2⟩ := (HSG.out.keep (Same.ofBelow hob4.below fun k hk => hk)).fits (Nat.le_trans (covS_len D L) (by have := HLN.out; omega)) Fence.wide 4 trivial rfl (by omega)
          injection hBg with _ _ hBg
          have hBg : Bg2 = Bg := by simpa using hBg.symm
          subst hBg
          have HST2 := Lib.hid hst2
          have HOB4 := Lib.hid hob4
          have HM4 := Lib.hid hm4
          have HW4 := Lib.hid hW4
          have HY := Lib.hid hy
          have HK4 := Lib.hid hk4
          have hyl : w2.heap.size + 1 + 1 < y := by have := hob.l.lt; omega
          have hd1y : D1 < y := by omega
          clear hst2 hob4 hm4 hW4 hk4 hb4 hob hK1 HST HOB hy
          go_wp2_with fail
          rw [← HY.out, ← HW4.out]
          refine (wpIn_wide (n := 5)).1 ?_
          refine wpIn_range_fit rfl (by omega) (gf := 52) (lb := #[.pointer (some ⟨Bg2, 0, none⟩)]) rfl trivial (enters_of Try.func52 (by kernel_rfl) rfl) HST2.out (fun h k => same_t h k) (fun V l o o' hl h h1 h2 => same_b (w := W4) (fun k hk => hk.2) V l o o' hl h h1 h2) (Below.refl _ _) (fun _ => rfl)
            (fun pre V => (∃ e, OB w2 V (covS D L).length L.length e ∧ (pre ≠ [] → e = lastE pre)) ∧ Blk V y 3 #[.int .i64 (pre.length : Int)] ∧ V.heap[D1]? = some (.deferred (some [])) ∧ W4.heap.size ≤ V.heap.size) (fun _ _ _ => False)
            (fun pre V V' row hs hg hr => by
              obtain ⟨⟨e, h1, h2⟩, h3, h4, h5⟩ := hs
              refine ⟨⟨e, h1.own hg fun r e => ⟨Nat.le_trans (by omega) (hr r e).1, (hr r e).2⟩, h2⟩, blk_own h3 hg fun r e => (hr r e).2, (hg.block D1 (Array.getElem?_eq_some_iff.1 h4).1 fun e => ?_).trans h4, Nat.le_trans h5 hg.size⟩
              have := (hr D1 e.symm).1
              omega) (fun _ _ _ _ _ hs _ _ => hs) ⟨⟨_, HOB4.out, fun h => absurd rfl h⟩, HM4.out, HK4.out, Nat.le_refl _⟩
            (fun t pre x a' V => pre ++ [x] <+: covS D L ∧ ∃ Bq, W4.heap.size ≤ Bq ∧ Blk V Bq 31 #[.int .u32 (padB x.1 : Int), .int .i64 (x.1.length : Int)] ∧ a' = { tmps := ((t.setIfInBounds 84 (pxV (padB x.1) x.1.length)).setIfInBounds 85 (.int .i64 x.2)).setIfInBounds 14 (.pointer (some ⟨Bq, 0, none⟩)), defers := [] })
            (fun pre x a' _ V V' row hs hg hr => by obtain ⟨h0, Bq, h1, h2, h3⟩ := hs; exact ⟨h0, Bq, h1, blk_own h2 hg fun r e => (hr r e).2, h3⟩) ?assign ?body ?done ?stop
          case assign =>
            intro l pre x V K hi hfit hsz hK
            simp only [entV]
            obtain ⟨⟨e, h1, h2⟩, h3, h4, h5⟩ := hi
            gi_wp2
            refine hK _ _ ((KeepsOthers.alloc V _).from _) (Same.ofBelow ((Below.refl _ V).alloc (Nat.le_refl _) _) fun k hk => by have := hk.2; omega) ⟨⟨e, h1.own (World.grownBy_alloc V _ none) fun r e => (by cases e), h2⟩, h3.alloc _, (Below.heap_alloc V _ D1 (Array.getElem?_eq_some_iff.1 h4).1).trans h4, Nat.le_trans h5 (by simp)⟩ ⟨hfit, V.heap.size, hsz, Blk.new _ _ _, rfl⟩
          case body =>
            rintro l pre x a' V hl ⟨rr, hr⟩ ⟨⟨e, hob, hen⟩, hm, hd, hsz⟩ ⟨hfit, Bq, hBq, bq, rfl⟩
            have hcov := covS_mem (mem_snoc hfit)
            have hx32 := HL32.out x hcov.1
            have hxlt := pxE_lt hx32
            have ha2 : V.cell? ⟨w.heap.size, 0, none⟩ = some (.int .u32 (b : Int)) := ((show Blk w2 w.heap.size 24 #[.int .u32 (b : Int)] from HKB.out.mem MA.out).below hob.below ((show Blk w2 w.heap.size 24 #[.int .u32 (b : Int)] from HKB.out.mem MA.out).lt)).cell 0
            have q0 : V.cell? ⟨Bq, 0, none⟩ = some (.int .u32 (padB x.1 : Int)) := bq.cell 0
            have q1 : V.cell? ⟨Bq, 1, none⟩ = some (.int .i64 (x.1.length : Int)) := bq.cell 1
            have hmm : (0 : Int) ≤ pre.length := by omega
            have hmm2 : (pre.length : Int) < 1000001 := by have := hfit.length_le; have := covS_len D L; have := HLN.out; simp at *; omega
            have hasc := has_any (pxE x) b V hxlt HBB.out
            have hh : hasP (pxE x) b = true := by rw [hasP_pxE hx32 HBB.out, ← HD.out]; exact decide_eq_true hcov.2
            rw [hh] at hasc
            clear hh
            gi_wp2_with fail
            refine ⟨trivial, ?_⟩
            refine (CallsIn.inRound l (callsIn_wide.2 hasc)).mono ?_
            rintro ee w5 ⟨rfl, hb5⟩
            have ob5 := hob.later hb5
            have bm5 := hm.below hb5 hm.lt
            have bq5 := bq.below hb5 bq.lt
            have hd5 : w5.heap[D1]? = some (.deferred (some [])) := (hb5.block D1 (Array.getElem?_eq_some_iff.1 hd).1).trans hd
            have hs5 := hb5.size
            have hu5 := Upd.ofBelow hb5 (fun k => k = w2.heap.size + 1 + 1 ∨ k = y)
            have hkb1 : ∃ cs t, Blk V (w2.heap.size + 1 + 1) t cs := ⟨_, _, hob.l⟩
            have hkb2 : ∃ cs t, Blk V y t cs := ⟨_, _, hm⟩
            have HD1 := Lib.hid hd
            have HU5 := Lib.hid hu5
            have HKB1 := Lib.hid hkb1
            have HKB2 := Lib.hid hkb2
            clear hasc q0 q1 ha2 hb5 hob hm hd bq hu5 hkb1 hkb2
            have q50 : w5.cell? ⟨Bq, 0, none⟩ = some (.int .u32 (padB x.1 : Int)) := bq5.cell 0
            have q51 : w5.cell? ⟨Bq, 1, none⟩ = some (.int .i64 (x.1.length : Int)) := bq5.cell 1
            obtain ⟨_, _, c2, c3⟩ := ob5.cells
            obtain ⟨_, _, f2, f3⟩ := ob5.free
            have fm : w5.frozen? ⟨y, 0, none⟩ = false := bm5.frozen 0
            by_cases hp : pre = []
            · subst hp
              have c1 : w5.cell? ⟨y, 0, none⟩ = some (.int .i64 0) := bm5.cell 0
              gi_wp2_with fail
              case h_1.isTrue => rename_i h _; cases h
              case h_1.isFalse => rename_i h _; cases h
              refine ⟨trivial, ?_⟩
              gi_wp2_with fail
              have hu9 := ((HU5.out.setCell (p := ⟨w2.heap.size + 1 + 1, 0, none⟩) (.inl (.inl rfl)) (.int .u32 (padB x.1 : Int))).setCell (p := ⟨w2.heap.size + 1 + 1, 1, none⟩) (.inl (.inl rfl)) (.int .i64 (x.1.length : Int))).setCell (p := ⟨y, 0, none⟩) (.inl (.inr rfl)) (.int .i64 1)
              have ob9 := (ob5.setL x).far (p := ⟨y, 0, none⟩) hyl (.int .i64 1)
              have bm9 := ((bm5.far (p := ⟨w2.heap.size + 1 + 1, 0, none⟩) (by show y ≠ w2.heap.size + 1 + 1; omega) (.int .u32 (padB x.1 : Int))).far (p := ⟨w2.heap.size + 1 + 1, 1, none⟩) (by show y ≠ w2.heap.size + 1 + 1; omega) (.int .i64 (x.1.length : Int))).set_ 0 (.int .i64 1)
              have hd9 := (hu9.block D1 (by have := HKB2.out; obtain ⟨cs, t, hb⟩ := this; have := hb.lt; omega) (by rintro (h | h) <;> omega)).trans (by exact HD1.out)
              refine ⟨keeps_of_upd _ hu9 fun k hk => ?_, hu9.same fun k hk hi => ?_, ⟨_, ob9, fun _ => (lastE_snoc _ _).symm⟩, ?_, hd9, Nat.le_trans hsz hu9.size⟩
              · rcases hk with rfl | rfl
                · exact HKB1.out
                · exact HKB2.out
              · have := hi.1; rcases hk with hk | hk <;> omega
              · simpa using bm9
            · have hne : 0 < pre.length := List.length_pos_iff.2 hp
              have hp0 : (0 : Int) < pre.length := by omega
              have c1 : w5.cell? ⟨y, 0, none⟩ = some (.int .i64 (pre.length : Int)) := bm5.cell 0
              have hlt := last_lt (covS_sorted HLS.out) hfit hp
              have hlm := covS_mem ((List.prefix_append pre [x]).subset.trans hfit.subset (lastE_mem hp))
              have hl32 : (lastE pre).1.length ≤ 32 := HL32.out _ hlm.1
              obtain ⟨hch1, hch2⟩ := cov_chain hlm.2 hcov.2 hlt
              have hwi := fun wx => within_any (pxE (lastE pre)) (pxE x) wx (pxE_lt hl32) hxlt
              rw [withinP_pxE hl32 hx32, decide_eq_true hch1] at hwi
              have hee := hen hp
              subst hee
              have hlen1 : ((lastE pre).1.length : Int) < (x.1.length : Int) := by omega
              have hlen2 : decide (x.1.length ≤ (lastE pre).1.length) = false := decide_eq_false (by omega)
              have hlen3 : decide ((x.1.length : Int) ≤ ((lastE pre).1.length : Int)) = false := decide_eq_false (by omega)
              have HWI := Lib.hid hwi
              clear hwi hlt hlm hl32 hch1 hch2 hen
              gi_wp2_with fail
              refine ⟨trivial, ?_⟩
              refine (CallsIn.inRound l (callsIn_wide.2 (HWI.out _))).mono ?_
              rintro ee w6 ⟨rfl, hb6⟩
              have ob6 := ob5.later hb6
              have bm6 := bm5.below hb6 bm5.lt
              have bq6 := bq5.below hb6 bq5.lt
              have HU6 := Lib.hid (HU5.out.trans_ (Upd.ofBelow hb6 _))
              have q60 : w6.cell? ⟨Bq, 0, none⟩ = some (.int .u32 (padB x.1 : Int)) := bq6.cell 0
              have q61 : w6.cell? ⟨Bq, 1, none⟩ = some (.int .i64 (x.1.length : Int)) := bq6.cell 1
              have m6 : w6.cell? ⟨y, 0, none⟩ = some (.int .i64 (pre.length : Int)) := bm6.cell 0
              have fm6 : w6.frozen? ⟨y, 0, none⟩ = false := bm6.frozen 0
              obtain ⟨_, _, d2, d3⟩ := ob6.cells
              obtain ⟨_, _, g2, g3⟩ := ob6.free
              clear c1 c2 c3 f2 f3 fm q50 q51 hb6 ob5 bm5 bq5 bq6 HWI hp hp0 hne hlen1 hlen2 hlen3
              gi_wp2_with fail
              have hu9 := ((HU6.out.setCell (p := ⟨w2.heap.size + 1 + 1, 0, none⟩) (.inl (.inl rfl)) (.int .u32 (padB x.1 : Int))).setCell (p := ⟨w2.heap.size + 1 + 1, 1, none⟩) (.inl (.inl rfl)) (.int .i64 (x.1.length : Int))).setCell (p := ⟨y, 0, none⟩) (.inl (.inr rfl)) (.int .i64 ((pre.length : Int) + 1))
              have ob9 := (ob6.setL x).far (p := ⟨y, 0, none⟩) hyl (.int .i64 ((pre.length : Int) + 1))
              have bm9 := ((bm6.far (p := ⟨w2.heap.size + 1 + 1, 0, none⟩) (by show y ≠ w2.heap.size + 1 + 1; omega) (.int .u32 (padB x.1 : Int))).far (p := ⟨w2.heap.size + 1 + 1, 1, none⟩) (by show y ≠ w2.heap.size + 1 + 1; omega) (.int .i64 (x.1.length : Int))).set_ 0 (.int .i64 ((pre.length : Int) + 1))
              have hd9 := (hu9.block D1 (by have := HKB2.out; obtain ⟨cs, t, hb⟩ := this; have := hb.lt; omega) (by rintro (h | h) <;> omega)).trans (by exact HD1.out)
              refine ⟨keeps_of_upd _ hu9 fun k hk => ?_, hu9.same fun k hk hi => ?_, ⟨_, ob9, fun _ => (lastE_snoc _ _).symm⟩, ?_, hd9, Nat.le_trans hsz hu9.size⟩
              · rcases hk with rfl | rfl
                · exact HKB1.out
                · exact HKB2.out
              · have := hi.1; rcases hk with hk | hk <;> omega
              · simpa using bm9
          case stop =>
            rintro D c pre V hD _ h
            exact h.elim
          case done =>
            rintro D2 ys V hD2 hys ⟨⟨e, hob, _⟩, hm, hd, hsz⟩ hK2
            rw [hys] at hm
            clear hys
            obtain ⟨c0, c1, _, _⟩ := hob.cells
            have m0 : V.cell? ⟨y, 0, none⟩ = some (.int .i64 ((covS D L).length : Int)) := hm.cell 0
            have hkv := HKB.out.later hob.below
            have hr1 : Blk V (w.heap.size + 1) 4 #[.bool false] := hkv.mem MR.out
            have LN := Lib.hid (fun (wx : World) (h : Below V.heap.size V wx) => kg_len (hkv.later h).kg L.length (by rw [HL_.out]))
            have KN := Lib.hid (fun wx => known_any wx)
            have hVs := hob.h.lt
            have hsr := hr1.lt
            have hsw : w.heap.size + 1 < w2.heap.size := (Array.getElem?_eq_some_iff.1 (HKB.out.mem MR.out)).1
            go_wp2_with fail
            refine wp_calm ?_
            go_region_with (first
              | (go_at_call 18; refine (LN.out _ ?_).mono ?_; exact ⟨rfl, rfl, rfl, Nat.le_refl _, fun _ _ => rfl⟩; rintro ee wl ⟨rfl, rfl⟩)
              | (go_at_call 9; refine (KN.out _).mono ?_; rintro ee wk ⟨rfl, hbk⟩; have hrk : Blk wk (w.heap.size + 1) 4 #[.bool false] := (hbk.block (w.heap.size + 1) hsr).trans hr1; have rc : wk.cell? ⟨w.heap.size + 1, 0, none⟩ = some (.bool false) := hrk.cell 0; have rf : wk.frozen? ⟨w.heap.size + 1, 0, none⟩ = false := hrk.frozen 0; have HBK := Lib.hid hbk; clear hbk))
            all_goals
              go_wp2_with fail
              have hb9 : Below V.heap.size V wk := sameW_later HBK.out rfl rfl rfl rfl
              have hv9 := hkv.below.trans (hb9.mono hkv.below.size)
              have hr9 := hrk.set_ 0 (.bool true)
              have hb10 := hv9.setCell (p := ⟨w.heap.size + 1, 0, none⟩) (Nat.le_succ _) (.bool true)
              have e1 : (wk.setCell ⟨w.heap.size + 1, 0, none⟩ (.bool true)).heap[D1]? = some (.deferred (some [])) := (Below.heap_setCell wk ⟨w.heap.size + 1, 0, none⟩ _ D1 (by show D1 ≠ w.heap.size + 1; have := hkv.below.size; omega)).trans ((hb9.block D1 (Array.getElem?_eq_some_iff.1 hd).1).trans hd)
              have e2 : (wk.setCell ⟨w.heap.size + 1, 0, none⟩ (.bool true)).heap[D2]? = some (.deferred (some [])) := (Below.heap_setCell wk ⟨w.heap.size + 1, 0, none⟩ _ D2 (by show D2 ≠ w.heap.size + 1; omega)).trans ((hb9.block D2 (Array.getElem?_eq_some_iff.1 hK2).1).trans hK2)
              generalize wk.setCell ⟨w.heap.size + 1, 0, none⟩ (.bool true) = w9 at hr9 hb10 e1 e2 ⊢
              have hno2 : ∀ r, some D2 = some r → ∃ o : Obj, w9.heap[r]? = some o ∧ o.isCells = false := fun r e => by cases e; exact ⟨_, e2, rfl⟩
              have e3 : (w9.putObj D2 (.deferred none)).heap[D1]? = some (.deferred (some [])) := (World.putObj_heap_other (by omega)).trans e1
              have hno1 : ∀ r, some D1 = some r → ∃ o : Obj, (w9.putObj D2 (.deferred none)).heap[r]? = some o ∧ o.isCells = false := fun r e => by cases e; exact ⟨_, e3, rfl⟩
              have j1 := blk_own (blk_own hr9 (grownBy_putObj' w9 D2 (.deferred none)) hno2) (grownBy_putObj' (w9.putObj D2 (.deferred none)) D1 (.deferred none)) hno1
              have a0 := j1.cell 0
              have hBz := (hb10.trans (belowK_b (w := w) (Nat.le_refl _) w9 D2 _ (.deferred none) (by omega) e2 rfl rfl)).trans (belowK_b (w := w) (Nat.le_refl _) (w9.putObj D2 (.deferred none)) D1 _ (.deferred none) (by omega) e3 rfl rfl)
              refine ⟨by simp, .inl ⟨_, _, rfl, run_takeDeferred e2, ?_⟩⟩
              refine ⟨by simp, .inl ⟨_, _, rfl, run_takeDeferred e3, ?_⟩⟩
              refine ⟨.bool true, ?_, rfl, hBz⟩
              simp [results, Try.f5, go_sem, a0]
end Go.Proofs.Ytejiecebckjflaa
