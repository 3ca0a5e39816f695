/- A trie of bools with room for one: what fib.May needs of it. -/
import Derived.Test.YthlommalbkhcjaaGreatNl15
import Derived.Test.YthlommalbkhcjaaGreatNl18
import Derived.Test.YthlommalbkhcjaaGreatNl05
import Derived.Deep.LoopGhost
import Derived.WalkMore
import Derived.Lib.QuietBelow
import Derived.Outline
import Derived.Deep.DeepCutAuto
import Derived.Deep.Cut
import Derived.RegionTactic
import Derived.ChangeAlike
import Derived.BigRegion
import Derived.StillTailTactics
namespace Go.Proofs.YthlommalbkhcjaaGreat
open Go.RowKit
theorem blk_setCells_mid {g : Nat} {t : TypeId} {post : List Value} : ∀ (us pre mid : List Value) (w : World), mid.length = us.length → Blk w g t (pre ++ mid ++ post).toArray → Blk (w.setCells g pre.length us) g t (pre ++ us ++ post).toArray
  | [], pre, mid, w, hl, hb => by
    obtain rfl := List.eq_nil_of_length_eq_zero hl
    exact hb
  | v :: us, pre, mid, w, hl, hb => by
    match mid, hl with
    | x :: s, hl =>
      have h2 := hb.set_ pre.length v
      rw [List.setIfInBounds_toArray, List.append_assoc, List.set_append_right _ _ (Nat.le_refl _), Nat.sub_self, List.cons_append, List.set_cons_zero] at h2
      have h3 := blk_setCells_mid us (pre ++ [v]) s (w.setCell ⟨g, pre.length, none⟩ v) (by simpa using hl) (by simpa using h2)
      rw [List.length_append] at h3
      unfold World.setCells
      simpa using h3
end Go.Proofs.YthlommalbkhcjaaGreat
namespace Go.Proofs.YthlommalbkhcjaaGreat
open Go.RowKit
def wy0 : Array Value := (List.replicate 257 (Value.int .i64 0)).toArray
structure Dc (dc : Int → Array Value) : Prop where
  sz : ∀ v, (dc v).size = 257
  one : ∀ v, (dc v).all (·.oneCell') = true
  z : dc 0 = wy0
def ndX (a n : Int) (cs : Array Value) (h : Bool) (l r : Value) : Array Value := (([Value.int .u32 a, .int .i64 n] ++ cs.toList) ++ [.bool h, l, r]).toArray
section
variable {a n : Int} {cs : Array Value} {h : Bool} {l r : Value}
theorem ndX_a : (ndX a n cs h l r)[0]? = some (.int .u32 a) := by simp [ndX]
theorem ndX_n : (ndX a n cs h l r)[1]? = some (.int .i64 n) := by simp [ndX]
theorem ndX_at (hc : cs.size = 257) {i : Nat} (hi : i < 257) : (ndX a n cs h l r)[2 + i]? = cs[i]? := by
  unfold ndX
  rw [List.getElem?_toArray, List.getElem?_append_left (by simp [hc]; omega), List.getElem?_append_right (by simp)]
  simp
theorem ndX_tail (hc : cs.size = 257) (i : Nat) : (ndX a n cs h l r)[259 + i]? = [Value.bool h, l, r][i]? := by
  unfold ndX
  rw [List.getElem?_toArray, List.getElem?_append_right (by simp [hc])]
  congr 1
  simp [hc]
theorem ndX_h (hc : cs.size = 257) : (ndX a n cs h l r)[259]? = some (.bool h) := ndX_tail hc 0
theorem ndX_l (hc : cs.size = 257) : (ndX a n cs h l r)[260]? = some l := ndX_tail hc 1
theorem ndX_r (hc : cs.size = 257) : (ndX a n cs h l r)[261]? = some r := ndX_tail hc 2
theorem ndX_set (hc : cs.size = 257) (i : Nat) (z : Value) : (ndX a n cs h l r).setIfInBounds (259 + i) z = (([Value.int .u32 a, .int .i64 n] ++ cs.toList) ++ ([Value.bool h, l, r].set i z)).toArray := by
  unfold ndX
  rw [List.setIfInBounds_toArray, List.set_append_right _ _ (by simp [hc])]
  congr 2
  congr 1
  simp [hc]
theorem ndX_setH (hc : cs.size = 257) (g : Bool) : (ndX a n cs h l r).setIfInBounds 259 (.bool g) = ndX a n cs g l r := ndX_set hc 0 _
theorem ndX_setL (hc : cs.size = 257) (z : Value) : (ndX a n cs h l r).setIfInBounds 260 z = ndX a n cs h z r := ndX_set hc 1 _
theorem ndX_setR (hc : cs.size = 257) (z : Value) : (ndX a n cs h l r).setIfInBounds 261 z = ndX a n cs h l z := ndX_set hc 2 _
theorem ndX_inj (hc : cs.size = 257) {l2 r2 : Value} (e : ndX a n cs h l r = ndX a n cs h l2 r2) : l = l2 ∧ r = r2 := by
  have e1 := ndX_l (a := a) (n := n) (h := h) (l := l) (r := r) hc
  have e2 := ndX_r (a := a) (n := n) (h := h) (l := l) (r := r) hc
  rw [e, ndX_l hc] at e1
  rw [e, ndX_r hc] at e2
  injection e1 with e1
  injection e2 with e2
  exact ⟨e1.symm, e2.symm⟩
end
section
variable {w : World} {b g : Nat} {a n : Int} {cs vs : Array Value} {h : Bool} {l r : Value} {t : TypeId}
theorem ndX_range (hb : Blk w b t (ndX a n cs h l r)) (hc : cs.size = 257) : w.rangeAt b 2 cs.toList := fun j v hj => by
  have hj' : cs[j]? = some v := by simpa using hj
  rw [hb.cell, ndX_at hc (by have := (Array.getElem?_eq_some_iff.1 hj').1; omega)]
  exact hj'
theorem ndX_there (hb : Blk w b t (ndX a n cs h l r)) (hc : cs.size = 257) : w.there b 2 257 := fun j hj => ⟨by
  rw [hb.cell, ndX_at hc hj, Array.getElem?_eq_getElem (by omega)]
  rfl, hb.frozen _⟩
theorem blk_setWay (hb : Blk w b t (ndX a n cs h l r)) (hc : cs.size = 257) (hv : vs.size = 257) : Blk (w.setCells b 2 vs.toList) b t (ndX a n vs h l r) := by
  exact blk_setCells_mid (post := [.bool h, l, r]) vs.toList [Value.int .u32 a, .int .i64 n] cs.toList w (by simp [hc, hv]) hb
end
theorem wy0_size : wy0.size = 257 := by kernel_rfl
theorem wy0_one : wy0.all (·.oneCell') = true := by kernel_rfl
theorem wy_info : (Tryz.prog.info? 41).map (·.size) = some 257 := by kernel_rfl
theorem ld_way {w : World} {b : Nat} {a n : Int} {cs : Array Value} {h : Bool} {l r : Value} (hb : Blk w b 192 (ndX a n cs h l r)) (hc : cs.size = 257) : (Instr.loadAt 41 (.pointer (some ⟨b, 2, none⟩))).run Tryz.prog w = .ok (.agg cs) w := by
  have := run_loadAt_mid (P := Tryz.prog) w b 2 41 cs.toList _ (ndX_range hb hc) Tryz.underlying41 rfl (by simpa [hc] using wy_info)
  simpa using this
theorem st_way {w : World} {b : Nat} {a n : Int} {cs vs : Array Value} {h : Bool} {l r : Value} (hb : Blk w b 192 (ndX a n cs h l r)) (hc : cs.size = 257) (hv : vs.size = 257) (h1 : vs.all (·.oneCell') = true) :
    (Instr.storeAt 41 (.pointer (some ⟨b, 2, none⟩)) (.agg vs)).run Tryz.prog w = .ok () (w.setCells b 2 vs.toList) :=
  run_storeAt_mid w b 2 _ vs (by have := ndX_there hb hc; rwa [← hv] at this) (by rw [hv]; exact wy_info) h1
theorem zero_way (w : World) : (zeroValue 41).run Tryz.prog w = .ok (.agg wy0) w := by kernel_rfl
theorem way_alloc (w : World) : (Instr.alloc 41 true (.tuple #[])).run Tryz.prog w = .ok (.pointer (some ⟨w.heap.size, 0, none⟩)) (w.alloc (.cells wy0 41)) := by
  unfold Instr.alloc
  rw [Sem.run_bind, zero_way]
  rfl
theorem cs_of (cs : Array Value) (hc : cs.size = 257) : cs = ((List.range 257).map fun i => cs.getD i undef).toArray := by
  apply Array.ext
  · simp [hc]
  · intro i h1 h2
    simp [h1]
theorem bd_node' (w : World) (a n : Int) (f : Nat → Value) (h : Bool) : (Instr.build 192 #[(0, .agg #[.int .u32 a, .int .i64 n]), (1, .agg ((List.range 257).map f).toArray), (2, .bool h)]).run Tryz.prog w = .ok (.agg (ndX a n ((List.range 257).map f).toArray h (.pointer none) (.pointer none))) w := by kernel_rfl
theorem bd_node (w : World) (a n : Int) (cs : Array Value) (hc : cs.size = 257) (h : Bool) : (Instr.build 192 #[(0, .agg #[.int .u32 a, .int .i64 n]), (1, .agg cs), (2, .bool h)]).run Tryz.prog w = .ok (.agg (ndX a n cs h (.pointer none) (.pointer none))) w := by
  rw [cs_of cs hc]
  exact bd_node' w a n _ h
end Go.Proofs.YthlommalbkhcjaaGreat
namespace Go.Proofs.YthlommalbkhcjaaGreat
open Go.RowKit
def ndC (dc : Int → Array Value) (p : Bs) (v : Int) (h : Bool) (l r : Value) : Array Value := ndX (padB p : Int) (p.length : Int) (dc v) h l r
def IsT (dc : Int → Array Value) (w : World) : (Nat → Prop) → Value → TT → Prop
  | _, pv, .nil => pv = .pointer none
  | M, pv, .node p v h l r => ∃ (b : Nat) (pl pr : Value) (Ml Mr : Nat → Prop), pv = .pointer (some ⟨b, 0, none⟩) ∧ Blk w b 192 (ndC dc p v h pl pr) ∧ M b ∧ (∀ k, Ml k → M k ∧ k ≠ b) ∧ (∀ k, Mr k → M k ∧ k ≠ b) ∧ (∀ k, Ml k → ¬ Mr k) ∧ IsT dc w Ml pl l ∧ IsT dc w Mr pr r
variable {dc : Int → Array Value}
theorem IsT.mono {w : World} : ∀ {T : TT} {M N : Nat → Prop} {pv : Value}, IsT dc w M pv T → (∀ k, M k → N k) → IsT dc w N pv T
  | .nil, _, _, _, h, _ => h
  | .node .., _, _, _, ⟨b, pl, pr, Ml, Mr, h1, h2, h3, h4, h5, h6, h7, h8⟩, hm =>
    ⟨b, pl, pr, Ml, Mr, h1, h2, hm b h3, fun k hk => ⟨hm k (h4 k hk).1, (h4 k hk).2⟩, fun k hk => ⟨hm k (h5 k hk).1, (h5 k hk).2⟩, h6, h7, h8⟩
theorem IsT.blk {w w2 : World} : ∀ {T : TT} {M : Nat → Prop} {pv : Value}, IsT dc w M pv T → (∀ k, M k → ∀ cs, Blk w k 192 cs → Blk w2 k 192 cs) → IsT dc w2 M pv T
  | .nil, _, _, h, _ => h
  | .node .., _, _, ⟨b, pl, pr, Ml, Mr, h1, h2, h3, h4, h5, h6, h7, h8⟩, hk =>
    ⟨b, pl, pr, Ml, Mr, h1, hk b h3 _ h2, h3, h4, h5, h6, h7.blk fun k hm => hk k (h4 k hm).1, h8.blk fun k hm => hk k (h5 k hm).1⟩
theorem IsT.keep {w w2 : World} {T : TT} {M : Nat → Prop} {pv : Value} (h : IsT dc w M pv T) (hs : Same M w w2) : IsT dc w2 M pv T :=
  h.blk fun k hm _ hb => (hs.2 k hm hb.lt).trans hb
theorem IsT.lt {w : World} : ∀ {T : TT} {M : Nat → Prop} {pv : Value}, IsT dc w M pv T → IsT dc w (fun k => M k ∧ k < w.heap.size) pv T
  | .nil, _, _, h => h
  | .node .., _, _, ⟨b, pl, pr, _, _, h1, h2, h3, h4, h5, h6, h7, h8⟩ =>
    ⟨b, pl, pr, _, _, h1, h2, ⟨h3, h2.lt⟩, fun k hk => ⟨⟨(h4 k hk.1).1, hk.2⟩, (h4 k hk.1).2⟩, fun k hk => ⟨⟨(h5 k hk.1).1, hk.2⟩, (h5 k hk.1).2⟩, fun k hk hr => h6 k hk.1 hr.1, h7.lt, h8.lt⟩
theorem IsT.form {w : World} {T : TT} {M : Nat → Prop} {pv : Value} (h : IsT dc w M pv T) : (pv = .pointer none ∧ T = .nil) ∨ ∃ b, pv = .pointer (some ⟨b, 0, none⟩) ∧ M b ∧ T ≠ .nil := by
  cases T with
  | nil => exact .inl ⟨h, rfl⟩
  | node p v g l r =>
    obtain ⟨b, pl, pr, Ml, Mr, h1, h2, h3, _⟩ := h
    exact .inr ⟨b, h1, h3, fun e => by cases e⟩
def Wand (dc : Int → Array Value) (w : World) (Mo : Nat → Prop) (tb hb ho : Nat) (pv0 : Value) (f : TT → TT) : Prop :=
  ∀ (w2 : World) (M2 : Nat → Prop) (pv2 : Value) (S2 : TT), (∀ k, Mo k → ∀ cs, Blk w k 192 cs → Blk w2 k 192 (if k = hb then cs.setIfInBounds ho pv2 else cs)) →
    IsT dc w2 M2 pv2 S2 → (∀ k, M2 k → ¬ Mo k) → IsT dc w2 (fun k => Mo k ∨ M2 k) (if hb = tb then pv2 else pv0) (f S2)
theorem Wand.start (w : World) (tb : Nat) (pv0 : Value) : Wand dc w (fun _ => False) tb tb 0 pv0 id := fun w2 M2 pv2 S2 _ h _ => by
  rw [if_pos rfl]
  exact h.mono fun k hk => .inr hk
theorem set_same {cs : Array Value} {o : Nat} {v : Value} (h : cs[o]? = some v) : cs.setIfInBounds o v = cs := by
  obtain ⟨hlt, e⟩ := Array.getElem?_eq_some_iff.1 h
  apply Array.ext
  · simp
  · intro i h1 h2
    rw [Array.getElem_setIfInBounds]
    split
    · rename_i he
      subst he; exact e.symm
    · rfl
theorem Wand.down (hd : Dc dc) {w : World} {Mo Ml Mr : Nat → Prop} {tb hb ho b : Nat} {pv0 pl pr : Value} {f : TT → TT} {q : Bs} {x : Int} {h : Bool} {l r : TT} (W : Wand dc w Mo tb hb ho pv0 f)
    (hole : hb ≠ tb → ∃ cs, Blk w hb 192 cs ∧ cs[ho]? = some (.pointer (some ⟨b, 0, none⟩))) (root : hb = tb → pv0 = .pointer (some ⟨b, 0, none⟩))
    (hbt : b ≠ tb) (hbo : ¬ Mo b) (hto : ¬ Mo tb) (hk : Blk w b 192 (ndC dc q x h pl pr)) (dir : Bool) (hl : dir = false → IsT dc w Mr pr r) (hr : dir = true → IsT dc w Ml pl l)
    (dl : ∀ k, Ml k → ¬ Mo k ∧ k ≠ b) (dr : ∀ k, Mr k → ¬ Mo k ∧ k ≠ b) :
    Wand dc w (fun k => Mo k ∨ k = b ∨ (if dir then Ml k else Mr k)) tb b (if dir then 261 else 260) pv0 (fun X => f (if dir then .node q x h l X else .node q x h X r)) := by
  intro w2 M2 pv2 S2 h1 h2 h3
  have hsame : ∀ k, Mo k → ∀ cs, Blk w k 192 cs → Blk w2 k 192 cs := fun k hm cs hc => by
    have := h1 k (.inl hm) cs hc
    rwa [if_neg (show ¬ k = b from fun e => hbo (by rw [← e]; exact hm))] at this
  have hb2 := h1 b (.inr (.inl rfl)) _ hk
  rw [if_pos rfl] at hb2
  have key : IsT dc w2 (fun k => M2 k ∨ k = b ∨ (if dir then Ml k else Mr k)) (.pointer (some ⟨b, 0, none⟩)) (if dir then .node q x h l S2 else .node q x h S2 r) := by
    cases dir
    · have hb2 : Blk w2 b 192 ((ndC dc q x h pl pr).setIfInBounds 260 pv2) := hb2
      rw [show (ndC dc q x h pl pr).setIfInBounds 260 pv2 = ndC dc q x h pv2 pr from ndX_setL (hd.sz x) pv2] at hb2
      refine ⟨b, pv2, pr, M2, Mr, rfl, hb2, .inr (.inl rfl), fun k hk => ⟨.inl hk, fun e => h3 k hk (.inr (.inl e))⟩, fun k hk => ⟨.inr (.inr hk), (dr k hk).2⟩, fun k hk hr => h3 k hk (.inr (.inr hr)), h2, (hl rfl).blk fun k hm cs hc => ?_⟩
      have := h1 k (.inr (.inr hm)) cs hc
      rwa [if_neg (dr k hm).2] at this
    · have hb2 : Blk w2 b 192 ((ndC dc q x h pl pr).setIfInBounds 261 pv2) := hb2
      rw [show (ndC dc q x h pl pr).setIfInBounds 261 pv2 = ndC dc q x h pl pv2 from ndX_setR (hd.sz x) pv2] at hb2
      refine ⟨b, pl, pv2, Ml, M2, rfl, hb2, .inr (.inl rfl), fun k hk => ⟨.inr (.inr hk), (dl k hk).2⟩, fun k hk => ⟨.inl hk, fun e => h3 k hk (.inr (.inl e))⟩, fun k hk hr => h3 k hr (.inr (.inr hk)), (hr rfl).blk fun k hm cs hc => ?_, h2⟩
      have := h1 k (.inr (.inr hm)) cs hc
      rwa [if_neg (dl k hm).2] at this
  have := W w2 _ _ _ (fun k hm cs hc => ?_) key (fun k hk hm => ?_)
  · rw [if_neg hbt]
    have e : (if hb = tb then Value.pointer (some ⟨b, 0, none⟩) else pv0) = pv0 := by
      split
      · rename_i e; exact (root e).symm
      · rfl
    rw [e] at this
    refine this.mono fun k hk => ?_
    rcases hk with hk | hk | hk
    · exact .inl (.inl hk)
    · exact .inr hk
    · exact .inl (.inr hk)
  · split
    · rename_i e
      subst e
      obtain ⟨cs2, c1, c2⟩ := hole fun e => hto (by rw [← e]; exact hm)
      have : cs = cs2 := by
        unfold Blk at hc c1
        rw [hc] at c1
        injection c1 with c1
        injection c1
      subst this
      rw [set_same c2]
      exact hsame _ hm _ hc
    · exact hsame k hm cs hc
  · rcases hk with hk | hk | hk
    · exact h3 k hk (.inl hm)
    · exact hbo (by rw [← hk]; exact hm)
    · cases dir
      · exact (dr k hk).1 hm
      · exact (dl k hk).1 hm
structure IsTr (dc : Int → Array Value) (w : World) (M : Nat → Prop) (tb : Nat) (limit : Int) (T : TT) : Prop where
  ex : ∃ pv, Blk w tb 184 #[pv, .int .i64 limit, .int .i64 (T.list.length : Int), .bool true] ∧ IsT dc w (fun k => M k ∧ k ≠ tb) pv T
  mb : M tb
  wf : T.wf []
  lt : ∀ k, M k → k < w.heap.size
theorem IsTr.keep {w w2 : World} {M : Nat → Prop} {tb : Nat} {limit : Int} {T : TT} (h : IsTr dc w M tb limit T) (hs : Same M w w2) : IsTr dc w2 M tb limit T := by
  obtain ⟨pv, h1, h2⟩ := h.ex
  exact ⟨⟨pv, (hs.2 tb h.mb h1.lt).trans h1, h2.keep ⟨hs.1, fun k hk hl => hs.2 k hk.1 hl⟩⟩, h.mb, h.wf, fun k hk => Nat.lt_of_lt_of_le (h.lt k hk) hs.1⟩
end Go.Proofs.YthlommalbkhcjaaGreat
namespace Go.Proofs.YthlommalbkhcjaaGreat
open Go.RowKit
theorem eql_px (a b : Nat) (m n : Int) (w : World) : (binOp .eql 37 (pxV a m) (pxV b n)).run Tryz.prog w = .ok (.bool (decide (a = b ∧ m = n))) w := by
  go_simp
  by_cases h1 : (a : Int) = (b : Int)
  · rw [if_pos h1]
    have h1' : a = b := by omega
    by_cases h2 : m = n
    · rw [if_pos h2]; simp [h1', h2]
    · rw [if_neg h2]; simp [h2]
  · rw [if_neg h1]
    have h1' : ¬ a = b := by omega
    simp [h1']
theorem neq_px (a b : Nat) (m n : Int) (w : World) : (binOp .neq 37 (pxV a m) (pxV b n)).run Tryz.prog w = .ok (.bool (!decide (a = b ∧ m = n))) w := by
  go_simp
  by_cases h1 : (a : Int) = (b : Int)
  · rw [if_pos h1]
    have h1' : a = b := by omega
    by_cases h2 : m = n
    · rw [if_pos h2]; simp [h1', h2]
    · rw [if_neg h2]; simp [h2]
  · rw [if_neg h1]
    have h1' : ¬ a = b := by omega
    simp [h1']
section
variable {w : World} {b o : Nat}
theorem ld_pxB {t : TypeId} {a n : Int} (h : Blk w b t #[.int .u32 a, .int .i64 n]) : (Instr.loadAt 37 (.pointer (some ⟨b, 0, none⟩))).run Tryz.prog w = .ok (.agg #[.int .u32 a, .int .i64 n]) w := by
  have h0 : w.cell? ⟨b, 0, none⟩ = some (.int .u32 a) := h.cell 0
  have h1 : w.cell? ⟨b, 1, none⟩ = some (.int .i64 n) := h.cell 1
  simp [go_sem, h0, h1]
theorem ld_ndP {t : TypeId} {a n : Int} {cs : Array Value} {h : Bool} {l r : Value} (hb : Blk w b t (ndX a n cs h l r)) : (Instr.loadAt 37 (.pointer (some ⟨b, 0, none⟩))).run Tryz.prog w = .ok (.agg #[.int .u32 a, .int .i64 n]) w := by
  have h0 : w.cell? ⟨b, 0, none⟩ = some (.int .u32 a) := (hb.cell 0).trans ndX_a
  have h1 : w.cell? ⟨b, 1, none⟩ = some (.int .i64 n) := (hb.cell 1).trans ndX_n
  simp [go_sem, h0, h1]
theorem ld_ndA {t : TypeId} {a n : Int} {cs : Array Value} {h : Bool} {l r : Value} (hb : Blk w b t (ndX a n cs h l r)) : (Instr.loadAt 35 (.pointer (some ⟨b, 0, none⟩))).run Tryz.prog w = .ok (.int .u32 a) w := by
  have h0 : w.cell? ⟨b, 0, none⟩ = some (.int .u32 a) := (hb.cell 0).trans ndX_a
  simp [go_sem, h0]
theorem ld_ndN {t : TypeId} {a n : Int} {cs : Array Value} {h : Bool} {l r : Value} (hb : Blk w b t (ndX a n cs h l r)) : (Instr.loadAt 3 (.pointer (some ⟨b, 1, none⟩))).run Tryz.prog w = .ok (.int .i64 n) w := by
  have h1 : w.cell? ⟨b, 1, none⟩ = some (.int .i64 n) := (hb.cell 1).trans ndX_n
  simp [go_sem, h1]
theorem ld_ndH {t : TypeId} {a n : Int} {cs : Array Value} {h : Bool} {l r : Value} (hb : Blk w b t (ndX a n cs h l r)) (hc : cs.size = 257) : (Instr.loadAt 4 (.pointer (some ⟨b, 259, none⟩))).run Tryz.prog w = .ok (.bool h) w := by
  have h1 : w.cell? ⟨b, 259, none⟩ = some (.bool h) := (hb.cell 259).trans (ndX_h hc)
  simp [go_sem, h1]
theorem ld_ptN {u : Option Addr} (h : w.cell? ⟨b, o, none⟩ = some (.pointer u)) : (Instr.loadAt 182 (.pointer (some ⟨b, o, none⟩))).run Tryz.prog w = .ok (.pointer u) w := by simp [go_sem, h]
theorem st_ptN {u : Value} (h : w.cell? ⟨b, o, none⟩ = some u) (hf : w.frozen? ⟨b, o, none⟩ = false) (v : Option Addr) : (Instr.storeAt 182 (.pointer (some ⟨b, o, none⟩)) (.pointer v)).run Tryz.prog w = .ok () (w.setCell ⟨b, o, none⟩ (.pointer v)) := by simp [go_sem, h, hf]
theorem ld_itN {z : Int} (h : w.cell? ⟨b, o, none⟩ = some (.int .i64 z)) : (Instr.loadAt 3 (.pointer (some ⟨b, o, none⟩))).run Tryz.prog w = .ok (.int .i64 z) w := by simp [go_sem, h]
theorem st_itN {u : Value} (h : w.cell? ⟨b, o, none⟩ = some u) (hf : w.frozen? ⟨b, o, none⟩ = false) (z : Int) : (Instr.storeAt 3 (.pointer (some ⟨b, o, none⟩)) (.int .i64 z)).run Tryz.prog w = .ok () (w.setCell ⟨b, o, none⟩ (.int .i64 z)) := by simp [go_sem, h, hf]
theorem ld_btN {z : Bool} (h : w.cell? ⟨b, o, none⟩ = some (.bool z)) : (Instr.loadAt 4 (.pointer (some ⟨b, o, none⟩))).run Tryz.prog w = .ok (.bool z) w := by simp [go_sem, h]
theorem st_btN {u : Value} (h : w.cell? ⟨b, o, none⟩ = some u) (hf : w.frozen? ⟨b, o, none⟩ = false) (z : Bool) : (Instr.storeAt 4 (.pointer (some ⟨b, o, none⟩)) (.bool z)).run Tryz.prog w = .ok () (w.setCell ⟨b, o, none⟩ (.bool z)) := by simp [go_sem, h, hf]
theorem ld_wyB {cs : Array Value} (h : Blk w b 41 cs) (hc : cs.size = 257) : (Instr.loadAt 41 (.pointer (some ⟨b, 0, none⟩))).run Tryz.prog w = .ok (.agg cs) w := stc_load Tryz.underlying41 rfl wy_info h hc
theorem st_wyB {cs vs : Array Value} (h : Blk w b 41 cs) (hc : cs.size = 257) (hv : vs.size = 257) (h1 : vs.all (·.oneCell') = true) : (Instr.storeAt 41 (.pointer (some ⟨b, 0, none⟩)) (.agg vs)).run Tryz.prog w = .ok () (w.setCells b 0 vs.toList) := stc_store wy_info h hc hv h1
end
theorem px_info : (Tryz.prog.info? 37).map (·.size) = some 2 := by kernel_rfl
theorem px_alloc (w : World) : (Instr.alloc 37 true (.tuple #[])).run Tryz.prog w = .ok (.pointer (some ⟨w.heap.size, 0, none⟩)) (w.alloc (.cells #[.int .u32 0, .int .i64 0] 37)) := by
  unfold Instr.alloc
  rw [Sem.run_bind, show (zeroValue 37).run Tryz.prog w = .ok (.agg #[.int .u32 0, .int .i64 0]) w by kernel_rfl]
  rfl
theorem bd_fork (w : World) (a n : Int) : (Instr.build 192 #[(0, .agg #[.int .u32 a, .int .i64 n])]).run Tryz.prog w = .ok (.agg (ndX a n wy0 false (.pointer none) (.pointer none))) w := by kernel_rfl
end Go.Proofs.YthlommalbkhcjaaGreat
namespace Go.Proofs.YthlommalbkhcjaaGreat
open Go.RowKit Go.Sort Go.BigFrame
theorem newb_any (limit : Int) (w : World) : Calls Tryz.prog 149 #[.int .i64 limit] w fun e w' => e = .returned (.pointer (some ⟨w.heap.size, 0, none⟩)) ∧ w' = w.alloc (.cells #[.pointer none, .int .i64 (max 0 limit), .int .i64 0, .bool true] 272) := by
  go_enter Tryz.func149, Tryz.ntmps149
  go_wp2
  go_ret
  exact ⟨rfl, rfl⟩
theorem thereb_any (tb : Nat) (a1 a2 a3 : Value) (w : World) (h : Blk w tb 272 #[a1, a2, a3, .bool true]) :
    Calls Tryz.prog 183 #[.pointer (some ⟨tb, 0, none⟩)] w fun e w' => e = .returned (.bool true) ∧ w = w' := by
  have hc : w.cell? ⟨tb, 3, none⟩ = some (.bool true) := h.cell 3
  clear h
  go_enter Tryz.func183, Tryz.ntmps183
  go_wp2
  go_ret
  exact ⟨rfl, rfl⟩
set_option maxHeartbeats 4000000 in
theorem placeb_any (a : Nat) (n : Int) (tb : Nat) (a2 a3 a4 : Value) (w : World) (h : Blk w tb 272 #[.pointer none, a2, a3, a4]) :
    Calls Tryz.prog 184 #[.pointer (some ⟨tb, 0, none⟩), pxV a n] w fun e w' => e = .returned (.pointer (some ⟨tb, 0, none⟩)) ∧ Below w.heap.size w w' := by
  have hb0 : Hid (Below w.heap.size w (w.alloc (.cells #[.int .u32 (a : Int), .int .i64 n] 37))) := Lib.hid ((Below.refl _ _).alloc (Nat.le_refl _) _)
  have hc : (w.alloc (.cells #[.int .u32 (a : Int), .int .i64 n] 37)).cell? ⟨tb, 0, none⟩ = some (.pointer none) := (h.below hb0.out h.lt).cell 0
  clear h
  go_enter Tryz.func184, Tryz.ntmps184
  go_wp2_with fail
  go_step3
  go_wp2_with fail
  go_step3
  go_wp2_with fail
  go_loopg [5] 0 (fun g s5 wr => s5 = .pointer (some ⟨tb, 0, none⟩) ∧ wr = w.alloc (.cells #[.int .u32 (a : Int), .int .i64 n] 37))
  case atStart => exact ⟨rfl, rfl⟩
  case round =>
    obtain ⟨rfl, rfl⟩ := hrel
    go_wp2_with fail
    rw [Exit.noGoto_ret]
    go_ret
    exact ⟨rfl, hb0.out⟩
theorem mayb_yes (a : Nat) (n : Int) (w : World) (ha : a < 2 ^ 32) (h : mayB a n = true) : Calls Tryz.prog 104 #[pxV a n] w fun e w' => e = .returned (.bool true) ∧ Below w.heap.size w w' :=
  (tmay_any a n w ha).mono fun e w' ⟨he, m, hw⟩ => ⟨by rw [he, h], by rw [hw]; exact below_box _ _ _⟩
theorem mayb_no (a : Nat) (n : Int) (w : World) (ha : a < 2 ^ 32) (h : mayB a n = false) : Calls Tryz.prog 104 #[pxV a n] w fun e w' => e = .returned (.bool false) ∧ Below w.heap.size w w' :=
  (tmay_any a n w ha).mono fun e w' ⟨he, m, hw⟩ => ⟨by rw [he, h], by rw [hw]; exact below_box _ _ _⟩
theorem insb_no (a : Nat) (n : Int) (tb : Nat) (a1 a2 a3 : Value) (w : World) (hk : Blk w tb 272 #[a1, a2, a3, .bool true]) (ha : a < 2 ^ 32) (hm : mayB a n = false) :
    Calls Tryz.prog 150 #[.pointer (some ⟨tb, 0, none⟩), pxV a n, .bool true] w fun e w' => e = .returned (.int .i64 2) ∧ Below w.heap.size w w' := by
  have HT := Lib.hid (fun (o : Obj) => thereb_any tb _ _ _ (w.alloc o) (hk.alloc o))
  have HM := Lib.hid (fun (wx : World) => mayb_no a n wx ha hm)
  clear hk hm
  go_enter Tryz.func150, Tryz.ntmps150
  go_wp2_with (first | (go_at_call 183; refine (HT.out _).mono ?_; rintro e w' ⟨rfl, rfl⟩) | (go_at_call 104; refine (HM.out _).mono ?_; rintro e w' ⟨rfl, hb⟩))
  go_ret
  exact ⟨rfl, ((Below.refl _ _).alloc (Nat.le_refl _) _).trans (hb.mono (by simp))⟩
theorem drewN_below {B : Nat} {a w : World} (h : Below B a w) (n : Nat) : Below B a (w.drewN n) := ⟨h.os, h.tape, h.output, h.size, h.block⟩
set_option maxRecDepth 20000 in
set_option maxHeartbeats 8000000 in
theorem insb_yes (a : Nat) (n : Int) (tb : Nat) (w : World) (hk : Blk w tb 272 #[.pointer none, .int .i64 1, .int .i64 0, .bool true]) (ha : a < 2 ^ 32) (hm : mayB a n = true) :
    Calls Tryz.prog 150 #[.pointer (some ⟨tb, 0, none⟩), pxV a n, .bool true] w fun e w' => e = .returned (.int .i64 0) ∧ Upd (only tb) w w' := by
  have HT := Lib.hid (fun (o : Obj) => thereb_any tb _ _ _ (w.alloc o) (hk.alloc o))
  have HM := Lib.hid (fun (wx : World) => mayb_yes a n wx ha hm)
  have HPL := Lib.hid (fun (wx : World) (hb : Below w.heap.size w wx) => placeb_any a n tb _ _ _ wx (hk.below hb hk.lt))
  have HK := Lib.hid hk
  have hB0 : Hid (∀ o, Below w.heap.size w (w.alloc o)) := Lib.hid fun o => (Below.refl _ _).alloc (Nat.le_refl _) o
  have htl := hk.lt
  clear hk hm
  go_enter Tryz.func150, Tryz.ntmps150
  go_wp2_with (go_at_call 183; refine (HT.out _).mono ?_; rintro e w' ⟨rfl, rfl⟩)
  refine (HM.out _).mono ?_
  rintro e w2 ⟨rfl, hb2⟩
  have hx2 : Blk w2 w.heap.size 37 #[.int .u32 (a : Int), .int .i64 n] := (Blk.new w _ _).below hb2 (by simp)
  have hb3 : Below w.heap.size w w2 := (hB0.out _).trans (hb2.mono (by simp))
  have x0 : w2.cell? ⟨w.heap.size, 0, none⟩ = some (.int .u32 (a : Int)) := hx2.cell 0
  have x1 : w2.cell? ⟨w.heap.size, 1, none⟩ = some (.int .i64 n) := hx2.cell 1
  have HX := Lib.hid hx2
  have HB3 := Lib.hid hb3
  clear hb2 hx2 hb3
  go_wp2_with fail
  refine (HPL.out w2 HB3.out).mono ?_
  rintro e w4 ⟨rfl, hb4⟩
  have hb5 := HB3.out.trans (hb4.mono HB3.out.size)
  have hk4 := HK.out.below hb5 HK.out.lt
  have t0 : w4.cell? ⟨tb, 0, none⟩ = some (.pointer none) := hk4.cell 0
  have t1 : w4.cell? ⟨tb, 1, none⟩ = some (.int .i64 1) := hk4.cell 1
  have t2 : w4.cell? ⟨tb, 2, none⟩ = some (.int .i64 0) := hk4.cell 2
  have t3 : w4.frozen? ⟨tb, 2, none⟩ = false := hk4.frozen 2
  have HK4 := Lib.hid hk4
  have HX4 := Lib.hid (HX.out.below hb4 HX.out.lt)
  have HB5 := Lib.hid hb5
  clear hb4 hb5 hk4 x0 x1
  go_wp2_with fail
  go_quiet (fail)
  generalize nq = m1
  clear nq
  go_wp2_with fail
  go_quiet (fail)
  generalize nq = m2
  clear nq
  go_wp2_with fail
  have hk5 := (HK4.out.drewN (m1 + m2)).set_ 2 (.int .i64 1)
  have hx5 := (HX4.out.drewN (m1 + m2)).far (p := ⟨tb, 2, none⟩) (by show w.heap.size ≠ tb; omega) (.int .i64 1)
  have hu5 : Upd (only tb) w ((w4.drewN (m1 + m2)).setCell ⟨tb, 2, none⟩ (.int .i64 1)) := (Upd.ofBelow (drewN_below HB5.out (m1 + m2)) (only tb)).setCell (p := ⟨tb, 2, none⟩) (.inl rfl) _
  generalize (w4.drewN (m1 + m2)).setCell ⟨tb, 2, none⟩ (.int .i64 1) = w5 at hk5 hx5 hu5 ⊢
  have x0 : w5.cell? ⟨w.heap.size, 0, none⟩ = some (.int .u32 (a : Int)) := hx5.cell 0
  have x1 : w5.cell? ⟨w.heap.size, 1, none⟩ = some (.int .i64 n) := hx5.cell 1
  have HK5 := Lib.hid hk5
  have HU5 := Lib.hid hu5
  clear hk5 hx5 hu5 t0 t1 t2 t3
  go_quiet (fail)
  generalize nq = m3
  clear nq
  have hcA : ∀ o, ((w5.drewN m3).alloc o).cell? ⟨tb, 0, none⟩ = some (.pointer none) := fun o => ((HK5.out.drewN m3).alloc o).cell 0
  have hfA : ∀ o, ((w5.drewN m3).alloc o).frozen? ⟨tb, 0, none⟩ = false := fun o => ((HK5.out.drewN m3).alloc o).frozen 0
  go_wp2_with fail
  go_ret
  exact ⟨rfl, ((HU5.out.drewN m3).alloc _).setCell (p := ⟨tb, 0, none⟩) (.inl rfl) _⟩
end Go.Proofs.YthlommalbkhcjaaGreat
