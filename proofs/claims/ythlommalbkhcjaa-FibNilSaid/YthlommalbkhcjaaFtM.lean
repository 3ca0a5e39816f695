/- Tries of ways: what they are in memory. -/
import Derived.Test.YthlommalbkhcjaaFtA
namespace Go.Proofs.Ythlommalbkhcjaa
open Go.RowKit

/-- A node's cells. -/
def ndC (dc : Int → Array Value) (p : Bs) (v : Int) (h : Bool) (l r : Value) : Array Value := ndX (padB p : Int) (p.length : Int) (dc v) h l r
/-- The value pv is the tree T, of blocks of M. -/
def IsT (dc : Int → Array Value) (w : World) : (Nat → Prop) → Value → TT → Prop
  | _, pv, .nil => pv = .pointer none
  | M, pv, .node p v h l r => ∃ (b : Nat) (pl pr : Value) (Ml Mr : Nat → Prop), pv = .pointer (some ⟨b, 0, none⟩) ∧ Blk w b 110 (ndC dc p v h pl pr) ∧ M b ∧ (∀ k, Ml k → M k ∧ k ≠ b) ∧ (∀ k, Mr k → M k ∧ k ≠ b) ∧ (∀ k, Ml k → ¬ Mr k) ∧ IsT dc w Ml pl l ∧ IsT dc w Mr pr r
variable {dc : Int → Array Value}
theorem IsT.mono {w : World} : ∀ {T : TT} {M N : Nat → Prop} {pv : Value}, IsT dc w M pv T → (∀ k, M k → N k) → IsT dc w N pv T
  | .nil, _, _, _, h, _ => h
  | .node .., _, _, _, ⟨b, pl, pr, Ml, Mr, h1, h2, h3, h4, h5, h6, h7, h8⟩, hm =>
    ⟨b, pl, pr, Ml, Mr, h1, h2, hm b h3, fun k hk => ⟨hm k (h4 k hk).1, (h4 k hk).2⟩, fun k hk => ⟨hm k (h5 k hk).1, (h5 k hk).2⟩, h6, h7, h8⟩
/-- Its blocks' cells are as they were. -/
theorem IsT.blk {w w2 : World} : ∀ {T : TT} {M : Nat → Prop} {pv : Value}, IsT dc w M pv T → (∀ k, M k → ∀ cs, Blk w k 110 cs → Blk w2 k 110 cs) → IsT dc w2 M pv T
  | .nil, _, _, h, _ => h
  | .node .., _, _, ⟨b, pl, pr, Ml, Mr, h1, h2, h3, h4, h5, h6, h7, h8⟩, hk =>
    ⟨b, pl, pr, Ml, Mr, h1, hk b h3 _ h2, h3, h4, h5, h6, h7.blk fun k hm => hk k (h4 k hm).1, h8.blk fun k hm => hk k (h5 k hm).1⟩
theorem IsT.keep {w w2 : World} {T : TT} {M : Nat → Prop} {pv : Value} (h : IsT dc w M pv T) (hs : Same M w w2) : IsT dc w2 M pv T :=
  h.blk fun k hm _ hb => (hs.2 k hm hb.lt).trans hb
/-- No more than the blocks that are there. -/
theorem IsT.lt {w : World} : ∀ {T : TT} {M : Nat → Prop} {pv : Value}, IsT dc w M pv T → IsT dc w (fun k => M k ∧ k < w.heap.size) pv T
  | .nil, _, _, h => h
  | .node .., _, _, ⟨b, pl, pr, _, _, h1, h2, h3, h4, h5, h6, h7, h8⟩ =>
    ⟨b, pl, pr, _, _, h1, h2, ⟨h3, h2.lt⟩, fun k hk => ⟨⟨(h4 k hk.1).1, hk.2⟩, (h4 k hk.1).2⟩, fun k hk => ⟨⟨(h5 k hk.1).1, hk.2⟩, (h5 k hk.1).2⟩, fun k hk hr => h6 k hk.1 hr.1, h7.lt, h8.lt⟩
theorem IsT.form {w : World} {T : TT} {M : Nat → Prop} {pv : Value} (h : IsT dc w M pv T) : (pv = .pointer none ∧ T = .nil) ∨ ∃ b, pv = .pointer (some ⟨b, 0, none⟩) ∧ M b ∧ T ≠ .nil := by
  cases T with
  | nil => exact .inl ⟨h, rfl⟩
  | node p v g l r =>
    obtain ⟨b, pl, pr, Ml, Mr, h1, h2, h3, _⟩ := h
    exact .inr ⟨b, h1, h3, fun e => by cases e⟩

/-- From the hole (hb, ho) up: whatever tree is laid there, the whole is f of it. -/
def Wand (dc : Int → Array Value) (w : World) (Mo : Nat → Prop) (tb hb ho : Nat) (pv0 : Value) (f : TT → TT) : Prop :=
  ∀ (w2 : World) (M2 : Nat → Prop) (pv2 : Value) (S2 : TT), (∀ k, Mo k → ∀ cs, Blk w k 110 cs → Blk w2 k 110 (if k = hb then cs.setIfInBounds ho pv2 else cs)) →
    IsT dc w2 M2 pv2 S2 → (∀ k, M2 k → ¬ Mo k) → IsT dc w2 (fun k => Mo k ∨ M2 k) (if hb = tb then pv2 else pv0) (f S2)
theorem Wand.start (w : World) (tb : Nat) (pv0 : Value) : Wand dc w (fun _ => False) tb tb 0 pv0 id := fun w2 M2 pv2 S2 _ h _ => by
  rw [if_pos rfl]
  exact h.mono fun k hk => .inr hk
theorem set_same {cs : Array Value} {o : Nat} {v : Value} (h : cs[o]? = some v) : cs.setIfInBounds o v = cs := by
  obtain ⟨hlt, e⟩ := Array.getElem?_eq_some_iff.1 h
  apply Array.ext
  · simp
  · intro i h1 h2
    rw [Array.getElem_setIfInBounds]
    split
    · rename_i he
      subst he; exact e.symm
    · rfl
/-- One step down. -/
theorem Wand.down (hd : Dc dc) {w : World} {Mo Ml Mr : Nat → Prop} {tb hb ho b : Nat} {pv0 pl pr : Value} {f : TT → TT} {q : Bs} {x : Int} {h : Bool} {l r : TT} (W : Wand dc w Mo tb hb ho pv0 f)
    (hole : hb ≠ tb → ∃ cs, Blk w hb 110 cs ∧ cs[ho]? = some (.pointer (some ⟨b, 0, none⟩))) (root : hb = tb → pv0 = .pointer (some ⟨b, 0, none⟩))
    (hbt : b ≠ tb) (hbo : ¬ Mo b) (hto : ¬ Mo tb) (hk : Blk w b 110 (ndC dc q x h pl pr)) (dir : Bool) (hl : dir = false → IsT dc w Mr pr r) (hr : dir = true → IsT dc w Ml pl l)
    (dl : ∀ k, Ml k → ¬ Mo k ∧ k ≠ b) (dr : ∀ k, Mr k → ¬ Mo k ∧ k ≠ b) :
    Wand dc w (fun k => Mo k ∨ k = b ∨ (if dir then Ml k else Mr k)) tb b (if dir then 261 else 260) pv0 (fun X => f (if dir then .node q x h l X else .node q x h X r)) := by
  intro w2 M2 pv2 S2 h1 h2 h3
  have hsame : ∀ k, Mo k → ∀ cs, Blk w k 110 cs → Blk w2 k 110 cs := fun k hm cs hc => by
    have := h1 k (.inl hm) cs hc
    rwa [if_neg (show ¬ k = b from fun e => hbo (by rw [← e]; exact hm))] at this
  have hb2 := h1 b (.inr (.inl rfl)) _ hk
  rw [if_pos rfl] at hb2
  have key : IsT dc w2 (fun k => M2 k ∨ k = b ∨ (if dir then Ml k else Mr k)) (.pointer (some ⟨b, 0, none⟩)) (if dir then .node q x h l S2 else .node q x h S2 r) := by
    cases dir
    · have hb2 : Blk w2 b 110 ((ndC dc q x h pl pr).setIfInBounds 260 pv2) := hb2
      rw [show (ndC dc q x h pl pr).setIfInBounds 260 pv2 = ndC dc q x h pv2 pr from ndX_setL (hd.sz x) pv2] at hb2
      refine ⟨b, pv2, pr, M2, Mr, rfl, hb2, .inr (.inl rfl), fun k hk => ⟨.inl hk, fun e => h3 k hk (.inr (.inl e))⟩, fun k hk => ⟨.inr (.inr hk), (dr k hk).2⟩, fun k hk hr => h3 k hk (.inr (.inr hr)), h2, (hl rfl).blk fun k hm cs hc => ?_⟩
      have := h1 k (.inr (.inr hm)) cs hc
      rwa [if_neg (dr k hm).2] at this
    · have hb2 : Blk w2 b 110 ((ndC dc q x h pl pr).setIfInBounds 261 pv2) := hb2
      rw [show (ndC dc q x h pl pr).setIfInBounds 261 pv2 = ndC dc q x h pl pv2 from ndX_setR (hd.sz x) pv2] at hb2
      refine ⟨b, pl, pv2, Ml, M2, rfl, hb2, .inr (.inl rfl), fun k hk => ⟨.inr (.inr hk), (dl k hk).2⟩, fun k hk => ⟨.inl hk, fun e => h3 k hk (.inr (.inl e))⟩, fun k hk hr => h3 k hr (.inr (.inr hk)), (hr rfl).blk fun k hm cs hc => ?_, h2⟩
      have := h1 k (.inr (.inr hm)) cs hc
      rwa [if_neg (dl k hm).2] at this
  have := W w2 _ _ _ (fun k hm cs hc => ?_) key (fun k hk hm => ?_)
  · rw [if_neg hbt]
    have e : (if hb = tb then Value.pointer (some ⟨b, 0, none⟩) else pv0) = pv0 := by
      split
      · rename_i e; exact (root e).symm
      · rfl
    rw [e] at this
    refine this.mono fun k hk => ?_
    rcases hk with hk | hk | hk
    · exact .inl (.inl hk)
    · exact .inr hk
    · exact .inl (.inr hk)
  · split
    · rename_i e
      subst e
      obtain ⟨cs2, c1, c2⟩ := hole fun e => hto (by rw [← e]; exact hm)
      have : cs = cs2 := by
        unfold Blk at hc c1
        rw [hc] at c1
        injection c1 with c1
        injection c1
      subst this
      rw [set_same c2]
      exact hsame _ hm _ hc
    · exact hsame k hm cs hc
  · rcases hk with hk | hk | hk
    · exact h3 k hk (.inl hm)
    · exact hbo (by rw [← hk]; exact hm)
    · cases dir
      · exact (dr k hk).1 hm
      · exact (dl k hk).1 hm

/-- Block tb is a trie. -/
structure IsTr (dc : Int → Array Value) (w : World) (M : Nat → Prop) (tb : Nat) (limit : Int) (T : TT) : Prop where
  ex : ∃ pv, Blk w tb 105 #[pv, .int .i64 limit, .int .i64 (T.list.length : Int), .bool true] ∧ IsT dc w (fun k => M k ∧ k ≠ tb) pv T
  mb : M tb
  wf : T.wf []
  lt : ∀ k, M k → k < w.heap.size
theorem IsTr.keep {w w2 : World} {M : Nat → Prop} {tb : Nat} {limit : Int} {T : TT} (h : IsTr dc w M tb limit T) (hs : Same M w w2) : IsTr dc w2 M tb limit T := by
  obtain ⟨pv, h1, h2⟩ := h.ex
  exact ⟨⟨pv, (hs.2 tb h.mb h1.lt).trans h1, h2.keep ⟨hs.1, fun k hk hl => hs.2 k hk.1 hl⟩⟩, h.mb, h.wf, fun k hk => Nat.lt_of_lt_of_le (h.lt k hk) hs.1⟩
end Go.Proofs.Ythlommalbkhcjaa
