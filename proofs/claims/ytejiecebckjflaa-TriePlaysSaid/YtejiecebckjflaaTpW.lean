/- The walk of TriePlays. -/
import Derived.Test.YtejiecebckjflaaTpL
import Derived.Test.YtejiecebckjflaaTbP
import Derived.Deep.LoopGhost
import Derived.BigGuard
namespace Go.Proofs.Ytejiecebckjflaa
open Go.RowKit Go.Sort Go.BigFrame

/-- A pair that stands by, in J's blocks. -/
def CpOf (lim : Int) (w : World) (J : Nat → Prop) (w5 : World) (cb vb : Nat) (U : TT) : Prop := ∃ MB NB, IsTr w5 MB cb (max 0 lim) U ∧ IsTab w5 NB vb lim U.list ∧ (∀ k, MB k → J k) ∧ (∀ k, NB k → J k) ∧ (∀ k, MB k → ¬ NB k) ∧ (∀ k, MB k → w.heap.size ≤ k) ∧ ∀ k, NB k → w.heap.size ≤ k
section
variable {lim : Int} {w w5 wx wy : World} {J : Nat → Prop} {tb db cb vb : Nat} {T U : TT}
theorem HU.wf (h : HU lim w J w5 tb db T T.list wx) : T.wf [] := by obtain ⟨M, N, h1, _⟩ := h.ex; exact h1.wf
theorem cp_now (h : HU lim w J w5 tb db T T.list wx) (hc : CpOf lim w J w5 cb vb U) : ∃ MB NB, IsTr wx MB cb (max 0 lim) U ∧ IsTab wx NB vb lim U.list ∧ (∀ k, MB k → J k) ∧ (∀ k, NB k → J k) ∧ (∀ k, MB k → ¬ NB k) ∧ (∀ k, MB k → w.heap.size ≤ k) ∧ ∀ k, NB k → w.heap.size ≤ k := by
  obtain ⟨MB, NB, h1, h2, h3, h4, h5, h6, h7⟩ := hc
  exact ⟨MB, NB, h1.keep ⟨h.same.1, fun k hk hl => h.same.2 k (h3 k hk) hl⟩, h2.keep ⟨h.same.1, fun k hk hl => h.same.2 k (h4 k hk) hl⟩, h3, h4, h5, h6, h7⟩
theorem hu_swap (h : HU lim w J w5 tb db T T.list wx) (hc : CpOf lim w J w5 cb vb U) : ∃ J2, HU lim w J2 wx cb vb U U.list wx ∧ CpOf lim w J2 wx tb db T := by
  obtain ⟨MB, NB, g1, g2, g3, g4, g5, g6, g7⟩ := cp_now h hc
  obtain ⟨M, N, h1, h2, h3, h4, h5, h6⟩ := h.ex
  refine ⟨fun k => M k ∨ N k, ⟨⟨MB, NB, g1, g2, g6, g7, g5, fun k hk => ⟨fun hb => ?_, fun hb => ?_⟩⟩, h.below, Same.refl _ _, fun k hk => hk.elim (h1.lt k) (h2.lt k)⟩, M, N, h1, h2, fun k => .inl, fun k => .inr, h5, h3, h4⟩
  · have := h6 k (g3 k hb); exact hk.elim this.1 this.2
  · have := h6 k (g4 k hb); exact hk.elim this.1 this.2
theorem hu_looks (h : HU lim w J w5 tb db T T.list wx) (x : Px) (a : Nat) (lv : Int) (hx : x.a < 2 ^ 32) (ha : a < 2 ^ 32) (hsm : T.list.length ≤ 100000) :
    Calls Try.prog 29 #[.pointer (some ⟨tb, 0, none⟩), .pointer (some ⟨db, 0, none⟩), pxV x.a x.n, .int .u32 (a : Int), .int .i64 lv] wx fun e w' => e = .returned (.bool true) ∧ Below wx.heap.size wx w' := by
  obtain ⟨M, N, h1, h2, _⟩ := h.ex
  exact looks_any x a lv tb db M N _ lim T wx h1 h2 hx ha hsm
theorem cp_looks (h : HU lim w J w5 tb db T T.list wx) (hc : CpOf lim w J w5 cb vb U) (x : Px) (a : Nat) (lv : Int) (hx : x.a < 2 ^ 32) (ha : a < 2 ^ 32) (hsm : U.list.length ≤ 100000) :
    Calls Try.prog 29 #[.pointer (some ⟨cb, 0, none⟩), .pointer (some ⟨vb, 0, none⟩), pxV x.a x.n, .int .u32 (a : Int), .int .i64 lv] wx fun e w' => e = .returned (.bool true) ∧ Below wx.heap.size wx w' := by
  obtain ⟨MB, NB, g1, g2, _⟩ := cp_now h hc
  exact looks_any x a lv cb vb MB NB _ lim U wx g1 g2 hx ha hsm
theorem hu_copy (h : HU lim w J w5 tb db T T.list wx) : Calls Try.prog 27 #[.pointer (some ⟨tb, 0, none⟩)] wx (TrCp wx (max 0 lim) T) := by
  obtain ⟨M, N, h1, h2, _⟩ := h.ex
  exact copy_any tb M _ T wx h1
theorem hu_tcopy (h : HU lim w J w5 tb db T T.list wx) (hsm : T.list.length ≤ 100000) : Calls Try.prog 28 #[.pointer (some ⟨db, 0, none⟩)] wx fun e w' => ∃ u, e = .returned u ∧ CpTab wx.heap.size lim T.list u w' ∧ Below wx.heap.size wx w' := by
  obtain ⟨M, N, h1, h2, _⟩ := h.ex
  exact tabcopy_any db N lim T.list wx h2 (by omega)
theorem hu_copied {wz : World} {M : Nat → Prop} {N : Nat → Prop} (h : HU lim w J w5 tb db T T.list wx) (h1 : IsTr wy M cb (max 0 lim) T) (hb1 : Below wx.heap.size wx wy) (hM : ∀ k, M k → wx.heap.size ≤ k) (h2 : IsTab wz N vb lim T.list) (hb2 : Below wy.heap.size wy wz) (hN : ∀ k, N k → wy.heap.size ≤ k) :
    ∃ J2 w6, HU lim w J2 w6 tb db T T.list wz ∧ CpOf lim w J2 w6 cb vb T := by
  have hz := h.later (hb1.trans (hb2.mono hb1.size))
  obtain ⟨A, B, a1, a2, a3, a4, a5, a6⟩ := hz.ex
  obtain ⟨A0, B0, b1, b2, b3, b4, b5, b6⟩ := h.ex
  have s1 := hb1.size
  have s2 := hb2.size
  have s0 := h.below.size
  refine ⟨fun k => M k ∨ N k, wz, ⟨⟨A0, B0, b1.keep ⟨Nat.le_trans s1 s2, fun k hk hl => ((hb2.block k (Nat.lt_of_lt_of_le (b1.lt k hk) s1)).trans (hb1.block k (b1.lt k hk)))⟩, b2.below (hb1.trans (hb2.mono s1)), b3, b4, b5, fun k hk => ?_⟩, hz.below, Same.refl _ _, fun k hk => ?_⟩, M, N, ?_, h2, fun k => .inl, fun k => .inr, fun k hm hn => ?_, fun k hk => Nat.le_trans s0 (hM k hk), fun k hk => Nat.le_trans (Nat.le_trans s0 s1) (hN k hk)⟩
  · refine ⟨fun hA => ?_, fun hB => ?_⟩
    · have := b1.lt k hA
      rcases hk with hk | hk
      · have := hM k hk; omega
      · have := hN k hk; omega
    · have := b2.lt k hB
      rcases hk with hk | hk
      · have := hM k hk; omega
      · have := hN k hk; omega
  · rcases hk with hk | hk
    · have := h1.lt k hk; omega
    · exact h2.lt k hk
  · exact h1.keep ⟨s2, fun k hk hl => hb2.block k hl⟩
  · have := h1.lt k hm; have := hN k hn; omega
end
def stepU (lim : Int) (x : AcT) (T : TT) : TT := if x.del = true then (delP x.p T).2 else (insP (max 0 lim) x.p x.v T).2
theorem stepU_len {lim : Int} {T : TT} (x : AcT) (wf : T.wf []) (ha : x.p.a < 2 ^ 32) : (stepU lim x T).list.length ≤ T.list.length + 1 := by
  unfold stepU
  split
  · exact Nat.le_succ_of_le (delP_len wf)
  · exact insP_len wf ha
theorem du_any {lim : Int} {w w5 : World} {J : Nat → Prop} {tb db : Nat} {T : TT} (x : AcT) (wx : World) (h : HU lim w J w5 tb db T T.list wx) (ha : x.p.a < 2 ^ 32) (hsm : T.list.length ≤ 1000000) :
    Calls Try.prog 20 #[.pointer (some ⟨tb, 0, none⟩), .pointer (some ⟨db, 0, none⟩), .agg #[.bool x.del, .int .u32 (x.p.a : Int), .int .i64 x.p.n, .int .i64 x.v]] wx fun e w' => e = .returned (.bool true) ∧ HU lim w J w5 tb db (stepU lim x T) (stepU lim x T).list w' := by
  unfold stepU
  cases hd : x.del with
  | true => exact duDel_any x.p x.v wx h ha hsm
  | false => exact duIns_any x.p x.v wx h ha hsm
theorem hu_new (lim : Int) (w : World) : HU lim w (fun _ => False) w w.heap.size (w.heap.size + 1) .nil [] ((w.alloc (.cells #[.pointer none, .int .i64 (max 0 lim), .int .i64 0, .bool true] 71)).alloc (.cells #[.slice none 0 0, .int .i64 lim] 48)) := by
  have hb1 : Below w.heap.size w (w.alloc (.cells #[.pointer none, .int .i64 (max 0 lim), .int .i64 0, .bool true] 71)) := (Below.refl _ _).alloc (Nat.le_refl _) _
  have hk1 : Blk (w.alloc (.cells #[.pointer none, .int .i64 (max 0 lim), .int .i64 0, .bool true] 71)) w.heap.size 71 #[.pointer none, .int .i64 (max 0 lim), .int .i64 0, .bool true] := Blk.new _ _ _
  have hk2 := Blk.new (w.alloc (.cells #[.pointer none, .int .i64 (max 0 lim), .int .i64 0, .bool true] 71)) 48 #[.slice none 0 0, .int .i64 lim]
  rw [World.size_alloc] at hk2
  refine ⟨⟨fun k => k = w.heap.size, fun k => k = w.heap.size + 1, ⟨⟨.pointer none, hk1.alloc _, rfl⟩, rfl, trivial, fun k hk => by rw [hk]; simp; omega⟩, ⟨⟨.slice none 0 0, hk2, World.ownsRow_nil _ _ _ _, fun g hg => by cases hg⟩, rfl, List.Pairwise.nil, (fun e he => by cases he), fun k hk => by rw [hk]; simp⟩, fun k hk => by omega, fun k hk => by omega, fun k hk hn => by omega, fun k hk => hk.elim⟩, hb1.alloc (by simp) _, ⟨by simp; omega, fun k hk _ => hk.elim⟩, fun k hk => hk.elim⟩
end Go.Proofs.Ytejiecebckjflaa
