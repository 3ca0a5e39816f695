/- Layer 12: a core as a whole. -/
import Derived.Test.YtahdjfegihnolaaLzU
import Derived.Test.YtahdjfegihnolaaLzW
import Derived.Test.YtahdjfegihnolaaLwA
import Derived.Test.YtahdjfegihnolaaLwB
import Derived.Test.YtahdjfegihnolaaLwC
namespace Go.Proofs.Ytahdjfegihnolaa
open Go.RowKit Go.Sort
theorem do_room (c : Lc) (e : Ev) : (doF c e).1.room = c.room := by
  unfold doF
  split
  · rfl
  · split <;> rfl
/-- A core made since w0; M: its blocks. -/
structure Core (w0 wx : World) (M : Nat → Prop) (cb mb : Nat) (S : Lc) : Prop where
  ex : ∃ ov G, CoM wx cb mb ov S.room S.pc G ∧ G.map (·.x) = S.all ∧ ∀ b, M b ↔ CoMut cb mb G b
  ok : LcOk S
  own : ∀ b, M b → w0.heap.size ≤ b
  bel : Below w0.heap.size w0 wx
section
variable {w0 wx wy : World} {M : Nat → Prop} {cb mb : Nat} {S : Lc}
theorem Core.lt (h : Core w0 wx M cb mb S) : ∀ b, M b → b < wx.heap.size := by
  obtain ⟨ov, G, h1, h2, h3⟩ := h.ex
  exact fun b hb => h1.lt b ((h3 b).1 hb)
theorem Core.apart (h : Core w0 wx M cb mb S) {k : Nat} {t : TypeId} {cs : Array Value} (hb : Blk wx k t cs) (h1 : t ≠ 81) (h2 : t ≠ 87) : ¬ M k := by
  obtain ⟨ov, G, g1, g2, g3⟩ := h.ex
  intro hM
  rcases (g3 k).1 hM with e | e | ⟨g, hg, e⟩
  · subst e
    exact hb.ne_ g1.blk h1 rfl
  · subst e
    obtain ⟨F, m⟩ := g1.map
    obtain ⟨D, ⟨es, cc, q1, _⟩, _⟩ := m.map
    unfold Blk at hb
    rw [q1] at hb
    cases hb
  · subst e
    exact hb.ne_ (g1.en g hg) h2 rfl
theorem Core.later (h : Core w0 wx M cb mb S) (hb : Below wx.heap.size wx wy) : Core w0 wy M cb mb S := by
  obtain ⟨ov, G, h1, h2, h3⟩ := h.ex
  exact ⟨⟨ov, G, h1.below hb, h2, h3⟩, h.ok, h.own, h.bel.trans (hb.mono h.bel.size)⟩
theorem Core.keep (h : Core w0 wx M cb mb S) {U : Nat → Prop} (hu : Upd U wx wy) (hd : ∀ b, U b → ¬ M b) (hU : ∀ b, U b → w0.heap.size ≤ b) : Core w0 wy M cb mb S := by
  obtain ⟨ov, G, h1, h2, h3⟩ := h.ex
  exact ⟨⟨ov, G, h1.same (hu.same fun b hb hm => hd b hb ((h3 b).2 hm)), h2, h3⟩, h.ok, h.own, h.bel.trans (hu.below hU h.bel.size)⟩
/-- What an event leaves. -/
def DoneC (w0 wx : World) (M : Nat → Prop) (cb mb : Nat) (S : Lc) (e : Ev) (w' : World) (v : Value) : Prop :=
  ∃ M', OutM w' wx.heap.size v (doF S e).2.1 ∧ Core w0 w' M' cb mb (doF S e).1 ∧ (∀ b, M' b → M b ∨ wx.heap.size ≤ b) ∧ Upd M wx w'
theorem core_do (h : Core w0 wx M cb mb S) (e : Ev) (hp : e.p.1 < 2 ^ 32) :
    Calls Try.prog 12 #[.pointer (some ⟨cb, 0, none⟩), .agg #[.int .i64 e.kind, .int .i64 e.port, .int .i64 e.cost, .int .u32 (e.p.1 : Int), .int .i64 e.p.2, .int .i64 e.dist]] wx
      fun en w' => ∃ v, en = .returned (.tuple #[v, .int .i64 (((doF S e).2.2 : Nat) : Int)]) ∧ DoneC w0 wx M cb mb S e w' v := by
  obtain ⟨ov, G, h1, h2, h3⟩ := h.ex
  have hok := h.ok
  have hS : (⟨S.room, S.pc, G.map (·.x)⟩ : Lc) = S := by rw [h2]
  refine (do_any h1 (by rw [hS]; exact hok) e hp).mono ?_
  rintro en w' ⟨v, G', ov', rfl, ho, hc, hx, hold, hu⟩
  rw [hS] at ho hc hx ⊢
  have hu' : Upd M wx w' := hu.mono fun k hk => .inl ((h3 k).2 hk)
  refine ⟨v, rfl, CoMut cb mb G', ho, ⟨⟨ov', G', by rw [do_room]; exact hc, hx, fun b => Iff.rfl⟩, do_ok hok e, ?_, h.bel.trans (hu'.below h.own h.bel.size)⟩, ?_, hu'⟩
  · rintro b (e1 | e1 | ⟨g, hg, e1⟩)
    · exact h.own b ((h3 b).2 (.inl e1))
    · exact h.own b ((h3 b).2 (.inr (.inl e1)))
    · rcases hold g hg with ⟨a, ha, e2⟩ | e2
      · exact h.own b ((h3 b).2 (.inr (.inr ⟨a, ha, e1.trans e2⟩)))
      · rw [e1]; exact Nat.le_trans h.bel.size e2
  · rintro b (e1 | e1 | ⟨g, hg, e1⟩)
    · exact .inl ((h3 b).2 (.inl e1))
    · exact .inl ((h3 b).2 (.inr (.inl e1)))
    · rcases hold g hg with ⟨a, ha, e2⟩ | e2
      · exact .inl ((h3 b).2 (.inr (.inr ⟨a, ha, e1.trans e2⟩)))
      · exact .inr (by rw [e1]; exact e2)
theorem Core.mayx (h : Core w0 wx M cb mb S) : ∀ x ∈ S.all, mayP x.p = true ∧ x.p.1 < 2 ^ 32 := fun x hx => by
  obtain ⟨ov, G, h1, h2, h3⟩ := h.ex
  rw [← h2] at hx
  obtain ⟨g, hg, rfl⟩ := List.mem_map.1 hx
  exact h1.may g hg
theorem Core.said (h : Core w0 wx M cb mb S) : ∀ x ∈ S.all, ∀ q, 0 ≤ x.said q ∧ x.said q ≤ 255 := fun x hx q => (h.ok.e x hx).s q
theorem core_routes (h : Core w0 wx M cb mb S) : Calls Try.prog 13 #[.pointer (some ⟨cb, 0, none⟩)] wx fun e w' => ∃ v, e = .returned v ∧ RtM w' wx.heap.size v S.pc S.all ∧ Below wx.heap.size wx w' := by
  obtain ⟨ov, G, h1, h2, h3⟩ := h.ex
  have := routes_any h1 (fun g hg => h.said g.x (by rw [← h2]; exact List.mem_map_of_mem hg)) h.ok.pc.b
  rwa [h2] at this
/-- What Entry answers. -/
def EnF (S : Lc) (p : Pf) : Value := match findE S.all p with
  | none => .tuple #[.agg viZ, .bool false]
  | some x => .tuple #[.agg (viC S.pc x), .bool true]
theorem core_entry (h : Core w0 wx M cb mb S) {p : Pf} (hp : pfOk p) : Calls Try.prog 14 #[.pointer (some ⟨cb, 0, none⟩), .agg #[.int .u32 (p.1 : Int), .int .i64 p.2]] wx fun e w' => e = .returned (EnF S p) ∧ Below wx.heap.size wx w' := by
  obtain ⟨ov, G, h1, h2, h3⟩ := h.ex
  have := entry_any h1 hp (fun g hg => h.said g.x (by rw [← h2]; exact List.mem_map_of_mem hg)) h.ok.pc.b
  have e : EnV S.pc G p = EnF S p := by
    unfold EnV EnF
    rw [← h2, ← findP_x]
    cases findP G p <;> rfl
  rwa [e] at this
theorem core_up (h : Core w0 wx M cb mb S) (po : Int) : Calls Try.prog 15 #[.pointer (some ⟨cb, 0, none⟩), .int .i64 po] wx fun e w' => e = .returned (.tuple #[.int .i64 (upsR S.pc po).1, .bool (upsR S.pc po).2]) ∧ wx = w' := by
  obtain ⟨ov, G, h1, h2, h3⟩ := h.ex
  exact up_any h1.blk po
theorem core_passive (h : Core w0 wx M cb mb S) : Calls Try.prog 17 #[.pointer (some ⟨cb, 0, none⟩)] wx fun e w' => e = .returned (.bool (pasF S.all)) ∧ Below wx.heap.size wx w' := by
  obtain ⟨ov, G, h1, h2, h3⟩ := h.ex
  have := passive_any h1
  rwa [h2] at this
end
/-- What New leaves. -/
def MadeC (w : World) (room : Int) (l : List Pf) (e : Ending) (w' : World) : Prop := match newF room l with
  | none => e = .returned (.tuple #[.pointer none, .int .i64 2]) ∧ Below w.heap.size w w'
  | some all => ∃ cb mb M, e = .returned (.tuple #[.pointer (some ⟨cb, 0, none⟩), .int .i64 0]) ∧ Core w w' M cb mb ⟨room, pc0, all⟩
theorem core_new (room : Int) (A : Option Addr) (n cp : Nat) (l : List Pf) (w : World) (hr : Reads w (fun k => k < w.heap.size) 2 A n (flatP l)) (hl : l.length = n) (hp : ∀ p ∈ l, p.1 < 2 ^ 32) :
    Calls Try.prog 11 #[.int .i64 room, .slice A n cp] w (MadeC w room l) := by
  refine (lnew_any room A n cp l w hr hl hp).mono fun e w' h => ?_
  unfold NewPost at h
  unfold MadeC
  cases hn : newF room l with
  | none => rw [hn] at h; exact h
  | some all =>
    rw [hn] at h
    obtain ⟨cb, mb, G, h1, h2, h3, h4, h5⟩ := h
    exact ⟨cb, mb, CoMut cb mb G, h1, ⟨_, G, h2, h3, fun b => Iff.rfl⟩, (newF_ok hn).1, h5, h4⟩
/-- An entry that is there. -/
theorem find_sorted {l : List Le} (hs : sortedL l) {x : Le} (hx : x ∈ l) : findE l x.p = some x := by
  cases hf : findE l x.p with
  | none => exact absurd rfl (find_none hf x hx)
  | some y =>
    obtain ⟨h1, h2⟩ := find_mem hf
    unfold sortedL at hs
    induction l with
    | nil => cases hx
    | cons a l ih =>
      rw [List.map_cons, List.pairwise_cons] at hs
      have hn : ∀ z ∈ l, z.p ≠ a.p := fun z hz e => lessP_irrefl a.p (by have := hs.1 z.p (List.mem_map_of_mem hz); rwa [e] at this)
      rcases List.mem_cons.1 hx with rfl | hx'
      · rcases List.mem_cons.1 h1 with rfl | h1'
        · rfl
        · exact absurd h2 (hn y h1')
      · rcases List.mem_cons.1 h1 with rfl | h1'
        · exact absurd h2.symm (hn x hx')
        · refine ih hs.2 hx' ?_ h1'
          unfold findE at hf ⊢
          rw [List.find?_cons] at hf
          have : (a.p == x.p) = false := by rw [beq_eq_false_iff_ne]; exact fun e => hn x hx' e.symm
          rw [this] at hf
          exact hf
end Go.Proofs.Ytahdjfegihnolaa
