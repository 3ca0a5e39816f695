/- Tries: what Insert, Delete and Get do, whatever prefix comes; a trie from which all is deleted. -/
import Derived.Test.YtejiecebckjflaaTrH
import Derived.Test.YtejiecebckjflaaTrN
import Derived.Test.YtejiecebckjflaaTrS
import Derived.Test.YtejiecebckjflaaTrJ
import Derived.Test.YtejiecebckjflaaTrW
import Derived.Test.YtejiecebckjflaaTrG
namespace Go.Proofs.Ytejiecebckjflaa
open Go.RowKit

/-- A prefix, as it comes. -/
structure Px where
  a : Nat
  n : Int
def pB (x : Px) : Bs := bitsB x.a x.n.toNat
def Px.may (x : Px) : Bool := mayB x.a x.n
abbrev Px.V (x : Px) : Value := pxV x.a x.n
theorem pB_may {x : Px} (ha : x.a < 2 ^ 32) (h : x.may = true) : (pB x).length ≤ 32 ∧ padB (pB x) = x.a ∧ ((pB x).length : Int) = x.n := by
  obtain ⟨p, h1, h2, h3⟩ := may_bits ha h
  have e : pB x = p := by
    unfold pB
    rw [← h2, ← h3, Int.toNat_natCast]
    exact bits_pad p h1
  rw [e]
  exact ⟨h1, h2, h3⟩
def insP (lim : Int) (x : Px) (v : Int) (T : TT) : Int × TT := if x.may = true then (if (T.get (pB x)).isSome = true ∨ (T.list.length : Int) < lim then (0, T.ins (pB x) v) else (5, T)) else (2, T)
def delP (x : Px) (T : TT) : Int × TT := if x.may = true then (if (T.get (pB x)).isSome = true then (0, T.del (pB x)) else (6, T)) else (2, T)
def getP (x : Px) (T : TT) : Option Int := if x.may = true then T.get (pB x) else none

def InsP (w : World) (M : Nat → Prop) (tb : Nat) (lim : Int) (c : Int) (T2 : TT) (e : Ending) (w' : World) : Prop := e = .returned (.int .i64 c) ∧ InsYes w M tb lim T2 w'
theorem insYes_below {w w' : World} {M : Nat → Prop} {tb : Nat} {lim : Int} {T : TT} (h : IsTr w M tb lim T) (hb : Below w.heap.size w w') : InsYes w M tb lim T w' :=
  ⟨M, h.keep ⟨hb.size, fun k hm _ => hb.block k (h.lt k hm)⟩, Upd.ofBelow hb _, fun _ hk => .inl hk⟩
theorem ins_any (x : Px) (v : Int) (tb : Nat) (M : Nat → Prop) (lim : Int) (T : TT) (w : World) (h : IsTr w M tb lim T) (ha : x.a < 2 ^ 32) (hsm : T.list.length ≤ 1000000) :
    Calls Try.prog 14 #[.pointer (some ⟨tb, 0, none⟩), x.V, .int .i64 v] w (InsP w M tb lim (insP lim x v T).1 (insP lim x v T).2) := by
  unfold insP
  by_cases hm : x.may = true
  · obtain ⟨p1, p2, p3⟩ := pB_may ha hm
    have h1 := insert_yes (pB x) v tb M lim T w h p1 hsm
    rw [p2, p3] at h1
    refine h1.mono ?_
    rw [if_pos hm]
    rintro e w' (⟨hl, he, hy⟩ | ⟨hn, he, hb⟩)
    · rw [if_pos hl]; exact ⟨he, hy⟩
    · have : ¬ ((T.get (pB x)).isSome = true ∨ (T.list.length : Int) < lim) := by
        rintro (hs | hs)
        · obtain ⟨hg, _⟩ := hn
          rw [hg] at hs; cases hs
        · obtain ⟨_, hg⟩ := hn
          omega
      rw [if_neg this]
      exact ⟨he, insYes_below h hb⟩
  · rw [if_neg hm]
    exact (insert_no x.a x.n v tb M lim T w h ha (by simpa [Px.may] using hm)).mono fun e w' ⟨he, hb⟩ => ⟨he, insYes_below h hb⟩
theorem del_any (x : Px) (tb : Nat) (M : Nat → Prop) (lim : Int) (T : TT) (w : World) (h : IsTr w M tb lim T) (ha : x.a < 2 ^ 32) (hsm : T.list.length ≤ 1000000) :
    Calls Try.prog 13 #[.pointer (some ⟨tb, 0, none⟩), x.V] w (InsP w M tb lim (delP x T).1 (delP x T).2) := by
  unfold delP
  by_cases hm : x.may = true
  · obtain ⟨p1, p2, p3⟩ := pB_may ha hm
    have h1 := delete_yes (pB x) tb M lim T w h p1 hsm
    rw [p2, p3] at h1
    refine h1.mono ?_
    rw [if_pos hm]
    rintro e w' (⟨hl, he, ht, hu⟩ | ⟨hn, he, hb⟩)
    · rw [if_pos hl]; exact ⟨he, M, ht, hu, fun _ hk => .inl hk⟩
    · rw [if_neg (by rw [hn]; decide)]
      exact ⟨he, insYes_below h hb⟩
  · rw [if_neg hm]
    exact (delete_no x.a x.n tb M lim T w h ha (by simpa [Px.may] using hm)).mono fun e w' ⟨he, hb⟩ => ⟨he, insYes_below h hb⟩
theorem get_any (x : Px) (tb : Nat) (M : Nat → Prop) (lim : Int) (T : TT) (w : World) (h : IsTr w M tb lim T) (ha : x.a < 2 ^ 32) :
    Calls Try.prog 17 #[.pointer (some ⟨tb, 0, none⟩), x.V] w fun e w' => e = .returned (.tuple #[.int .i64 ((getP x T).getD 0), .bool (getP x T).isSome]) ∧ Below w.heap.size w w' := by
  unfold getP
  by_cases hm : x.may = true
  · obtain ⟨p1, p2, p3⟩ := pB_may ha hm
    have h1 := get_yes (pB x) tb M lim T w h p1
    rw [p2, p3] at h1
    rw [if_pos hm]
    exact h1.mono fun e w' h => h
  · rw [if_neg hm]
    exact (get_no x.a x.n tb M lim T w h ha (by simpa [Px.may] using hm)).mono fun e w' ⟨he, hb⟩ => ⟨he, hb⟩

theorem del_keys {T : TT} (wf : T.wf []) {p : Bs} (h : (T.get p).isSome = true) : (T.del p).list = delS p T.list := TT.del_list wf (getS_mem.1 (by rw [← TT.get_list wf]; exact h))
theorem insP_wf {lim : Int} {x : Px} {v : Int} {T : TT} (wf : T.wf []) (ha : x.a < 2 ^ 32) : (insP lim x v T).2.wf [] := by
  unfold insP
  split
  · rename_i hm
    split
    · exact TT.ins_wf wf List.nil_prefix (pB_may ha hm).1
    · exact wf
  · exact wf
theorem delP_wf {x : Px} {T : TT} (wf : T.wf []) : (delP x T).2.wf [] := by
  unfold delP
  split
  · split
    · exact TT.del_wf wf
    · exact wf
  · exact wf
theorem insP_len {lim : Int} {x : Px} {v : Int} {T : TT} (wf : T.wf []) (ha : x.a < 2 ^ 32) : (insP lim x v T).2.list.length ≤ T.list.length + 1 := by
  unfold insP
  split
  · rename_i hm
    split
    · show (T.ins (pB x) v).list.length ≤ _
      rw [TT.ins_len wf (pB_may ha hm).1]
      split <;> omega
    · exact Nat.le_succ _
  · exact Nat.le_succ _
theorem delP_len {x : Px} {T : TT} (wf : T.wf []) : (delP x T).2.list.length ≤ T.list.length := by
  unfold delP
  split
  · split
    · rename_i h
      show (T.del (pB x)).list.length ≤ _
      rw [del_keys wf h]
      exact List.length_filter_le _ _
    · exact Nat.le_refl _
  · exact Nat.le_refl _

/-- All that there is, is among these. -/
def Among (l : List Px) (T : TT) : Prop := ∀ e ∈ T.list, ∃ x ∈ l, x.may = true ∧ pB x = e.1
theorem among_ins {l : List Px} {lim : Int} {x : Px} {v : Int} {T : TT} (h : Among l T) (wf : T.wf []) (ha : x.a < 2 ^ 32) (hx : x ∈ l) : Among l (insP lim x v T).2 := by
  unfold insP
  split
  · rename_i hm
    split
    · intro e he
      rw [show (0, T.ins (pB x) v).2 = T.ins (pB x) v from rfl, TT.ins_list wf List.nil_prefix (pB_may ha hm).1] at he
      rcases insS_mem he with rfl | he
      · exact ⟨x, hx, hm, rfl⟩
      · exact h e he
    · exact h
  · exact h
theorem delP_sub {x : Px} {T : TT} (wf : T.wf []) {e : Bs × Int} (he : e ∈ (delP x T).2.list) : e ∈ T.list ∧ (x.may = true → e.1 ≠ pB x) := by
  unfold delP at he
  split at he
  · split at he
    · rename_i h
      rw [show (0, T.del (pB x)).2 = T.del (pB x) from rfl, del_keys wf h] at he
      unfold delS at he
      obtain ⟨h1, h2⟩ := List.mem_filter.1 he
      exact ⟨h1, fun _ => by simpa using h2⟩
    · rename_i h
      refine ⟨he, fun _ hp => h ?_⟩
      rw [TT.get_list wf, getS_mem]
      exact List.mem_map.2 ⟨e, he, hp⟩
  · rename_i h
    exact ⟨he, fun hm => absurd hm h⟩
theorem among_del {l : List Px} {x : Px} {T : TT} (h : Among l T) (wf : T.wf []) : Among l (delP x T).2 := fun e he => h e (delP_sub wf he).1
theorem among_gone {l : List Px} {x : Px} {T : TT} (h : Among (x :: l) T) (wf : T.wf []) : Among l (delP x T).2 := fun e he => by
  obtain ⟨h1, h2⟩ := delP_sub wf he
  obtain ⟨y, hy, hm, hp⟩ := h e h1
  rcases List.mem_cons.1 hy with rfl | hy
  · exact absurd hp.symm (h2 hm)
  · exact ⟨y, hy, hm, hp⟩
theorem getP_gone {x : Px} {T : TT} (wf : T.wf []) : getP x (delP x T).2 = none := by
  unfold getP
  split
  · rename_i hm
    rw [TT.get_list (delP_wf wf)]
    exact getS_none fun e he => (delP_sub wf he).2 hm
  · rfl
theorem among_none {T : TT} (h : Among [] T) (wf : T.wf []) : T = .nil := by
  cases hT : T with
  | nil => rfl
  | node p v g l r =>
    have := TT.list_ne wf (by rw [hT]; exact fun e => by cases e)
    cases hl : T.list with
    | nil => exact absurd hl this
    | cons e r =>
      obtain ⟨x, hx, _⟩ := h e (by rw [hl]; exact List.mem_cons_self)
      cases hx
end Go.Proofs.Ytejiecebckjflaa
