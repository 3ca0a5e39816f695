/- Tries: trimmed, without. -/
import Derived.Test.YtejiecebckjflaaTrI
import Derived.Outline
namespace Go.Proofs.Ytejiecebckjflaa
open Go.RowKit Go.Sort Go.BigFrame

/-- What trimmed answers. -/
def trimV (b : Nat) (h : Bool) : Option Addr → Option Addr → Value
  | none, pr => if h then .pointer (some ⟨b, 0, none⟩) else .pointer pr
  | some pl, none => if h then .pointer (some ⟨b, 0, none⟩) else .pointer (some pl)
  | some _, some _ => .pointer (some ⟨b, 0, none⟩)
theorem trimmed_any (b : Nat) (q : Bs) (x : Int) (h : Bool) (pl pr : Option Addr) (w : World) (hk : Blk w b 78 (ndC q x h (.pointer pl) (.pointer pr))) :
    Calls Try.prog 49 #[.pointer (some ⟨b, 0, none⟩)] w fun e w' => e = .returned (trimV b h pl pr) ∧ w = w' := by
  have c3 : w.cell? ⟨b, 3, none⟩ = some (.bool h) := hk.cell 3
  have c4 : w.cell? ⟨b, 4, none⟩ = some (.pointer pl) := hk.cell 4
  have c5 : w.cell? ⟨b, 5, none⟩ = some (.pointer pr) := hk.cell 5
  clear hk
  cases h with
  | true =>
    go_enter Try.func49, Try.ntmps49
    go_wp2
    go_ret
    exact ⟨by cases pl <;> cases pr <;> rfl, rfl⟩
  | false =>
    cases pl with
    | none =>
      cases pr with
      | none =>
        go_enter Try.func49, Try.ntmps49
        go_wp2
        go_ret
        exact ⟨rfl, rfl⟩
      | some pr =>
        go_enter Try.func49, Try.ntmps49
        go_wp2
        go_ret
        exact ⟨rfl, rfl⟩
    | some pl =>
      cases pr with
      | none =>
        go_enter Try.func49, Try.ntmps49
        go_wp2
        go_ret
        exact ⟨rfl, rfl⟩
      | some pr =>
        go_enter Try.func49, Try.ntmps49
        go_wp2
        go_ret
        exact ⟨rfl, rfl⟩
/-- A tree's value is a pointer. -/
theorem IsT.ptr {w : World} {M : Nat → Prop} {pv : Value} {T : TT} (h : IsT w M pv T) : ∃ a, pv = .pointer a ∧ (a = none ↔ T = .nil) := by
  rcases h.form with ⟨rfl, rfl⟩ | ⟨b, rfl, _, hn⟩
  · exact ⟨none, rfl, by simp⟩
  · exact ⟨_, rfl, ⟨(fun e => by cases e), fun e => absurd e hn⟩⟩
/-- The trimmed tree. -/
theorem IsT.trim {w : World} {M Ml Mr : Nat → Prop} {b : Nat} {q : Bs} {x : Int} {h : Bool} {l r : TT} {pl pr : Option Addr} (hk : Blk w b 78 (ndC q x h (.pointer pl) (.pointer pr))) (hb : M b) (hl : ∀ k, Ml k → M k ∧ k ≠ b) (hr : ∀ k, Mr k → M k ∧ k ≠ b) (hd : ∀ k, Ml k → ¬ Mr k)
    (tl : IsT w Ml (.pointer pl) l) (tr : IsT w Mr (.pointer pr) r) : IsT w M (trimV b h pl pr) (TT.node q x h l r).trim := by
  have full : ∀ g, h = g → IsT w M (.pointer (some ⟨b, 0, none⟩)) (.node q x g l r) := fun g e => by subst e; exact ⟨b, _, _, Ml, Mr, rfl, hk, hb, hl, hr, hd, tl, tr⟩
  obtain ⟨a1, e1, n1⟩ := tl.ptr
  obtain ⟨a2, e2, n2⟩ := tr.ptr
  injection e1 with e1
  injection e2 with e2
  subst e1; subst e2
  cases h with
  | true =>
    have : trimV b true pl pr = .pointer (some ⟨b, 0, none⟩) := by cases pl <;> cases pr <;> rfl
    rw [this]
    exact full true rfl
  | false =>
    cases pl with
    | none =>
      have hl0 := n1.1 rfl
      subst hl0
      exact tr.mono fun k hk => (hr k hk).1
    | some pl =>
      cases l with
      | nil => have := n1.2 rfl; cases this
      | node lp lv lh ll lr =>
        cases pr with
        | none =>
          have hr0 := n2.1 rfl
          subst hr0
          exact tl.mono fun k hk => (hl k hk).1
        | some pr =>
          cases r with
          | nil => have := n2.2 rfl; cases this
          | node => exact full false rfl
end Go.Proofs.Ytejiecebckjflaa
