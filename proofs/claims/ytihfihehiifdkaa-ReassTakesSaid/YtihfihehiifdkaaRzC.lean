/- Layer 16: the document's laid: its first loop's region. -/
import Derived.Test.YtihfihehiifdkaaRzB
import Derived.Test.YtihfihehiifdkaaRtJ
namespace Go.Proofs.Ytihfihehiifdkaa
open Go.RowKit Go.Sort Go.BigFrame
attribute [local go_sem] comesV_value comesV_skip comesV_enter
/-- laid's boxes: the flow, the header, the result. -/
def LnC (fb hb ob : Nat) (X H : Array Value) (w : World) : Prop := Blk w fb 126 X ∧ Blk w hb 32 H ∧ Blk w ob 126 fl0V
theorem LnC.below {fb hb ob : Nat} {X H : Array Value} {w w' : World} (h : LnC fb hb ob X H w) (hb' : Below w.heap.size w w') : LnC fb hb ob X H w' := ⟨h.1.below hb' h.1.lt, h.2.1.below hb' h.2.1.lt, h.2.2.below hb' h.2.2.lt⟩
theorem LnC.put {fb hb ob : Nat} {X H : Array Value} {w : World} (h : LnC fb hb ob X H w) (i : Nat) (u : Value) (h1 : fb ≠ hb) (h2 : fb ≠ ob) : LnC fb hb ob (X.setIfInBounds i u) H (w.setCell ⟨fb, i, none⟩ u) :=
  ⟨h.1.set_ i u, h.2.1.far (p := ⟨fb, i, none⟩) h1.symm u, h.2.2.far (p := ⟨fb, i, none⟩) h2.symm u⟩
theorem LnC.grown {fb hb ob : Nat} {X H : Array Value} {w w' : World} {base : Nat} {e : TypeId} {size n : Nat} {v : Value} {xs : List Value} (h : LnC fb hb ob X H w) (ho : w.ownsRow base e size v n xs) (hg : w.grownBy w' v.ownBlock) (h1 : e ≠ 126) (h2 : e ≠ 32) : LnC fb hb ob X H w' :=
  ⟨h.1.grown hg (own_blk_ne ho h.1 h1), h.2.1.grown hg (own_blk_ne ho h.2.1 h2), h.2.2.grown hg (own_blk_ne ho h.2.2 h1)⟩
theorem st_bs {w : World} {g i : Nat} {u : Value} (hu : w.cell? ⟨g, i, none⟩ = some u) (hf : w.frozen? ⟨g, i, none⟩ = false) (A : Option Addr) (n c : Nat) : (Instr.storeAt 119 (.pointer (some ⟨g, i, none⟩)) (.slice A n c)).run Try.prog w = .ok () (w.setCell ⟨g, i, none⟩ (.slice A n c)) := by
  simp [go_sem, hu, hf]
theorem reads_one {w : World} {b : Nat} {t : TypeId} {u : Value} (h : Blk w b t #[u]) : Reads w (fun _ => True) 1 (some ⟨b, 0, none⟩) 1 [u] :=
  ⟨rfl, fun _ => ⟨_, rfl, trivial, by have := h.lt; exact this, fun j v hv => by
    rw [add_off, Nat.zero_add, h.cell]
    simpa using hv⟩⟩
theorem own_other {w w' : World} {base b2 : Nat} {e t : TypeId} {size n s2 n2 : Nat} {v u : Value} {xs ys : List Value} (h : w.ownsRow base e size v n xs) (ho : w.ownsRow b2 t s2 u n2 ys) (hg : w.grownBy w' u.ownBlock) (hne : t ≠ e) : w'.ownsRow base e size v n xs :=
  h.kept hg (by
    cases hv : v.ownBlock with
    | none => exact .inl rfl
    | some k =>
      obtain ⟨cs, hb⟩ := own_blk h hv
      exact .inr fun e => own_blk_ne ho hb hne e.symm)
theorem own_set {w : World} {base b t : Nat} {e : TypeId} {size n : Nat} {v : Value} {xs : List Value} {cs : Array Value} (h : w.ownsRow base e size v n xs) (hb : Blk w b t cs) (hne : e ≠ t) (i : Nat) (u : Value) : (w.setCell ⟨b, i, none⟩ u).ownsRow base e size v n xs :=
  ownsRow_setCell_other (a := ⟨b, i, none⟩) h (own_blk_ne h hb hne) u
-- GEN
def LaΦ (base fb hb ob q m : Nat) (A : Option Addr) (c : Nat) (A2 : Option Addr) (c2 : Nat) (F : By) (G : List Bool) (X : Value → Value → Array Value) (H : Array Value) : Nat → Value → World → Prop
  | 0, u, _ => u = .pointer (some ⟨fb, 4, none⟩)
  | 1, u, _ => u = .slice A m c
  | 2, u, w => ∃ b, u = .slice (some ⟨b, 0, none⟩) 1 1 ∧ q ≤ b ∧ Blk w b 5 #[.int .u8 0]
  | 3, u, w => w.ownsRow base 5 1 u (m + 1) (bytesV F ++ [(Value.int .u8 0)])
  | 4, u, _ => u = .pointer (some ⟨fb, 5, none⟩)
  | 5, u, _ => u = .slice A2 m c2
  | 6, u, w => ∃ b, u = .slice (some ⟨b, 0, none⟩) 1 1 ∧ q ≤ b ∧ Blk w b 4 #[.bool false]
  | 7, u, w => w.ownsRow base 4 1 u (m + 1) (boolV G ++ [(Value.bool false)])
  | 8, u, _ => u = .pointer (some ⟨fb, 4, none⟩)
  | 9, _, w => ∃ v, w.ownsRow base 5 1 v (m + 1) (bytesV F ++ [(Value.int .u8 0)]) ∧ LnC fb hb ob (X v (.slice A2 m c2)) H w
  | 10, u, _ => u = .pointer (some ⟨fb, 5, none⟩)
  | 11, _, w => ∃ v v2, w.ownsRow base 5 1 v (m + 1) (bytesV F ++ [(Value.int .u8 0)]) ∧ w.ownsRow base 4 1 v2 (m + 1) (boolV G ++ [(Value.bool false)]) ∧ LnC fb hb ob (X v v2) H w
  | _, _, _ => True
-- END
def LaΨ (base fb hb ob m : Nat) (A : Option Addr) (c : Nat) (A2 : Option Addr) (c2 : Nat) (F : By) (G : List Bool) (X : Value → Value → Array Value) (H : Array Value) : Nat → World → Prop
  | 1, w => LnC fb hb ob (X (.slice A m c) (.slice A2 m c2)) H w
  | 5, w => LnC fb hb ob (X (.slice A m c) (.slice A2 m c2)) H w
  | 9, w => LnC fb hb ob (X (.slice A m c) (.slice A2 m c2)) H w
  | 3, w => w.ownsRow base 5 1 (.slice A m c) m (bytesV F)
  | 7, w => w.ownsRow base 4 1 (.slice A2 m c2) m (boolV G)
  | _, _ => True
def laDead (i j : Nat) : Bool := (i == 3 && j == 2) || (i == 7 && j == 6) || (i == 9 && (j == 2 || j == 6)) || (i == 11 && (j == 2 || j == 6 || j == 9))
section
variable {base fb hb ob q m : Nat} {A : Option Addr} {c : Nat} {A2 : Option Addr} {c2 : Nat} {F : By} {G : List Bool} {X : Value → Value → Array Value} {H : Array Value} {wx wy : World} {u : Value}
theorem LaΦ.below {i : Nat} (h : LaΦ base fb hb ob q m A c A2 c2 F G X H i u wx) (hb' : Below wx.heap.size wx wy) : LaΦ base fb hb ob q m A c A2 c2 F G X H i u wy := by
  unfold LaΦ at h ⊢
  split at h
  all_goals first
    | exact h
    | (obtain ⟨b, e, hq, hk⟩ := h; exact ⟨b, e, hq, hk.below hb' hk.lt⟩)
    | exact own_below h hb'
    | (obtain ⟨v, v2, h1, h2, h3⟩ := h; exact ⟨v, v2, own_below h1 hb', own_below h2 hb', h3.below hb'⟩)
    | (obtain ⟨v, h1, h2⟩ := h; exact ⟨v, own_below h1 hb', h2.below hb'⟩)
theorem LaΨ.below {i : Nat} (h : LaΨ base fb hb ob m A c A2 c2 F G X H i wx) (hb' : Below wx.heap.size wx wy) : LaΨ base fb hb ob m A c A2 c2 F G X H i wy := by
  unfold LaΨ at h ⊢
  split at h
  all_goals first
    | exact h
    | exact LnC.below h hb'
    | exact own_below h hb'
theorem LaΦ.app8 {v : Value} {n : Nat} {xs : List Value} (ho : wx.ownsRow base 5 1 v n xs) (hg : wx.grownBy wy v.ownBlock) (i : Nat) (hi : ¬ (i = 2 ∨ i = 3 ∨ i = 9 ∨ i = 11)) (h : LaΦ base fb hb ob q m A c A2 c2 F G X H i u wx) : LaΦ base fb hb ob q m A c A2 c2 F G X H i u wy := by
  unfold LaΦ at h ⊢
  split at h
  all_goals first
    | exact h
    | (exfalso; omega)
    | (obtain ⟨b, e, hq, hk⟩ := h; exact ⟨b, e, hq, hk.grown hg (own_blk_ne ho hk (by decide))⟩)
    | exact own_other h ho hg (by decide)
theorem LaΨ.app8 {v : Value} {n : Nat} {xs : List Value} (ho : wx.ownsRow base 5 1 v n xs) (hg : wx.grownBy wy v.ownBlock) (i : Nat) (hi : ¬ (i = 1 ∨ i = 3)) (h : LaΨ base fb hb ob m A c A2 c2 F G X H i wx) : LaΨ base fb hb ob m A c A2 c2 F G X H i wy := by
  unfold LaΨ at h ⊢
  split at h
  all_goals first
    | exact h
    | (exfalso; omega)
    | exact LnC.grown h ho hg (by decide) (by decide)
    | exact own_other h ho hg (by decide)
theorem LaΦ.app1 {v : Value} {n : Nat} {xs : List Value} (ho : wx.ownsRow base 4 1 v n xs) (hg : wx.grownBy wy v.ownBlock) (i : Nat) (hi : ¬ (i = 6 ∨ i = 7 ∨ i = 9 ∨ i = 11)) (h : LaΦ base fb hb ob q m A c A2 c2 F G X H i u wx) : LaΦ base fb hb ob q m A c A2 c2 F G X H i u wy := by
  unfold LaΦ at h ⊢
  split at h
  all_goals first
    | exact h
    | (exfalso; omega)
    | (obtain ⟨b, e, hq, hk⟩ := h; exact ⟨b, e, hq, hk.grown hg (own_blk_ne ho hk (by decide))⟩)
    | exact own_other h ho hg (by decide)
theorem LaΨ.app1 {v : Value} {n : Nat} {xs : List Value} (ho : wx.ownsRow base 4 1 v n xs) (hg : wx.grownBy wy v.ownBlock) (i : Nat) (hi : ¬ (i = 5 ∨ i = 7)) (h : LaΨ base fb hb ob m A c A2 c2 F G X H i wx) : LaΨ base fb hb ob m A c A2 c2 F G X H i wy := by
  unfold LaΨ at h ⊢
  split at h
  all_goals first
    | exact h
    | (exfalso; omega)
    | exact LnC.grown h ho hg (by decide) (by decide)
    | exact own_other h ho hg (by decide)
theorem LaΦ.set {X' H' : Array Value} (hc : LnC fb hb ob X' H' wx) (k : Nat) (z : Value) (i : Nat) (hi : ¬ (i = 2 ∨ i = 6 ∨ i = 9 ∨ i = 11)) (h : LaΦ base fb hb ob q m A c A2 c2 F G X H i u wx) : LaΦ base fb hb ob q m A c A2 c2 F G X H i u (wx.setCell ⟨fb, k, none⟩ z) := by
  unfold LaΦ at h ⊢
  split at h
  all_goals first
    | exact h
    | (exfalso; omega)
    | exact own_set h hc.1 (by decide) k z
theorem LaΨ.bare (i : Nat) (hi : ¬ (i = 1 ∨ i = 3 ∨ i = 5 ∨ i = 7 ∨ i = 9)) (h : LaΨ base fb hb ob m A c A2 c2 F G X H i wx) : LaΨ base fb hb ob m A c A2 c2 F G X H i wy := by
  unfold LaΨ at h ⊢
  split at h
  all_goals first
    | exact h
    | (exfalso; omega)
end
end Go.Proofs.Ytihfihehiifdkaa
