/- ip.steps, and rows of options. -/
import Derived.Test.YtihfihehiifdkaaIpI
import Derived.Test.YtihfihehiifdkaaRgA
namespace Go.Proofs.Ytihfihehiifdkaa
open Go.RowKit Go.Sort Go.BigFrame
/-- f goes over the options of b; the bytes lie in I. -/
def SeqS (w : World) (I : Nat → Prop) (f : Value) (b : By) : Prop := ∃ Bx v0, f = .func (.func 114) #[] #[.pointer (some ⟨Bx, 0, none⟩)] ∧ Blk w Bx 22 #[v0] ∧ Sl8 w I v0 b ∧ ∀ k, I k → k < w.heap.size
theorem SeqS.fits {w : World} {I : Nat → Prop} {f : Value} {b : By} (h : SeqS w I f b) (hsm : b.length ≤ 1000000) (F : Fence) (n : Nat) (hF : ∀ f, F.fn f) (hro : F.round = none) (hn : 1 ≤ n) :
    ∃ Bx, f = .func (.func 114) #[] #[.pointer (some ⟨Bx, 0, none⟩)] ∧
      SeqFit F n Try.prog 114 #[.pointer (some ⟨Bx, 0, none⟩)] stV (Same I) (fun ys => ys.map stP = steps b) (fun pre => pre.map stP <+: steps b) (fun pre x W => FitS I b pre x W) w := by
  obtain ⟨Bx, v0, h1, h2, h4, h5⟩ := h
  refine ⟨Bx, h1, fun l J Jx W hW hJ _ h0 hY => ?_⟩
  exact steps1_in F n hF hro hn l Bx I v0 b hsm J Jx W (fun k hk => Nat.lt_of_lt_of_le (h5 k hk) hW.size) hJ hY ((h2.below hW h2.lt).cell 0) (h4.keep (Same.ofBelow hW fun k h => h5 k h)) h0
theorem steps_any (v0 : Value) (b : By) (I : Nat → Prop) (w : World) (h : Sl8 w I v0 b) :
    Calls Try.prog 111 #[v0] w fun e w' => ∃ f, e = .returned f ∧ SeqS w' (fun k => I k ∧ k < w.heap.size) f b ∧ Below w.heap.size w w' := by
  obtain ⟨A, c, rfl, hc, hr⟩ := h.lt
  have hb : Below w.heap.size w (w.alloc (.cells #[.slice A b.length c] 22)) := (Below.refl _ _).alloc (Nat.le_refl _) _
  have hk := Blk.new w 22 #[.slice A b.length c]
  have HR := Lib.hid hr
  have HB := Lib.hid hb
  have HK := Lib.hid hk
  have HC := Lib.hid hc
  clear h hc hr hb hk
  go_enter Try.func111, Try.ntmps111
  go_wp2_with fail
  go_ret
  exact ⟨_, rfl, ⟨_, _, rfl, HK.out, ⟨A, c, rfl, HC.out, HR.out.keep (Same.ofBelow HB.out fun k hk => hk.2)⟩, fun k hk => Nat.lt_of_lt_of_le hk.2 HB.out.size⟩, HB.out⟩

/-! ### Options in memory -/
def optC (p : UInt8 × Value) : List Value := [.int .u8 (p.1.toNat : Int), p.2]
def OptD (B : Nat) (W : World) : List (UInt8 × Value) → List (UInt8 × By) → Prop
  | [], [] => True
  | p :: us, q :: L => (p.1 = q.1 ∧ Row8 B W p.2 q.2) ∧ OptD B W us L
  | _, _ => False
/-- v is a row of options of the call's own, each with bytes of its own. -/
def OptR (B : Nat) (W : World) (v : Value) (L : List (UInt8 × By)) : Prop := ∃ us, W.ownsRow B 152 2 v us.length (us.flatMap optC) ∧ OptD B W us L
section
variable {B : Nat} {W W' : World} {v : Value}
theorem OptD.len : ∀ {us : List (UInt8 × Value)} {L : List (UInt8 × By)}, OptD B W us L → us.length = L.length
  | [], [], _ => rfl
  | _ :: _, _ :: _, h => by simp [OptD.len h.2]
  | [], _ :: _, h => h.elim
  | _ :: _, [], h => h.elim
theorem OptD.map (hm : ∀ u x, Row8 B W u x → Row8 B W' u x) : ∀ {us : List (UInt8 × Value)} {L : List (UInt8 × By)}, OptD B W us L → OptD B W' us L
  | [], [], _ => trivial
  | _ :: _, _ :: _, h => ⟨⟨h.1.1, hm _ _ h.1.2⟩, OptD.map hm h.2⟩
  | [], _ :: _, h => h.elim
  | _ :: _, [], h => h.elim
theorem OptD.snoc {p : UInt8 × Value} {q : UInt8 × By} (h1 : p.1 = q.1) (h2 : Row8 B W p.2 q.2) : ∀ {us : List (UInt8 × Value)} {L : List (UInt8 × By)}, OptD B W us L → OptD B W (us ++ [p]) (L ++ [q])
  | [], [], _ => ⟨⟨h1, h2⟩, trivial⟩
  | _ :: _, _ :: _, h => ⟨h.1, OptD.snoc h1 h2 h.2⟩
  | [], _ :: _, h => h.elim
  | _ :: _, [], h => h.elim
theorem OptR.nil (B : Nat) (W : World) : OptR B W (.slice none 0 0) [] := ⟨[], World.ownsRow_nil _ _ _ _, trivial⟩
theorem OptR.form {L : List (UInt8 × By)} (h : OptR B W v L) : ∃ A c, v = .slice A L.length c ∧ L.length ≤ c := by
  obtain ⟨us, h1, h2⟩ := h
  rw [h2.len] at h1
  exact own_form h1
/-- Blocks of one element type alone turn (or such as are no cells, or new ones). -/
theorem own_type {base : Nat} {e : TypeId} {size n : Nat} {xs : List Value} (h : W.ownsRow base e size v n xs) (_ : W.heap.size ≤ W'.heap.size) (hk : ∀ k (cs : Array Value), k < W.heap.size → Blk W k e cs → W'.heap[k]? = W.heap[k]?) : W'.ownsRow base e size v n xs := by
  rcases h.2 with ⟨rfl, rfl⟩ | ⟨g, cap, cur, rfl, hg, hh, rest⟩
  · exact ⟨h.1, .inl ⟨rfl, rfl⟩⟩
  · exact ⟨h.1, .inr ⟨g, cap, cur, rfl, hg, (hk g cur (by
      rcases Nat.lt_or_ge g W.heap.size with hlt | hge
      · exact hlt
      · rw [Array.getElem?_eq_none hge] at hh; cases hh) hh).trans hh, rest⟩⟩
theorem OptR.types {L : List (UInt8 × By)} (h : OptR B W v L) (hs : W.heap.size ≤ W'.heap.size) (h1 : ∀ k (cs : Array Value), k < W.heap.size → Blk W k 152 cs → W'.heap[k]? = W.heap[k]?) (h2 : ∀ k (cs : Array Value), k < W.heap.size → Blk W k 5 cs → W'.heap[k]? = W.heap[k]?) : OptR B W' v L := by
  obtain ⟨us, ho, hd⟩ := h
  exact ⟨us, own_type ho hs h1, hd.map fun u x hr => own_type hr hs h2⟩
theorem OptR.below {L : List (UInt8 × By)} (h : OptR B W v L) (hb : Below W.heap.size W W') : OptR B W' v L := h.types hb.size (fun k _ hk _ => hb.block k hk) fun k _ hk _ => hb.block k hk
theorem OptR.own {L : List (UInt8 × By)} {row : Option Nat} (h : OptR B W v L) (hg : W.grownBy W' row) (hr : ∀ r, row = some r → ∃ o : Obj, W.heap[r]? = some o ∧ o.isCells = false) : OptR B W' v L :=
  h.types hg.size (fun k cs hk hb => hg.block k hk fun e => by
    obtain ⟨o, ho, hc⟩ := hr k e.symm
    unfold Blk at hb
    rw [hb] at ho
    cases ho
    cases hc) fun k cs hk hb => hg.block k hk fun e => by
    obtain ⟨o, ho, hc⟩ := hr k e.symm
    unfold Blk at hb
    rw [hb] at ho
    cases ho
    cases hc
theorem OptR.set_ {L : List (UInt8 × By)} (h : OptR B W v L) {p : Addr} {t : TypeId} {cs : Array Value} (hp : Blk W p.block t cs) (h1 : t ≠ 152) (h2 : t ≠ 5) (u : Value) : OptR B (W.setCell p u) v L := by
  refine h.types (by simp [World.setCell]) (fun k cs' _ hb => Below.heap_setCell W p u k ?_) fun k cs' _ hb => Below.heap_setCell W p u k ?_
  · intro e
    subst e
    exact (hp.ne_ hb h1) rfl
  · intro e
    subst e
    exact (hp.ne_ hb h2) rfl
end
theorem own_blk {w : World} {base : Nat} {e : TypeId} {size n : Nat} {v : Value} {xs : List Value} (h : w.ownsRow base e size v n xs) {g : Nat} (hg : v.ownBlock = some g) : ∃ cs, Blk w g e cs := by
  rcases h.2 with ⟨rfl, rfl⟩ | ⟨g', cap, cur, rfl, _, hh, _⟩
  · cases hg
  · injection hg with hg
    subst hg
    exact ⟨cur, hh⟩
theorem info_opt : (Try.prog.info? 152).map (fun i => (i.zero, i.size, i.bytes)) = some (some (.agg #[.int .u8 0, .slice none 0 0]), 2, 32) := by kernel_rfl
end Go.Proofs.Ytihfihehiifdkaa
