/- OWN LAW: a drawn region of quiet operations mixed with a chain, in a round. -/
import Derived.Test.YthlommalbkhcjaaGreatRgA
namespace Go.Proofs.YthlommalbkhcjaaGreat
open Go.Sort Go.RowKit
section
variable {n0 lp : Nat} {P : Program} {Q : Exit → Act → World → Prop}
theorem mix_anyR {l : List Oper} {a a' : Act} {w : World} (ns : List (Bool × Nat)) (c : Nat) (C : World → Prop) (hC : ∀ x y, C x → Below x.heap.size x y → C y) (hB : mixB ns (c + 1) l a.tmps.size = true) (hw : C w)
    (hq : ∀ wz, C wz → wpQuiet P l.toArray (fun w' => ∃ p : Regrown, w' = grow (redrawn wz p.d) p.os) (fun x => x = a') (pickSeg ns true l) a)
    (h : ∀ wz, Below w.heap.size w wz → wpMix P l.toArray C Q (c + 1) (pickSeg ns false l) a' wz) : wpAny P .any l.toArray Q l.length (Array.replicate l.length false) a { w with drawn := w.drawn + 1 } := by
  unfold mixB at hB
  simp only [Bool.and_eq_true, decide_eq_true_eq] at hB
  obtain ⟨⟨⟨⟨⟨⟨⟨h1, h2⟩, h3⟩, h4⟩, h5⟩, h6⟩, h7⟩, _⟩ := hB
  have p1 := pick_idx l true ns 0
  have p2 := pick_idx l false ns 0
  rw [List.drop_zero] at p1 p2
  have hw' : Below w.heap.size w { w with drawn := w.drawn + 1 } := ⟨rfl, rfl, rfl, Nat.le_refl _, fun _ _ => rfl⟩
  have hx := h _ hw'
  rw [p2] at hx
  rw [p1] at h2 hq
  have hfalse : ∀ k d, (Array.replicate l.length false).getD k d = true → d = true := fun k d hk => by
    rw [Array.getD_eq_getD_getElem?, Array.getElem?_replicate] at hk
    split at hk
    · cases hk
    · exact hk
  have := mix_from hC h1 h7 (hC _ _ hw hw') hx (idxSeg ns true 0) (Array.replicate l.length false) a (fun i hi => ⟨await_ok h5 i hi, by have := List.all_eq_true.1 h6 i hi; simpa using this⟩) (fun j o _ hl => by have := hfalse j false hl; cases this) (by
    cases hk : (Array.replicate l.length false).getD (msOf ns (c + 1) l.length) false with
    | false => rfl
    | true => have := hfalse _ _ hk; cases this) h3 h2 hq
  rw [h4] at this
  have := wpX_any this
  simpa using this
theorem wpIn_region_mix {id : Nat} {l : List Oper} {a a' : Act} {w : World} (ns : List (Bool × Nat)) (c : Nat) (hd : l.all noDefer = true) (hm : P.follows .mixedOrders = true) (C : World → Prop) (hC : ∀ x y, C x → Below x.heap.size x y → C y) (hB : mixB ns (c + 1) l a.tmps.size = true) (hw : C w)
    (hq : ∀ wz, C wz → wpQuiet P l.toArray (fun w' => ∃ p : Regrown, w' = grow (redrawn wz p.d) p.os) (fun x => x = a') (pickSeg ns true l) a)
    (h : ∀ wz, Below w.heap.size w wz → wpMix P l.toArray C (fun e a w => e = .normal ∧ Q .normal a w) (c + 1) (pickSeg ns false l) a' wz) : (Code.region id l.toArray true).wpIn (Fence.wide.inRound lp) n0 P Q a w :=
  wpIn_region_wide hd hm (mix_anyR ns c C hC hB hw hq h)
end
end Go.Proofs.YthlommalbkhcjaaGreat
