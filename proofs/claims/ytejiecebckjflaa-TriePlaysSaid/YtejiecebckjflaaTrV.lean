/- Tries: over; Covers. -/
import Derived.Test.YtejiecebckjflaaTrO
import Derived.Test.YtejiecebckjflaaRgF
import Derived.Deep.RegionLaw
namespace Go.Proofs.Ytejiecebckjflaa
open Go.RowKit

theorem info_ent : (Try.prog.info? 87).map (fun i => (i.zero, i.size, i.bytes)) = some (some (.agg #[.int .u32 0, .int .i64 0, .int .i64 0]), 3, 24) := by kernel_rfl
theorem over_any (v : Value) (A : Option Addr) (n c : Nat) (hv : v = .slice A n c) (w : World) : Calls Try.prog 44 #[v] w fun e w' => e = .returned (.func (.func 52) #[] #[.pointer (some ⟨w.heap.size, 0, none⟩)]) ∧ w' = w.alloc (.cells #[v] 85) := by
  subst hv
  go_enter Try.func44, Try.ntmps44
  go_wp2
  go_ret
  exact ⟨rfl, rfl⟩

/-- The value f goes over the entries L; what it reads lies in I. -/
def SeqOf (w : World) (I : Nat → Prop) (f : Value) (L : List (Bs × Int)) : Prop := ∃ Bx A cap, f = .func (.func 52) #[] #[.pointer (some ⟨Bx, 0, none⟩)] ∧ Blk w Bx 85 #[.slice A L.length cap] ∧ I Bx ∧ Reads w I 3 A L.length (L.flatMap entC)
theorem SeqOf.keep {w w2 : World} {I : Nat → Prop} {f : Value} {L : List (Bs × Int)} (h : SeqOf w I f L) (hs : Same I w w2) : SeqOf w2 I f L := by
  obtain ⟨Bx, A, cap, h1, h2, h3, h4⟩ := h
  exact ⟨Bx, A, cap, h1, (hs.2 Bx h3 h2.lt).trans h2, h3, h4.keep hs⟩
theorem SeqOf.mono {w : World} {I J : Nat → Prop} {f : Value} {L : List (Bs × Int)} (h : SeqOf w I f L) (hs : ∀ k, I k → J k) : SeqOf w J f L := by
  obtain ⟨Bx, A, cap, h1, h2, h3, h4⟩ := h
  exact ⟨Bx, A, cap, h1, h2, hs _ h3, h4.mono hs⟩
/-- Its contract as an iterator. -/
theorem SeqOf.fits {w : World} {I : Nat → Prop} {f : Value} {L : List (Bs × Int)} (h : SeqOf w I f L) (hsm : L.length ≤ 1000000000) (F : Fence) (n : Nat) (hf : F.fn 52) (hro : F.round = none) (hn : 1 ≤ n) :
    ∃ Bx, f = .func (.func 52) #[] #[.pointer (some ⟨Bx, 0, none⟩)] ∧
      SeqFit F n Try.prog 52 #[.pointer (some ⟨Bx, 0, none⟩)] entV (Same fun k => I k ∧ k < w.heap.size) (fun ys => ys = L) (fun pre => pre <+: L) (fun pre x _ => pre ++ [x] <+: L) w := by
  obtain ⟨Bx, A, cap, h1, h2, h3, h4⟩ := h
  refine ⟨Bx, h1, fun l J Jx W hW hJ _ h0 hY => ?_⟩
  exact over1_in F n hf hro hn l Bx (fun k => I k ∧ k < w.heap.size) A cap L hsm J Jx W (fun k hk => Nat.lt_of_lt_of_le hk.2 hW.size) hJ hY ((h2.below hW h2.lt).cell 0) ((h4.lt).keep (Same.ofBelow hW fun _ h => h.2)) h0
theorem SeqOf.stops {w : World} {I : Nat → Prop} {f : Value} {L : List (Bs × Int)} (h : SeqOf w I f L) (hsm : L.length ≤ 1000000000) (F : Fence) (n : Nat) (hf : F.fn 52) (hro : F.round = none) (hn : 1 ≤ n) :
    ∃ Bx, f = .func (.func 52) #[] #[.pointer (some ⟨Bx, 0, none⟩)] ∧
      SeqStopsK F n Try.prog 52 #[.pointer (some ⟨Bx, 0, none⟩)] entV (Same fun k => I k ∧ k < w.heap.size) (fun ys => ys = L) (fun pre => pre <+: L) L.length w := by
  obtain ⟨Bx, h1, h2⟩ := h.fits hsm F n hf hro hn
  exact ⟨Bx, h1, fun l J Jx W hW hJ hJx hY h0 => h2 l J Jx W hW hJ hJx h0 fun pre x V hj hfit => hY pre x V hj (by have := hfit.length_le; simp at this; omega)⟩
/-- A row of entries of its own. -/
theorem seq_new {w w1 : World} {lv : Value} {L : List (Bs × Int)} (h : w1.ownsRow w.heap.size 87 3 lv L.length (L.flatMap entC)) (hb : Below w.heap.size w w1) :
    ∃ A c, lv = .slice A L.length c ∧ SeqOf (w1.alloc (.cells #[lv] 85)) (fun k => w.heap.size ≤ k) (.func (.func 52) #[] #[.pointer (some ⟨w1.heap.size, 0, none⟩)]) L := by
  obtain ⟨A, c, rfl, _⟩ := own_form h
  refine ⟨A, c, rfl, w1.heap.size, A, c, rfl, Blk.new _ _ _, hb.size, ?_⟩
  exact (Reads.of_own h fun g hg => ⟨(own_lt h hg).1, (own_lt h hg).2⟩ : Reads w1 (fun k => w.heap.size ≤ k ∧ k < w1.heap.size) 3 A L.length (L.flatMap entC)).keep (Same.ofBelow ((Below.refl w1.heap.size w1).alloc (Nat.le_refl _) _) fun k h => h.2) |>.mono fun _ h => h.1
end Go.Proofs.Ytejiecebckjflaa
