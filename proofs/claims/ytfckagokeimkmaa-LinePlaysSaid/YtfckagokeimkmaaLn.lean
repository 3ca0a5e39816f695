/- Contracts of the line's functions. -/
import Derived.Test.YtfckagokeimkmaaBs
namespace Go.Proofs.Ytfckagokeimkmaa
open Go.RowKit

/-- Block b is a line: its most, how many were dropped, its items. It writes M alone; its items lie in I. -/
structure IsLine (w : World) (M I : Nat → Prop) (b : Nat) (most dropped : Int) (xs : List (List UInt8)) : Prop where
  ex : ∃ v us, Blk w b 52 #[.int .i64 most, v, .int .i64 dropped, .bool true] ∧ w.ownsRow 0 30 1 v us.length us ∧ Items w I us xs ∧ (∀ g, v.ownBlock = some g → M g)
  mb : M b
  dis : ∀ k, M k → ¬ I k
  ltM : ∀ k, M k → k < w.heap.size
  ltI : ∀ k, I k → k < w.heap.size

theorem IsLine.keep {w w2 : World} {M I : Nat → Prop} {b : Nat} {most dropped : Int} {xs : List (List UInt8)} (h : IsLine w M I b most dropped xs) (hk : Same (fun k => M k ∨ I k) w w2) : IsLine w2 M I b most dropped xs := by
  obtain ⟨v, us, h1, h2, h3, h4⟩ := h.ex
  have hM : Same M w w2 := ⟨hk.1, fun k hm => hk.2 k (.inl hm)⟩
  have hI : Same I w w2 := ⟨hk.1, fun k hm => hk.2 k (.inr hm)⟩
  exact ⟨⟨v, us, (hM.2 b h.mb h1.lt).trans h1, own_keep h2 hM h4, h3.keep hI, h4⟩, h.mb, h.dis, fun k hm => Nat.lt_of_lt_of_le (h.ltM k hm) hk.1, fun k hm => Nat.lt_of_lt_of_le (h.ltI k hm) hk.1⟩

theorem there_any (b : Nat) (a1 a2 a3 : Value) (w : World) (h : Blk w b 52 #[a1, a2, a3, .bool true]) :
    Calls Try.prog 21 #[.pointer (some ⟨b, 0, none⟩)] w fun e w' => e = .returned (.bool true) ∧ w = w' := by
  have hc : w.cell? ⟨b, 3, none⟩ = some (.bool true) := h.cell 3
  clear h
  go_enter Try.func21, Try.ntmps21
  go_wp2
  go_ret
  exact ⟨rfl, rfl⟩

theorem newln_yes (most : Int) (w : World) (o1 : 0 ≤ most) (o2 : most ≤ 64) :
    Calls Try.prog 9 #[.int .i64 most] w fun e w' => e = .returned (.tuple #[.pointer (some ⟨w.heap.size, 0, none⟩), .int .i64 0]) ∧
      w' = w.alloc (.cells #[.int .i64 most, .slice none 0 0, .int .i64 0, .bool true] 52) := by
  go_enter Try.func9, Try.ntmps9
  go_wp2
  go_ret2
  exact ⟨rfl, rfl⟩

theorem newln_no (most : Int) (w : World) (h : most < 0 ∨ 64 < most) :
    Calls Try.prog 9 #[.int .i64 most] w fun e w' => e = .returned (.tuple #[.pointer none, .int .i64 2]) ∧ w' = w := by
  have H := Lib.hid h
  clear h
  by_cases a1 : most < 0
  case pos =>
    go_enter Try.func9, Try.ntmps9
    go_wp2
    go_ret2
    exact ⟨rfl, rfl⟩
  have a2 : 64 < most := by rcases H.out with h | h <;> omega
  go_enter Try.func9, Try.ntmps9
  go_wp2
  go_ret2
  exact ⟨rfl, rfl⟩

theorem dropped_any (b : Nat) (dropped : Int) (a1 a2 : Value) (w : World) (h : Blk w b 52 #[a1, a2, .int .i64 dropped, .bool true]) :
    Calls Try.prog 12 #[.pointer (some ⟨b, 0, none⟩)] w fun e w' => e = .returned (.int .i64 dropped) ∧ w = w' := by
  have hc : w.cell? ⟨b, 2, none⟩ = some (.int .i64 dropped) := h.cell 2
  have hT := there_any b _ _ _ w h
  have HT := Lib.hid hT
  clear h hT
  go_enter Try.func12, Try.ntmps12
  go_wp2_with (go_at_call 21; refine (HT.out).mono ?_; rintro e w' ⟨rfl, rfl⟩)
  go_ret
  exact ⟨rfl, rfl⟩

theorem len_any (b : Nat) (A : Option Addr) (n c : Nat) (a1 a3 : Value) (w : World) (h : Blk w b 52 #[a1, .slice A n c, a3, .bool true]) :
    Calls Try.prog 19 #[.pointer (some ⟨b, 0, none⟩)] w fun e w' => e = .returned (.int .i64 n) ∧ w = w' := by
  have hc : w.cell? ⟨b, 1, none⟩ = some (.slice A n c) := h.cell 1
  have hT := there_any b _ _ _ w h
  have HT := Lib.hid hT
  clear h hT
  go_enter Try.func19, Try.ntmps19
  go_wp2_with (go_at_call 21; refine (HT.out).mono ?_; rintro e w' ⟨rfl, rfl⟩)
  go_ret
  exact ⟨rfl, rfl⟩

/-- What Put, Get leave: the line's blocks, and the world. -/
structure LineUpd (w w2 : World) (M M2 I I2 : Nat → Prop) : Prop where
  upd : Upd M w w2
  m : ∀ k, M2 k → M k ∨ w.heap.size ≤ k
  i : ∀ k, I2 k → I k ∨ w.heap.size ≤ k

end Go.Proofs.Ytfckagokeimkmaa
