/- The stream: what it is in memory; small functions. -/
import Derived.Test.YtmkjnblmgofoeaaBs
import Derived.Deep.RegionHeld3
namespace Go.Proofs.Ytmkjnblmgofoeaa
open Go.RowKit

/-- A stream's state. -/
structure SS where
  again : Nat
  acked : Nat
  xs : List (List UInt8)
  sent : Nat
  taken : Nat
  owed : Bool
  silent : Nat

def SS.ok (s : SS) : Prop := 1 ≤ s.again ∧ s.again ≤ 100 ∧ s.acked ≤ 1000000 ∧ s.xs.length ≤ 60000 ∧ s.sent ≤ s.xs.length ∧ s.sent ≤ 8 ∧ s.taken ≤ 1000000 ∧ s.silent ≤ 1000000

/-- The struct's cells. -/
def strC (s : SS) (v : Value) : Array Value := #[.int .i64 s.again, .int .u64 s.acked, v, .int .i64 s.sent, .int .u64 s.taken, .bool s.owed, .int .i64 s.silent]

structure IsStr (w : World) (M I : Nat → Prop) (b : Nat) (s : SS) : Prop where
  ex : ∃ v us, Blk w b 63 (strC s v) ∧ w.ownsRow 0 29 1 v us.length us ∧ Items w I us s.xs ∧ (∀ g, v.ownBlock = some g → M g)
  mb : M b
  dis : ∀ k, M k → ¬ I k
  ltM : ∀ k, M k → k < w.heap.size
  ltI : ∀ k, I k → k < w.heap.size

section
variable {w w2 : World} {M I : Nat → Prop} {b : Nat} {s : SS}
theorem IsStr.keep (h : IsStr w M I b s) (hk : Same (fun k => M k ∨ I k) w w2) : IsStr w2 M I b s := by
  obtain ⟨v, us, h1, h2, h3, h4⟩ := h.ex
  have hM : Same M w w2 := ⟨hk.1, fun k hm => hk.2 k (.inl hm)⟩
  have hI : Same I w w2 := ⟨hk.1, fun k hm => hk.2 k (.inr hm)⟩
  exact ⟨⟨v, us, (hM.2 b h.mb h1.lt).trans h1, own_keep h2 hM h4, h3.keep hI, h4⟩, h.mb, h.dis, fun k hm => Nat.lt_of_lt_of_le (h.ltM k hm) hk.1, fun k hm => Nat.lt_of_lt_of_le (h.ltI k hm) hk.1⟩

/-- Only cells of the struct have turned. -/
theorem IsStr.cells {s2 : SS} (h : IsStr w M I b s) (hu : Upd (only b) w w2) (hx : s2.xs = s.xs) (hb : ∀ v, Blk w b 63 (strC s v) → Blk w2 b 63 (strC s2 v)) : IsStr w2 M I b s2 := by
  obtain ⟨v, us, h1, h2, h3, h4⟩ := h.ex
  have hI : Same I w w2 := hu.same fun k (hk : k = b) hi => h.dis k (hk ▸ h.mb) hi
  refine ⟨⟨v, us, hb v h1, ?_, by rw [hx]; exact h3.keep hI, h4⟩, h.mb, h.dis, fun k hm => Nat.lt_of_lt_of_le (h.ltM k hm) hu.size, fun k hm => Nat.lt_of_lt_of_le (h.ltI k hm) hu.size⟩
  refine own_keep (I := fun k => k ≠ b) h2 (hu.same fun k (hk : k = b) hn => hn hk) fun g hg e => ?_
  exact own_blk_ne h2 h1 (by decide) (e ▸ hg)
end

theorem there_any (b : Nat) (s : SS) (v : Value) (w : World) (h : Blk w b 63 (strC s v)) (ha : 1 ≤ s.again) :
    Calls Try.prog 24 #[.pointer (some ⟨b, 0, none⟩)] w fun e w' => e = .returned (.bool true) ∧ w = w' := by
  have hc : w.cell? ⟨b, 0, none⟩ = some (.int .i64 s.again) := h.cell 0
  have hb : (((s.again : Nat) : Int) != 0) = true := by simp; omega
  clear h
  go_enter Try.func24, Try.ntmps24
  go_wp2
  go_ret
  exact ⟨rfl, rfl⟩

theorem new_no (again : Int) (w : World) (h : again < 1 ∨ 100 < again) :
    Calls Try.prog 9 #[.int .i64 again] w fun e w' => e = .returned (.tuple #[.pointer none, .int .i64 2]) ∧ w = w' := by
  have H := Lib.hid h
  clear h
  by_cases a1 : again < 1
  case pos =>
    go_enter Try.func9, Try.ntmps9
    go_wp2
    go_ret2
    exact ⟨rfl, rfl⟩
  have a2 : 100 < again := by rcases H.out with h | h <;> omega
  go_enter Try.func9, Try.ntmps9
  go_wp2
  go_ret2
  exact ⟨rfl, rfl⟩

def ssNew (again : Nat) : SS := { again := again, acked := 0, xs := [], sent := 0, taken := 0, owed := false, silent := 0 }

theorem new_yes (again : Nat) (w : World) (h1 : 1 ≤ again) (h2 : again ≤ 100) :
    Calls Try.prog 9 #[.int .i64 again] w fun e w' => e = .returned (.tuple #[.pointer (some ⟨w.heap.size, 0, none⟩), .int .i64 0]) ∧ w' = w.alloc (.cells (strC (ssNew again) (.slice none 0 0)) 63) := by
  go_enter Try.func9, Try.ntmps9
  go_wp2
  go_ret2
  exact ⟨rfl, rfl⟩

theorem left_any (b : Nat) (s : SS) (A : Option Addr) (n c : Nat) (w : World) (h : Blk w b 63 (strC s (.slice A n c))) (ha : 1 ≤ s.again) :
    Calls Try.prog 17 #[.pointer (some ⟨b, 0, none⟩)] w fun e w' => e = .returned (.int .i64 n) ∧ w = w' := by
  have hc : w.cell? ⟨b, 2, none⟩ = some (.slice A n c) := h.cell 2
  have HT := Lib.hid (there_any b s _ w h ha)
  clear h
  go_enter Try.func17, Try.ntmps17
  go_wp2_with (go_at_call 24; refine (HT.out).mono ?_; rintro e w' ⟨rfl, rfl⟩)
  go_ret
  exact ⟨rfl, rfl⟩

theorem acked_any (b : Nat) (s : SS) (v : Value) (w : World) (h : Blk w b 63 (strC s v)) (ha : 1 ≤ s.again) :
    Calls Try.prog 15 #[.pointer (some ⟨b, 0, none⟩)] w fun e w' => e = .returned (.int .u64 s.acked) ∧ w = w' := by
  have hc : w.cell? ⟨b, 1, none⟩ = some (.int .u64 s.acked) := h.cell 1
  have HT := Lib.hid (there_any b s _ w h ha)
  clear h
  go_enter Try.func15, Try.ntmps15
  go_wp2_with (go_at_call 24; refine (HT.out).mono ?_; rintro e w' ⟨rfl, rfl⟩)
  go_ret
  exact ⟨rfl, rfl⟩

theorem taken_any (b : Nat) (s : SS) (v : Value) (w : World) (h : Blk w b 63 (strC s v)) (ha : 1 ≤ s.again) :
    Calls Try.prog 16 #[.pointer (some ⟨b, 0, none⟩)] w fun e w' => e = .returned (.int .u64 s.taken) ∧ w = w' := by
  have hc : w.cell? ⟨b, 4, none⟩ = some (.int .u64 s.taken) := h.cell 4
  have HT := Lib.hid (there_any b s _ w h ha)
  clear h
  go_enter Try.func16, Try.ntmps16
  go_wp2_with (go_at_call 24; refine (HT.out).mono ?_; rintro e w' ⟨rfl, rfl⟩)
  go_ret
  exact ⟨rfl, rfl⟩
end Go.Proofs.Ytmkjnblmgofoeaa
