/- Tries: one that is not there. -/
import Derived.Test.YtejiecebckjflaaTgW
namespace Go.Proofs.Ytejiecebckjflaa
open Go.RowKit

/-- A trie that is not there: nil, or a zero one. -/
def Gone (w : World) (tv : Value) : Prop := tv = .pointer none ∨ ∃ tb, tv = .pointer (some ⟨tb, 0, none⟩) ∧ Blk w tb 71 #[.pointer none, .int .i64 0, .int .i64 0, .bool false]
theorem Gone.below {w w' : World} {tv : Value} (h : Gone w tv) (hb : Below w.heap.size w w') : Gone w' tv := by
  rcases h with h | ⟨tb, h, hk⟩
  · exact .inl h
  · exact .inr ⟨tb, h, hk.below hb hk.lt⟩
theorem Gone.alloc {w : World} {tv : Value} (h : Gone w tv) (o : Obj) : Gone (w.alloc o) tv := h.below ((Below.refl _ _).alloc (Nat.le_refl _) o)
theorem there_gone {w : World} {tv : Value} (h : Gone w tv) : Calls Try.prog 33 #[tv] w fun e w' => e = .returned (.bool false) ∧ w = w' := by
  rcases h with rfl | ⟨tb, rfl, hk⟩
  · go_enter Try.func33, Try.ntmps33
    go_wp2
    go_ret
    exact ⟨rfl, rfl⟩
  · have h3 : w.cell? ⟨tb, 3, none⟩ = some (.bool false) := hk.cell 3
    clear hk
    go_enter Try.func33, Try.ntmps33
    go_wp2
    go_ret
    exact ⟨rfl, rfl⟩
theorem ins_gone {w : World} {tv : Value} (h : Gone w tv) (a : Nat) (n v : Int) : Calls Try.prog 14 #[tv, pxV a n, .int .i64 v] w fun e w' => e = .returned (.int .i64 1) ∧ Below w.heap.size w w' := by
  have HT := Lib.hid (fun (o : Obj) => there_gone (h.alloc o))
  clear h
  go_enter Try.func14, Try.ntmps14
  go_wp2_with fail
  refine (HT.out _).mono ?_
  rintro e w' ⟨rfl, rfl⟩
  go_wp2_with fail
  go_ret
  exact ⟨rfl, (Below.refl _ _).alloc (Nat.le_refl _) _⟩
theorem get_gone {w : World} {tv : Value} (h : Gone w tv) (a : Nat) (n : Int) : Calls Try.prog 17 #[tv, pxV a n] w fun e w' => e = .returned (.tuple #[.int .i64 0, .bool false]) ∧ Below w.heap.size w w' := by
  have HT := Lib.hid (fun (o : Obj) => there_gone (h.alloc o))
  clear h
  go_enter Try.func17, Try.ntmps17
  go_wp2_with fail
  refine (HT.out _).mono ?_
  rintro e w' ⟨rfl, rfl⟩
  go_wp2_with fail
  go_ret2
  exact ⟨rfl, (Below.refl _ _).alloc (Nat.le_refl _) _⟩
theorem del_gone {w : World} {tv : Value} (h : Gone w tv) (a : Nat) (n : Int) : Calls Try.prog 13 #[tv, pxV a n] w fun e w' => e = .returned (.int .i64 1) ∧ Below w.heap.size w w' := by
  have hB0 : Below w.heap.size w (w.alloc (.cells #[.int .u32 (a : Int), .int .i64 n] 31)) := (Below.refl _ _).alloc (Nat.le_refl _) _
  have hx := Blk.new w 31 #[.int .u32 (a : Int), .int .i64 n]
  have HH := Lib.hid (h.alloc (.cells #[.int .u32 (a : Int), .int .i64 n] 31))
  have HG := Lib.hid (get_gone HH.out a n)
  have HB0 := Lib.hid hB0
  have HX := Lib.hid hx
  clear h hB0 hx
  go_enter Try.func13, Try.ntmps13
  go_wp2_with fail
  refine (HG.out).mono ?_
  rintro e w2 ⟨rfl, hb2⟩
  have hx2 := HX.out.below hb2 HX.out.lt
  have x0 : w2.cell? ⟨w.heap.size, 0, none⟩ = some (.int .u32 (a : Int)) := hx2.cell 0
  have x1 : w2.cell? ⟨w.heap.size, 1, none⟩ = some (.int .i64 n) := hx2.cell 1
  have HB3 := Lib.hid (HB0.out.trans (hb2.mono HB0.out.size))
  have HT := Lib.hid (there_gone (HH.out.below hb2))
  clear hb2 hx2
  go_wp2_with fail
  refine (HT.out).mono ?_
  rintro e w' ⟨rfl, rfl⟩
  go_wp2_with fail
  go_ret
  exact ⟨rfl, HB3.out⟩
theorem covers_gone {w : World} {tv : Value} (h : Gone w tv) (a : Nat) : Calls Try.prog 22 #[tv, .int .u32 (a : Int)] w fun e w' => ∃ f, e = .returned f ∧ SeqOf w' (fun k => w.heap.size ≤ k) f [] ∧ Below w.heap.size w w' := by
  have HT := Lib.hid (there_gone h)
  clear h
  go_enter Try.func22, Try.ntmps22
  go_wp2_with fail
  refine (HT.out).mono ?_
  rintro e w' ⟨rfl, rfl⟩
  go_wp2_with fail
  refine (over_any _ none 0 0 rfl _).mono ?_
  rintro e w' ⟨rfl, rfl⟩
  go_wp2_with fail
  go_ret
  obtain ⟨A2, c2, e2, hs⟩ := seq_new (w := w) (L := []) (World.ownsRow_nil _ _ _ _) (Below.refl _ w)
  exact ⟨_, rfl, hs, (Below.refl _ _).alloc (Nat.le_refl _) _⟩
theorem all_gone {w : World} {tv : Value} (h : Gone w tv) : Calls Try.prog 21 #[tv] w fun e w' => ∃ f, e = .returned f ∧ SeqOf w' (fun k => w.heap.size ≤ k) f [] ∧ Below w.heap.size w w' := by
  have HT := Lib.hid (fun (o : Obj) => there_gone (h.alloc o))
  have hB0 := (Below.refl w.heap.size w).alloc (Nat.le_refl _) (.cells #[.slice none 0 0] 85)
  have HB0 := Lib.hid hB0
  clear h hB0
  go_enter Try.func21, Try.ntmps21
  go_wp2_with fail
  refine (HT.out _).mono ?_
  rintro e w' ⟨rfl, rfl⟩
  go_wp2_with fail
  refine (over_any _ none 0 0 rfl _).mono ?_
  rintro e w' ⟨rfl, rfl⟩
  go_wp2_with fail
  go_ret
  obtain ⟨A2, c2, e2, hs⟩ := seq_new (w := w) (L := []) (World.ownsRow_nil _ _ _ _) HB0.out
  rw [show (w.alloc (.cells #[.slice none 0 0] 85)).heap.size = w.heap.size + 1 from by simp] at hs
  exact ⟨_, rfl, hs, HB0.out.alloc HB0.out.size _⟩
theorem match_gone {w : World} {tv : Value} (h : Gone w tv) (a : Nat) : Calls Try.prog 15 #[tv, .int .u32 (a : Int)] w fun e w' => e = .returned (.tuple #[pxV 0 0, .int .i64 0, .bool false]) ∧ Below w.heap.size w w' := by
  have h1 := match_of tv a [] w (Nat.zero_le _) fun W0 hB0 => covers_gone (h.below hB0) a
  unfold MatchPost at h1
  rw [show lastE [] = ([], 0) from rfl] at h1
  refine h1.mono fun e w' ⟨he, hb⟩ => ⟨?_, hb⟩
  rw [he]
  simp [padB, valB]
theorem len_gone {w : World} {tv : Value} (h : Gone w tv) : Calls Try.prog 18 #[tv] w fun e w' => e = .returned (.int .i64 0) ∧ w = w' := by
  have HT := Lib.hid (there_gone h)
  clear h
  go_enter Try.func18, Try.ntmps18
  go_wp2_with fail
  refine (HT.out).mono ?_
  rintro e w' ⟨rfl, rfl⟩
  go_wp2_with fail
  go_ret
  exact ⟨rfl, rfl⟩
theorem nodes_gone {w : World} {tv : Value} (h : Gone w tv) : Calls Try.prog 19 #[tv] w fun e w' => e = .returned (.int .i64 0) ∧ Below w.heap.size w w' := by
  have HT := Lib.hid (fun (o : Obj) => there_gone (h.alloc o))
  clear h
  go_enter Try.func19, Try.ntmps19
  go_wp2_with fail
  refine (HT.out _).mono ?_
  rintro e w' ⟨rfl, rfl⟩
  go_wp2_with fail
  go_ret
  exact ⟨rfl, (Below.refl _ _).alloc (Nat.le_refl _) _⟩
theorem copy_gone {w : World} {tv : Value} (h : Gone w tv) : Calls Try.prog 27 #[tv] w fun e w' => e = .returned (.pointer none) ∧ w = w' := by
  have HT := Lib.hid (there_gone h)
  clear h
  go_enter Try.func27, Try.ntmps27
  go_wp2_with fail
  refine (HT.out).mono ?_
  rintro e w' ⟨rfl, rfl⟩
  go_wp2_with fail
  go_ret
  exact ⟨rfl, rfl⟩
end Go.Proofs.Ytejiecebckjflaa
