/- A stream that is not there, and a zero one. -/
import Derived.Test.YtmkjnblmgofoeaaStTake
namespace Go.Proofs.Ytmkjnblmgofoeaa
open Go.RowKit

def ssZ : SS := { again := 0, acked := 0, xs := [], sent := 0, taken := 0, owed := false, silent := 0 }
/-- pv points to no stream, or to a zero one. -/
def NilP (w : World) (pv : Value) : Prop := pv = .pointer none ∨ ∃ b, pv = .pointer (some ⟨b, 0, none⟩) ∧ Blk w b 63 (strC ssZ (.slice none 0 0))
theorem NilP.alloc {w : World} {pv : Value} (h : NilP w pv) (o : Obj) : NilP (w.alloc o) pv := by
  rcases h with h | ⟨b, h, k⟩
  · exact .inl h
  · exact .inr ⟨b, h, k.alloc o⟩

theorem there_nil (w : World) (pv : Value) (h : NilP w pv) :
    Calls Try.prog 24 #[pv] w fun e w' => e = .returned (.bool false) ∧ w = w' := by
  rcases h with rfl | ⟨b, rfl, h⟩
  · go_enter Try.func24, Try.ntmps24
    go_wp2
    go_ret
    exact ⟨rfl, rfl⟩
  · have hc : w.cell? ⟨b, 0, none⟩ = some (.int .i64 0) := h.cell 0
    clear h
    go_enter Try.func24, Try.ntmps24
    go_wp2
    go_ret
    exact ⟨rfl, rfl⟩

theorem left_nil (w : World) (pv : Value) (h : NilP w pv) : Calls Try.prog 17 #[pv] w fun e w' => e = .returned (.int .i64 0) ∧ w = w' := by
  have HT := Lib.hid (there_nil w pv h)
  clear h
  go_enter Try.func17, Try.ntmps17
  go_wp2_with (go_at_call 24; refine (HT.out).mono ?_; rintro e w' ⟨rfl, rfl⟩)
  go_ret
  exact ⟨rfl, rfl⟩

theorem acked_nil (w : World) (pv : Value) (h : NilP w pv) : Calls Try.prog 15 #[pv] w fun e w' => e = .returned (.int .u64 0) ∧ w = w' := by
  have HT := Lib.hid (there_nil w pv h)
  clear h
  go_enter Try.func15, Try.ntmps15
  go_wp2_with (go_at_call 24; refine (HT.out).mono ?_; rintro e w' ⟨rfl, rfl⟩)
  go_ret
  exact ⟨rfl, rfl⟩

theorem taken_nil (w : World) (pv : Value) (h : NilP w pv) : Calls Try.prog 16 #[pv] w fun e w' => e = .returned (.int .u64 0) ∧ w = w' := by
  have HT := Lib.hid (there_nil w pv h)
  clear h
  go_enter Try.func16, Try.ntmps16
  go_wp2_with (go_at_call 24; refine (HT.out).mono ?_; rintro e w' ⟨rfl, rfl⟩)
  go_ret
  exact ⟨rfl, rfl⟩

theorem tick_nil (w : World) (pv : Value) (h : NilP w pv) : Calls Try.prog 14 #[pv] w fun e w' => e = .returned (.slice none 0 0) ∧ w = w' := by
  have HT := Lib.hid (there_nil w pv h)
  clear h
  go_enter Try.func14, Try.ntmps14
  go_wp2_with (go_at_call 24; refine (HT.out).mono ?_; rintro e w' ⟨rfl, rfl⟩)
  go_ret
  exact ⟨rfl, rfl⟩

theorem due_nil (w : World) (pv : Value) (h : NilP w pv) : Calls Try.prog 11 #[pv] w fun e w' => e = .returned (.slice none 0 0) ∧ w = w' := by
  have HT := Lib.hid (there_nil w pv h)
  clear h
  go_enter Try.func11, Try.ntmps11
  go_wp2_with (go_at_call 24; refine (HT.out).mono ?_; rintro e w' ⟨rfl, rfl⟩)
  go_ret
  exact ⟨rfl, rfl⟩

theorem copy_nil (w : World) (pv : Value) (h : NilP w pv) : Calls Try.prog 18 #[pv] w fun e w' => e = .returned (.pointer none) ∧ w = w' := by
  have HT := Lib.hid (there_nil w pv h)
  clear h
  go_enter Try.func18, Try.ntmps18
  go_wp2_with (go_at_call 24; refine (HT.out).mono ?_; rintro e w' ⟨rfl, rfl⟩)
  go_ret
  exact ⟨rfl, rfl⟩

theorem send_nil (w : World) (pv : Value) (A : Option Addr) (n c : Nat) (h : NilP w pv) : Calls Try.prog 13 #[pv, .slice A n c] w fun e w' => e = .returned (.tuple #[.int .u64 0, .int .i64 1]) ∧ w = w' := by
  have HT := Lib.hid (there_nil w pv h)
  clear h
  go_enter Try.func13, Try.ntmps13
  go_wp2_with (go_at_call 24; refine (HT.out).mono ?_; rintro e w' ⟨rfl, rfl⟩)
  go_ret2
  exact ⟨rfl, rfl⟩

theorem take_nil (w : World) (pv : Value) (q a : Nat) (A : Option Addr) (n c : Nat) (h : NilP w pv) : Calls Try.prog 10 #[pv, segP q a A n c] w fun e w' => e = .returned (.tuple #[.slice none 0 0, .int .u64 0, .bool false, .int .i64 1]) ∧ w' = w.alloc (.cells #[.int .u64 q, .int .u64 a, .slice A n c] 33) := by
  have HT := Lib.hid (fun (o : Obj) => there_nil (w.alloc o) pv (h.alloc o))
  clear h
  go_enter Try.func10, Try.ntmps10
  go_wp2_with (go_at_call 24; refine (HT.out _).mono ?_; rintro e w' ⟨rfl, rfl⟩)
  refine bodyPost_ret (results_tmp4 rfl _ _ _) rfl ?_
  exact ⟨rfl, rfl⟩
end Go.Proofs.Ytmkjnblmgofoeaa
