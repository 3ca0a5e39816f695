/- The document's Same: two rows of the same segments. -/
import Derived.Test.YtmkjnblmgofoeaaRfD
import Derived.Test.YtmkjnblmgofoeaaStAt
namespace Go.Proofs.Ytmkjnblmgofoeaa
open Go.RowKit

theorem sg_row {w : World} {A : Option Addr} {c : Nat} {gs : List Sg} (ho : w.ownsRow 0 33 3 (.slice A gs.length c) gs.length (sgCells gs)) (hs : RSeg w (fun _ => True) gs) {k : Nat} {t : Nat × Nat × List UInt8} (hk : (gs.map Sg.t)[k]? = some t) :
    ∃ g Ab cb, A = some ⟨g, 0, none⟩ ∧ w.cell? ⟨g, k * 3, none⟩ = some (.int .u64 t.1) ∧ w.cell? ⟨g, k * 3 + 1, none⟩ = some (.int .u64 t.2.1) ∧ w.cell? ⟨g, k * 3 + 2, none⟩ = some (.slice Ab t.2.2.length cb) ∧ Reads w (fun _ => True) 1 Ab t.2.2.length (bytesV t.2.2) := by
  rw [List.getElem?_map] at hk
  obtain ⟨sg, hsg, rfl⟩ := Option.map_eq_some_iff.1 hk
  have hl := (List.getElem?_eq_some_iff.1 hsg).1
  obtain ⟨g, c2, e, _⟩ := own_form1 ho (by omega)
  injection e with e1 _ e2
  subst e1; subst e2
  obtain ⟨Ab, cb, hu, hr⟩ := hs sg (List.mem_of_getElem? hsg)
  obtain ⟨c0, c1, c2⟩ := sgCells_get gs k sg hsg
  have f0 := ho.cells (g := g) rfl _ _ c0
  have f1 := ho.cells (g := g) rfl _ _ c1
  have f2 := ho.cells (g := g) rfl _ _ c2
  rw [add_off, Nat.zero_add] at f0 f1 f2
  exact ⟨g, Ab, cb, rfl, f0, f1, by rw [f2, hu]; rfl, hr⟩

set_option maxHeartbeats 4000000 in
theorem same_any {A1 A2 : Option Addr} {c1 c2 : Nat} {g1 g2 : List Sg} {w : World} (h1 : w.ownsRow 0 33 3 (.slice A1 g1.length c1) g1.length (sgCells g1)) (h2 : w.ownsRow 0 33 3 (.slice A2 g2.length c2) g2.length (sgCells g2))
    (s1 : RSeg w (fun _ => True) g1) (s2 : RSeg w (fun _ => True) g2) (he : g1.map Sg.t = g2.map Sg.t) (hn : g1.length ≤ 1000) :
    Calls Try.prog 21 #[.slice A1 g1.length c1, .slice A2 g2.length c2] w fun e w' => e = .returned (.bool true) ∧ ∃ m, w' = w.drewN m := by
  obtain ⟨n, hn1⟩ : ∃ n, n = g1.length := ⟨_, rfl⟩
  have hn2 : g2.length = n := by have := congrArg List.length he; rw [List.length_map, List.length_map] at this; omega
  have R1 := Lib.hid h1
  have R2 := Lib.hid h2
  have S1 := Lib.hid s1
  have S2 := Lib.hid s2
  have HE := Lib.hid he
  rw [hn2, ← hn1]
  rw [← hn1] at hn
  have HN1 := Lib.hid hn1
  have HN2 := Lib.hid hn2
  clear h1 h2 s1 s2 he hn1 hn2
  go_enter Try.func21, Try.ntmps21
  go_wp2_with fail
  go_loopw [5] (fun iv wr => ∃ k m : Nat, iv = .int .i64 (k : Int) ∧ k ≤ n ∧ wr = w.drewN m) (fun iv _ => n - (intOf iv).toNat)
  case atStart => exact ⟨0, 0, rfl, Nat.zero_le _, rfl⟩
  case round =>
    obtain ⟨k, m, rfl, hk, rfl⟩ := hrel
    by_cases hlt : k < n
    · obtain ⟨t, ht⟩ : ∃ t, (g1.map Sg.t)[k]? = some t := ⟨_, List.getElem?_eq_getElem (by rw [List.length_map, ← HN1.out]; exact hlt)⟩
      obtain ⟨b1, B1, d1, e1, x0, x1, x2, x3⟩ := sg_row R1.out S1.out ht
      obtain ⟨b2, B2, d2, e2, y0, y1, y2, y3⟩ := sg_row R2.out S2.out (HE.out ▸ ht)
      subst e1; subst e2
      obtain ⟨sq, ak, x⟩ := t
      simp only at x0 x1 x2 x3 y0 y1 y2 y3
      have cv1 : ∀ nd, (convert 29 9 (.slice B1 x.length d1)).run Try.prog (w.drewN nd) = .ok (.string ⟨x.toArray⟩) (w.drewN nd) := fun nd => run_str _ _ _ _ _ (x3.keep (Same.ofHeap _ rfl))
      have cv2 : ∀ nd, (convert 29 9 (.slice B2 x.length d2)).run Try.prog (w.drewN nd) = .ok (.string ⟨x.toArray⟩) (w.drewN nd) := fun nd => run_str _ _ _ _ _ (y3.keep (Same.ofHeap _ rfl))
      have i0 : (0 : Int) ≤ k := by omega
      have i1 : (k : Int) < n := by omega
      clear x3 y3 ht
      go_wp2_with fail
      go_quiet (fail)
      go_wp2_with fail
      go_roundw
      case rel => exact ⟨k + 1, m + nq, by simp, by omega, by simp⟩
      case measure => simp [intOf]; omega
    · go_wp2_with fail
      go_ret
      exact ⟨rfl, m, rfl⟩
end Go.Proofs.Ytmkjnblmgofoeaa
