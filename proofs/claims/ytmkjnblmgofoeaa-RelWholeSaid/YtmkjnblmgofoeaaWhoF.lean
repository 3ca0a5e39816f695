/- RelWhole: what the law asks at its end. -/
import Derived.Test.YtmkjnblmgofoeaaWhoA
namespace Go.Proofs.Ytmkjnblmgofoeaa
open Go.RowKit

/-- What the law asks at its end. -/
theorem fin_facts {w wr : World} {lab : Nat → Nat} {q : Fs} {v : Vv} {k : Nat} (md : Mid w wr lab q v k) (h1 : q.tk 1 = q.sn 0) (h0 : q.tk 0 = q.sn 1) (xa : (q.S 0).xs = []) (xb : (q.S 1).xs = []) :
    ∃ A1 n1 c1 A0 n0 c0 B1 m1 d1 B0 m0 d0 z1 z0, wr.cell? ⟨w.heap.size + 5, 1, none⟩ = some (.slice A1 n1 c1) ∧ wr.cell? ⟨w.heap.size + 4, 0, none⟩ = some (.slice A0 n0 c0) ∧ wr.cell? ⟨w.heap.size + 5, 0, none⟩ = some (.slice B0 m0 d0) ∧ wr.cell? ⟨w.heap.size + 4, 1, none⟩ = some (.slice B1 m1 d1) ∧
      (convert 29 9 (.slice A1 n1 c1)).run Try.prog wr = .ok (.string z0) wr ∧ (convert 29 9 (.slice A0 n0 c0)).run Try.prog wr = .ok (.string z0) wr ∧ (convert 29 9 (.slice B0 m0 d0)).run Try.prog wr = .ok (.string z1) wr ∧ (convert 29 9 (.slice B1 m1 d1)).run Try.prog wr = .ok (.string z1) wr ∧
      Calls Try.prog 17 #[.pointer (some ⟨w.heap.size, 0, none⟩)] wr (fun e w' => e = .returned (.int .i64 0) ∧ wr = w') ∧ Calls Try.prog 17 #[.pointer (some ⟨w.heap.size + 1, 0, none⟩)] wr (fun e w' => e = .returned (.int .i64 0) ∧ wr = w') := by
  have rd : ∀ (u : Value) (xs : List UInt8) (c : Nat), PBy lab wr c u xs → ∃ A d, u = .slice A xs.length d ∧ (convert 29 9 (.slice A xs.length d)).run Try.prog wr = .ok (.string ⟨xs.toArray⟩) wr := fun u xs c h => by
    obtain ⟨A, d, e, _⟩ := own_form h.1
    exact ⟨A, d, e, run_str wr (fun _ => True) A xs d (Reads.of_own (e ▸ h.1) fun _ _ => trivial)⟩
  obtain ⟨A1, c1, e1, k1⟩ := rd _ _ _ (md.st.tk 1 (by omega))
  obtain ⟨A0, c0, e0, k0⟩ := rd _ _ _ (md.st.sn 0 (by omega))
  obtain ⟨B0, d0, f0, l0⟩ := rd _ _ _ (md.st.tk 0 (by omega))
  obtain ⟨B1, d1, f1, l1⟩ := rd _ _ _ (md.st.sn 1 (by omega))
  have left0 : ∀ f, f < 2 → (q.S f).xs = [] → Calls Try.prog 17 #[.pointer (some ⟨w.heap.size + f, 0, none⟩)] wr (fun e w' => e = .returned (.int .i64 0) ∧ wr = w') := fun f hf hx => by
    obtain ⟨M, I, is, _, _⟩ := md.st.st f hf
    obtain ⟨u, us, hb, ho, hit, _⟩ := is.ex
    have hl := hit.len
    rw [hx] at hl
    obtain ⟨Au, cu, rfl, _⟩ := own_form ho
    have := left_any _ _ _ _ _ wr hb (md.ok.g f hf).1
    rw [hl] at this
    exact this
  refine ⟨A1, (q.tk 1).length, c1, A0, (q.sn 0).length, c0, B1, (q.sn 1).length, d1, B0, (q.tk 0).length, d0, ⟨(q.tk 0).toArray⟩, ⟨(q.tk 1).toArray⟩, ?_, ?_, ?_, ?_, k1, ?_, l0, ?_, left0 0 (by omega) xa, left0 1 (by omega) xb⟩
  · rw [← e1, ← md.e3]; exact md.st.atk.cell (f := 1) (by omega)
  · rw [← e0, ← md.e2]; exact md.st.asn.cell (f := 0) (by omega)
  · rw [← f0, ← md.e3]; exact md.st.atk.cell (f := 0) (by omega)
  · rw [← f1, ← md.e2]; exact md.st.asn.cell (f := 1) (by omega)
  · rw [h1]; exact k0
  · rw [h0]; exact l1
end Go.Proofs.Ytmkjnblmgofoeaa
