/- Contract of (*Stream).Take where nothing is acknowledged. -/
import Derived.Test.YtmkjnblmgofoeaaStSend
namespace Go.Proofs.Ytmkjnblmgofoeaa
open Go.RowKit

theorem results_tmp4 {fn : Func} {t u v x : Tmp} (h : fn.results = #[.tmp t, .tmp u, .tmp v, .tmp x]) (tmps : Array Value) (P : Program) (w : World) :
    (results fn tmps).run P w = .ok (.tuple #[tmps.getD t undef, tmps.getD u undef, tmps.getD v undef, tmps.getD x undef]) w := by simp [results, h]

def ackS (s : SS) (a : Nat) : SS := if s.acked < a ∧ a ≤ s.acked + s.sent then { s with xs := s.xs.drop (a - s.acked), sent := s.sent - (a - s.acked), acked := a, silent := 0 } else s
def seqS (s : SS) (q : Nat) : SS := if q = 0 then s else if q = s.taken + 1 then { s with owed := true, taken := s.taken + 1 } else { s with owed := true }
def seqI (s : SS) (q : Nat) : Bool := decide (q ≠ 0 ∧ q = s.taken + 1)

abbrev segP (q a : Nat) (A : Option Addr) (n c : Nat) : Value := .agg #[.int .u64 q, .int .u64 a, .slice A n c]
abbrev takeR (v : Value) (n : Nat) (is : Bool) : Value := .tuple #[v, .int .u64 n, .bool is, .int .i64 0]

theorem take_long (b : Nat) (s : SS) (v : Value) (q a : Nat) (A : Option Addr) (n c : Nat) (w : World) (h : Blk w b 63 (strC s v)) (ha : 1 ≤ s.again) (hn : 1024 < n) :
    Calls Try.prog 10 #[.pointer (some ⟨b, 0, none⟩), segP q a A n c] w fun e w' => e = .returned (.tuple #[.slice none 0 0, .int .u64 0, .bool false, .int .i64 3]) ∧ Upd (fun _ => False) w w' := by
  have HT := Lib.hid (fun (o : Obj) => there_any b s v (w.alloc o) (h.alloc o) ha)
  clear h
  go_enter Try.func10, Try.ntmps10
  go_wp2_with (go_at_call 24; refine (HT.out _).mono ?_; rintro e w' ⟨rfl, rfl⟩)
  refine bodyPost_ret (results_tmp4 rfl _ _ _) rfl ?_
  exact ⟨rfl, (Upd.refl _ _).alloc _⟩

theorem take_close {w wz wq w1 : World} {M I : Nat → Prop} {b : Nat} {s2 : SS} {v : Value} {xs : List Value} (u : Upd (only b) w wz) (h : IsStr wz M I b s2) (he : wq.heap = wz.heap) (ht : wq.tape = wz.tape ∧ wq.os = wz.os ∧ wq.output = wz.output)
    (hb : Below wq.heap.size wq w1) (ho : w1.ownsRow wq.heap.size 5 1 v xs.length xs) : w1.ownsRow w.heap.size 5 1 v xs.length xs ∧ IsStr w1 M I b s2 ∧ Upd (only b) w w1 := by
  have hs : w.heap.size ≤ wq.heap.size := by rw [he]; exact u.size
  refine ⟨own_base ho hs, (h.keep (Same.ofHeap _ he)).keep (Same.ofBelow hb fun k hk => hk.elim (fun x => he ▸ h.ltM k x) (fun x => he ▸ h.ltI k x)), ?_⟩
  have uq : Upd (only b) w wq := ⟨ht.2.1.trans u.os, ht.1.trans u.tape, ht.2.2.trans u.output, hs, fun k hk hn => by rw [he]; exact u.block k hk hn⟩
  exact uq.trans_ (Upd.ofBelow hb _)

set_option maxHeartbeats 4000000 in
theorem take_noack2 (M I : Nat → Prop) (b : Nat) (s : SS) (J : Nat → Prop) (q a : Nat) (A : Option Addr) (x : List UInt8) (c : Nat) (w : World) (h : IsStr w M I b s) (ok : s.ok)
    (hx : Reads w J 1 A x.length (bytesV x)) (hJ : ¬ J b) (hn : x.length ≤ 1024) (hno : ¬ (s.acked < a ∧ a ≤ s.acked + s.sent)) :
    Calls Try.prog 10 #[.pointer (some ⟨b, 0, none⟩), segP q a A x.length c] w fun e w' => ∃ v, e = .returned (takeR v s.acked (seqI s q)) ∧
      ((seqI s q = true → w'.ownsRow w.heap.size 5 1 v x.length (bytesV x)) ∧ (seqI s q = false → v = .slice none 0 0)) ∧ IsStr w' M I b (seqS s q) ∧ Upd (only b) w w' := by
  obtain ⟨o1, o2, o3, o4, o5, o6, o7, o8⟩ := ok
  obtain ⟨v, us, h1, h2, h3, h4⟩ := h.ex
  obtain ⟨w0, hw0⟩ : ∃ w0, w0 = w.alloc (.cells #[.int .u64 q, .int .u64 a, .slice A x.length c] 33) := ⟨_, rfl⟩
  have hT := there_any b s v w0 (by rw [hw0]; exact h1.alloc _) o1
  have u0 : Upd (only b) w w0 := by rw [hw0]; exact (Upd.refl _ _).alloc _
  have s0 : IsStr w0 M I b s := h.cells u0 rfl fun v hv => by rw [hw0]; exact hv.alloc _
  have u1 := u0.set_ 5 (.bool true)
  have s1 : IsStr (w0.setCell ⟨b, 5, none⟩ (.bool true)) M I b { s with owed := true } := s0.cells (upd_set _ _ _ _) rfl fun v hv => by
    have := hv.set_ 5 (.bool true)
    simpa [strC] using this
  have u2 := u1.set_ 4 (.int .u64 ((s.taken : Int) + 1))
  have s2 : IsStr ((w0.setCell ⟨b, 5, none⟩ (.bool true)).setCell ⟨b, 4, none⟩ (.int .u64 ((s.taken : Int) + 1))) M I b { s with owed := true, taken := s.taken + 1 } := s1.cells (upd_set _ _ _ _) rfl fun v hv => by
    have := hv.set_ 4 (.int .u64 ((s.taken : Int) + 1))
    simpa [strC] using this
  have hd1 : ((w0.setCell ⟨b, 5, none⟩ (.bool true)).setCell ⟨b, 4, none⟩ (.int .u64 ((s.taken : Int) + 1))).cell? ⟨b, 1, none⟩ = some (.int .u64 s.acked) := by
    obtain ⟨v', us', k1, _⟩ := s2.ex
    exact k1.cell 1
  have hC : ∀ (wq : World), wq.heap = ((w0.setCell ⟨b, 5, none⟩ (.bool true)).setCell ⟨b, 4, none⟩ (.int .u64 ((s.taken : Int) + 1))).heap →
      Calls Try.prog 26 #[.slice A x.length c] wq fun e w' => ∃ v, e = .returned v ∧ w'.ownsRow wq.heap.size 5 1 v x.length (bytesV x) ∧ Below wq.heap.size wq w' ∧ w'.cell? ⟨b, 1, none⟩ = some (.int .u64 s.acked) := by
    intro wq e
    refine (clone8_any A x.length c (bytesV x) J wq (hx.keep ((u2.same fun k (hk : k = b) hj => hJ (hk ▸ hj)).trans (Same.ofHeap J e))) (bytesV_one x) (by omega)).mono ?_
    rintro e1 w1 ⟨v1, he, ho, hb⟩
    refine ⟨v1, he, ho, hb, ?_⟩
    have hcq : wq.cell? ⟨b, 1, none⟩ = some (.int .u64 s.acked) := by rw [← hd1]; unfold World.cell?; rw [e]
    exact (hb.cell (World.block_lt_of_cell? wq _ hcq)).trans hcq
  rw [hw0] at hT u0 s0 u1 s1 u2 s2 hC hd1
  have HT := Lib.hid hT
  have U0 := Lib.hid u0
  have S0 := Lib.hid s0
  have U1 := Lib.hid u1
  have S1 := Lib.hid s1
  have U2 := Lib.hid u2
  have S2 := Lib.hid s2
  have HC := Lib.hid hC
  have hc1 : w.cell? ⟨b, 1, none⟩ = some (.int .u64 s.acked) := h1.cell 1
  have hc3 : w.cell? ⟨b, 3, none⟩ = some (.int .i64 s.sent) := h1.cell 3
  have hc4 : w.cell? ⟨b, 4, none⟩ = some (.int .u64 s.taken) := h1.cell 4
  have hc5 : w.cell? ⟨b, 5, none⟩ = some (.bool s.owed) := h1.cell 5
  have hf4 : w.frozen? ⟨b, 4, none⟩ = false := h1.frozen 4
  have hf5 : w.frozen? ⟨b, 5, none⟩ = false := h1.frozen 5
  have hbl := h1.lt
  have H := Lib.hid h
  clear h h1 h2 h3 h4 hT u0 s0 u1 s1 u2 s2 hC hd1 hw0 hx
  by_cases hq0 : q = 0
  · have hi : seqI s q = false := by simp [seqI, hq0]
    have hs : seqS s q = s := by simp [seqS, hq0]
    have hq1 : (((q : Nat) : Int) == 0) = true := by simp [hq0]
    have HI := Lib.hid hi
    have HS := Lib.hid hs
    clear hi hs hq0
    by_cases g1 : s.acked < a
    · have g2 : ¬ a ≤ s.acked + s.sent := fun h => hno ⟨g1, h⟩
      have hd1 : decide ((a : Int) ≤ (s.acked : Int) + (s.sent : Int)) = false := decide_eq_false (by omega)
      have hd0 : decide ((s.acked : Int) < (a : Int)) = true := decide_eq_true (by omega)
      clear hno
      go_enter Try.func10, Try.ntmps10
      go_wp2_with (go_at_call 24; refine (HT.out).mono ?_; rintro e w' ⟨rfl, rfl⟩)
      go_quiet (fail)
      go_wp2
      go_quiet (fail)
      go_wp2_with fail
      refine bodyPost_ret (results_tmp4 rfl _ _ _) rfl ?_
      exact ⟨.slice none 0 0, by rw [HI.out]; rfl, ⟨fun h => by rw [HI.out] at h; exact absurd h (by decide), fun _ => rfl⟩, by rw [HS.out]; exact S0.out.keep (Same.ofHeap _ rfl), (U0.out.drewN _).drewN _⟩
    · have hd0 : decide ((s.acked : Int) < (a : Int)) = false := decide_eq_false (by omega)
      clear hno
      go_enter Try.func10, Try.ntmps10
      go_wp2_with (go_at_call 24; refine (HT.out).mono ?_; rintro e w' ⟨rfl, rfl⟩)
      go_quiet (fail)
      go_wp2
      go_quiet (fail)
      go_wp2_with fail
      refine bodyPost_ret (results_tmp4 rfl _ _ _) rfl ?_
      exact ⟨.slice none 0 0, by rw [HI.out]; rfl, ⟨fun h => by rw [HI.out] at h; exact absurd h (by decide), fun _ => rfl⟩, by rw [HS.out]; exact S0.out.keep (Same.ofHeap _ rfl), (U0.out.drewN _).drewN _⟩
  by_cases ht : q = s.taken + 1
  · have hi : seqI s q = true := by simp [seqI, ht]
    have hs : seqS s q = { s with owed := true, taken := s.taken + 1 } := by simp [seqS, ht]
    have hq1 : (((q : Nat) : Int) == 0) = false := by simp [hq0]
    have hq2 : (((q : Nat) : Int) != (s.taken : Int) + 1) = false := by rw [ht]; exact bne_self_eq_false _
    have HI := Lib.hid hi
    have HS := Lib.hid hs
    clear hi hs hq0 ht
    by_cases g1 : s.acked < a
    · have g2 : ¬ a ≤ s.acked + s.sent := fun h => hno ⟨g1, h⟩
      have hd1 : decide ((a : Int) ≤ (s.acked : Int) + (s.sent : Int)) = false := decide_eq_false (by omega)
      have hd0 : decide ((s.acked : Int) < (a : Int)) = true := decide_eq_true (by omega)
      clear hno
      go_enter Try.func10, Try.ntmps10
      go_wp2_with (go_at_call 24; refine (HT.out).mono ?_; rintro e w' ⟨rfl, rfl⟩)
      go_quiet (fail)
      go_wp2
      go_quiet (fail)
      go_wp2_with fail
      go_region_law (go_simp; go_at_call 26; refine (HC.out _ (by rfl)).mono ?_; rintro e w1 ⟨v1, rfl, hown1, hb1, hcc1⟩)
      all_goals
        go_wp2
        refine bodyPost_ret (results_tmp4 rfl _ _ _) rfl ?_
        obtain ⟨t1, t2, t3⟩ := take_close U2.out S2.out (by rfl) ⟨by rfl, by rfl, by rfl⟩ hb1 (by rw [bytesV_len]; exact hown1)
        exact ⟨v1, by rw [HI.out]; rfl, ⟨fun _ => by rw [bytesV_len] at t1; exact t1, fun h => by rw [HI.out] at h; exact absurd h (by decide)⟩, by rw [HS.out]; exact t2.keep (Same.ofHeap _ rfl), ⟨t3.os, t3.tape, t3.output, t3.size, t3.block⟩⟩
    · have hd0 : decide ((s.acked : Int) < (a : Int)) = false := decide_eq_false (by omega)
      clear hno
      go_enter Try.func10, Try.ntmps10
      go_wp2_with (go_at_call 24; refine (HT.out).mono ?_; rintro e w' ⟨rfl, rfl⟩)
      go_quiet (fail)
      go_wp2
      go_quiet (fail)
      go_wp2_with fail
      go_region_law (go_simp; go_at_call 26; refine (HC.out _ (by rfl)).mono ?_; rintro e w1 ⟨v1, rfl, hown1, hb1, hcc1⟩)
      all_goals
        go_wp2
        refine bodyPost_ret (results_tmp4 rfl _ _ _) rfl ?_
        obtain ⟨t1, t2, t3⟩ := take_close U2.out S2.out (by rfl) ⟨by rfl, by rfl, by rfl⟩ hb1 (by rw [bytesV_len]; exact hown1)
        exact ⟨v1, by rw [HI.out]; rfl, ⟨fun _ => by rw [bytesV_len] at t1; exact t1, fun h => by rw [HI.out] at h; exact absurd h (by decide)⟩, by rw [HS.out]; exact t2.keep (Same.ofHeap _ rfl), ⟨t3.os, t3.tape, t3.output, t3.size, t3.block⟩⟩
  · have hi : seqI s q = false := by simp [seqI, ht]
    have hs : seqS s q = { s with owed := true } := by simp [seqS, hq0, ht]
    have hq1 : (((q : Nat) : Int) == 0) = false := by simp [hq0]
    have hq2 : (((q : Nat) : Int) != (s.taken : Int) + 1) = true := bne_iff_ne.2 (by omega)
    have HI := Lib.hid hi
    have HS := Lib.hid hs
    clear hi hs hq0 ht
    by_cases g1 : s.acked < a
    · have g2 : ¬ a ≤ s.acked + s.sent := fun h => hno ⟨g1, h⟩
      have hd1 : decide ((a : Int) ≤ (s.acked : Int) + (s.sent : Int)) = false := decide_eq_false (by omega)
      have hd0 : decide ((s.acked : Int) < (a : Int)) = true := decide_eq_true (by omega)
      clear hno
      go_enter Try.func10, Try.ntmps10
      go_wp2_with (go_at_call 24; refine (HT.out).mono ?_; rintro e w' ⟨rfl, rfl⟩)
      go_quiet (fail)
      go_wp2
      go_quiet (fail)
      go_wp2_with fail
      go_quiet (fail)
      go_wp2_with fail
      refine bodyPost_ret (results_tmp4 rfl _ _ _) rfl ?_
      exact ⟨.slice none 0 0, by rw [HI.out]; rfl, ⟨fun h => by rw [HI.out] at h; exact absurd h (by decide), fun _ => rfl⟩, by rw [HS.out]; exact S1.out.keep (Same.ofHeap _ rfl), ((U1.out.drewN _).drewN _).drewN _⟩
    · have hd0 : decide ((s.acked : Int) < (a : Int)) = false := decide_eq_false (by omega)
      clear hno
      go_enter Try.func10, Try.ntmps10
      go_wp2_with (go_at_call 24; refine (HT.out).mono ?_; rintro e w' ⟨rfl, rfl⟩)
      go_quiet (fail)
      go_wp2
      go_quiet (fail)
      go_wp2_with fail
      go_quiet (fail)
      go_wp2_with fail
      refine bodyPost_ret (results_tmp4 rfl _ _ _) rfl ?_
      exact ⟨.slice none 0 0, by rw [HI.out]; rfl, ⟨fun h => by rw [HI.out] at h; exact absurd h (by decide), fun _ => rfl⟩, by rw [HS.out]; exact S1.out.keep (Same.ofHeap _ rfl), ((U1.out.drewN _).drewN _).drewN _⟩
theorem take_noack (M I : Nat → Prop) (b : Nat) (s : SS) (J : Nat → Prop) (q a : Nat) (A : Option Addr) (x : List UInt8) (c : Nat) (w : World) (h : IsStr w M I b s) (ok : s.ok)
    (hx : Reads w J 1 A x.length (bytesV x)) (hJ : ¬ J b) (hn : x.length ≤ 1024) (hno : ¬ (s.acked < a ∧ a ≤ s.acked + s.sent)) :
    Calls Try.prog 10 #[.pointer (some ⟨b, 0, none⟩), segP q a A x.length c] w fun e w' => ∃ v, e = .returned (takeR v s.acked (seqI s q)) ∧
      (seqI s q = true → w'.ownsRow w.heap.size 5 1 v x.length (bytesV x)) ∧ IsStr w' M I b (seqS s q) ∧ Upd (only b) w w' :=
  (take_noack2 M I b s J q a A x c w h ok hx hJ hn hno).mono fun _ _ ⟨v, he, hv, hr⟩ => ⟨v, he, hv.1, hr⟩
end Go.Proofs.Ytmkjnblmgofoeaa
