/- Contracts of (*Stream).Due, Tick. -/
import Derived.Test.YtmkjnblmgofoeaaStOut
namespace Go.Proofs.Ytmkjnblmgofoeaa
open Go.RowKit

def dueTo (s : SS) : Nat := min s.xs.length 8
def dueS (s : SS) : SS := if s.sent < dueTo s then { s with sent := dueTo s, owed := false, silent := 0 } else { s with owed := false }
def dueL (s : SS) : List (Nat × Nat × List UInt8) := if s.sent < dueTo s then outSpec s s.sent (dueTo s - s.sent) else if s.owed then [(0, s.taken, [])] else []
def tickS (s : SS) : SS := if s.sent = 0 then { s with silent := 0 } else if s.silent + 1 < s.again then { s with silent := s.silent + 1 } else { s with owed := false, silent := 0 }
def tickL (s : SS) : List (Nat × Nat × List UInt8) := if s.sent = 0 then [] else if s.silent + 1 < s.again then [] else outSpec s 0 s.sent

theorem segRow_nil (B : Nat) (w : World) : SegRow B w (.slice none 0 0) [] := ⟨[], rfl, World.ownsRow_nil _ _ _ _, fun g hg => by (cases hg)⟩
theorem segRow_one (w : World) (B ack : Nat) (hB : B ≤ w.heap.size) : SegRow B (w.alloc (.cells #[.int .u64 0, .int .u64 ack, .slice none 0 0] 33)) (.slice (some ⟨w.heap.size, 0, none⟩) 1 1) [(0, ack, [])] := by
  refine ⟨[⟨0, ack, .slice none 0 0, []⟩], rfl, ?_, fun g hg => ?_⟩
  · exact own_alloc_lit B 33 3 #[.int .u64 0, .int .u64 ack, .slice none 0 0] 1 hB (by unfold maxLen; omega) rfl
  · rw [List.mem_singleton.1 hg]
    exact ⟨World.ownsRow_nil _ _ _ _, fun k hk => by (cases hk)⟩

theorem blk_strC_set {w : World} {b : Nat} {s : SS} {v : Value} (h : Blk w b 63 (strC s v)) (n : Nat) : Blk (w.setCell ⟨b, 3, none⟩ (.int .i64 n)) b 63 (strC { s with sent := n } v) := by
  have := h.set_ 3 (.int .i64 n)
  simpa [strC] using this

theorem min_nat (n : Nat) : (min ((n : Nat) : Int) 8) = ((min n 8 : Nat) : Int) := by omega

set_option maxHeartbeats 2000000 in
theorem due_any (M I : Nat → Prop) (b : Nat) (s : SS) (w : World) (h : IsStr w M I b s) (ok : s.ok) (hx : ∀ x ∈ s.xs, x.length ≤ 1024) :
    Calls Try.prog 11 #[.pointer (some ⟨b, 0, none⟩)] w fun e w' => ∃ v, e = .returned v ∧ SegRow w.heap.size w' v (dueL s) ∧ IsStr w' M I b (dueS s) ∧ Upd (only b) w w' := by
  have OK := Lib.hid ok
  obtain ⟨o1, o2, o3, o4, o5, o6, o7, o8⟩ := ok
  obtain ⟨v, us, hk, hown, hit, hM⟩ := h.ex
  have hlen := hit.len
  obtain ⟨A1, c1, rfl, _⟩ := own_form hown
  have HT := Lib.hid (there_any b s _ w hk o1)
  have hc2 : w.cell? ⟨b, 2, none⟩ = some (.slice A1 us.length c1) := hk.cell 2
  have hc3 : w.cell? ⟨b, 3, none⟩ = some (.int .i64 s.sent) := hk.cell 3
  have hc4 : w.cell? ⟨b, 4, none⟩ = some (.int .u64 s.taken) := hk.cell 4
  have hc5 : w.cell? ⟨b, 5, none⟩ = some (.bool s.owed) := hk.cell 5
  have hf3 : w.frozen? ⟨b, 3, none⟩ = false := hk.frozen 3
  have hf5 : w.frozen? ⟨b, 5, none⟩ = false := hk.frozen 5
  obtain ⟨to, hto⟩ : ∃ to, to = dueTo s := ⟨_, rfl⟩
  have hto1 : to ≤ 8 := by rw [hto]; unfold dueTo; omega
  have hto2 : to ≤ s.xs.length := by rw [hto]; unfold dueTo; omega
  have hto3 : s.sent ≤ to := by rw [hto]; unfold dueTo; omega
  have hul : us.length ≤ 60000 := by omega
  have hmin : min ((us.length : Nat) : Int) 8 = (to : Int) := by rw [hto, hlen]; unfold dueTo; omega
  have HTO := Lib.hid hto
  have HK := Lib.hid hk
  have H := Lib.hid h
  have HX := Lib.hid hx
  have HL := Lib.hid hlen
  have hbl := hk.lt
  have hset : IsStr (w.setCell ⟨b, 3, none⟩ (.int .i64 to)) M I b { s with sent := to } := h.cells (upd_set _ _ _ _) rfl fun v hv => blk_strC_set hv to
  have HSET := Lib.hid hset
  clear h hx hk hown hit hM hto hset hlen
  by_cases hlt : s.sent < to
  · have HSG := Lib.hid (fun (w2 : World) (hw : IsStr w2 M I b { s with sent := to }) => segments_any M I b { s with sent := to } s.sent to w2 hw ⟨o1, o2, o3, o4, hto2, hto1, o7, o8⟩ hto3 hto2 HX.out)
    go_enter Try.func11, Try.ntmps11
    go_wp2_with (go_at_call 24; refine (HT.out).mono ?_; rintro e w' ⟨rfl, rfl⟩)
    case inl =>
      obtain rfl : to = 8 := by omega
      refine (HSG.out _ HSET.out).mono ?_
      rintro e w' ⟨v2, rfl, hv, hs2, hu2⟩
      have hd : dueL s = outSpec s s.sent (8 - s.sent) := by unfold dueL; rw [← HTO.out, if_pos hlt]
      have hd2 : dueS s = { s with sent := 8, owed := false, silent := 0 } := by unfold dueS; rw [← HTO.out, if_pos hlt]
      rw [if_pos hlt] at hs2
      have hf : SegRow w.heap.size w' v2 (dueL s) ∧ IsStr w' M I b (dueS s) ∧ Upd (only b) w w' := ⟨by rw [hd]; simp at hv; exact hv, by rw [hd2]; exact hs2, (upd_set _ _ _ _).trans hu2 fun _ h => .inl h⟩
      have HF := Lib.hid hf
      clear hv hs2 hu2 hd hd2 hf
      go_wp2
      go_ret
      exact ⟨_, rfl, HF.out⟩
    case inr =>
      obtain rfl : to = us.length := by omega
      refine (HSG.out _ HSET.out).mono ?_
      rintro e w' ⟨v2, rfl, hv, hs2, hu2⟩
      have hd : dueL s = outSpec s s.sent (us.length - s.sent) := by unfold dueL; rw [← HTO.out, if_pos hlt]
      have hd2 : dueS s = { s with sent := us.length, owed := false, silent := 0 } := by unfold dueS; rw [← HTO.out, if_pos hlt]
      rw [if_pos hlt] at hs2
      have hf : SegRow w.heap.size w' v2 (dueL s) ∧ IsStr w' M I b (dueS s) ∧ Upd (only b) w w' := ⟨by rw [hd]; simp at hv; exact hv, by rw [hd2]; exact hs2, (upd_set _ _ _ _).trans hu2 fun _ h => .inl h⟩
      have HF := Lib.hid hf
      clear hv hs2 hu2 hd hd2 hf
      go_wp2
      go_ret
      exact ⟨_, rfl, HF.out⟩
  · have hse : s.sent = to := by omega
    have HSE := Lib.hid hse
    clear hse
    obtain ⟨ow, how⟩ : ∃ ow, ow = s.owed := ⟨_, rfl⟩
    rw [← how] at hc5
    have HOW := Lib.hid how
    clear how
    have hm2 : (if 8 < (us.length : Int) then (8 : Int) else us.length) = to := by omega
    cases ow
    case false =>
      go_enter Try.func11, Try.ntmps11
      go_wp2_with (go_at_call 24; refine (HT.out).mono ?_; rintro e w' ⟨rfl, rfl⟩)
      go_ret
      have hn : ¬ s.sent < dueTo s := by rw [← HTO.out]; exact hlt
      have hd : dueL s = [] := by unfold dueL; rw [if_neg hn, ← HOW.out]; rfl
      have hd2 : dueS s = { s with sent := to } := by unfold dueS; rw [if_neg hn, ← HSE.out, HOW.out]
      exact ⟨_, rfl, by rw [hd]; exact segRow_nil _ _, by rw [hd2]; exact HSET.out, upd_set _ _ _ _⟩
    case true =>
      go_enter Try.func11, Try.ntmps11
      go_wp2_with (go_at_call 24; refine (HT.out).mono ?_; rintro e w' ⟨rfl, rfl⟩)
      go_ret
      have hn : ¬ s.sent < dueTo s := by rw [← HTO.out]; exact hlt
      have hd : dueL s = [(0, s.taken, [])] := by unfold dueL; rw [if_neg hn, if_pos HOW.out.symm]
      have hd2 : dueS s = { s with sent := to, owed := false } := by unfold dueS; rw [if_neg hn, ← HSE.out]
      have hu : Upd (only b) (w.setCell ⟨b, 3, none⟩ (.int .i64 to)) ((w.setCell ⟨b, 3, none⟩ (.int .i64 to)).setCell ⟨b, 5, none⟩ (.bool false)) := upd_set _ _ _ _
      have hs3 : IsStr ((w.setCell ⟨b, 3, none⟩ (.int .i64 to)).setCell ⟨b, 5, none⟩ (.bool false)) M I b { s with sent := to, owed := false } :=
        HSET.out.cells hu rfl fun v hv => by
          have := hv.set_ 5 (.bool false)
          simpa [strC] using this
      refine ⟨_, rfl, ?_, ?_, ?_⟩
      · rw [hd]
        have := segRow_one ((w.setCell ⟨b, 3, none⟩ (.int .i64 to)).setCell ⟨b, 5, none⟩ (.bool false)) w.heap.size s.taken (by simp)
        simpa using this
      · rw [hd2]
        exact hs3.keep ((Below.refl _ _).alloc (Nat.le_refl _) _ |> fun h => Same.ofBelow h fun k hk => hk.elim (hs3.ltM k) (hs3.ltI k))
      · exact ((upd_set _ _ _ _).trans_ hu).alloc _

set_option maxHeartbeats 2000000 in
theorem tick_any (M I : Nat → Prop) (b : Nat) (s : SS) (w : World) (h : IsStr w M I b s) (ok : s.ok) (hq : s.silent ≤ 1000) (hx : ∀ x ∈ s.xs, x.length ≤ 1024) :
    Calls Try.prog 14 #[.pointer (some ⟨b, 0, none⟩)] w fun e w' => ∃ v, e = .returned v ∧ SegRow w.heap.size w' v (tickL s) ∧ IsStr w' M I b (tickS s) ∧ Upd (only b) w w' := by
  have OK := Lib.hid ok
  obtain ⟨o1, o2, o3, o4, o5, o6, o7, o8⟩ := ok
  obtain ⟨v, us, hk, hown, hit, hM⟩ := h.ex
  have HT := Lib.hid (there_any b s _ w hk o1)
  have hc0 : w.cell? ⟨b, 0, none⟩ = some (.int .i64 s.again) := hk.cell 0
  have hc3 : w.cell? ⟨b, 3, none⟩ = some (.int .i64 s.sent) := hk.cell 3
  have hc6 : w.cell? ⟨b, 6, none⟩ = some (.int .i64 s.silent) := hk.cell 6
  have hf6 : w.frozen? ⟨b, 6, none⟩ = false := hk.frozen 6
  have hset (n : Nat) : IsStr (w.setCell ⟨b, 6, none⟩ (.int .i64 n)) M I b { s with silent := n } := h.cells (upd_set _ _ _ _) rfl fun v hv => by
    have := hv.set_ 6 (.int .i64 n)
    simpa [strC] using this
  have hset2 (n : Nat) (z : Int) (hz : z = n) (nq : Nat) : IsStr ((w.setCell ⟨b, 6, none⟩ (.int .i64 z)).drewN nq) M I b { s with silent := n } := by
    subst hz
    exact (hset n).keep (Same.ofHeap _ rfl)
  have HSET := Lib.hid hset
  have HSET2 := Lib.hid hset2
  have HX := Lib.hid hx
  have hbl := hk.lt
  clear h hx hk hown hit hM hset hset2
  by_cases h0 : s.sent = 0
  · have hd : tickL s = [] := by unfold tickL; rw [if_pos h0]
    have hd2 : tickS s = { s with silent := 0 } := by unfold tickS; rw [if_pos h0]
    have HD := Lib.hid hd
    have HD2 := Lib.hid hd2
    clear hd hd2
    rw [h0] at hc3
    go_enter Try.func14, Try.ntmps14
    go_wp2_with (go_at_call 24; refine (HT.out).mono ?_; rintro e w' ⟨rfl, rfl⟩)
    go_ret
    exact ⟨_, rfl, by rw [HD.out]; exact segRow_nil _ _, by rw [HD2.out]; exact HSET.out 0, upd_set _ _ _ _⟩
  by_cases h1 : s.silent + 1 < s.again
  · have hd : tickL s = [] := by unfold tickL; rw [if_neg h0, if_pos h1]
    have hd2 : tickS s = { s with silent := s.silent + 1 } := by unfold tickS; rw [if_neg h0, if_pos h1]
    have HD := Lib.hid hd
    have HD2 := Lib.hid hd2
    clear hd hd2
    go_enter Try.func14, Try.ntmps14
    go_wp2_with (go_at_call 24; refine (HT.out).mono ?_; rintro e w' ⟨rfl, rfl⟩)
    go_quiet (fail)
    go_wp2
    go_ret
    exact ⟨_, rfl, by rw [HD.out]; exact segRow_nil _ _, by rw [HD2.out]; exact HSET2.out _ _ (by omega) _, (upd_set _ _ _ _).drewN _⟩
  · have hd : tickL s = outSpec s 0 s.sent := by unfold tickL; rw [if_neg h0, if_neg h1]
    have hd2 : tickS s = { s with owed := false, silent := 0 } := by unfold tickS; rw [if_neg h0, if_neg h1]
    have HD := Lib.hid hd
    have HD2 := Lib.hid hd2
    clear hd hd2
    have HSG := Lib.hid (fun (w2 : World) (hw : IsStr w2 M I b { s with silent := s.silent + 1 }) => segments_any M I b { s with silent := s.silent + 1 } 0 s.sent w2 hw ⟨o1, o2, o3, o4, o5, o6, o7, by simp; omega⟩ (Nat.zero_le _) o5 HX.out)
    go_enter Try.func14, Try.ntmps14
    go_wp2_with (go_at_call 24; refine (HT.out).mono ?_; rintro e w' ⟨rfl, rfl⟩)
    go_quiet (fail)
    go_wp2_with fail
    refine (HSG.out _ (HSET2.out _ _ (by omega) _)).mono ?_
    rintro e w' ⟨v2, rfl, hv, hs2, hu2⟩
    rw [if_pos (by omega)] at hs2
    have hf : SegRow w.heap.size w' v2 (tickL s) ∧ IsStr w' M I b (tickS s) ∧ Upd (only b) w w' := ⟨by rw [HD.out]; simp at hv; exact hv, by rw [HD2.out]; exact hs2, ((upd_set _ _ _ _).drewN _).trans_ hu2⟩
    have HF := Lib.hid hf
    clear hv hs2 hu2 hf
    go_wp2
    go_ret
    exact ⟨_, rfl, HF.out⟩
end Go.Proofs.Ytmkjnblmgofoeaa
