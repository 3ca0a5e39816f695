/- The document's stream: Due, Tick. -/
import Derived.Test.YtmkjnblmgofoeaaRfO
import Derived.Test.YtmkjnblmgofoeaaStDue
import Derived.StillTailTactics
namespace Go.Proofs.Ytmkjnblmgofoeaa
open Go.RowKit

theorem segs_one (w : World) (B ack : Nat) (J : Nat → Prop) (hB : B ≤ w.heap.size) : ∃ gs : List Sg, gs.map Sg.t = [(0, ack, [])] ∧ (w.alloc (.cells #[.int .u64 0, .int .u64 ack, .slice none 0 0] 33)).ownsRow B 33 3 (.slice (some ⟨w.heap.size, 0, none⟩) 1 1) gs.length (sgCells gs) ∧ RSeg (w.alloc (.cells #[.int .u64 0, .int .u64 ack, .slice none 0 0] 33)) J gs := by
  refine ⟨[⟨0, ack, .slice none 0 0, []⟩], rfl, own_alloc_lit B 33 3 #[.int .u64 0, .int .u64 ack, .slice none 0 0] 1 hB (by unfold maxLen; omega) rfl, fun g hg => ?_⟩
  rw [List.mem_singleton.1 hg]
  exact ⟨none, 0, rfl, rfl, fun h => absurd h (Nat.lt_irrefl _)⟩
theorem RoPost.at_ {w w1 w2 : World} {J : Nat → Prop} {b : Nat} {s1 s s2 : SS} {v : Value} {al : List (List UInt8)} {frm m : Nat} {e : Ending} (h : RoPost w1 w2 J b s1 s2 v al frm m e) (hu : Upd (only b) w w1) (hz : w1.heap.size = w.heap.size) (h1 : s1.acked = s.acked) (h2 : s1.taken = s.taken) (h3 : s1.xs = s.xs) : RoPost w w2 J b s s2 v al frm m e := by
  obtain ⟨r, gs, he, hg, ho, hs, hi, hu2⟩ := h
  refine ⟨r, gs, he, by rw [hg]; unfold outSpec; rw [h1, h2, h3], by rw [← hz]; exact ho, hs, hi, hu.trans_ hu2⟩

/-- What Due answers, and leaves. -/
def RdPost (w w2 : World) (J : Nat → Prop) (b : Nat) (s2 : SS) (v : Value) (al : List (List UInt8)) (l : List (Nat × Nat × List UInt8)) (e : Ending) : Prop :=
  ∃ (r : Value) (gs : List Sg), e = .returned r ∧ gs.map Sg.t = l ∧ w2.ownsRow w.heap.size 33 3 r gs.length (sgCells gs) ∧ RSeg w2 J gs ∧ IsRf w2 J b s2 v al ∧ Upd (only b) w w2

theorem owed_false {s : SS} (h : s.owed = false) : ({ s with owed := false } : SS) = s := by cases s; simp only at h; rw [h]
theorem rd_none {w : World} {J : Nat → Prop} {b : Nat} {s s2 : SS} {v : Value} {al : List (List UInt8)} {l : List (Nat × Nat × List UInt8)} {e : Ending} (h : IsRf w J b s v al) (_ : ∀ k, J k → k < w.heap.size ∧ k ≠ b ∧ v.ownBlock ≠ some k) (hs : s2 = s) (hl : l = []) (he : e = .returned (.slice none 0 0)) : RdPost w w J b s2 v al l e := by
  subst hs; subst hl
  exact ⟨.slice none 0 0, [], he, rfl, World.ownsRow_nil _ _ _ _, (fun g hg => by cases hg), h, Upd.refl _ _⟩
theorem rd_owed {w w2 : World} {J : Nat → Prop} {b : Nat} {s s2 : SS} {v : Value} {al : List (List UInt8)} {l : List (Nat × Nat × List UInt8)} {e : Ending} (h : IsRf w J b s v al) (hJ : ∀ k, J k → k < w.heap.size ∧ k ≠ b ∧ v.ownBlock ≠ some k) (hs : s2 = { s with owed := false }) (hl : l = [(0, s.taken, [])]) (he : e = .returned (.slice (some ⟨w.heap.size, 0, none⟩) 1 1))
    (hw : w2 = (w.setCell ⟨b, 5, none⟩ (.bool false)).alloc (.cells #[.int .u64 0, .int .u64 s.taken, .slice none 0 0] 33)) : RdPost w w2 J b s2 v al l e := by
  subst hs; subst hl; subst hw
  have hz : (w.setCell ⟨b, 5, none⟩ (.bool false)).heap.size = w.heap.size := by simp [World.setCell]
  obtain ⟨gs, hg, ho, hs⟩ := segs_one (w.setCell ⟨b, 5, none⟩ (.bool false)) w.heap.size s.taken J (by rw [hz]; exact Nat.le_refl _)
  rw [hz] at ho
  obtain ⟨r1, r2⟩ := rtake_close (s2 := { s with owed := false }) h hJ ((upd_set w b 5 (.bool false)).alloc (.cells #[.int .u64 0, .int .u64 s.taken, .slice none 0 0] 33)) ((h.blk.set_ 5 (.bool false)).alloc _ |> fun x => blkC x rfl (by simp [rfC])) h.len h.xs
  exact ⟨_, gs, he, hg, ho, hs, r1, r2⟩

set_option maxHeartbeats 4000000 in
theorem rdue_any (J : Nat → Prop) (b : Nat) (s : SS) (v : Value) (al : List (List UInt8)) (w : World) (h : IsRf w J b s v al) (ok : s.ok) (hJb : ∀ k, J k → k < w.heap.size ∧ k ≠ b ∧ v.ownBlock ≠ some k) :
    Calls Try.prog 23 #[.pointer (some ⟨b, 0, none⟩)] w fun e w' => RdPost w w' J b (dueS s) v al (dueL s) e := by
  have OK := Lib.hid ok
  obtain ⟨o1, o2, o3, o4, o5, o6, o7, o8⟩ := ok
  obtain ⟨us, hown, hit⟩ := h.row
  have hul : us.length = s.acked + s.xs.length := hit.len.trans h.len
  obtain ⟨Av, cv, rfl, _⟩ := own_form hown
  have c1 : w.cell? ⟨b, 1, none⟩ = some (.slice Av us.length cv) := h.blk.cell 1
  have c2 : w.cell? ⟨b, 2, none⟩ = some (.int .i64 s.acked) := h.blk.cell 2
  have c3 : w.cell? ⟨b, 3, none⟩ = some (.int .i64 ((s.acked + s.sent : Nat) : Int)) := h.blk.cell 3
  have c4 : w.cell? ⟨b, 4, none⟩ = some (.int .u64 s.taken) := h.blk.cell 4
  have c5 : w.cell? ⟨b, 5, none⟩ = some (.bool s.owed) := h.blk.cell 5
  have f3 : w.frozen? ⟨b, 3, none⟩ = false := h.blk.frozen 3
  have f5 : w.frozen? ⟨b, 5, none⟩ = false := h.blk.frozen 5
  obtain ⟨to, hto⟩ : ∃ to, to = dueTo s := ⟨_, rfl⟩
  have ht1 : to ≤ 8 := by rw [hto]; unfold dueTo; omega
  have ht2 : to ≤ s.xs.length := by rw [hto]; unfold dueTo; omega
  have ht3 : to = s.xs.length ∨ to = 8 := by rw [hto]; unfold dueTo; omega
  have HTO := Lib.hid hto
  have H := Lib.hid h
  have HJ := Lib.hid hJb
  have HU := Lib.hid hul
  have hz : us.length ≤ 2000000 := by omega
  clear h hown hit hJb hul hto
  by_cases hlt : s.sent < to
  · have eS : dueS s = { s with sent := to, owed := false, silent := 0 } := by unfold dueS; rw [← HTO.out, if_pos hlt]
    have eL : dueL s = outSpec s s.sent (to - s.sent) := by unfold dueL; rw [← HTO.out, if_pos hlt]
    obtain ⟨w1, hw1⟩ : ∃ w1, w1 = w.setCell ⟨b, 3, none⟩ (.int .i64 ((s.acked + to : Nat) : Int)) := ⟨_, rfl⟩
    have hb1 : Blk w1 b 55 (rfC { s with sent := to } (.slice Av us.length cv)) := by
      rw [hw1]
      have := H.out.blk.set_ 3 (.int .i64 ((s.acked + to : Nat) : Int))
      exact blkC this rfl (by simp [rfC])
    have hu1 : Upd (only b) w w1 := by rw [hw1]; exact upd_set _ _ _ _
    have hz1 : w1.heap.size = w.heap.size := by rw [hw1]; simp [World.setCell]
    obtain ⟨r1, _⟩ := rtake_close (s2 := { s with sent := to }) H.out HJ.out hu1 hb1 H.out.len H.out.xs
    have HR := Lib.hid (rout_any J b { s with sent := to } (.slice Av us.length cv) al s.sent to w1 r1 ⟨o1, o2, o3, o4, ht2, ht1, o7, o8⟩ (fun k hk => by rw [hz1]; exact HJ.out k hk) (by omega) ht2)
    have HW1 := Lib.hid hw1
    have HU1 := Lib.hid hu1
    have HZ1 := Lib.hid hz1
    have ES := Lib.hid eS
    have EL := Lib.hid eL
    clear hw1 hb1 hu1 hz1 r1 eS eL
    have hgt : (s.acked : Int) + (s.sent : Int) < (s.acked : Int) + (to : Int) := by omega
    have fin : ∀ e w2, RoPost w1 w2 J b { s with sent := to } { s with sent := to, owed := false, silent := if s.sent < to then 0 else s.silent } (.slice Av us.length cv) al s.sent (to - s.sent) e → RdPost w w2 J b (dueS s) (.slice Av us.length cv) al (dueL s) e := fun e w2 hp => by
      have := hp.at_ (s := s) HU1.out HZ1.out rfl rfl rfl
      rw [if_pos hlt] at this
      rw [ES.out, EL.out]
      exact this
    have FIN := Lib.hid fin
    clear fin
    by_cases hx8 : s.xs.length < 8
    · have hto : to = s.xs.length := by omega
      have g1 : (us.length : Int) < (s.acked : Int) + 8 := by have := HU.out; omega
      have g2 : (s.acked : Int) + (s.sent : Int) < (us.length : Int) := by have := HU.out; omega
      have hus : (us.length : Int) = ((s.acked + to : Nat) : Int) := by have := HU.out; omega
      have HUS := Lib.hid hus
      clear hto hus
      go_enter Try.func23, Try.ntmps23
      go_wp2_with fail
      rw [HUS.out, ← HW1.out]
      refine (HR.out).mono ?_
      rintro e w2 hp
      have hp2 := FIN.out e w2 hp
      obtain ⟨r, gs, rfl, x1, x2, x3, x4, x5⟩ := hp2
      have X := Lib.hid (And.intro x1 (And.intro x2 (And.intro x3 (And.intro x4 x5))))
      clear x1 x2 x3 x4 x5 hp
      go_wp2_with fail
      go_ret
      exact ⟨r, gs, rfl, X.out⟩
    · have hto : to = 8 := by omega
      have g1 : ¬ (us.length : Int) < (s.acked : Int) + 8 := by have := HU.out; omega
      have hus : (s.acked : Int) + 8 = ((s.acked + to : Nat) : Int) := by omega
      have g2 : (s.acked : Int) + (s.sent : Int) < (s.acked : Int) + 8 := by omega
      have HUS := Lib.hid hus
      clear hto hus
      go_enter Try.func23, Try.ntmps23
      go_wp2_with fail
      rw [HUS.out, ← HW1.out]
      refine (HR.out).mono ?_
      rintro e w2 hp
      have hp2 := FIN.out e w2 hp
      obtain ⟨r, gs, rfl, x1, x2, x3, x4, x5⟩ := hp2
      have X := Lib.hid (And.intro x1 (And.intro x2 (And.intro x3 (And.intro x4 x5))))
      clear x1 x2 x3 x4 x5 hp
      go_wp2_with fail
      go_ret
      exact ⟨r, gs, rfl, X.out⟩
  · have eS : dueS s = { s with owed := false } := by unfold dueS; rw [← HTO.out, if_neg hlt]
    have ES := Lib.hid eS
    clear eS
    by_cases hx8 : s.xs.length < 8
    · have g1 : (us.length : Int) < (s.acked : Int) + 8 := by have := HU.out; omega
      have g2 : ¬ (s.acked : Int) + (s.sent : Int) < (us.length : Int) := by have := HU.out; omega
      by_cases how : s.owed = true
      · rw [how] at c5
        have eL : dueL s = [(0, s.taken, [])] := by unfold dueL; rw [← HTO.out, if_neg hlt, if_pos how]
        have EL := Lib.hid eL
        clear eL how
        go_enter Try.func23, Try.ntmps23
        go_wp2_with fail
        go_ret
        exact rd_owed H.out HJ.out ES.out EL.out rfl rfl
      · have how2 : s.owed = false := by simpa using how
        rw [how2] at c5
        have eL : dueL s = [] := by unfold dueL; rw [← HTO.out, if_neg hlt, if_neg how]
        have EL := Lib.hid eL
        have HOW := Lib.hid how2
        clear eL how how2
        go_enter Try.func23, Try.ntmps23
        go_wp2_with fail
        go_ret
        exact rd_none H.out HJ.out (ES.out.trans (owed_false HOW.out)) EL.out rfl
    · have g1 : ¬ (us.length : Int) < (s.acked : Int) + 8 := by have := HU.out; omega
      have g2 : ¬ (s.acked : Int) + (s.sent : Int) < (s.acked : Int) + 8 := by omega
      by_cases how : s.owed = true
      · rw [how] at c5
        have eL : dueL s = [(0, s.taken, [])] := by unfold dueL; rw [← HTO.out, if_neg hlt, if_pos how]
        have EL := Lib.hid eL
        clear eL how
        go_enter Try.func23, Try.ntmps23
        go_wp2_with fail
        go_ret
        exact rd_owed H.out HJ.out ES.out EL.out rfl rfl
      · have how2 : s.owed = false := by simpa using how
        rw [how2] at c5
        have eL : dueL s = [] := by unfold dueL; rw [← HTO.out, if_neg hlt, if_neg how]
        have EL := Lib.hid eL
        have HOW := Lib.hid how2
        clear eL how how2
        go_enter Try.func23, Try.ntmps23
        go_wp2_with fail
        go_ret
        exact rd_none H.out HJ.out (ES.out.trans (owed_false HOW.out)) EL.out rfl

theorem rt_set {w w1 w2 : World} {J : Nat → Prop} {b : Nat} {s s2 : SS} {v : Value} {al : List (List UInt8)} {l : List (Nat × Nat × List UInt8)} {e : Ending} {n : Int} {m : Nat} (h : IsRf w J b s v al) (hJ : ∀ k, J k → k < w.heap.size ∧ k ≠ b ∧ v.ownBlock ≠ some k) (hs : s2 = { s with silent := m }) (hl : l = []) (he : e = .returned (.slice none 0 0))
    (h1 : w1 = w.setCell ⟨b, 6, none⟩ (.int .i64 n)) (hn : (m : Int) = n) (e2 : w2.heap = w1.heap) (ht : w2.tape = w1.tape ∧ w2.os = w1.os ∧ w2.output = w1.output) : RdPost w w2 J b s2 v al l e := by
  subst hs; subst hl; subst h1
  have hb : Blk w2 b 55 (rfC { s with silent := m } v) := blkC (h.blk.set_ 6 (.int .i64 n)) e2 (by simp [rfC, hn])
  obtain ⟨r1, r2⟩ := rtake_close (s2 := { s with silent := m }) h hJ (keepU (upd_set w b 6 (.int .i64 n)) e2 ht) hb h.len h.xs
  exact ⟨.slice none 0 0, [], he, rfl, World.ownsRow_nil _ _ _ _, (fun g hg => by cases hg), r1, r2⟩

theorem rt_out {w wd : World} {J : Nat → Prop} {b : Nat} {s : SS} {v : Value} {al : List (List UInt8)} (h : IsRf w J b s v al) (hJ : ∀ k, J k → k < w.heap.size ∧ k ≠ b ∧ v.ownBlock ≠ some k) (ok : s.ok) (hq : s.silent ≤ 1000) (h0 : 0 < s.sent)
    (e : wd.heap = (w.setCell ⟨b, 6, none⟩ (.int .i64 ((s.silent : Int) + 1))).heap) (ht : wd.tape = w.tape ∧ wd.os = w.os ∧ wd.output = w.output) :
    Calls Try.prog 28 #[.pointer (some ⟨b, 0, none⟩), .int .i64 s.acked, .int .i64 ((s.acked : Int) + (s.sent : Int))] wd fun e w' => RdPost w w' J b { s with owed := false, silent := 0 } v al (outSpec s 0 s.sent) e := by
  have hu : Upd (only b) w wd := keepU (upd_set w b 6 (.int .i64 ((s.silent : Int) + 1))) e ht
  have hz : wd.heap.size = w.heap.size := by rw [e]; simp [World.setCell]
  have hb : Blk wd b 55 (rfC { s with silent := s.silent + 1 } v) := blkC (h.blk.set_ 6 (.int .i64 ((s.silent : Int) + 1))) e (by simp [rfC])
  obtain ⟨r1, _⟩ := rtake_close (s2 := { s with silent := s.silent + 1 }) h hJ hu hb h.len h.xs
  obtain ⟨o1, o2, o3, o4, o5, o6, o7, o8⟩ := ok
  by_cases h8 : s.silent + 1 ≤ 1000000
  · have hr := rout_any J b { s with silent := s.silent + 1 } v al 0 s.sent wd r1 ⟨o1, o2, o3, o4, o5, o6, o7, h8⟩ (fun k hk => by rw [hz]; exact hJ k hk) (Nat.zero_le _) o5
    have hr2 : Calls Try.prog 28 #[.pointer (some ⟨b, 0, none⟩), .int .i64 s.acked, .int .i64 ((s.acked : Int) + (s.sent : Int))] wd fun e w' => RoPost wd w' J b { s with silent := s.silent + 1 } { s with owed := false, silent := if 0 < s.sent then 0 else s.silent + 1 } v al 0 (s.sent - 0) e := by
      have e1 : (((s.acked + s.sent : Nat)) : Int) = (s.acked : Int) + (s.sent : Int) := by omega
      rw [← e1]
      exact hr
    refine hr2.mono fun e w' hp => ?_
    have := hp.at_ (s := s) hu hz rfl rfl rfl
    rw [if_pos h0] at this
    exact this
  · omega

set_option maxHeartbeats 4000000 in
theorem rtick_any (J : Nat → Prop) (b : Nat) (s : SS) (v : Value) (al : List (List UInt8)) (w : World) (h : IsRf w J b s v al) (ok : s.ok) (hq : s.silent ≤ 1000) (hJb : ∀ k, J k → k < w.heap.size ∧ k ≠ b ∧ v.ownBlock ≠ some k) :
    Calls Try.prog 22 #[.pointer (some ⟨b, 0, none⟩)] w fun e w' => RdPost w w' J b (tickS s) v al (tickL s) e := by
  obtain ⟨o1, o2, o3, o4, o5, o6, o7, o8⟩ := ok
  have c0 : w.cell? ⟨b, 0, none⟩ = some (.int .i64 s.again) := h.blk.cell 0
  have c2 : w.cell? ⟨b, 2, none⟩ = some (.int .i64 s.acked) := h.blk.cell 2
  have c3 : w.cell? ⟨b, 3, none⟩ = some (.int .i64 ((s.acked + s.sent : Nat) : Int)) := h.blk.cell 3
  have c6 : w.cell? ⟨b, 6, none⟩ = some (.int .i64 s.silent) := h.blk.cell 6
  have f6 : w.frozen? ⟨b, 6, none⟩ = false := h.blk.frozen 6
  have H := Lib.hid h
  have HJ := Lib.hid hJb
  clear h hJb
  by_cases h0 : s.sent = 0
  · have eS : tickS s = { s with silent := 0 } := by unfold tickS; rw [if_pos h0]
    have eL : tickL s = [] := by unfold tickL; rw [if_pos h0]
    have b0 : (((s.acked : Int) + (s.sent : Int)) == (s.acked : Int)) = true := beq_iff_eq.2 (by omega)
    have b0' : ((s.acked + s.sent) == s.acked) = true := beq_iff_eq.2 (by omega)
    have ES := Lib.hid eS
    have EL := Lib.hid eL
    have H0 := Lib.hid h0
    clear eS eL h0
    go_enter Try.func22, Try.ntmps22
    go_wp2_with fail
    go_quiet (fail)
    go_wp2_with fail
    go_ret
    exact rt_set H.out HJ.out ES.out EL.out rfl rfl rfl rfl ⟨rfl, rfl, rfl⟩
  · have b0 : (((s.acked : Int) + (s.sent : Int)) == (s.acked : Int)) = false := beq_eq_false_iff_ne.2 (by omega)
    have b0' : ((s.acked + s.sent) == s.acked) = false := beq_eq_false_iff_ne.2 (by omega)
    by_cases h1 : s.silent + 1 < s.again
    · have eS : tickS s = { s with silent := s.silent + 1 } := by unfold tickS; rw [if_neg h0, if_pos h1]
      have eL : tickL s = [] := by unfold tickL; rw [if_neg h0, if_pos h1]
      have g1 : (s.silent : Int) + 1 < (s.again : Int) := by omega
      have ES := Lib.hid eS
      have EL := Lib.hid eL
      clear eS eL
      go_enter Try.func22, Try.ntmps22
      go_wp2_with fail
      go_quiet (fail)
      go_wp2_with fail
      go_quiet (fail)
      go_wp2_with fail
      go_ret
      exact rt_set (n := (s.silent : Int) + 1) H.out HJ.out ES.out EL.out rfl rfl (by omega) rfl ⟨rfl, rfl, rfl⟩
    · have eS : tickS s = { s with owed := false, silent := 0 } := by unfold tickS; rw [if_neg h0, if_neg h1]
      have eL : tickL s = outSpec s 0 s.sent := by unfold tickL; rw [if_neg h0, if_neg h1]
      have g1 : ¬ (s.silent : Int) + 1 < (s.again : Int) := by omega
      have HR := Lib.hid (fun (wd : World) (e : wd.heap = (w.setCell ⟨b, 6, none⟩ (.int .i64 ((s.silent : Int) + 1))).heap) (ht : wd.tape = w.tape ∧ wd.os = w.os ∧ wd.output = w.output) => rt_out H.out HJ.out ⟨o1, o2, o3, o4, o5, o6, o7, o8⟩ hq (by omega) e ht)
      have ES := Lib.hid eS
      have EL := Lib.hid eL
      clear eS eL
      go_enter Try.func22, Try.ntmps22
      go_wp2_with fail
      go_quiet (fail)
      go_wp2_with fail
      go_quiet (fail)
      go_wp2_with fail
      go_region_law (go_simp; go_at_call 28; refine (HR.out _ (by rfl) (by exact ⟨rfl, rfl, rfl⟩)).mono ?_; rintro e w2 ⟨r, gs, rfl, x1, x2, x3, x4, x5⟩)
      all_goals
        have X := Lib.hid (And.intro x1 (And.intro x2 (And.intro x3 (And.intro x4 x5))))
        clear x1 x2 x3 x4 x5
        go_wp2_with fail
        go_ret
        have e1 := ES.out
        have e2 := EL.out
        show RdPost w _ J b (tickS s) v al (tickL s) _
        rw [e1, e2]
        exact ⟨r, gs, rfl, X.out⟩
end Go.Proofs.Ytmkjnblmgofoeaa
