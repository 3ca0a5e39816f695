/- The document's stream: out. -/
import Derived.Test.YtmkjnblmgofoeaaRfT
import Derived.Test.YtmkjnblmgofoeaaStOut
import Derived.IntWalk
namespace Go.Proofs.Ytmkjnblmgofoeaa
open Go.RowKit

/-- The bodies of these segments read as they say. -/
def RSeg (w : World) (J : Nat → Prop) (gs : List Sg) : Prop := ∀ g ∈ gs, ∃ (A : Option Addr) (c : Nat), g.u = Value.slice A g.x.length c ∧ Reads w J 1 A g.x.length (bytesV g.x)
theorem RSeg.keep {w w2 : World} {J : Nat → Prop} {gs : List Sg} (h : RSeg w J gs) (hs : Same J w w2) : RSeg w2 J gs := fun g hg => by
  obtain ⟨A, c, e, hr⟩ := h g hg
  exact ⟨A, c, e, hr.keep hs⟩
theorem reads_three' (w : World) (t : TypeId) (a b c : Value) : Reads (w.alloc (.cells #[a, b, c] t)) (fun _ => True) 3 (some ⟨w.heap.size, 0, none⟩) 1 [a, b, c] :=
  (reads_lit w t #[a, b, c] 1 3 (0, 0) rfl).mono fun _ _ => trivial

/-- Behind k rounds. -/
structure RoSt (w wr : World) (J : Nat → Prop) (s : SS) (frm k : Nat) (v : Value) (gs : List Sg) : Prop where
  map : gs.map Sg.t = outSpec s frm k
  own : wr.ownsRow w.heap.size 33 3 v gs.length (sgCells gs)
  seg : RSeg wr J gs
  upd : Upd (fun _ => False) w wr
theorem RoSt.step {w wr wq w2 : World} {J : Nat → Prop} {s : SS} {frm k : Nat} {v v2 : Value} {gs : List Sg} {ob : Obj} (h : RoSt w wr J s frm k v gs) (hJ : ∀ i, J i → i < w.heap.size) (e : wq.heap = (wr.alloc ob).heap) (ht : wq.tape = wr.tape ∧ wq.os = wr.os ∧ wq.output = wr.output) {A : Option Addr} {c : Nat} {x : List UInt8} (hx : s.xs[frm + k]? = some x) (hr : Reads w J 1 A x.length (bytesV x))
    (ho : w2.ownsRow w.heap.size 33 3 v2 (gs.length + 1) (sgCells gs ++ [.int .u64 ((s.acked + (frm + k) + 1 : Nat) : Int), .int .u64 s.taken, .slice A x.length c])) (hg : wq.grownBy w2 v.ownBlock) : RoSt w w2 J s frm (k + 1) v2 (gs ++ [⟨s.acked + (frm + k) + 1, s.taken, .slice A x.length c, x⟩]) := by
  have u1 : Upd (fun _ => False) w wq := by
    have := h.upd.alloc ob
    exact ⟨ht.2.1.trans h.upd.os, ht.1.trans h.upd.tape, ht.2.2.trans h.upd.output, by rw [e]; exact this.size, fun i hi hn => by rw [e]; exact this.block i hi hn⟩
  have u2 : Upd (fun _ => False) w w2 := u1.grown hg fun i hi => .inr (own_lt h.own hi).1
  have sm : Same J w w2 := u2.same fun _ h => h.elim
  refine ⟨by rw [List.map_append, h.map, outSpec_succ, hx]; rfl, by rw [sgCells_snoc, List.length_append]; exact ho, fun g hgm => ?_, u2⟩
  rcases List.mem_append.1 hgm with hgm | hgm
  · obtain ⟨A2, c2, e2, hr2⟩ := h.seg g hgm
    refine ⟨A2, c2, e2, hr2.keep ⟨?_, fun i hi _ => ?_⟩⟩
    · exact Nat.le_trans (by rw [e]; simp) hg.size
    · rw [u2.block i (hJ i hi) (fun h => h), h.upd.block i (hJ i hi) (fun h => h)]
  · rw [List.mem_singleton.1 hgm]
    exact ⟨A, c, rfl, hr.keep sm⟩

def RoPost (w w2 : World) (J : Nat → Prop) (b : Nat) (s s2 : SS) (v : Value) (al : List (List UInt8)) (frm m : Nat) (e : Ending) : Prop :=
  ∃ (r : Value) (gs : List Sg), e = .returned r ∧ gs.map Sg.t = outSpec s frm m ∧ w2.ownsRow w.heap.size 33 3 r gs.length (sgCells gs) ∧ RSeg w2 J gs ∧ IsRf w2 J b s2 v al ∧ Upd (only b) w w2
theorem rout_close {w wr w2 : World} {J : Nat → Prop} {b : Nat} {s s2 : SS} {v vl : Value} {al : List (List UInt8)} {frm k m : Nat} {gs : List Sg} {e : Ending} (h : IsRf w J b s v al) (hJ : ∀ k, J k → k < w.heap.size ∧ k ≠ b ∧ v.ownBlock ≠ some k) (st : RoSt w wr J s frm k vl gs) (hk : k = m) (he : e = .returned vl)
    (hu : Upd (only b) wr w2) (hb : Blk w2 b 55 (rfC s2 v)) (h1 : s2.acked = s.acked) (h2 : s2.xs = s.xs) : RoPost w w2 J b s s2 v al frm m e := by
  subst hk
  have hbl := h.blk.lt
  have hu2 : Upd (only b) w w2 := (st.upd.mono fun _ h => h.elim).trans_ hu
  obtain ⟨r1, r2⟩ := rtake_close (s2 := s2) h hJ hu2 hb (by rw [h1, h2]; exact h.len) (by rw [h1, h2]; exact h.xs)
  refine ⟨vl, gs, he, st.map, own_keep (I := fun i => w.heap.size ≤ i) st.own (hu.same fun i (hi : i = b) hn => by omega) fun i hi => (own_lt st.own hi).1, st.seg.keep (hu.same fun i (hi : i = b) hj => (hJ i hj).2.1 hi), r1, r2⟩

set_option maxHeartbeats 4000000 in
theorem rout_any (J : Nat → Prop) (b : Nat) (s : SS) (v : Value) (al : List (List UInt8)) (frm to : Nat) (w : World) (h : IsRf w J b s v al) (ok : s.ok) (hJb : ∀ k, J k → k < w.heap.size ∧ k ≠ b ∧ v.ownBlock ≠ some k) (h1 : frm ≤ to) (h2 : to ≤ s.xs.length) :
    Calls Try.prog 28 #[.pointer (some ⟨b, 0, none⟩), .int .i64 ((s.acked + frm : Nat) : Int), .int .i64 ((s.acked + to : Nat) : Int)] w fun e w' => RoPost w w' J b s { s with owed := false, silent := if frm < to then 0 else s.silent } v al frm (to - frm) e := by
  obtain ⟨o1, o2, o3, o4, o5, o6, o7, o8⟩ := ok
  obtain ⟨us, hown, hit⟩ := h.row
  have hul := hit.len
  have hal := h.len
  obtain ⟨i0, hi, hz0, hz1, hz2⟩ := info_parts info_seg
  have H := Lib.hid h
  have HO := Lib.hid hown
  have HIT := Lib.hid hit
  have HJ := Lib.hid hJb
  have HUL := Lib.hid hul
  have HAL := Lib.hid hal
  have hbl := h.blk.lt
  have hI0 : RoSt w w J s frm 0 (.slice none 0 0) [] := ⟨rfl, World.ownsRow_nil _ _ _ _, (fun g hg => by cases hg), Upd.refl _ _⟩
  have HI0 := Lib.hid hI0
  obtain ⟨F, hF⟩ : ∃ F, F = s.acked + frm := ⟨_, rfl⟩
  obtain ⟨T, hT⟩ : ∃ T, T = s.acked + to := ⟨_, rfl⟩
  rw [← hF, ← hT]
  have HF := Lib.hid hF
  have HT := Lib.hid hT
  clear h hown hit hJb hul hal hI0 hF hT
  go_enter Try.func28, Try.ntmps28
  go_wp2_with fail
  go_loopw [7, 8] (fun lv iv wr => ∃ (k : Nat) (gs : List Sg), iv = .int .i64 ((F + k : Nat) : Int) ∧ frm + k ≤ to ∧ RoSt w wr J s frm k lv gs) (fun _ iv _ => T - (intOf iv).toNat)
  case atStart => exact ⟨0, [], rfl, by omega, HI0.out⟩
  case round =>
    obtain ⟨k, gs, rfl, hkt, st⟩ := hrel
    obtain ⟨i, hik⟩ : ∃ i, i = F + k := ⟨_, rfl⟩
    rw [← hik]
    have HIK := Lib.hid hik
    have ST := Lib.hid st
    have hgl : gs.length = k := by have := congrArg List.length st.map; rwa [List.length_map, outSpec_len] at this
    obtain ⟨Al, cl, rfl, _⟩ := own_form st.own
    clear hik
    by_cases hlt : i < T
    · have hk2 : frm + k < to := by have := HIK.out; have := HF.out; have := HT.out; omega
      have hiu : i < us.length := by have := HIK.out; have := HF.out; have := HUL.out; have := HAL.out; omega
      obtain ⟨g1, c1, hv, _⟩ := own_form1 HO.out (by omega)
      obtain ⟨x, hx⟩ : ∃ x, s.xs[frm + k]? = some x := ⟨_, List.getElem?_eq_getElem (by omega)⟩
      have hxa : al[i]? = some x := by
        have e := H.out.xs
        rw [← e, List.getElem?_drop] at hx
        rw [HIK.out, HF.out, show s.acked + frm + k = s.acked + (frm + k) from by omega]
        exact hx
      obtain ⟨A, c, hu, hr⟩ := HIT.out.2 i us[i] x (List.getElem?_eq_getElem hiu) hxa
      subst hv
      have hbk : Blk wr b 55 (rfC s (.slice (some ⟨g1, 0, none⟩) us.length c1)) := H.out.blk.upd st.upd fun h => h
      have c1' : wr.cell? ⟨b, 1, none⟩ = some (.slice (some ⟨g1, 0, none⟩) us.length c1) := hbk.cell 1
      have c4' : wr.cell? ⟨b, 4, none⟩ = some (.int .u64 s.taken) := hbk.cell 4
      have ce : wr.cell? ⟨g1, i, none⟩ = some (.slice A x.length c) := by
        have h0 := HO.out.cells (g := g1) rfl i _ (List.getElem?_eq_getElem hiu)
        rw [add_off, Nat.zero_add, hu] at h0
        rw [← h0]
        exact World.cell?_of_block (st.upd.block g1 (own_lt HO.out rfl).2 fun h => h)
      have HR := Lib.hid hr
      have HX := Lib.hid hx
      have hone : ∀ u ∈ [Value.int .u64 ((i : Int) + 1), .int .u64 s.taken, .slice A x.length c], u.oneCell' = true := by
        intro u hu
        simp only [List.mem_cons, List.not_mem_nil, or_false] at hu
        rcases hu with rfl | rfl | rfl <;> rfl
      have hgk : gs.length ≤ 60000 := by omega
      have hmx : gs.length + 1 ≤ maxLen := by unfold maxLen; omega
      have hmb : (gs.length + 1) * 40 ≤ 140737488355328 := by omega
      have hi0 : (0 : Int) ≤ i := by omega
      have hi1 : (i : Int) < us.length := by omega
      have hi2 : (i : Int) ≤ 2000000 := by have := HIK.out; have := HF.out; omega
      have HGL := Lib.hid hgl
      have hsz : w.heap.size ≤ (wr.alloc (.cells #[.int .u64 ((i : Int) + 1), .int .u64 s.taken, .slice A x.length c] 33)).heap.size := Nat.le_trans st.upd.size (by simp)
      have hOW := Lib.hid st.own
      clear st hbk hu hr hx hxa hgl
      go_wp2_with fail
      have hw1 : IntKind.i64.wrap ((i : Int) + 1) = (i : Int) + 1 := IntWalk.i64_in _ (by omega)
      have hw2 : IntKind.u64.wrap ((i : Int) + 1) = (i : Int) + 1 := IntWalk.u64_in _ (by omega)
      go_region_law (refine step_append_any _ (by rfl) (.tmp 15) (.tmp 31) 22 (by rfl) w.heap.size 33 i0 _ 3 40 Try.underlying22 hi hz0 hz1 hz2 rfl (Nat.succ_pos 2) (.slice Al gs.length cl) gs.length (sgCells gs) (by rfl) (hOW.out.alloc _) (fun _ => True) (some ⟨wr.heap.size, 0, none⟩) 1 1 [.int .u64 ((i : Int) + 1), .int .u64 s.taken, .slice A x.length c] (by rfl) (reads_three' _ _ _ _ _) hone hmx hmb hsz ?_; intro v4 w4 hown4 hg4 hat4; obtain ⟨A4, c4, rfl, _⟩ := own_form hown4)
      all_goals
        clear hw1 hw2
        have sq : (i : Int) + 1 = ((s.acked + (frm + k) + 1 : Nat) : Int) := by have := HIK.out; have := HF.out; omega
        rw [sq] at hown4
        have SN := Lib.hid (ST.out.step (fun a ha => (HJ.out a ha).1) (by rfl) (by exact ⟨rfl, rfl, rfl⟩) HX.out HR.out hown4 hg4)
        clear sq hown4 hg4 hat4
        go_wp2_with fail
        go_roundw
        case rel => exact ⟨k + 1, _, by have := HIK.out; rw [show ((F + (k + 1) : Nat) : Int) = (i : Int) + 1 from by omega], by omega, SN.out⟩
        case measure => simp [intOf]; omega
    · obtain rfl : i = T := by have := HIK.out; have := HF.out; have := HT.out; omega
      have hk2 : k = to - frm := by have := HIK.out; have := HF.out; have := HT.out; omega
      have hbk : Blk wr b 55 (rfC s v) := H.out.blk.upd st.upd fun h => h
      have c5 : wr.cell? ⟨b, 5, none⟩ = some (.bool s.owed) := hbk.cell 5
      have c6 : wr.cell? ⟨b, 6, none⟩ = some (.int .i64 s.silent) := hbk.cell 6
      have f5 : wr.frozen? ⟨b, 5, none⟩ = false := hbk.frozen 5
      have f6 : wr.frozen? ⟨b, 6, none⟩ = false := hbk.frozen 6
      have HBK := Lib.hid hbk
      have HK2 := Lib.hid hk2
      have HGL := Lib.hid hgl
      clear st hbk hk2 hgl
      by_cases hft : frm < to
      · have hp : decide ((0 : Int) < (gs.length : Int)) = true := decide_eq_true (by have := HGL.out; have := HK2.out; omega)
        have hp2 : (0 : Int) < (gs.length : Int) := by have := HGL.out; have := HK2.out; omega
        go_wp2_with fail
        go_ret
        refine rout_close H.out HJ.out ST.out HK2.out rfl ((upd_set _ _ _ _).set_ _ _) ?_ rfl rfl
        have := (HBK.out.set_ 5 (.bool false)).set_ 6 (.int .i64 0)
        exact blkC this rfl (by simp [rfC])
      · have hp2 : ¬ (0 : Int) < (gs.length : Int) := by have := HGL.out; have := HK2.out; omega
        go_wp2_with fail
        go_ret
        refine rout_close H.out HJ.out ST.out HK2.out rfl (upd_set _ _ _ _) ?_ rfl rfl
        have := HBK.out.set_ 5 (.bool false)
        exact blkC this rfl (by simp [rfC])
end Go.Proofs.Ytmkjnblmgofoeaa
