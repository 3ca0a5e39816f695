/- Contract of (*Stream).segments. -/
import Derived.Test.YtmkjnblmgofoeaaStSeg
import Derived.Test.YtmkjnblmgofoeaaStSend
import Derived.StillTailTactics
namespace Go.Proofs.Ytmkjnblmgofoeaa
open Go.RowKit

def Sg.t (g : Sg) : Nat × Nat × List UInt8 := (g.seq, g.ack, g.x)
/-- The messages from one place on, k of them, as they go out. -/
def outSpec (s : SS) (frm k : Nat) : List (Nat × Nat × List UInt8) := (List.range k).map fun i => (s.acked + (frm + i) + 1, s.taken, s.xs[frm + i]?.getD [])
theorem outSpec_succ (s : SS) (frm k : Nat) : outSpec s frm (k + 1) = outSpec s frm k ++ [(s.acked + (frm + k) + 1, s.taken, s.xs[frm + k]?.getD [])] := by simp [outSpec, List.range_succ]
theorem outSpec_len (s : SS) (frm k : Nat) : (outSpec s frm k).length = k := by simp [outSpec]

/-- v is a slice of segments of the call's own, from B on. -/
structure SegRow (B : Nat) (w : World) (v : Value) (l : List (Nat × Nat × List UInt8)) : Prop where
  ex : ∃ gs : List Sg, gs.map Sg.t = l ∧ w.ownsRow B 33 3 v gs.length (sgCells gs) ∧ SgOk w (fun k => B ≤ k) gs

theorem sgCells_snoc (l : List Sg) (g : Sg) : sgCells (l ++ [g]) = sgCells l ++ [.int .u64 g.seq, .int .u64 g.ack, g.u] := by simp [sgCells, Sg.cells]

theorem items_at {w : World} {I : Nat → Prop} : ∀ {us : List Value} {xs : List (List UInt8)}, Items w I us xs → ∀ k, k < xs.length → ∃ u, us[k]? = some u ∧ w.ownsRow 0 5 1 u (xs[k]?.getD []).length (bytesV (xs[k]?.getD [])) ∧ ∀ g, u.ownBlock = some g → I g
  | u :: _, x :: _, h, 0, _ => ⟨u, rfl, h.1⟩
  | _ :: us, _ :: xs, h, k + 1, hk => by
    have := items_at h.2 k (by simpa using hk)
    simpa using this
  | [], [], _, k, hk => by simp at hk
  | [], _ :: _, h, _, _ => h.elim
  | _ :: _, [], h, _, _ => h.elim

theorem add_any2 (b o sb : Nat) (s : SS) (vl vo : Value) (sq : Int) (seq : Nat) (J : Nat → Prop) (A : Option Addr) (x : List UInt8) (m c n : Nat) (cells : List Value) (w : World) (hsq : sq = seq) (hm : m = x.length)
    (hk : Blk w b 63 (strC s vl)) (ho : Blk w o 22 #[vo]) (hs : Blk w sb 24 #[.pointer (some ⟨b, 0, none⟩)])
    (hx : Reads w J 1 A x.length (bytesV x)) (hn : x.length ≤ 60000) (hown : w.ownsRow 0 33 3 vo n cells) (hn2 : n ≤ 100000) :
    Calls Try.prog 29 #[.int .u64 sq, .slice A m c, .pointer (some ⟨o, 0, none⟩), .pointer (some ⟨sb, 0, none⟩)] w fun e w' => e = .returned (.tuple #[]) ∧
      ∃ u v2, Blk w' o 22 #[v2] ∧ w'.ownsRow 0 33 3 v2 (n + 1) (cells ++ [.int .u64 seq, .int .u64 s.taken, u]) ∧ w'.ownsRow w.heap.size 5 1 u x.length (bytesV x) ∧
        Upd (fun k => k = o ∨ vo.ownBlock = some k) w w' ∧ (v2.ownBlock = vo.ownBlock ∨ ∀ k, v2.ownBlock = some k → w.heap.size ≤ k) := by
  subst hsq; subst hm
  exact add_any b o sb s vl vo seq J A x c n cells w hk ho hs hx hn hown hn2

theorem SgOk.upd {w w2 : World} {I F : Nat → Prop} {l : List Sg} (h : SgOk w I l) (hu : Upd F w w2) (hF : ∀ g ∈ l, ∀ k, g.u.ownBlock = some k → ¬ F k) : SgOk w2 I l :=
  fun g hg => ⟨own_keep (I := fun k => g.u.ownBlock = some k) (h g hg).1 (hu.same fun k hk hi => hF g hg k hi hk) fun _ h => h, (h g hg).2⟩
theorem own_own_ne {w : World} {b1 b2 s1 s2 n1 n2 : Nat} {e1 e2 : TypeId} {v1 v2 : Value} {x1 x2 : List Value} (h1 : w.ownsRow b1 e1 s1 v1 n1 x1) (h2 : w.ownsRow b2 e2 s2 v2 n2 x2) (hne : e1 ≠ e2) {k : Nat} (hk : v1.ownBlock = some k) : v2.ownBlock ≠ some k := by
  rcases h1.2 with ⟨rfl, _⟩ | ⟨g, cap, cur, rfl, _, hh, _⟩
  · cases hk
  · injection hk with hk
    subst hk
    exact own_blk_ne h2 (t := e1) (cs := cur) hh (fun e => hne e.symm)

/-- What holds when k segments are made. -/
def SegSt (w wr : World) (b : Nat) (s : SS) (frm k : Nat) : Prop :=
  Below w.heap.size w wr ∧ Blk wr w.heap.size 24 #[.pointer (some ⟨b, 0, none⟩)] ∧ ∃ (vo : Value) (gs : List Sg), gs.map Sg.t = outSpec s frm k ∧ Blk wr (w.heap.size + 1) 22 #[vo] ∧
    wr.ownsRow 0 33 3 vo gs.length (sgCells gs) ∧ (∀ g, vo.ownBlock = some g → w.heap.size ≤ g) ∧ SgOk wr (fun k => w.heap.size ≤ k) gs

theorem SegSt.len {w wr : World} {b : Nat} {s : SS} {frm k : Nat} (h : SegSt w wr b s frm k) {vo : Value} {gs : List Sg} (h1 : Blk wr (w.heap.size + 1) 22 #[vo]) (h2 : wr.ownsRow 0 33 3 vo gs.length (sgCells gs)) : gs.length = k := by
  obtain ⟨_, _, v, g2, hl, hO, ho, _, _⟩ := h
  have e : v = vo := by
    unfold Blk at hO h1
    rw [hO] at h1
    injection h1 with h1
    injection h1 with h1
    simpa using h1
  subst e
  have e1 := own_form ho
  have e2 := own_form h2
  obtain ⟨A, c, e1, _⟩ := e1
  obtain ⟨A', c', e2, _⟩ := e2
  rw [e1] at e2
  injection e2 with _ e2
  have := congrArg List.length hl
  rw [List.length_map, outSpec_len] at this
  omega

/-- One segment more. -/
theorem SegSt.step {w wr w2 : World} {b : Nat} {s : SS} {frm k : Nat} {vo u v2 : Value} {x : List UInt8} (h : SegSt w wr b s frm k) {gs : List Sg} (hg : gs.map Sg.t = outSpec s frm k) (hO : Blk wr (w.heap.size + 1) 22 #[vo]) (ho : wr.ownsRow 0 33 3 vo gs.length (sgCells gs))
    (hvo : ∀ g, vo.ownBlock = some g → w.heap.size ≤ g) (hok : SgOk wr (fun k => w.heap.size ≤ k) gs)
    (hO2 : Blk w2 (w.heap.size + 1) 22 #[v2]) (ho2 : w2.ownsRow 0 33 3 v2 (gs.length + 1) (sgCells gs ++ [.int .u64 (s.acked + (frm + k) + 1 : Nat), .int .u64 s.taken, u])) (hu : w2.ownsRow wr.heap.size 5 1 u x.length (bytesV x))
    (hx : x = s.xs[frm + k]?.getD []) (hup : Upd (fun k => k = w.heap.size + 1 ∨ vo.ownBlock = some k) wr w2) (hat : v2.ownBlock = vo.ownBlock ∨ ∀ k, v2.ownBlock = some k → wr.heap.size ≤ k) : SegSt w w2 b s frm (k + 1) := by
  obtain ⟨hbr, hS, _⟩ := h
  have hsz := hbr.size
  have hO1 := hO.lt
  have hsb : vo.ownBlock ≠ some w.heap.size := own_blk_ne ho hS (by decide)
  refine ⟨below_upd hbr hup (fun k hk => by rcases hk with hk | hk; omega; exact hvo k hk) hsz, hS.upd hup (fun hk => by rcases hk with hk | hk; omega; exact hsb hk), v2, gs ++ [⟨s.acked + (frm + k) + 1, s.taken, u, x⟩], ?_, hO2, ?_, ?_, ?_⟩
  · rw [List.map_append, hg, outSpec_succ, hx]; rfl
  · rw [sgCells_snoc, List.length_append]; exact ho2
  · intro g hg2
    rcases hat with e | e
    · exact hvo g (e ▸ hg2)
    · exact Nat.le_trans hsz (e g hg2)
  · intro g hg2
    rcases List.mem_append.1 hg2 with hg2 | hg2
    · refine (hok.upd hup fun g hg k hk => ?_) g hg2
      rintro (rfl | hk2)
      · exact own_blk_ne (hok g hg).1 hO (by decide) hk
      · exact own_own_ne (hok g hg).1 ho (by decide) hk hk2
    · rw [List.mem_singleton.1 hg2]
      exact ⟨own_base hu (Nat.zero_le _), fun k hk => Nat.le_trans hsz (own_lt hu hk).1⟩

theorem seg_close {B b : Nat} {wr w2 : World} {v : Value} {gs : List Sg} {s : SS} {frm k m : Nat} (hg : gs.map Sg.t = outSpec s frm k) (ho : wr.ownsRow 0 33 3 v gs.length (sgCells gs)) (hv : ∀ g, v.ownBlock = some g → B ≤ g) (hok : SgOk wr (fun k => B ≤ k) gs)
    (hk : k = m) (hu : Upd (only b) wr w2) (hb : b < B) : SegRow B w2 v (outSpec s frm m) := by
  subst hk
  have hs : Same (fun k => B ≤ k) wr w2 := hu.same fun k (e : k = b) hk => by omega
  refine ⟨gs, hg, ?_, hok.keep hs⟩
  have := own_keep ho hs hv
  refine ⟨this.1, ?_⟩
  rcases this.2 with h | ⟨g, cap, cur, e, _, r⟩
  · exact .inl h
  · exact .inr ⟨g, cap, cur, e, hv g (by rw [e]; rfl), r⟩

set_option maxHeartbeats 4000000 in
theorem segments_any (M I : Nat → Prop) (b : Nat) (s : SS) (frm to : Nat) (w : World) (h : IsStr w M I b s) (ok : s.ok) (h1 : frm ≤ to) (h2 : to ≤ s.xs.length) (hx : ∀ x ∈ s.xs, x.length ≤ 1024) :
    Calls Try.prog 27 #[.pointer (some ⟨b, 0, none⟩), .int .i64 frm, .int .i64 to] w fun e w' => ∃ v, e = .returned v ∧ SegRow w.heap.size w' v (outSpec s frm (to - frm)) ∧
      IsStr w' M I b { s with owed := false, silent := if frm < to then 0 else s.silent } ∧ Upd (only b) w w' := by
  obtain ⟨o1, o2, o3, o4, o5, o6, o7, o8⟩ := ok
  obtain ⟨v, us, hk, hown, hit, hM⟩ := h.ex
  have hlen := hit.len
  obtain ⟨A1, c1, rfl, _⟩ := own_form hown
  have HK := Lib.hid hk
  have HW := Lib.hid hown
  have HI := Lib.hid hit
  have H := Lib.hid h
  have HX := Lib.hid hx
  have HLn := Lib.hid hlen
  have hlt := hk.lt
  clear hk hown hit h hx hM hlen
  go_enter Try.func27, Try.ntmps27
  go_wp2_with fail
  obtain ⟨w1, hw1⟩ : ∃ w1, w1 = (w.alloc (.cells #[.pointer (some ⟨b, 0, none⟩)] 24)).alloc (.cells #[.slice none 0 0] 22) := ⟨_, rfl⟩
  have hb1 : Below w.heap.size w w1 := by rw [hw1]; exact ((Below.refl _ _).alloc (Nat.le_refl _) _).alloc (by simp) _
  have hS1 : Blk w1 w.heap.size 24 #[.pointer (some ⟨b, 0, none⟩)] := by rw [hw1]; exact (Blk.new _ _ _).alloc _
  have hO1 : Blk w1 (w.heap.size + 1) 22 #[.slice none 0 0] := by rw [hw1]; have := Blk.new (w.alloc (.cells #[.pointer (some ⟨b, 0, none⟩)] 24)) 22 #[.slice none 0 0]; rwa [World.size_alloc] at this
  have hI0 : SegSt w w1 b s frm 0 := ⟨hb1, hS1, .slice none 0 0, [], rfl, hO1, World.ownsRow_nil _ _ _ _, fun g hg => by (cases hg), fun g hg => by (cases hg)⟩
  have HI0 := Lib.hid hI0
  rw [← hw1]
  clear hw1 hb1 hS1 hO1 hI0
  go_loopw [9] (fun i wr => ∃ k : Nat, i = .int .i64 ((frm + k : Nat) : Int) ∧ frm + k ≤ to ∧ SegSt w wr b s frm k) (fun i _ => to - (intOf i).toNat)
  case atStart => exact ⟨0, rfl, by omega, HI0.out⟩
  case round =>
    obtain ⟨k, rfl, hkt, st⟩ := hrel
    have ST := Lib.hid st
    clear st
    obtain ⟨i, hik⟩ : ∃ i, i = frm + k := ⟨_, rfl⟩
    have HIK := Lib.hid hik
    rw [← hik] at hkt ⊢
    clear hik
    by_cases hlt2 : i < to
    · obtain ⟨hbr, hSr, vo, gs, hgs, hOr, hor, hvo, hok⟩ := id ST.out
      obtain ⟨u, hu, hou, _⟩ := items_at HI.out i (by omega)
      obtain ⟨Au, cu, rfl, _⟩ := own_form hou
      obtain ⟨x, hxe⟩ : ∃ x, x = s.xs[i]?.getD [] := ⟨_, rfl⟩
      rw [← hxe] at hou hu
      have hx1 : x.length ≤ 1024 := by
        have hm : s.xs[i]'(by omega) ∈ s.xs := List.getElem_mem _
        have := HX.out _ hm
        rw [hxe, List.getElem?_eq_getElem (by omega)]
        exact this
      obtain ⟨g1, cc, hA1, _⟩ := own_form1 HW.out (by have := HLn.out; omega)
      injection hA1 with hA1 _ hA2
      subst hA1; subst hA2
      have hkr := HK.out.below hbr hlt
      have hc0 : wr.cell? ⟨w.heap.size, 0, none⟩ = some (.pointer (some ⟨b, 0, none⟩)) := hSr.cell 0
      have hc1 : wr.cell? ⟨b, 1, none⟩ = some (.int .u64 s.acked) := hkr.cell 1
      have hc2 : wr.cell? ⟨b, 2, none⟩ = some (.slice (some ⟨g1, 0, none⟩) us.length c1) := hkr.cell 2
      have hc3 : wr.cell? ⟨g1, i, none⟩ = some (.slice Au x.length cu) := by
        have h0 := HW.out.cells (g := g1) rfl i _ hu
        rw [add_off, Nat.zero_add] at h0
        rw [← h0]
        exact hbr.cell (own_lt HW.out rfl).2
      have hxr : Reads wr (fun k => k < w.heap.size) 1 Au x.length (bytesV x) := (Reads.of_own (I := fun k => k < w.heap.size) hou fun g hg => (own_lt hou hg).2).keep (Same.ofBelow hbr fun _ h => h)
      have hgl : gs.length ≤ 100000 := by have := SegSt.len ST.out hOr hor; have := HIK.out; omega
      have hi0 : (0 : Int) ≤ i := by omega
      have hi1 : (i : Int) < us.length := by have := HLn.out; omega
      have hul : us.length ≤ 60000 := by have := HLn.out; omega
      have HA := Lib.hid (fun (wq : World) (e : wq.heap = wr.heap) => add_any2 b (w.heap.size + 1) w.heap.size s (.slice (some ⟨g1, 0, none⟩) us.length c1) vo ((s.acked : Int) + i + 1) (s.acked + i + 1) (fun k => k < w.heap.size) Au x x.length cu gs.length (sgCells gs) wq (by omega) rfl
        (by unfold Blk; rw [e]; exact hkr) (by unfold Blk; rw [e]; exact hOr) (by unfold Blk; rw [e]; exact hSr) (hxr.keep (Same.ofHeap _ e)) (by omega) (own_keep (I := fun _ => True) hor (Same.ofHeap _ e) fun _ _ => trivial) hgl)
      have HOR := Lib.hid hOr
      have HOW := Lib.hid hor
      have HGS := Lib.hid hgs
      have HVO := Lib.hid hvo
      have HOK := Lib.hid hok
      have HXE := Lib.hid hxe
      clear hbr hSr hOr hor hu hou hkr hxr hxe hgs hvo hok
      go_wp2_with fail
      go_still_tail 16, (by kernel_rfl)
      go_wp2_with fail
      refine (HA.out _ (by rfl)).mono ?_
      rintro e w2 ⟨rfl, u2, v2, hO2, ho2, hu2, hup, hat⟩
      go_wp2
      refine ⟨⟨k + 1, by have := HIK.out; rw [show ((frm + (k + 1) : Nat) : Int) = (i : Int) + 1 from by omega], by have := HIK.out; omega, ?_⟩, by simp [intOf]; omega⟩
      have hik := HIK.out
      subst hik
      exact ST.out.step HGS.out HOR.out HOW.out HVO.out HOK.out hO2 ho2 hu2 HXE.out ⟨hup.os, hup.tape, hup.output, hup.size, hup.block⟩ hat
    · obtain rfl : i = to := by omega
      obtain ⟨hbr, hSr, vo, gs, hgs, hOr, hor, hvo, hok⟩ := id ST.out
      obtain ⟨Av, cv, rfl, _⟩ := own_form hor
      have hkr := HK.out.below hbr hlt
      have hbs : b ≠ w.heap.size := by omega
      have hbo : b ≠ w.heap.size + 1 := by omega
      have hc0 : wr.cell? ⟨w.heap.size, 0, none⟩ = some (.pointer (some ⟨b, 0, none⟩)) := hSr.cell 0
      have hco : wr.cell? ⟨w.heap.size + 1, 0, none⟩ = some (.slice Av gs.length cv) := hOr.cell 0
      have hc5 : wr.cell? ⟨b, 5, none⟩ = some (.bool s.owed) := hkr.cell 5
      have hc6 : wr.cell? ⟨b, 6, none⟩ = some (.int .i64 s.silent) := hkr.cell 6
      have hf5 : wr.frozen? ⟨b, 5, none⟩ = false := hkr.frozen 5
      have hf6 : wr.frozen? ⟨b, 6, none⟩ = false := hkr.frozen 6
      have hk2 : k = i - frm := by have := HIK.out; omega
      have hu0 : Upd (only b) w wr := Upd.ofBelow hbr _
      have HU := Lib.hid hu0
      have HGS := Lib.hid hgs
      have HOW := Lib.hid hor
      have HVO := Lib.hid hvo
      have HOK := Lib.hid hok
      have HKR := Lib.hid hbr
      have HK2 := Lib.hid hk2
      clear hbr hSr hOr hor hgs hvo hok hkr hu0 hk2
      by_cases hft : frm < i
      · go_wp2
        go_ret
        exact ⟨_, rfl, seg_close HGS.out HOW.out HVO.out HOK.out HK2.out (((upd_set _ _ _ _).set_ _ _)) (H.out.ltM b H.out.mb), H.out.cells ((HU.out.set_ _ _).set_ _ _) rfl fun v hb => by
          have := ((hb.below HKR.out hlt).set_ 5 (.bool false)).set_ 6 (.int .i64 0)
          simpa [strC, hft] using this, (HU.out.set_ _ _).set_ _ _⟩
      · go_wp2
        go_ret
        exact ⟨_, rfl, seg_close HGS.out HOW.out HVO.out HOK.out HK2.out (upd_set _ _ _ _) (H.out.ltM b H.out.mb), H.out.cells (HU.out.set_ _ _) rfl fun v hb => by
          have := (hb.below HKR.out hlt).set_ 5 (.bool false)
          simpa [strC, hft] using this, HU.out.set_ _ _⟩
end Go.Proofs.Ytmkjnblmgofoeaa
