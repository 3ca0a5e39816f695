/- The closure of RelWhole: an end takes a segment. -/
import Derived.Test.YtmkjnblmgofoeaaWhoM
import Derived.StillTailTactics
import Derived.IntWalk
namespace Go.Proofs.Ytmkjnblmgofoeaa
open Go.RowKit

theorem up_self {α : Type} (g : Nat → α) (f : Nat) : up g f (g f) = g := by
  funext k
  unfold up
  split
  · rename_i h; rw [h]
  · rfl

section
variable {w wr : World} {lab : Nat → Nat} {q : Fs} {v : Vv}
theorem keep3 {wq wd w1 : World} {labq lab2 : Nat → Nat} {o : Nat} {u : Value} {l : List Seg} (hp : PFl lab wr 14 u l) (h1 : Step 15 lab labq wr wq) (h2 : Step o labq lab2 wd w1) (e : wd.heap = wq.heap) (ht : wd.tape = wq.tape ∧ wd.os = wq.os ∧ wd.output = wq.output) (ho : o < 2) : PFl lab2 w1 14 u l :=
  PFl.keep (d := o) (PFl.keep (d := 15) (PFl.keep (d := 15) hp h1 (by omega) (by omega)) (Step.ofHeap 15 e ht) (by omega) (by omega)) h2 (by omega) (by omega)
theorem took_app {w1 wz w2 : World} {lab2 : Nat → Nat} (h : WSt w w1 lab2 q v) {o : Nat} (ho : o < 2) {ob : Obj} (hz : wz.heap = (w1.alloc ob).heap) (ht : wz.tape = w1.tape ∧ wz.os = w1.os ∧ wz.output = w1.output) {b : UInt8} {u2 : Value} {A : Option Addr} {c : Nat} (hA : v.tv o = .slice A (q.tk o).length c)
    (hown : w2.ownsRow 0 5 1 u2 ((q.tk o).length + 1) (bytesV (q.tk o) ++ [.int .u8 b.toNat])) (hgr : wz.grownBy w2 (Value.slice A (q.tk o).length c).ownBlock) (hat : u2.ownBlock = (Value.slice A (q.tk o).length c).ownBlock ∨ u2.ownBlock = some wz.heap.size) :
    ∃ lab3, WSt w w2 lab3 { q with tk := up q.tk o (q.tk o ++ [b]) } { v with tv := up v.tv o u2 } ∧ ∀ u l, PFl lab2 w1 14 u l → PFl lab3 w2 14 u l := by
  obtain ⟨labz, z1, _, _⟩ := relab w1.heap.size lab2 (fun _ => True) 2 2
  have hs : Step 15 lab2 labz w1 wz := by
    have hu : Upd (fun k => lab2 k = 15) w1 (w1.alloc ob) := (Upd.refl _ _).alloc _
    exact ⟨⟨ht.2.1, ht.1, ht.2.2, by rw [hz]; exact hu.size, fun k hk hn => by rw [hz]; exact hu.block k hk hn⟩, z1⟩
  have Wz := h.none_ (by omega) hs
  rw [← hA] at hgr hat
  obtain ⟨lab3, s3, p3⟩ := append_b (ys := [b]) (Wz.tk o ho) hown hgr hat
  exact ⟨lab3, Wz.setT ho s3 p3, fun u l hp => (hp.keep hs (by omega) (by omega)).keep s3 (by omega) (by omega)⟩

set_option maxHeartbeats 4000000 in
theorem clos_w (h : WSt w wr lab q v) (hta : v.ta = v.tv) {f o : Nat} (hfo : f + o = 1) (ok : (q.S o).ok) {sq a : Nat} {A : Option Addr} {x : List UInt8} {c : Nat} (hx : Reads wr (fun k => lab k = 2) 1 A x.length (bytesV x)) (hn : x.length ≤ 1024)
    (h1 : seqI (q.S o) sq = true → ∃ b, x = [b]) (hl : (q.tk o).length ≤ 1000) :
    Calls Try.prog 12 #[.int .i64 f, segP sq a A x.length c, .pointer (some ⟨w.heap.size + 2, 0, none⟩), .pointer (some ⟨w.heap.size + 5, 0, none⟩)] wr fun e w' => ∃ lab2 v2, e = .returned (.bool true) ∧
      WSt w w' lab2 { q with S := up q.S o (recvS (q.S o) (sq, a, x)), tk := up q.tk o (q.tk o ++ recvB (q.S o) (sq, a, x)) } v2 ∧ v2.fv = v.fv ∧ v2.av = v.av ∧ v2.sv = v.sv ∧ v2.sa = v.sa ∧ v2.ta = v2.tv ∧ ∀ u l, PFl lab wr 14 u l → PFl lab2 w' 14 u l := by
  have ho2 : o < 2 := by omega
  have hsub : (1 : Int) - (f : Int) = (o : Int) := by omega
  obtain ⟨wq, hwq⟩ : ∃ wq, wq = wr.alloc (.cells #[.int .u64 sq, .int .u64 a, .slice A x.length c] 33) := ⟨_, rfl⟩
  obtain ⟨labq, q1, _, _⟩ := relab wr.heap.size lab (fun _ => True) 2 2
  have sq_ : Step 15 lab labq wr wq := by
    refine ⟨?_, q1⟩
    rw [hwq]
    exact (Upd.refl _ _).alloc _
  have Wq := h.none_ (by omega) sq_
  have hxq : Reads wq (fun k => labq k = 2) 1 A x.length (bytesV x) := (hx.lt.keep (sq_.same (I := fun k => lab k = 2 ∧ k < wr.heap.size) fun k hk => by omega)).mono fun k hk => (q1 k hk.2).trans hk.1
  have ce : wq.cell? ⟨w.heap.size + 2, o, none⟩ = some (.pointer (some ⟨w.heap.size + o, 0, none⟩)) := Wq.ae.cell ho2
  have hk : Blk wq wr.heap.size 33 #[.int .u64 sq, .int .u64 a, .slice A x.length c] := by rw [hwq]; exact Blk.new _ _ _
  have c0 : wq.cell? ⟨wr.heap.size, 0, none⟩ = some (.int .u64 sq) := hk.cell 0
  have c1 : wq.cell? ⟨wr.heap.size, 1, none⟩ = some (.int .u64 a) := hk.cell 1
  have c2 : wq.cell? ⟨wr.heap.size, 2, none⟩ = some (.slice A x.length c) := hk.cell 2
  have HT := Lib.hid fun (wd : World) (e : wd.heap = wq.heap) (ht : wd.tape = wq.tape ∧ wd.os = wq.os ∧ wd.output = wq.output) => take_w (Wq.ofHeap e ht) ho2 ok (sq := sq) (a := a) (c := c) (hxq.keep (Same.ofHeap _ e)) hn
  have HWQ := Lib.hid hwq
  have H1 := Lib.hid h1
  have HTA := Lib.hid hta
  have HSQ := Lib.hid sq_
  have i0 : (0 : Int) ≤ (o : Int) := by omega
  have i1 : (o : Int) < 2 := by omega
  have hz : wq.heap.size = wr.heap.size + 1 := by rw [hwq]; simp
  clear hwq h1 hta sq_ q1 Wq hxq hk hx h
  go_enter Try.func12, Try.ntmps12
  go_wp2_with fail
  rw [← HWQ.out]
  by_cases hi : seqI (q.S o) sq = true
  case neg =>
    have hi2 : seqI (q.S o) sq = false := by simpa using hi
    have HI := Lib.hid hi2
    clear hi hi2
    have hwo : IntKind.i64.wrap (o : Int) = (o : Int) := IntWalk.i64_in _ (by omega)
    go_region_law (go_simp; go_at_call 10; refine (HT.out _ (by rfl) (by exact ⟨rfl, rfl, rfl⟩)).mono ?_; rintro e w1 ⟨u, lab2, he, hu, st, W1⟩; rw [HI.out] at he; obtain ⟨u1, rfl⟩ : ∃ u1, u1 = u := ⟨_, rfl⟩; obtain rfl : e = .returned (takeR u1 (ackS (q.S o) a).acked false) := he)
    all_goals
      clear hwo
      go_wp2_with fail
      go_ret
      refine ⟨lab2, v, rfl, ?_, rfl, rfl, rfl, rfl, HTA.out, fun u l hp => keep3 hp HSQ.out st rfl ⟨rfl, rfl, rfl⟩ ho2⟩
      have e1 : recvB (q.S o) (sq, a, x) = [] := by unfold recvB; rw [HI.out]; rfl
      rw [e1, List.append_nil, up_self]
      exact W1
  obtain ⟨b, hxb⟩ := H1.out hi
  have HI := Lib.hid hi
  have HXB := Lib.hid hxb
  have hx1 : x.length = 1 := by rw [hxb]; rfl
  have HX1 := Lib.hid hx1
  clear hi hxb hx1
  have hwo : IntKind.i64.wrap (o : Int) = (o : Int) := IntWalk.i64_in _ (by omega)
  go_region_law (go_simp; go_at_call 10; refine (HT.out _ (by rfl) (by exact ⟨rfl, rfl, rfl⟩)).mono ?_; rintro e w1 ⟨u, lab2, he, hu, st, W1⟩; rw [HI.out] at he; obtain ⟨u1, rfl⟩ : ∃ u1, u1 = u := ⟨_, rfl⟩; obtain rfl : e = .returned (takeR u1 (ackS (q.S o) a).acked true) := he)
  all_goals
    clear hwo
    have ho := hu HI.out
    obtain ⟨g, cg, rfl, _⟩ := own_form1 ho (by have := HX1.out; omega)
    have hc0 : w1.cell? ⟨g, 0, none⟩ = some (.int .u8 b.toNat) := by
      have := ho.cells (g := g) rfl 0 (.int .u8 b.toNat) (by rw [HXB.out]; rfl)
      rwa [add_off] at this
    rw [HX1.out]
    have ct := W1.atk.cell ho2
    have cf := W1.atk.1.frozen o
    obtain ⟨At, ct0, hAt, _⟩ := own_form (W1.tk o ho2).1
    have hrow := (W1.tk o ho2).1
    have cta : ∀ ob, (w1.alloc ob).cell? ⟨w.heap.size + 5, o, none⟩ = some (v.ta o) := fun ob => PAr.cell (lab := lab2) ⟨W1.atk.1.alloc ob, W1.atk.2⟩ ho2
    rw [HTA.out, hAt] at ct cta
    rw [hAt] at hrow
    have HROW := Lib.hid hrow
    have HAT := Lib.hid hAt
    have HW1 := Lib.hid W1
    have HST := Lib.hid st
    have h63 : (q.tk o).length + 1 ≤ maxLen := by unfold maxLen; omega
    have hmb : ((q.tk o).length + 1) * 1 ≤ 140737488355328 := by omega
    have hv1 : ∀ u ∈ [Value.int .u8 b.toNat], u.oneCell' = true := by simp [Value.oneCell']
    obtain ⟨i0_, hin, hz0, hz1, hz2⟩ := info_parts info_u8
    clear W1 st hrow hAt hu ho ce c0 c1 c2
    go_wp2_with fail
    have hwo : IntKind.i64.wrap (o : Int) = (o : Int) := IntWalk.i64_in _ (by omega)
    go_region_law (refine step_append_any _ (by rfl) (.tmp 33) (.tmp 37) 29 (by rfl) 0 5 i0_ _ 1 1 Try.underlying29 hin hz0 hz1 hz2 rfl Nat.one_pos (.slice At (q.tk o).length ct0) (q.tk o).length (bytesV (q.tk o)) (by rfl) (HROW.out.alloc _) (fun _ => True) (some ⟨w1.heap.size, 0, none⟩) 1 1 [.int .u8 b.toNat] (by rfl) (reads_new _ _ _) hv1 h63 hmb (Nat.zero_le _) ?_; intro v2 w2 hown2 hg2 hat2; obtain ⟨lab3, W3, K3⟩ := took_app HW1.out ho2 (by rfl) (by exact ⟨rfl, rfl, rfl⟩) HAT.out hown2 hg2 hat2; have hcc := W3.atk.cell ho2; have hff := W3.atk.1.frozen o; obtain ⟨A2, c2, rfl, _⟩ := own_form hown2)
    all_goals
      clear hwo
      go_wp2_with fail
      go_ret
      have eB : recvB (q.S o) (sq, a, x) = [b] := by unfold recvB; rw [HI.out, if_pos rfl, HXB.out]
      refine ⟨rfl, lab3, { v with tv := up v.tv o (.slice A2 ((q.tk o).length + 1) c2), ta := up v.ta o (.slice A2 ((q.tk o).length + 1) c2) }, ?_, rfl, rfl, rfl, rfl, by rw [HTA.out], fun u l hp => ?_⟩
      · rw [eB]
        exact (W3.storeT ho2 (.slice A2 ((q.tk o).length + 1) c2)).ofHeap rfl ⟨rfl, rfl, rfl⟩
      · exact (K3 u l (keep3 hp HSQ.out HST.out rfl ⟨rfl, rfl, rfl⟩ ho2)).keep (Step.set (c := 12) (f := o) (v := .slice A2 ((q.tk o).length + 1) c2) W3.atk.2) (by omega) (by omega)

/-- What stands behind f's Due or Tick: the row that came, and what an append onto the fly makes. -/
def After (w w1 : World) (lab1 : Nat → Nat) (q1 : Fs) (v : Vv) (f : Nat) (old l : List Seg) (Af : Option Addr) (gl cf : Nat) (gc : List Value) (Au : Option Addr) (m _cu : Nat) : Prop :=
  ∃ news : List Value, Reads w1 (fun _ => True) 3 Au m news ∧ (∀ u ∈ news, u.oneCell' = true) ∧ w1.ownsRow 0 33 3 (.slice Af gl cf) gl gc ∧ WSt w w1 lab1 q1 v ∧
    ∀ v2 w2, w2.ownsRow 0 33 3 v2 (gl + m) (gc ++ news) → w1.grownBy w2 (Value.slice Af gl cf).ownBlock → (v2.ownBlock = (Value.slice Af gl cf).ownBlock ∨ v2.ownBlock = some w1.heap.size) →
      ∃ lab3, WSt w w2 lab3 { q1 with F := up q1.F f (old ++ l) } { v with fv := up v.fv f v2 }
theorem sgCells_one {w : World} {I : Nat → Prop} : ∀ {gs : List Sg}, SgOk w I gs → ∀ u ∈ sgCells gs, u.oneCell' = true := by
  intro gs h u hu
  unfold sgCells at hu
  obtain ⟨g, hg, hu⟩ := List.mem_flatMap.1 hu
  obtain ⟨A, c, e, _⟩ := own_form (h g hg).1
  simp only [Sg.cells, List.mem_cons, List.not_mem_nil, or_false] at hu
  rcases hu with rfl | rfl | rfl
  · rfl
  · rfl
  · rw [e]; rfl
theorem after_mk {w1 : World} {lab1 : Nat → Nat} {q1 : Fs} {f : Nat} (hf : f < 2) (W1 : WSt w w1 lab1 q1 v) {u : Value} {l : List Seg} (hp : PFl lab1 w1 14 u l) {gs : List Sg} (hg : gs.map Sg.t = q1.F f) {Af : Option Addr} {cf : Nat} (hfv : v.fv f = .slice Af gs.length cf)
    (hown : w1.ownsRow 0 33 3 (.slice Af gs.length cf) gs.length (sgCells gs)) (hk : SgOk w1 (fun k => lab1 k = 2) gs) :
    ∃ Au m cu, u = .slice Au m cu ∧ m = l.length ∧ After w w1 lab1 q1 v f (q1.F f) l Af gs.length cf (sgCells gs) Au m cu := by
  obtain ⟨ls, hl, ho, hk2, hlab⟩ := hp
  obtain ⟨Au, cu, rfl, _⟩ := own_form ho
  refine ⟨Au, ls.length, cu, rfl, by rw [← hl, List.length_map], sgCells ls, Reads.of_own ho fun _ _ => trivial, sgCells_one hk2, hown, W1, fun v2 w2 ho2 hg2 hat => ?_⟩
  rw [← hfv] at hg2 hat
  obtain ⟨lab3, _, W3⟩ := append_w W1 hf hg hk hl hk2 ho2 hg2 hat
  exact ⟨lab3, W3⟩
theorem due_f (h : WSt w wr lab q v) {f : Nat} (hf : f < 2) (ok : (q.S f).ok) (hx : ∀ x ∈ (q.S f).xs, x.length ≤ 1024) (hl : (dueL (q.S f)).length ≤ 8) {gs : List Sg} (hg : gs.map Sg.t = q.F f) {Af : Option Addr} {cf : Nat} (hfv : v.fv f = .slice Af gs.length cf)
    (hown : wr.ownsRow 0 33 3 (.slice Af gs.length cf) gs.length (sgCells gs)) (hk : SgOk wr (fun k => lab k = 2) gs) (hv : ∀ k, (v.fv f).ownBlock = some k → lab k = 3 + f) :
    Calls Try.prog 11 #[.pointer (some ⟨w.heap.size + f, 0, none⟩)] wr fun e w' => ∃ Au m cu lab1, e = .returned (.slice Au m cu) ∧ m ≤ 8 ∧ After w w' lab1 { q with S := up q.S f (dueS (q.S f)) } v f (q.F f) (dueL (q.S f)) Af gs.length cf (sgCells gs) Au m cu := by
  refine (due_w h hf ok hx).mono ?_
  rintro e w1 ⟨u, lab1, rfl, hp, st, W1⟩
  have hown1 : w1.ownsRow 0 33 3 (.slice Af gs.length cf) gs.length (sgCells gs) := own_keep hown (st.same (I := fun k => lab k = 3 + f) fun k hk => by omega) fun k hk2 => hv k (by rw [hfv]; exact hk2)
  have hk1 : SgOk w1 (fun k => lab1 k = 2) gs := fun g hgm => by
    obtain ⟨g1, g2⟩ := hk g hgm
    exact ⟨own_keep g1 (st.same (I := fun k => lab k = 2) fun k hk => by omega) g2, fun k hk3 => by show lab1 k = 2; rw [st.lab k (own_lt g1 hk3).2]; exact g2 k hk3⟩
  obtain ⟨Au, m, cu, rfl, hm, AF⟩ := after_mk (q1 := { q with S := up q.S f (dueS (q.S f)) }) hf W1 hp hg hfv hown1 hk1
  exact ⟨Au, m, cu, lab1, rfl, by omega, AF⟩
theorem tick_f (h : WSt w wr lab q v) {f : Nat} (hf : f < 2) (ok : (q.S f).ok) (hq : (q.S f).silent ≤ 1000) (hx : ∀ x ∈ (q.S f).xs, x.length ≤ 1024) (hl : (tickL (q.S f)).length ≤ 8) {gs : List Sg} (hg : gs.map Sg.t = q.F f) {Af : Option Addr} {cf : Nat} (hfv : v.fv f = .slice Af gs.length cf)
    (hown : wr.ownsRow 0 33 3 (.slice Af gs.length cf) gs.length (sgCells gs)) (hk : SgOk wr (fun k => lab k = 2) gs) (hv : ∀ k, (v.fv f).ownBlock = some k → lab k = 3 + f) :
    Calls Try.prog 14 #[.pointer (some ⟨w.heap.size + f, 0, none⟩)] wr fun e w' => ∃ Au m cu lab1, e = .returned (.slice Au m cu) ∧ m ≤ 8 ∧ After w w' lab1 { q with S := up q.S f (tickS (q.S f)) } v f (q.F f) (tickL (q.S f)) Af gs.length cf (sgCells gs) Au m cu := by
  refine (tick_w h hf ok hq hx).mono ?_
  rintro e w1 ⟨u, lab1, rfl, hp, st, W1⟩
  have hown1 : w1.ownsRow 0 33 3 (.slice Af gs.length cf) gs.length (sgCells gs) := own_keep hown (st.same (I := fun k => lab k = 3 + f) fun k hk => by omega) fun k hk2 => hv k (by rw [hfv]; exact hk2)
  have hk1 : SgOk w1 (fun k => lab1 k = 2) gs := fun g hgm => by
    obtain ⟨g1, g2⟩ := hk g hgm
    exact ⟨own_keep g1 (st.same (I := fun k => lab k = 2) fun k hk => by omega) g2, fun k hk3 => by show lab1 k = 2; rw [st.lab k (own_lt g1 hk3).2]; exact g2 k hk3⟩
  obtain ⟨Au, m, cu, rfl, hm, AF⟩ := after_mk (q1 := { q with S := up q.S f (tickS (q.S f)) }) hf W1 hp hg hfv hown1 hk1
  exact ⟨Au, m, cu, lab1, rfl, by omega, AF⟩
end
end Go.Proofs.Ytmkjnblmgofoeaa
