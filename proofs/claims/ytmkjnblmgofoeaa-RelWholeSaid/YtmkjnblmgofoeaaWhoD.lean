/- RelWhole: what the acts of the law's switch make of the memory. -/
import Derived.Test.YtmkjnblmgofoeaaWhoC
import Derived.Test.YtmkjnblmgofoeaaWhoN
namespace Go.Proofs.Ytmkjnblmgofoeaa
open Go.RowKit

section
variable {w wr w2 : World} {lab lab2 : Nat → Nat} {q : Fs} {v : Vv}

theorem row_at {I : Nat → Prop} {Ag : Option Addr} {cg : Nat} {gs : List Sg} (ho : wr.ownsRow 0 33 3 (.slice Ag gs.length cg) gs.length (sgCells gs)) (hk : SgOk wr I gs) {j : Nat} (hj : j < gs.length) :
    ∃ ga sq ak x Ab cb, Ag = some ⟨ga, 0, none⟩ ∧ gs.length ≤ cg ∧ gs[j]? = some ⟨sq, ak, .slice Ab x.length cb, x⟩ ∧ wr.cell? ⟨ga, j * 3, none⟩ = some (.int .u64 sq) ∧ wr.cell? ⟨ga, j * 3 + 1, none⟩ = some (.int .u64 ak) ∧ wr.cell? ⟨ga, j * 3 + 2, none⟩ = some (.slice Ab x.length cb) ∧ Reads wr I 1 Ab x.length (bytesV x) := by
  obtain ⟨ga, c, e, hc⟩ := own_form1 ho (by omega)
  injection e with e1 _ e2
  subst e1; subst e2
  obtain ⟨g, hg⟩ : ∃ g, gs[j]? = some g := ⟨gs[j], List.getElem?_eq_getElem hj⟩
  obtain ⟨g1, g2⟩ := hk g (List.mem_of_getElem? hg)
  obtain ⟨Ab, cb, hu, _⟩ := own_form g1
  obtain ⟨sq, ak, u, x⟩ := g
  simp only at hu g1 g2
  subst hu
  obtain ⟨c0, c1, c2⟩ := sgCells_get gs j _ hg
  have f0 := ho.cells (g := ga) rfl _ _ c0
  have f1 := ho.cells (g := ga) rfl _ _ c1
  have f2 := ho.cells (g := ga) rfl _ _ c2
  rw [add_off, Nat.zero_add] at f0 f1 f2
  exact ⟨ga, sq, ak, x, Ab, cb, rfl, hc, hg, f0, f1, f2, Reads.of_own g1 g2⟩

/-- A new block has come, and nothing has turned. -/
theorem WSt.new_ (h : WSt w wr lab q v) (hu : Upd (fun _ => False) wr w2) : ∃ lab2, Step 15 lab lab2 wr w2 ∧ WSt w w2 lab2 q v := by
  obtain ⟨lab2, l1, _, _⟩ := relab wr.heap.size lab (fun _ => True) 2 2
  have hs : Step 15 lab lab2 wr w2 := ⟨hu.mono fun _ h => h.elim, l1⟩
  exact ⟨lab2, hs, h.none_ (by omega) hs⟩
theorem SgOk.step {c : Nat} {gs : List Sg} (h : SgOk wr (fun k => lab k = 2) gs) (hs : Step c lab lab2 wr w2) (hc : 2 ≠ c) : SgOk w2 (fun k => lab2 k = 2) gs := fun g hg => by
  obtain ⟨g1, g2⟩ := h g hg
  exact ⟨own_keep g1 (hs.same (I := fun k => lab k = 2) fun k hk => by omega) g2, fun k hk => by show lab2 k = 2; rw [hs.lab k (own_lt g1 hk).2]; exact g2 k hk⟩
theorem reads_lab {A : Option Addr} {n : Nat} {xs : List Value} {c : Nat} (h : Reads wr (fun k => lab k = 2) 1 A n xs) (hs : Step c lab lab2 wr w2) (hc : 2 ≠ c) : Reads w2 (fun k => lab2 k = 2) 1 A n xs :=
  (h.lt.keep (hs.same (I := fun k => lab k = 2 ∧ k < wr.heap.size) fun k hk => by omega)).mono fun k hk => (hs.lab k hk.2).trans hk.1

theorem sgCells_append (a b : List Sg) : sgCells (a ++ b) = sgCells a ++ sgCells b := by simp [sgCells]
theorem sgCells_take (gs : List Sg) (j : Nat) : (sgCells gs).take (j * 3) = sgCells (gs.take j) := by
  induction gs generalizing j with
  | nil => simp [sgCells]
  | cons a r ih =>
    rcases j with _ | j
    · simp [sgCells]
    · rw [show (j + 1) * 3 = j * 3 + 3 from by omega]
      show (([.int .u64 a.seq, .int .u64 a.ack, a.u] : List Value) ++ sgCells r).take (j * 3 + 3) = [.int .u64 a.seq, .int .u64 a.ack, a.u] ++ sgCells (r.take j)
      rw [← ih j]
      simp
theorem sgCells_drop (gs : List Sg) (j : Nat) : (sgCells gs).drop (j * 3) = sgCells (gs.drop j) := by
  induction gs generalizing j with
  | nil => simp [sgCells]
  | cons a r ih =>
    rcases j with _ | j
    · simp [sgCells]
    · rw [show (j + 1) * 3 = j * 3 + 3 from by omega]
      show (([.int .u64 a.seq, .int .u64 a.ack, a.u] : List Value) ++ sgCells r).drop (j * 3 + 3) = sgCells (r.drop j)
      rw [← ih j]
      simp
theorem Reads.take_ {I : Nat → Prop} {size n j : Nat} {A : Option Addr} {xs : List Value} (h : Reads wr I size A n xs) (hj : j ≤ n) : Reads wr I size A j (xs.take (j * size)) := by
  refine ⟨by rw [List.length_take, h.1, Nat.min_eq_left (Nat.mul_le_mul_right _ hj)], fun hn => ?_⟩
  obtain ⟨ad, e, hi, hb, hc⟩ := h.2 (by omega)
  refine ⟨ad, e, hi, hb, fun i u hu => hc i u ?_⟩
  rw [List.getElem?_take] at hu
  split at hu
  · exact hu
  · cases hu

theorem run_sl_drop (ga n cg : Nat) (wx : World) (lo : Int) (k : Nat) (hlo : lo = k) (hk : k ≤ n) :
    (Instr.slice 22 (.slice (some ⟨ga, 0, none⟩) n cg) (some (.int .i64 lo)) none none).run Try.prog wx = .ok (.slice (if cg = k then some ⟨ga, 0, none⟩ else (some (⟨ga, 0, none⟩ : Addr)).map (·.add (k * 3))) (n - k) (cg - k)) wx := by
  subst hlo
  have ht' : (Try.prog).underlying 22 = some (.slice ((Try.prog).elem 22)) := by simp [Program.elem, Try.underlying22]
  have he : (Try.prog).elem 22 = 33 := by simp [Program.elem, Try.underlying22]
  have hz : (Go.sizeOf 33).run Try.prog wx = .ok 3 wx := by go_simp
  rw [run_slice_l wx _ _ _ _ ht' .i64 _ (by omega) (by omega), he, hz]
  by_cases h0 : cg = k
  · simp [Result.andThen, sliced, h0]
  · simp [Result.andThen, sliced, h0]
theorem run_sl_take (ga n cg : Nat) (wx : World) (k : Nat) (hk : k ≤ cg) :
    (Instr.slice 22 (.slice (some ⟨ga, 0, none⟩) n cg) none (some (.int .i64 (k : Int))) none).run Try.prog wx = .ok (.slice (some ⟨ga, 0, none⟩) k cg) wx := by
  have ht' : (Try.prog).underlying 22 = some (.slice ((Try.prog).elem 22)) := by simp [Program.elem, Try.underlying22]
  have he : (Try.prog).elem 22 = 33 := by simp [Program.elem, Try.underlying22]
  have hz : (Go.sizeOf 33).run Try.prog wx = .ok 3 wx := by go_simp
  rw [run_slice_h wx _ _ _ _ ht' .i64 _ (by omega) (by omega), he, hz]
  simp [Result.andThen, sliced, Addr.add]
/-- Behind 'append(append(nil, fly[:j]..), fly[j+1:]..)'. -/
theorem cut_w (h : WSt w wr lab q v) {f : Nat} (hf : f < 2) {w1 : World} {gs : List Sg} (hg : gs.map Sg.t = q.F f) (hk : SgOk wr (fun k => lab k = 2) gs) {j : Nat} (hj : j < gs.length) {v1 v2 : Value}
    (hg1 : wr.grownBy w1 (Value.slice none 0 0).ownBlock) (hat1 : v1.ownBlock = (Value.slice none 0 0).ownBlock ∨ v1.ownBlock = some wr.heap.size)
    (ho2 : w2.ownsRow wr.heap.size 33 3 v2 (j + (gs.length - (j + 1))) (sgCells (gs.take j) ++ sgCells (gs.drop (j + 1)))) (hg2 : w1.grownBy w2 v1.ownBlock) :
    ∃ lab2, Step (3 + f) lab lab2 wr w2 ∧ WSt w w2 lab2 { q with F := up q.F f ((q.F f).take j ++ (q.F f).drop (j + 1)) } { v with fv := up v.fv f v2 } := by
  have hu : Upd (fun _ => False) wr w2 := ((Upd.refl _ _).grown hg1 fun k hk => by cases hk).grown hg2 fun k hk => by
    rcases hat1 with e | e
    · rw [e] at hk; cases hk
    · rw [e] at hk; injection hk with hk; exact .inr (by omega)
  have hmem : ∀ g ∈ gs.take j ++ gs.drop (j + 1), g ∈ gs := fun g hg => (List.mem_append.1 hg).elim List.mem_of_mem_take List.mem_of_mem_drop
  have hlen : (gs.take j ++ gs.drop (j + 1)).length = j + (gs.length - (j + 1)) := by rw [List.length_append, List.length_take, List.length_drop]; omega
  have ho3 : w2.ownsRow wr.heap.size 33 3 v2 (gs.take j ++ gs.drop (j + 1)).length (sgCells (gs.take j ++ gs.drop (j + 1))) := by
    rw [hlen, sgCells_append]
    exact ho2
  obtain ⟨lab2, st, W2⟩ := h.newF hf hu hk hmem ho3
  refine ⟨lab2, st, ?_⟩
  rw [List.map_append, List.map_take, List.map_drop, hg] at W2
  exact W2

theorem reads_three (w : World) (t : TypeId) (a b c : Value) : Reads (w.alloc (.cells #[a, b, c] t)) (fun _ => True) 3 (some ⟨w.heap.size, 0, none⟩) 1 [a, b, c] :=
  (reads_lit w t #[a, b, c] 1 3 (0, 0) rfl).mono fun _ _ => trivial
theorem alloc_step (_ : Nat → Nat) {ob : Obj} {wd : World} (hz : wd.heap = (wr.alloc ob).heap) (ht : wd.tape = wr.tape ∧ wd.os = wr.os ∧ wd.output = wr.output) : Upd (fun _ => False) wr wd := by
  have hu : Upd (fun _ => False) wr (wr.alloc ob) := (Upd.refl _ _).alloc _
  exact ⟨ht.2.1, ht.1, ht.2.2, by rw [hz]; exact hu.size, fun k hk hn => by rw [hz]; exact hu.block k hk hn⟩
/-- Behind 'append(fly, fly[j])'. -/
theorem dup_w (h : WSt w wr lab q v) {f : Nat} (hf : f < 2) {ob : Obj} {wd : World} (hz : wd.heap = (wr.alloc ob).heap) (ht : wd.tape = wr.tape ∧ wd.os = wr.os ∧ wd.output = wr.output) {gs : List Sg} (hg : gs.map Sg.t = q.F f) (hk : SgOk wr (fun k => lab k = 2) gs) {j : Nat} {g0 : Sg} (hj : gs[j]? = some g0)
    {A : Option Addr} {c : Nat} (hA : v.fv f = .slice A gs.length c) {v2 : Value} (ho : w2.ownsRow 0 33 3 v2 (gs.length + 1) (sgCells gs ++ [.int .u64 g0.seq, .int .u64 g0.ack, g0.u])) (hgr : wd.grownBy w2 (Value.slice A gs.length c).ownBlock) (hat : v2.ownBlock = (Value.slice A gs.length c).ownBlock ∨ v2.ownBlock = some wd.heap.size) :
    ∃ lab2, WSt w w2 lab2 { q with F := up q.F f (q.F f ++ [g0.t]) } { v with fv := up v.fv f v2 } := by
  obtain ⟨labd, sd, Wd⟩ := h.new_ (alloc_step lab hz ht)
  rw [← hA] at hgr hat
  have hkd := hk.step sd (by omega)
  have hk1 : SgOk wd (fun k => labd k = 2) [g0] := fun g hgm => by
    rw [List.mem_singleton.1 hgm]
    exact hkd g0 (List.mem_of_getElem? hj)
  obtain ⟨lab3, _, W3⟩ := append_w Wd hf hg hkd (ls := [g0]) rfl hk1 ho hgr hat
  exact ⟨lab3, W3⟩
theorem send_f (h : WSt w wr lab q v) {f : Nat} (hf : f < 2) (ok : (q.S f).ok) (b : UInt8) {wd : World} (hz : wd.heap = (wr.alloc (.cells #[.int .u8 b.toNat] 5)).heap) (ht : wd.tape = wr.tape ∧ wd.os = wr.os ∧ wd.output = wr.output) :
    Calls Try.prog 13 #[.pointer (some ⟨w.heap.size + f, 0, none⟩), .slice (some ⟨wr.heap.size, 0, none⟩) 1 1] wd fun e w' => ∃ r lab2, e = .returned (.tuple #[.int .u64 r, .int .i64 0]) ∧
      WSt w w' lab2 { q with S := up q.S f { q.S f with xs := (q.S f).xs ++ [[b]] } } v := by
  obtain ⟨labd, sd, Wd⟩ := h.new_ (alloc_step lab hz ht)
  have hr : Reads wd (fun _ => True) 1 (some ⟨wr.heap.size, 0, none⟩) [b].length (bytesV [b]) := (reads_new wr 5 (.int .u8 b.toNat)).keep (Same.ofHeap _ hz)
  refine (send_w Wd hf ok (x := [b]) (c := 1) hr (by simp)).mono ?_
  rintro e w2 ⟨lab2, rfl, _, W2⟩
  exact ⟨_, lab2, rfl, W2⟩
theorem sent_app {wz : World} (h : WSt w wr lab q v) {f : Nat} (hf : f < 2) {ob : Obj} (hz : wz.heap = (wr.alloc ob).heap) (ht : wz.tape = wr.tape ∧ wz.os = wr.os ∧ wz.output = wr.output) {b : UInt8} {u2 : Value} {A : Option Addr} {c : Nat} (hA : v.sv f = .slice A (q.sn f).length c)
    (hown : w2.ownsRow 0 5 1 u2 ((q.sn f).length + 1) (bytesV (q.sn f) ++ [.int .u8 b.toNat])) (hgr : wz.grownBy w2 (Value.slice A (q.sn f).length c).ownBlock) (hat : u2.ownBlock = (Value.slice A (q.sn f).length c).ownBlock ∨ u2.ownBlock = some wz.heap.size) :
    ∃ lab3, WSt w w2 lab3 { q with sn := up q.sn f (q.sn f ++ [b]) } { v with sv := up v.sv f u2 } := by
  obtain ⟨labd, sd, Wd⟩ := h.new_ (alloc_step lab hz ht)
  rw [← hA] at hgr hat
  obtain ⟨lab3, s3, p3⟩ := append_b (ys := [b]) (Wd.sn f hf) hown hgr hat
  exact ⟨lab3, Wd.setN hf s3 p3⟩
theorem same_none {I : Nat → Prop} (h : wr.grownBy w2 (Value.slice none 0 0).ownBlock) : Same I wr w2 := ⟨h.size, fun k _ hk => h.block k hk fun e => by cases e⟩
theorem cell_none (h : wr.grownBy w2 (Value.slice none 0 0).ownBlock) {a : Addr} {x : Value} (hc : wr.cell? a = some x) (ha : a.block < wr.heap.size) : w2.cell? a = some x :=
  (World.cell?_of_block (h.block _ ha fun e => by cases e)).trans hc
theorem kept_none {w1 : World} {v1 : Value} (hg1 : wr.grownBy w1 (Value.slice none 0 0).ownBlock) (hat1 : v1.ownBlock = (Value.slice none 0 0).ownBlock ∨ v1.ownBlock = some wr.heap.size) (hg2 : w1.grownBy w2 v1.ownBlock) {a : Addr} {x : Value} (hc : wr.cell? a = some x) (ha : a.block < wr.heap.size) : w2.cell? a = some x := by
  refine (World.cell?_of_block (w := w1) (hg2.block _ (Nat.lt_of_lt_of_le ha hg1.size) fun e => ?_)).trans (cell_none hg1 hc ha)
  rcases hat1 with h | h
  · rw [h] at e; cases e
  · rw [h] at e; injection e with e; omega
theorem reads3 {labb lab4 : Nat → Nat} {wb w4 : World} {f : Nat} {u : Value} {A : Option Addr} {n : Nat} {xs : List Value} (hf : f < 2) (h : Reads wr (fun k => lab k = 2) 1 A n xs) (sb : Step 15 lab labb wr wb) (s4 : Step (3 + f) labb lab4 wb w4) {b : Nat} (hl : lab4 b = 10) : Reads (w4.setCell ⟨b, f, none⟩ u) (fun k => lab4 k = 2) 1 A n xs :=
  reads_lab (c := 10) (reads_lab (c := 3 + f) (reads_lab (c := 15) h sb (by omega)) s4 (by omega)) (Step.set hl) (by omega)
theorem step_of {c : Nat} {wd wb : World} (h : Step c lab lab2 wd w2) (e : wd.heap = wb.heap) (ht : wd.tape = wb.tape ∧ wd.os = wb.os ∧ wd.output = wb.output) : Step c lab lab2 wb w2 :=
  ⟨⟨h.upd.os.trans ht.2.1, h.upd.tape.trans ht.1, h.upd.output.trans ht.2.2, by rw [← e]; exact h.upd.size, fun k hk hn => by rw [h.upd.block k (by rw [e]; exact hk) hn, e]⟩, fun k hk => h.lab k (by rw [e]; exact hk)⟩
end
end Go.Proofs.Ytmkjnblmgofoeaa
