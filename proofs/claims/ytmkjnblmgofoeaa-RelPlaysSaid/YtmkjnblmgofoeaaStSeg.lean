/- Contracts of the closure in (*Stream).segments, and of segments. -/
import Derived.Test.YtmkjnblmgofoeaaSt
namespace Go.Proofs.Ytmkjnblmgofoeaa
open Go.RowKit

theorem info_seg : (Try.prog.info? 33).map (fun i => (i.zero, i.size, i.bytes)) = some (some (.agg #[.int .u64 0, .int .u64 0, .slice none 0 0]), 3, 40) := by kernel_rfl

/-- A segment that was made: its body's value, and what that holds. -/
structure Sg where
  seq : Nat
  ack : Nat
  u : Value
  x : List UInt8
def Sg.cells (g : Sg) : List Value := [.int .u64 g.seq, .int .u64 g.ack, g.u]
def sgCells (l : List Sg) : List Value := l.flatMap Sg.cells
theorem sgCells_len (l : List Sg) : (sgCells l).length = l.length * 3 := by
  induction l with
  | nil => rfl
  | cons a r ih => simp [sgCells, Sg.cells] at ih ⊢; omega
def SgOk (w : World) (I : Nat → Prop) (l : List Sg) : Prop := ∀ g ∈ l, w.ownsRow 0 5 1 g.u g.x.length (bytesV g.x) ∧ ∀ k, g.u.ownBlock = some k → I k
theorem SgOk.keep {w w2 : World} {I : Nat → Prop} {l : List Sg} (h : SgOk w I l) (hs : Same I w w2) : SgOk w2 I l := fun g hg => ⟨own_keep (h g hg).1 hs (h g hg).2, (h g hg).2⟩
theorem SgOk.mono {w : World} {I J : Nat → Prop} {l : List Sg} (h : SgOk w I l) (hs : ∀ k, I k → J k) : SgOk w J l := fun g hg => ⟨(h g hg).1, fun k hk => hs k ((h g hg).2 k hk)⟩

theorem add_close {o n co c2 cv : Nat} {Ao Av A2 : Option Addr} {x : List UInt8} {cells : List Value} {seq tk : Int} {w wq w1 w2 : World} (he : wq.heap = w.heap) (ht : wq.tape = w.tape ∧ wq.os = w.os ∧ wq.output = w.output)
    (ho : Blk w o 22 #[.slice Ao n co]) (hown : w.ownsRow 0 33 3 (.slice Ao n co) n cells) (hb1 : Below wq.heap.size wq w1) (hown1 : w1.ownsRow wq.heap.size 5 1 (.slice Av x.length cv) x.length (bytesV x))
    (hO2 : Blk w2 o 22 #[.slice Ao n co]) {ob : Obj} (hg2 : (w1.alloc ob).grownBy w2 (Value.slice Ao n co).ownBlock)
    (hown2 : w2.ownsRow 0 33 3 (.slice A2 (n + 1) c2) (n + 1) (cells ++ [.int .u64 seq, .int .u64 tk, .slice Av x.length cv]))
    (hat2 : (Value.slice A2 (n + 1) c2).ownBlock = (Value.slice Ao n co).ownBlock ∨ (Value.slice A2 (n + 1) c2).ownBlock = some (w1.alloc ob).heap.size) :
    ∃ u v2, Blk (w2.setCell ⟨o, 0, none⟩ (.slice A2 (n + 1) c2)) o 22 #[v2] ∧ (w2.setCell ⟨o, 0, none⟩ (.slice A2 (n + 1) c2)).ownsRow 0 33 3 v2 (n + 1) (cells ++ [.int .u64 seq, .int .u64 tk, u]) ∧
      (w2.setCell ⟨o, 0, none⟩ (.slice A2 (n + 1) c2)).ownsRow w.heap.size 5 1 u x.length (bytesV x) ∧ Upd (fun k => k = o ∨ (Value.slice Ao n co).ownBlock = some k) w (w2.setCell ⟨o, 0, none⟩ (.slice A2 (n + 1) c2)) ∧
      (v2.ownBlock = (Value.slice Ao n co).ownBlock ∨ ∀ k, v2.ownBlock = some k → w.heap.size ≤ k) := by
  have hsz : w.heap.size ≤ w1.heap.size := by rw [← he]; exact hb1.size
  have hsa : (w1.alloc ob).heap.size = w1.heap.size + 1 := by simp
  have hsz2 : w1.heap.size + 1 ≤ w2.heap.size := by rw [← hsa]; exact hg2.size
  have hlt := ho.lt
  have hAo : ∀ g, (Value.slice Ao n co).ownBlock = some g → g < w.heap.size := fun g hg => (own_lt hown hg).2
  have hAv : ∀ g, (Value.slice Av x.length cv).ownBlock = some g → w.heap.size ≤ g ∧ g < w1.heap.size := fun g hg => by have := own_lt hown1 hg; rw [he] at this; exact this
  have u1 : Upd (fun k => k = o ∨ (Value.slice Ao n co).ownBlock = some k) w w1 := ⟨hb1.os.trans ht.2.1, hb1.tape.trans ht.1, hb1.output.trans ht.2.2, hsz, fun k hk _ => by rw [hb1.block k (by rw [he]; exact hk), he]⟩
  have u2 := (u1.alloc ob).grown hg2 fun k hk => .inl (.inr hk)
  refine ⟨.slice Av x.length cv, .slice A2 (n + 1) c2, ?_, ?_, ?_, u2.setCell (p := ⟨o, 0, none⟩) (.inl (.inl rfl)) _, ?_⟩
  · simpa using hO2.set_ 0 (.slice A2 (n + 1) c2)
  · exact own_keep (I := fun k => k ≠ o) hown2 ((upd_set w2 o 0 _).same fun k (hk : k = o) hn => hn hk) fun g hg e => own_blk_ne hown2 hO2 (by decide) (e ▸ hg)
  · rw [← he]
    refine own_keep (I := fun k => w.heap.size ≤ k ∧ k < w1.heap.size) hown1 ⟨by simp only [World.setCell, Array.size_modify]; omega, fun k hk hk1 => ?_⟩ (fun g hg => hAv g hg)
    rw [Below.heap_setCell _ _ _ _ (by show k ≠ o; omega), hg2.block k (by omega) (fun e => by have := hAo k e.symm; omega)]
    exact Below.heap_alloc _ _ _ hk1
  · rcases hat2 with e | e
    · exact .inl e
    · exact .inr fun k hk => by rw [e, hsa] at hk; injection hk with hk; omega

set_option maxHeartbeats 4000000 in
/-- The closure: a segment is made, and stands behind those that are there. -/
theorem add_any (b o sb : Nat) (s : SS) (vl vo : Value) (seq : Nat) (J : Nat → Prop) (A : Option Addr) (x : List UInt8) (c n : Nat) (cells : List Value) (w : World)
    (hk : Blk w b 63 (strC s vl)) (ho : Blk w o 22 #[vo]) (hs : Blk w sb 24 #[.pointer (some ⟨b, 0, none⟩)])
    (hx : Reads w J 1 A x.length (bytesV x)) (hn : x.length ≤ 60000) (hown : w.ownsRow 0 33 3 vo n cells) (hn2 : n ≤ 100000) :
    Calls Try.prog 29 #[.int .u64 seq, .slice A x.length c, .pointer (some ⟨o, 0, none⟩), .pointer (some ⟨sb, 0, none⟩)] w fun e w' => e = .returned (.tuple #[]) ∧
      ∃ u v2, Blk w' o 22 #[v2] ∧ w'.ownsRow 0 33 3 v2 (n + 1) (cells ++ [.int .u64 seq, .int .u64 s.taken, u]) ∧ w'.ownsRow w.heap.size 5 1 u x.length (bytesV x) ∧
        Upd (fun k => k = o ∨ vo.ownBlock = some k) w w' ∧ (v2.ownBlock = vo.ownBlock ∨ ∀ k, v2.ownBlock = some k → w.heap.size ≤ k) := by
  obtain ⟨i0, hi, hz0, hz1, hz2⟩ := info_parts info_seg
  obtain ⟨Ao, co, rfl, _⟩ := own_form hown
  have hc0 : w.cell? ⟨o, 0, none⟩ = some (.slice Ao n co) := ho.cell 0
  have hc1 : w.cell? ⟨sb, 0, none⟩ = some (.pointer (some ⟨b, 0, none⟩)) := hs.cell 0
  have hc2 : w.cell? ⟨b, 4, none⟩ = some (.int .u64 s.taken) := hk.cell 4
  have hC := fun (wq : World) (e : wq.heap = w.heap) => clone8_any A x.length c (bytesV x) J wq (hx.keep (Same.ofHeap J e)) (bytesV_one x) (by omega)
  have HC := Lib.hid hC
  have HK := Lib.hid hk
  have HO := Lib.hid ho
  have HS := Lib.hid hs
  have HW := Lib.hid hown
  clear hC hk ho hs hown hx
  have hne : 33 ≠ 22 := by decide
  have hmx : n + 1 ≤ maxLen := by unfold maxLen; omega
  have hmb : (n + 1) * 40 ≤ 140737488355328 := by omega
  have hone : ∀ (Av : Option Addr) (cv : Nat), ∀ u ∈ [Value.int .u64 seq, .int .u64 s.taken, .slice Av x.length cv], u.oneCell' = true := by intro Av cv u hu; simp at hu; rcases hu with rfl | rfl | rfl <;> rfl
  go_enter Try.func29, Try.ntmps29
  go_wp2_with fail
  go_region_law (first
    | (go_simp; go_at_call 26; refine (HC.out _ (by rfl)).mono ?_; rintro e w1 ⟨v1, rfl, hown1, hb1⟩; have ho1 := own_later HW.out hb1 (by rfl); have hO1 := Blk.later HO.out hb1 (by rfl); have hS1 := Blk.later HS.out hb1 (by rfl); have hK1 := Blk.later HK.out hb1 (by rfl); have hA1 : ∀ o', (w1.alloc o').cell? ⟨o, 0, none⟩ = some (.slice Ao n co) := (fun o' => (hO1.alloc o').cell 0); have hA2 : w1.cell? ⟨o, 0, none⟩ = some (.slice Ao n co) := hO1.cell 0; have hA3 : w1.cell? ⟨sb, 0, none⟩ = some (.pointer (some ⟨b, 0, none⟩)) := hS1.cell 0; have hA4 : w1.cell? ⟨b, 4, none⟩ = some (.int .u64 s.taken) := hK1.cell 4; obtain ⟨Av, cv, rfl, _⟩ := own_form hown1)
    | (refine step_append_any _ (by rfl) (.tmp 6) (.tmp 15) 22 (by rfl) 0 33 i0 _ 3 40 Try.underlying22 hi hz0 hz1 hz2 rfl (Nat.le_of_ble_eq_true rfl) (.slice Ao n co) n cells (by rfl) (ho1.alloc _) _ (some ⟨w1.heap.size, 0, none⟩) 1 1 [.int .u64 seq, .int .u64 s.taken, .slice Av x.length cv] (by rfl) (reads_lit w1 33 #[.int .u64 seq, .int .u64 s.taken, .slice Av x.length cv] 1 3 (0, 0) rfl) (hone _ _) hmx hmb (Nat.zero_le _) ?_; intro v2 w2 hown2 hg2 hat2; have hO2 := blk_append hO1 ho1 hg2 hne; have hD1 : w2.cell? ⟨o, 0, none⟩ = some (.slice Ao n co) := hO2.cell 0; have hD2 : w2.frozen? ⟨o, 0, none⟩ = false := hO2.frozen 0; obtain ⟨A2, c2, rfl, _⟩ := own_form hown2))
  all_goals
    go_wp2
    go_end0
    exact ⟨rfl, add_close (wq := w.drew) rfl ⟨rfl, rfl, rfl⟩ HO.out HW.out hb1 hown1 hO2 hg2 hown2 hat2⟩
end Go.Proofs.Ytmkjnblmgofoeaa
