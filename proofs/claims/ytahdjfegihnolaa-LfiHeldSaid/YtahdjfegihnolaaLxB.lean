/- Layer 12: LfiHeld's books in memory. -/
import Derived.Test.YtahdjfegihnolaaLxA
import Derived.Test.YtahdjfegihnolaaLwN
namespace Go.Proofs.Ytahdjfegihnolaa
open Go.RowKit Go.Sort
def hdC (mq : Nat → Option Nat) : Array Value := #[.map (mq 0), .map (mq 1), .map (mq 2), .map (mq 3), .map (mq 4), .map (mq 5), .map (mq 6), .map (mq 7)]
def setM (mq : Nat → Option Nat) (p b : Nat) : Nat → Option Nat := fun q => if q = p then some b else mq q
theorem hdC_at (mq : Nat → Option Nat) {p : Nat} (h : p < 8) : (hdC mq)[p]? = some (.map (mq p)) := by rcases lt8 h with rfl | rfl | rfl | rfl | rfl | rfl | rfl | rfl <;> rfl
theorem hdC_set (mq : Nat → Option Nat) {p : Nat} (h : p < 8) (b : Nat) : (hdC mq).setIfInBounds p (.map (some b)) = hdC (setM mq p b) := by rcases lt8 h with rfl | rfl | rfl | rfl | rfl | rfl | rfl | rfl <;> rfl
def intV (l : List Int) : List Value := l.map (Value.int .i64)
theorem intV_len (l : List Int) : (intV l).length = l.length := by unfold intV; rw [List.length_map]
theorem intV_app (a b : List Int) : intV (a ++ b) = intV a ++ intV b := by unfold intV; rw [List.map_append]
theorem intV_one (l : List Int) : ∀ u ∈ intV l, u.oneCell' = true := by
  intro u hu
  unfold intV at hu
  obtain ⟨z, _, rfl⟩ := List.mem_map.1 hu
  rfl
theorem info_int : (Try.prog.info? 3).map (fun i => (i.zero, i.size, i.bytes)) = some (some (.int .i64 0), 1, 8) := by kernel_rfl
/-- A row of numbers that is read, in blocks of numbers. -/
def RdI (w : World) (A : Option Addr) (n : Nat) (zs : List Int) : Prop := Reads w (fun k => ∃ cs, Blk w k 3 cs) 1 A n (intV zs)
theorem RdI.upd {w w' : World} {A : Option Addr} {n : Nat} {zs : List Int} (h : RdI w A n zs) {U : Nat → Prop} (hu : Upd U w w') (hU : ∀ k cs, Blk w k 3 cs → ¬ U k) : RdI w' A n zs := by
  have hs : Same (fun k => ∃ cs, Blk w k 3 cs) w w' := ⟨hu.size, fun k ⟨cs, hk⟩ hl => hu.block k hl (hU k cs hk)⟩
  have := h.keep hs
  refine ⟨this.1, fun hn => ?_⟩
  obtain ⟨ad, e, ⟨cs, hk⟩, hb, hc⟩ := this.2 hn
  exact ⟨ad, e, ⟨cs, (hu.block _ hk.lt (hU _ cs hk)).trans hk⟩, hb, hc⟩
theorem RdI.below {w w' : World} {A : Option Addr} {n : Nat} {zs : List Int} (h : RdI w A n zs) (hb : Below w.heap.size w w') : RdI w' A n zs := h.upd (Upd.ofBelow hb fun _ => False) fun _ _ _ e => e
theorem RdI.nil (w : World) : RdI w none 0 [] := ⟨rfl, fun h => absurd h (by omega)⟩
theorem RdI.of_own {w : World} {B : Nat} {A : Option Addr} {n c : Nat} {zs : List Int} (h : w.ownsRow B 3 1 (.slice A n c) n (intV zs)) : RdI w A n zs := Reads.of_own h fun _ hg => own_blk h hg
theorem RdI.ld {w : World} {A : Option Addr} {n : Nat} {zs : List Int} (h : RdI w A n zs) {j : Nat} {z : Int} (hj : zs[j]? = some z) : ∃ ad, A = some ad ∧ (Instr.loadAt 3 (.pointer (some (ad.add j)))).run Try.prog w = .ok (.int .i64 z) w := by
  have hl : j < zs.length := (List.getElem?_eq_some_iff.1 hj).1
  have hn : 0 < n := by have := h.1; rw [intV_len] at this; omega
  obtain ⟨ad, e, _, _, hc⟩ := h.2 hn
  refine ⟨ad, e, ?_⟩
  have := hc j (.int .i64 z) (by unfold intV; rw [List.getElem?_map, hj]; rfl)
  simp [go_sem, this]
theorem RdI.reads {w : World} {A : Option Addr} {n : Nat} {zs : List Int} (h : RdI w A n zs) : Reads w (fun k => k < w.heap.size) 1 A n (intV zs) := by
  refine ⟨h.1, fun hn => ?_⟩
  obtain ⟨ad, e, _, hb, hc⟩ := h.2 hn
  exact ⟨ad, e, hb, hb, hc⟩
theorem RdI.tail {w : World} {A : Option Addr} {n c : Nat} {z : Int} {zs : List Int} (h : RdI w A n (z :: zs)) (hc : n ≤ c) : RdI w (if c = 1 then A else A.map (·.add 1)) (n - 1) zs := by
  have hn : 1 ≤ n := by have := h.1; rw [intV_len] at this; simp at this; omega
  exact Reads.cut h (k := 1) (cap := c) hn hc
/-- What stands at a prefix. -/
def HdV (w : World) (o : Option Value) (zs : List Int) : Prop := match o with
  | none => zs = []
  | some v => ∃ A n c, v = .slice A n c ∧ n = zs.length ∧ n ≤ c ∧ RdI w A n zs
theorem HdV.upd {w w' : World} {o : Option Value} {zs : List Int} (h : HdV w o zs) {U : Nat → Prop} (hu : Upd U w w') (hU : ∀ k cs, Blk w k 3 cs → ¬ U k) : HdV w' o zs := by
  cases o with
  | none => exact h
  | some v =>
    obtain ⟨A, n, c, e, h1, h2, h3⟩ := h
    exact ⟨A, n, c, e, h1, h2, h3.upd hu hU⟩
structure HdF (w : World) (F : Lit → Option Value) (L : Pf → List Int) : Prop where
  at_ : ∀ p, pfOk p → HdV w (F (pfL p)) (L p)
  keys : ∀ kl v, F kl = some v → WideAt.IsKeyLit kl → ∃ p, pfOk p ∧ kl = pfL p
/-- The books: a map for each port that was up. -/
structure HdM (w wx : World) (hb : Nat) (mq : Nat → Option Nat) (H : Held) (N : Nat) : Prop where
  blk : Blk wx hb 51 (hdC mq)
  hb0 : w.heap.size ≤ hb
  map : ∀ q, q < 8 → ∀ b, mq q = some b → w.heap.size ≤ b ∧ ∃ F s, s ≤ N ∧ MapV Try.prog 36 wx b s F s ∧ HdF wx F (H q)
  nil : ∀ q, q < 8 → mq q = none → ∀ p, pfOk p → H q p = []
  inj : ∀ q q' b, q < 8 → q' < 8 → mq q = some b → mq q' = some b → q = q'
section
variable {w wx wy : World} {hb : Nat} {mq : Nat → Option Nat} {H : Held} {N : Nat}
theorem HdM.upd (h : HdM w wx hb mq H N) {U : Nat → Prop} (hu : Upd U wx wy) (h1 : ¬ U hb) (h2 : ∀ q b, q < 8 → mq q = some b → ¬ U b) (h3 : ∀ k cs, Blk wx k 3 cs → ¬ U k) : HdM w wy hb mq H N := by
  refine ⟨(hu.block hb h.blk.lt h1).trans h.blk, h.hb0, fun q hq b hm => ?_, h.nil, h.inj⟩
  obtain ⟨a1, F, s, a2, a3, a4⟩ := h.map q hq b hm
  exact ⟨a1, F, s, a2, a3.upd hu (h2 q b hq hm), ⟨fun p hp => (a4.at_ p hp).upd hu h3, a4.keys⟩⟩
theorem HdM.below (h : HdM w wx hb mq H N) (hbl : Below wx.heap.size wx wy) : HdM w wy hb mq H N := h.upd (Upd.ofBelow hbl fun _ => False) (fun e => e) (fun _ _ _ _ e => e) fun _ _ _ e => e
theorem HdM.mono (h : HdM w wx hb mq H N) {N' : Nat} (hN : N ≤ N') : HdM w wx hb mq H N' := ⟨h.blk, h.hb0, fun q hq b hm => by
  obtain ⟨a1, F, s, a2, a3⟩ := h.map q hq b hm
  exact ⟨a1, F, s, Nat.le_trans a2 hN, a3⟩, h.nil, h.inj⟩
theorem HdM.congr (h : HdM w wx hb mq H N) {H' : Held} (he : ∀ q p, q < 8 → pfOk p → H' q p = H q p) : HdM w wx hb mq H' N := ⟨h.blk, h.hb0, fun q hq b hm => by
  obtain ⟨a1, F, s, a2, a3, a4⟩ := h.map q hq b hm
  exact ⟨a1, F, s, a2, a3, ⟨fun p hp => by rw [he q p hq hp]; exact a4.at_ p hp, a4.keys⟩⟩, fun q hq hm p hp => by rw [he q p hq hp]; exact h.nil q hq hm p hp, h.inj⟩
theorem HdM.mlt (h : HdM w wx hb mq H N) {q b : Nat} (hq : q < 8) (hm : mq q = some b) : b < wx.heap.size := by
  obtain ⟨_, F, s, _, a3, _⟩ := h.map q hq b hm
  exact a3.lt
theorem HdM.ne (h : HdM w wx hb mq H N) {q b : Nat} (hq : q < 8) (hm : mq q = some b) {k : Nat} {t : TypeId} {cs : Array Value} (hk : Blk wx k t cs) : k ≠ b := by
  rintro rfl
  obtain ⟨_, F, s, _, ⟨D, ⟨es, cc, q1, _⟩, _⟩, _⟩ := h.map q hq k hm
  unfold Blk at hk
  rw [q1] at hk
  cases hk
theorem hd_new (w wx : World) (hw : w.heap.size ≤ wx.heap.size) : HdM w (wx.alloc (.cells (hdC fun _ => none) 51)) wx.heap.size (fun _ => none) (fun _ _ => []) 0 :=
  ⟨Blk.new _ _ _, hw, fun q hq b hm => (by cases hm), fun _ _ _ _ _ => rfl, fun q q' b _ _ hm => (by cases hm)⟩
theorem zero_ints (w : World) : (zeroValue 52).run Try.prog w = .ok (.slice none 0 0) w := by kernel_rfl
/-- A look. -/
theorem HdM.look (h : HdM w wx hb mq H N) {q : Nat} (hq : q < 8) {p : Pf} (hp : pfOk p) :
    ∃ A n c, (∀ wz, Below wx.heap.size wx wz → (Instr.lookup 50 (.map (mq q)) (.agg #[.int .u32 (p.1 : Int), .int .i64 p.2]) false).run Try.prog wz = .ok (.slice A n c) wz) ∧ n = (H q p).length ∧ n ≤ c ∧ RdI wx A n (H q p) := by
  cases hm : mq q with
  | none =>
    have hl := h.nil q hq hm p hp
    rw [hl]
    refine ⟨none, 0, 0, fun wz _ => ?_, rfl, Nat.le_refl _, RdI.nil _⟩
    have := Maps.look_nil false pfKeyed Try.underlying50 (zero_ints wz) (pfL_key hp)
    simpa [pfV, pfC] using this
  | some b =>
    obtain ⟨a1, F, s, a2, a3, a4⟩ := h.map q hq b hm
    have hv := a4.at_ p hp
    cases hf : F (pfL p) with
    | none =>
      rw [hf] at hv
      have hl : H q p = [] := hv
      rw [hl]
      refine ⟨none, 0, 0, fun wz hz => ?_, rfl, Nat.le_refl _, RdI.nil _⟩
      have := (a3.below hz).look pfKeyed Try.underlying50 (zero_ints wz) (pfL_key hp)
      rw [hf] at this
      exact this
    | some v =>
      rw [hf] at hv
      obtain ⟨A, n, c, rfl, h1, h2, h3⟩ := hv
      refine ⟨A, n, c, fun wz hz => ?_, h1, h2, h3⟩
      have := (a3.below hz).look pfKeyed Try.underlying50 (zero_ints wz) (pfL_key hp)
      rw [hf] at this
      exact this
def putH (H : Held) (q : Nat) (p : Pf) (zs : List Int) : Held := fun r p' => if r = q ∧ p' = p then zs else H r p'
/-- A row is put. -/
theorem HdM.put (h : HdM w wx hb mq H N) (hN : N < 100000000) {q b : Nat} (hq : q < 8) (hm : mq q = some b) {p : Pf} (hp : pfOk p) {A : Option Addr} {n c : Nat} {zs : List Int} (hn : n = zs.length) (hc : n ≤ c) (hr : RdI wx A n zs) :
    ∃ w', (Instr.mapUpdate 50 (.map (some b)) (.agg #[.int .u32 (p.1 : Int), .int .i64 p.2]) (.slice A n c)).run Try.prog wx = .ok () w' ∧ HdM w w' hb mq (putH H q p zs) (N + 1) ∧ Upd (only b) wx w' := by
  obtain ⟨a1, F, s, a2, a3, a4⟩ := h.map q hq b hm
  obtain ⟨w', hrun, hmv, hu, hsz⟩ := a3.store pfKeyed Try.underlying50 (by omega) (pfL_key hp) (.slice A n c)
  have hint : ∀ k cs, Blk wx k 3 cs → ¬ only b k := fun k cs hk (e : k = b) => h.ne hq hm hk e
  have hs2 : (if (F (pfL p)).isSome then s else s + 1) ≤ N + 1 := by split <;> omega
  refine ⟨w', hrun, ⟨(hu.block hb h.blk.lt fun (e : hb = b) => h.ne hq hm h.blk e).trans h.blk, h.hb0, fun r hr2 b' hm' => ?_, fun r hr2 hm' p' hp' => ?_, h.inj⟩, hu⟩
  · by_cases e : r = q
    · subst e
      rw [hm] at hm'
      injection hm' with e2
      subst e2
      refine ⟨a1, _, _, hs2, hmv.tight, ⟨fun p' hp' => ?_, fun kl v hv hl => ?_⟩⟩
      · unfold putH
        by_cases e3 : p' = p
        · subst e3
          rw [setK_same, if_pos ⟨rfl, rfl⟩]
          exact ⟨A, n, c, rfl, hn, hc, hr.upd hu hint⟩
        · rw [setK_other _ _ (fun e4 => e3 (pfL_inj hp' hp e4)), if_neg (fun e4 => e3 e4.2)]
          exact (a4.at_ p' hp').upd hu hint
      · by_cases e3 : kl = pfL p
        · exact ⟨p, hp, e3⟩
        · rw [setK_other _ _ e3] at hv
          exact a4.keys kl v hv hl
    · obtain ⟨b1, F', s', b2, b3, b4⟩ := h.map r hr2 b' hm'
      have hne : ¬ only b b' := fun (e2 : b' = b) => e (h.inj r q b hr2 hq (by rw [hm', e2]) hm)
      refine ⟨b1, F', s', by omega, b3.upd hu hne, ⟨fun p' hp' => ?_, b4.keys⟩⟩
      unfold putH
      rw [if_neg (fun e4 => e e4.1)]
      exact (b4.at_ p' hp').upd hu hint
  · unfold putH
    by_cases e : r = q ∧ p' = p
    · rw [e.1, hm] at hm'
      cases hm'
    · rw [if_neg e]
      exact h.nil r hr2 hm' p' hp'
def resH (H : Held) (q : Nat) : Held := fun r p => if r = q then [] else H r p
/-- A port's map is made anew. -/
theorem HdM.res (h : HdM w wx hb mq H N) {q : Nat} (hq : q < 8) {w' : World} (hw : w' = (wx.alloc (.map #[] 0)).setCell ⟨hb, q, none⟩ (.map (some wx.heap.size))) (hsz : w.heap.size ≤ wx.heap.size) : HdM w w' hb (setM mq q wx.heap.size) (resH H q) N ∧ Upd (only hb) wx w' := by
  have hba : Below wx.heap.size wx (wx.alloc (.map #[] 0)) := (Below.refl _ _).alloc (Nat.le_refl _) _
  have h1 := h.below hba
  have hu1 : Upd (only hb) (wx.alloc (.map #[] 0)) w' := by rw [hw]; exact upd_set _ _ _ _
  have hu : Upd (only hb) wx w' := (Upd.ofBelow hba _).trans_ hu1
  have hlt := h.blk.lt
  have hint : ∀ k cs, Blk (wx.alloc (.map #[] 0)) k 3 cs → ¬ only hb k := fun k cs hk (e : k = hb) => (hk.ne_ h1.blk (by decide)) e
  refine ⟨⟨?_, h.hb0, fun r hr b hm => ?_, fun r hr hm p hp => ?_, fun r r' b hr hr' hm hm' => ?_⟩, hu⟩
  · rw [hw, ← hdC_set mq hq]
    exact h1.blk.set_ q _
  · unfold setM at hm
    by_cases e : r = q
    · rw [if_pos e] at hm
      injection hm with hm
      subst hm
      have hmv := (mapv_new wx Try.prog 36).upd hu1 (fun (e2 : wx.heap.size = hb) => by omega)
      refine ⟨hsz, _, 0, Nat.zero_le _, hmv, ⟨fun p hp => ?_, fun kl v hv => by cases hv⟩⟩
      show resH H q r p = []
      unfold resH
      rw [if_pos e]
    · rw [if_neg e] at hm
      obtain ⟨b1, F, s, b2, b3, b4⟩ := h1.map r hr b hm
      refine ⟨b1, F, s, b2, b3.upd hu1 (fun (e2 : b = hb) => h1.ne hr hm h1.blk e2.symm), ⟨fun p hp => ?_, b4.keys⟩⟩
      unfold resH
      rw [if_neg e]
      exact (b4.at_ p hp).upd hu1 hint
  · unfold setM at hm
    by_cases e : r = q
    · rw [if_pos e] at hm; cases hm
    · rw [if_neg e] at hm
      unfold resH
      rw [if_neg e]
      exact h.nil r hr hm p hp
  · unfold setM at hm hm'
    by_cases e : r = q
    · by_cases e' : r' = q
      · rw [e, e']
      · rw [if_pos e] at hm
        rw [if_neg e'] at hm'
        injection hm with hm
        have := h.mlt hr' hm'
        omega
    · by_cases e' : r' = q
      · rw [if_neg e] at hm
        rw [if_pos e'] at hm'
        injection hm' with hm'
        have := h.mlt hr hm
        omega
      · rw [if_neg e] at hm
        rw [if_neg e'] at hm'
        exact h.inj r r' b hr hr' hm hm'
/-- The map of a port, loaded. -/
theorem HdM.ldm (h : HdM w wx hb mq H N) {q : Nat} (hq : q < 8) : (Instr.loadAt 50 (.pointer (some ⟨hb, q, none⟩))).run Try.prog wx = .ok (.map (mq q)) wx := by
  have hc : wx.cell? ⟨hb, q, none⟩ = some (.map (mq q)) := (h.blk.cell q).trans (hdC_at mq hq)
  simp [go_sem, hc]
theorem HdM.stm (h : HdM w wx hb mq H N) {q : Nat} (hq : q < 8) (b : Nat) : (Instr.storeAt 50 (.pointer (some ⟨hb, q, none⟩)) (.map (some b))).run Try.prog wx = .ok () (wx.setCell ⟨hb, q, none⟩ (.map (some b))) := by
  have hc : wx.cell? ⟨hb, q, none⟩ = some (.map (mq q)) := (h.blk.cell q).trans (hdC_at mq hq)
  have hf := h.blk.frozen q
  simp [go_sem, hc, hf]
end
theorem intelem : (Try.prog).underlying 52 = some (.slice ((Try.prog).elem 52)) := by simp [Program.elem, Try.underlying52]
theorem intelem2 : (Try.prog).elem 52 = 3 := by simp [Program.elem, Try.underlying52]
theorem intsize (w : World) : (Go.sizeOf 3).run Try.prog w = .ok 1 w := by go_simp
theorem sli_1 (A : Option Addr) (n cap : Nat) (w : World) (hk : 1 ≤ n) : (Instr.slice 52 (.slice A n cap) (some (.int .i64 1)) none none).run Try.prog w = .ok (.slice (if cap = 1 then A else A.map (·.add 1)) (n - 1) (cap - 1)) w := by
  have := run_slice_l (P := Try.prog) w 52 A n cap intelem .i64 1 (by omega) (by omega)
  rw [intelem2, intsize] at this
  rw [this]
  by_cases h0 : cap = 1
  · simp [Result.andThen, sliced, h0]
  · simp [Result.andThen, sliced, h0]
end Go.Proofs.Ytahdjfegihnolaa
