/- container/heap over places: plain law, methods, Push, Pop. -/
import Derived.Test.YtihfihehiifdkaaMem
import Derived.Test.YtihfihehiifdkaaRgA
import Derived.Laws.OwnMore
import Derived.BigRegion
import Derived.Deep.QuietTactic
import Derived.BigQuiet
import Derived.Deep.DeepCutAuto
import Derived.Deep.CutBlock
import Derived.Deep.RegionWith
import Derived.LoopN
namespace Go.Proofs.Ytihfihehiifdkaa
/-- L has its least one ahead, as heaps do, among the first n. -/
def HeapN (n : Nat) (L : List Nat) : Prop := ∀ k, 0 < k → k < n → L.getD ((k - 1) / 2) 0 ≤ L.getD k 0
/-- The same, but for what stands at i, which may be too great. -/
def HeapX (n i : Nat) (L : List Nat) : Prop :=
  (∀ k, 0 < k → k < n → (k - 1) / 2 ≠ i → L.getD ((k - 1) / 2) 0 ≤ L.getD k 0) ∧ (0 < i → ∀ k, 0 < k → k < n → (k - 1) / 2 = i → L.getD ((i - 1) / 2) 0 ≤ L.getD k 0)
def swapL (L : List Nat) (i j : Nat) : List Nat := (L.set i (L.getD j 0)).set j (L.getD i 0)
theorem swapL_len (L : List Nat) (i j : Nat) : (swapL L i j).length = L.length := by unfold swapL; simp
theorem getN_set (L : List Nat) (i k x : Nat) (hi : i < L.length) : (L.set i x).getD k 0 = if k = i then x else L.getD k 0 := by
  simp only [List.getD_eq_getElem?_getD, List.getElem?_set]
  by_cases h : i = k
  · subst h; simp [hi]
  · rw [if_neg h, if_neg (fun e => h e.symm)]
theorem swapL_get (L : List Nat) {i j : Nat} (hi : i < L.length) (hj : j < L.length) (k : Nat) : (swapL L i j).getD k 0 = if k = j then L.getD i 0 else if k = i then L.getD j 0 else L.getD k 0 := by
  unfold swapL
  rw [getN_set _ _ _ _ (by simpa using hj), getN_set _ _ _ _ hi]
theorem swapL_perm (L : List Nat) {i j : Nat} (hi : i < L.length) (hj : j < L.length) : (swapL L i j).Perm L := by
  refine List.perm_iff_count.2 fun a => ?_
  unfold swapL
  have e : (L.set i (L.getD j 0)).getD j 0 = L.getD j 0 := by
    rw [getN_set _ _ _ _ hi]; split
    · rfl
    · rfl
  have hj' : j < (L.set i (L.getD j 0)).length := by simpa using hj
  have c1 := List.count_set (a := L.getD j 0) (b := a) (l := L) (i := i) hi
  have c2 := List.count_set (a := L.getD i 0) (b := a) (l := L.set i (L.getD j 0)) (i := j) hj'
  have g1 : L[i] = L.getD i 0 := by simp [List.getD_eq_getElem?_getD, hi]
  have g3 : L[j] = L.getD j 0 := by simp [List.getD_eq_getElem?_getD, hj]
  have g2 : (L.set i (L.getD j 0))[j] = L.getD j 0 := by
    have : (L.set i (L.getD j 0))[j]? = some (L.set i (L.getD j 0))[j] := List.getElem?_eq_getElem hj'
    rw [List.getD_eq_getElem?_getD, this] at e
    exact e
  have p1 : L.getD i 0 = a → 0 < L.count a := fun h => List.count_pos_iff.2 (by rw [← h, ← g1]; exact List.getElem_mem hi)
  have p2 : L.getD j 0 = a → 0 < L.count a := fun h => List.count_pos_iff.2 (by rw [← h, ← g3]; exact List.getElem_mem hj)
  rw [g1] at c1
  rw [g2, c1] at c2
  rw [c2]
  generalize L.getD i 0 = x at *
  generalize L.getD j 0 = y at *
  generalize L.count a = q at *
  by_cases h1 : x = a
  · have b1 : (x == a) = true := by simp [h1]
    rw [b1]
    have := p1 h1
    cases (y == a) <;> simp <;> omega
  · have b1 : (x == a) = false := by simp [h1]
    rw [b1]
    by_cases h2 : y = a
    · have b2 : (y == a) = true := by simp [h2]
      rw [b2]
      have := p2 h2
      simp
    · have b2 : (y == a) = false := by simp [h2]
      rw [b2]
      simp
theorem heapN_all {n : Nat} {L : List Nat} (h : HeapN n L) : ∀ k, k < n → L.getD 0 0 ≤ L.getD k 0 := by
  intro k
  induction k using Nat.strongRecOn with
  | ind k ih =>
    intro hk
    rcases Nat.eq_zero_or_pos k with rfl | hp
    · exact Nat.le_refl _
    · exact Nat.le_trans (ih ((k - 1) / 2) (by omega) (by omega)) (h k hp hk)
/-- No child: it is a heap. -/
theorem heapX_end {n i : Nat} {L : List Nat} (h : HeapX n i L) (hi : n ≤ 2 * i + 1) : HeapN n L := fun k h0 hk => h.1 k h0 hk (by omega)
/-- The lesser child is not less: it is a heap. -/
theorem heapX_stop {n i j : Nat} {L : List Nat} (h : HeapX n i L) (hj : ∀ k, 0 < k → k < n → (k - 1) / 2 = i → L.getD j 0 ≤ L.getD k 0) (hle : L.getD i 0 ≤ L.getD j 0) : HeapN n L := fun k h0 hk => by
  by_cases e : (k - 1) / 2 = i
  · rw [e]; exact Nat.le_trans hle (hj k h0 hk e)
  · exact h.1 k h0 hk e
/-- The lesser child is less: they change places. -/
theorem heapX_swap {n i j : Nat} {L : List Nat} (h : HeapX n i L) (hn : n ≤ L.length) (hj0 : 0 < j) (hjn : j < n) (hji : (j - 1) / 2 = i) (hj : ∀ k, 0 < k → k < n → (k - 1) / 2 = i → L.getD j 0 ≤ L.getD k 0) (hlt : L.getD j 0 < L.getD i 0) : HeapX n j (swapL L i j) := by
  have hil : i < L.length := by omega
  have hjl : j < L.length := by omega
  refine ⟨fun k h0 hk hp => ?_, fun _ k h0 hk hp => ?_⟩
  · rw [swapL_get L hil hjl, swapL_get L hil hjl, if_neg hp]
    by_cases e1 : (k - 1) / 2 = i
    · rw [if_pos e1]
      by_cases e2 : k = j
      · rw [if_pos e2]; omega
      · rw [if_neg e2, if_neg (by omega)]; exact hj k h0 hk e1
    · rw [if_neg e1, if_neg (by intro e; rw [e] at e1; exact e1 hji)]
      by_cases e2 : k = i
      · rw [if_pos e2, e2]
        have := h.2 (by omega) j hj0 hjn hji
        exact this
      · rw [if_neg e2]; exact h.1 k h0 hk e1
  · rw [swapL_get L hil hjl, swapL_get L hil hjl, hji, if_neg (by omega), if_pos rfl, if_neg (by omega), if_neg (by omega)]
    have := h.1 k h0 hk (by omega)
    rw [hp] at this
    exact this
/-- Ahead of a pop: the first and the last have changed places. -/
theorem heapX_pop {n : Nat} {L : List Nat} (h : HeapN (n + 1) L) (hn : n + 1 = L.length) : HeapX n 0 (swapL L 0 n) := by
  refine ⟨fun k h0 hk hp => ?_, fun h => absurd h (by omega)⟩
  rw [swapL_get L (by omega) (by omega), swapL_get L (by omega) (by omega), if_neg (by omega), if_neg (by omega), if_neg (by omega), if_neg (by omega)]
  exact h k h0 (by omega)
/-- Rising numbers are a heap. -/
theorem heapN_rise {n : Nat} {L : List Nat} (h : L.Pairwise (· ≤ ·)) (hn : n ≤ L.length) : HeapN n L := fun k h0 hk => by
  have := List.pairwise_iff_getElem.1 h ((k - 1) / 2) k (by omega) (by omega) (by omega)
  have e1 : L[(k - 1) / 2]'(by omega) = L.getD ((k - 1) / 2) 0 := by simp [List.getD_eq_getElem?_getD]; rw [List.getElem?_eq_getElem (by omega)]; rfl
  have e2 : L[k]'(by omega) = L.getD k 0 := by simp [List.getD_eq_getElem?_getD]; rw [List.getElem?_eq_getElem (by omega)]; rfl
  rw [e1, e2] at this
  exact this
/-- What is popped off a heap that has what stands in a rising row from k on. -/
theorem pop_first {n k : Nat} {L L2 S : List Nat} (hS : S.Pairwise (· < ·)) (hp : L.Perm (S.drop k)) (h : HeapN L.length L) (hn : n + 1 = L.length) (hp2 : L2.Perm (swapL L 0 n)) (hl : L2.getD n 0 = (swapL L 0 n).getD n 0) :
    k < S.length ∧ L2.getD n 0 = S.getD k 0 ∧ (L2.take n).Perm (S.drop (k + 1)) := by
  have hlen := hp.length_eq
  rw [List.length_drop] at hlen
  have hk : k < S.length := by omega
  have hL2 : L2.length = n + 1 := by rw [hp2.length_eq, swapL_len]; omega
  have e0 : L2.getD n 0 = L.getD 0 0 := by rw [hl, swapL_get L (by omega) (by omega), if_pos rfl]
  have hd : S.drop k = S.getD k 0 :: S.drop (k + 1) := by
    rw [List.drop_eq_getElem_cons hk]; congr 1; simp [List.getD_eq_getElem?_getD, hk]
  have hm : ∀ x ∈ L, L.getD 0 0 ≤ x := fun x hx => by
    obtain ⟨i, hi, rfl⟩ := List.getElem_of_mem hx
    have := heapN_all h i hi
    simpa [List.getD_eq_getElem?_getD, hi] using this
  have hS2 : ∀ x ∈ S.drop k, S.getD k 0 ≤ x := fun x hx => by
    rw [hd] at hx
    rcases List.mem_cons.1 hx with rfl | hx
    · exact Nat.le_refl _
    · have := (hS.sublist (List.drop_sublist k S))
      rw [hd] at this
      exact Nat.le_of_lt ((List.pairwise_cons.1 this).1 x hx)
  have h0 : L.getD 0 0 ∈ L := by
    have : L.getD 0 0 = L[0]'(by omega) := by simp [List.getD_eq_getElem?_getD, show 0 < L.length by omega]
    rw [this]; exact List.getElem_mem _
  have e1 : L.getD 0 0 = S.getD k 0 := Nat.le_antisymm (hm _ (hp.mem_iff.2 (by rw [hd]; exact List.mem_cons_self))) (hS2 _ (hp.mem_iff.1 h0))
  refine ⟨hk, by rw [e0, e1], ?_⟩
  have hsp : L2 = L2.take n ++ [L2.getD n 0] := by
    have h1 : L2.take (n + 1) = L2.take n ++ [L2[n]] := List.take_succ_eq_append_getElem (by omega)
    have h2 : L2[n] = L2.getD n 0 := by rw [List.getD_eq_getElem?_getD, List.getElem?_eq_getElem (by omega)]; rfl
    have h3 : L2.take (n + 1) = L2 := List.take_of_length_le (by omega)
    rw [h2, h3] at h1
    exact h1
  have hpp : (L2.take n ++ [L2.getD n 0]).Perm (S.getD k 0 :: S.drop (k + 1)) := by
    rw [← hsp, ← hd]
    exact (hp2.trans (swapL_perm L (by omega) (by omega))).trans hp
  rw [e0, e1] at hpp
  exact (List.perm_append_comm.trans hpp).cons_inv
end Go.Proofs.Ytihfihehiifdkaa
namespace Go.Proofs.Ytihfihehiifdkaa
open Go.RowKit Go.Sort
def natV (L : List Nat) : List Value := L.map fun (k : Nat) => Value.int .i64 (k : Int)
theorem natV_get {L : List Nat} {k : Nat} (hk : k < L.length) : (natV L)[k]? = some (.int .i64 ((L.getD k 0 : Nat) : Int)) := by
  simp [natV, List.getD_eq_getElem?_getD, hk]
theorem natV_set (L : List Nat) (i x : Nat) : natV (L.set i x) = (natV L).set i (.int .i64 (x : Int)) := by simp [natV, List.map_set]
theorem natV_app (L : List Nat) (x : Nat) : natV (L ++ [x]) = natV L ++ [.int .i64 (x : Int)] := by simp [natV]
theorem natV_take (L : List Nat) (k : Nat) : natV (L.take k) = (natV L).take k := by simp [natV, List.map_take]
/-- A slice value that holds just the numbers L, in a row of its own. -/
def RowN (B : Nat) (w : World) (v : Value) (L : List Nat) : Prop := w.ownsRow B 3 1 v L.length (natV L)
theorem below_drewN (w : World) (k : Nat) : Below w.heap.size w (w.drewN k) := ⟨rfl, rfl, rfl, Nat.le_refl _, fun _ _ => rfl⟩
theorem pl_len (A : Option Addr) (n c : Nat) (w : World) : Calls Try.prog 132 #[.slice A n c] w fun e w' => e = .returned (.int .i64 (n : Int)) ∧ w = w' := by
  go_enter Try.func132, Try.ntmps132
  go_wp2_with fail
  go_ret
  exact ⟨rfl, rfl⟩
theorem pl_less (B b n c : Nat) (L : List Nat) (i j : Nat) (w : World) (h : RowN B w (.slice (some ⟨b, 0, none⟩) n c) L) (hn : L.length = n) (hi : i < n) (hj : j < n) (_hsm : n ≤ 1000000) :
    Calls Try.prog 133 #[.slice (some ⟨b, 0, none⟩) n c, .int .i64 (i : Int), .int .i64 (j : Int)] w fun e w' => e = .returned (.bool (decide (L.getD i 0 < L.getD j 0))) ∧ Below w.heap.size w w' := by
  unfold RowN at h
  rw [hn] at h
  have c1 := h.cellAt i (by omega)
  have c2 := h.cellAt j (by omega)
  rw [natV_get (by omega)] at c1 c2
  obtain ⟨a, ha⟩ : ∃ a, a = L.getD i 0 := ⟨_, rfl⟩
  obtain ⟨d, hd⟩ : ∃ a, a = L.getD j 0 := ⟨_, rfl⟩
  rw [← ha] at c1 ⊢
  rw [← hd] at c2 ⊢
  clear h ha hd hn
  go_enter Try.func133, Try.ntmps133
  go_upto_region 1 with (fail)
  go_quiet (fail)
  go_wp2_with fail
  go_ret
  exact ⟨rfl, below_drewN w nq⟩
theorem swap_row {B b n c : Nat} {L : List Nat} {i j : Nat} {w : World} (h : w.ownsRow B 3 1 (.slice (some ⟨b, 0, none⟩) n c) n (natV L)) (hn : L.length = n) (_ : i < n) (_ : j < n) {a d : Nat} (ha : a = L.getD i 0) (hd : d = L.getD j 0) :
    World.ownsRow (((w.setCell ⟨b, i, none⟩ (.int .i64 (d : Int))).setCell ⟨b, j, none⟩ (.int .i64 (a : Int))).drew) B 3 1 (.slice (some ⟨b, 0, none⟩) n c) (swapL L i j).length (natV (swapL L i j)) := by
  have h2 := ((h.stored i (.int .i64 (d : Int))).1.stored j (.int .i64 (a : Int))).1
  rw [← natV_set, ← natV_set, ha, hd] at h2
  rw [swapL_len, hn, ha, hd]
  exact h2
theorem swap_upd (w : World) (b i j : Nat) (x y : Value) : Upd (only b) w ((w.setCell ⟨b, i, none⟩ x).setCell ⟨b, j, none⟩ y).drew := (((Upd.refl (only b) w).set_ i _).set_ j _).drew
theorem pl_swap (B b n c : Nat) (L : List Nat) (i j : Nat) (w : World) (h : RowN B w (.slice (some ⟨b, 0, none⟩) n c) L) (hn : L.length = n) (hi : i < n) (hj : j < n) (_hsm : n ≤ 1000000) :
    Calls Try.prog 134 #[.slice (some ⟨b, 0, none⟩) n c, .int .i64 (i : Int), .int .i64 (j : Int)] w fun e w' => e = .returned (.tuple #[]) ∧ RowN B w' (.slice (some ⟨b, 0, none⟩) n c) (swapL L i j) ∧ Upd (only b) w w' := by
  unfold RowN at h ⊢
  rw [hn] at h
  have c1 := h.cellAt i (by omega)
  have c2 := h.cellAt j (by omega)
  have f1 := h.frozenAt i
  have f2 := h.frozenAt j
  rw [natV_get (by omega)] at c1 c2
  obtain ⟨a, ha⟩ : ∃ a, a = L.getD i 0 := ⟨_, rfl⟩
  obtain ⟨d, hd⟩ : ∃ a, a = L.getD j 0 := ⟨_, rfl⟩
  rw [← ha] at c1
  rw [← hd] at c2
  have HH := Lib.hid h
  have HA := Lib.hid ha
  have HD := Lib.hid hd
  have HN := Lib.hid hn
  clear h ha hd hn
  by_cases hij : i = j
  · subst hij
    obtain rfl : a = d := by rw [HA.out, HD.out]
    go_enter Try.func134, Try.ntmps134
    go_region
    go_end0
    exact ⟨rfl, swap_row HH.out HN.out hi hi HA.out HD.out, swap_upd w b i i _ _⟩
  · have hne : (⟨b, i, none⟩ : Addr) ≠ ⟨b, j, none⟩ := fun e => hij (by injection e)
    go_enter Try.func134, Try.ntmps134
    go_region
    go_end0
    exact ⟨rfl, swap_row HH.out HN.out hi hj HA.out HD.out, swap_upd w b i j _ _⟩
theorem own_prefix {w : World} {B e n m : Nat} {A : Option Addr} {c : Nat} {xs : List Value} (h : w.ownsRow B e 1 (.slice A n c) n xs) (hm : m ≤ n) : w.ownsRow B e 1 (.slice A m c) m (xs.take m) := by
  obtain ⟨h1, h2⟩ := h
  refine ⟨by rw [List.length_take]; simp at h1; omega, ?_⟩
  rcases h2 with ⟨e1, e2⟩ | ⟨g, cap, cur, e1, e2, e3, e4, e5, e6, e7⟩
  · simp only [Value.slice.injEq] at e1
    obtain ⟨rfl, rfl, rfl⟩ := e1
    left
    obtain rfl : m = 0 := by omega
    exact ⟨rfl, by rw [e2]⟩
  · simp only [Value.slice.injEq] at e1
    obtain ⟨rfl, _, rfl⟩ := e1
    right
    refine ⟨g, c, cur, rfl, e2, e3, by omega, e5, e6, ?_⟩
    rw [← e7, List.take_take]
    congr 1
    omega
theorem pl_pop (B g : Nat) (L : List Nat) (v : Value) (w : World) (hg : Blk w g 138 #[v]) (h : RowN B w v L) (h0 : 0 < L.length) (hsm : L.length ≤ 1000000) :
    Calls Try.prog 135 #[.pointer (some ⟨g, 0, none⟩)] w fun e w' => e = .returned (.iface 3 (.int .i64 ((L.getD (L.length - 1) 0 : Nat) : Int))) ∧ ∃ v2, Blk w' g 138 #[v2] ∧ RowN B w' v2 (L.take (L.length - 1)) ∧ Upd (only g) w w' ∧ v2.ownBlock = v.ownBlock := by
  obtain ⟨b, c, rfl, hc⟩ := own_form1 h h0
  unfold RowN at h ⊢
  obtain ⟨n, hn⟩ : ∃ n, n + 1 = L.length := ⟨L.length - 1, by omega⟩
  rw [← hn] at h hc hsm hg ⊢
  have c0 := hg.cell 0
  have f0 := hg.frozen 0
  have c1 := h.cellAt n (by omega)
  rw [natV_get (by omega)] at c1
  rw [show n + 1 - 1 = n from rfl]
  obtain ⟨a, ha⟩ : ∃ a, a = L.getD n 0 := ⟨_, rfl⟩
  rw [← ha] at c1 ⊢
  have h2 : (w.setCell ⟨g, 0, none⟩ (.slice (some ⟨b, 0, none⟩) n c)).ownsRow B 3 1 (.slice (some ⟨b, 0, none⟩) n c) (L.take n).length (natV (L.take n)) := by
    have e : (L.take n).length = n := by rw [List.length_take]; omega
    rw [e, natV_take]
    have hne : g ≠ b := fun e => own_blk_ne h hg (by decide) (by rw [e]; rfl)
    refine ownsRow_setCell_other (a := ⟨g, 0, none⟩) (own_prefix h (Nat.le_succ n)) (fun e => hne (by injection e with e; exact e.symm)) _
  have HH := Lib.hid h2
  have HG := Lib.hid (hg.set_ 0 (.slice (some ⟨b, 0, none⟩) n c))
  clear h ha hn hg h2 h0
  go_enter Try.func135, Try.ntmps135
  go_wp2_with fail
  go_ret
  exact ⟨rfl, _, HG.out, HH.out, (Upd.refl (only g) w).set_ 0 _, rfl⟩
theorem run_assertI (w : World) (k : Nat) : (Instr.typeAssert (.iface 3 (.int .i64 (k : Int))) 20 3 false).run Try.prog w = .ok (.int .i64 (k : Int)) w := by kernel_rfl
theorem pl_push (B g : Nat) (L : List Nat) (v : Value) (k : Nat) (w : World) (hg : Blk w g 138 #[v]) (h : RowN B w v L) (hsm : L.length ≤ 1000000) (hB : B ≤ w.heap.size) :
    Calls Try.prog 136 #[.pointer (some ⟨g, 0, none⟩), .iface 3 (.int .i64 (k : Int))] w fun e w' => e = .returned (.tuple #[]) ∧ ∃ v2, Blk w' g 138 #[v2] ∧ RowN B w' v2 (L ++ [k]) ∧ Upd (fun x => x = g ∨ v.ownBlock = some x) w w' := by
  obtain ⟨A, c, rfl, hc⟩ := own_form h
  have HH := Lib.hid h
  have HG := Lib.hid hg
  obtain ⟨i0, hi, hz0, hz1, hz2⟩ := info_parts (show (Try.prog.info? 3).map (fun i => (i.zero, i.size, i.bytes)) = some (some (.int .i64 0), 1, 8) by kernel_rfl)
  have hmx : L.length + 1 ≤ maxLen := by unfold maxLen; omega
  have hmb : (L.length + 1) * 8 ≤ 140737488355328 := by omega
  obtain ⟨n, hn⟩ : ∃ n, n = L.length := ⟨_, rfl⟩
  rw [← hn] at hc hsm hmx hmb ⊢
  have HN := Lib.hid hn
  clear h hg hn
  go_enter Try.func136, Try.ntmps136
  refine wp_region_mix [(true, 6), (false, 4)] 2 (by kernel_rfl) (fun wx => Blk wx g 138 #[.slice A L.length c]) (fun _ _ h k => h.below k h.lt) (by kernel_rfl) HG.out (a' := ?_) (fun wz hz => ?_) fun wz hz => ?_
  rotate_left
  · have ta := fun w : World => run_assertI w k
    have c0 := cell_regrown (hz.cell 0)
    simp only [pick_nil, pick_tt, pick_ft, List.take_succ_cons, List.take_zero, List.drop_succ_cons, List.drop_zero, List.append_nil]
    repeat (go_big_quiet_step (fail))
    refine wpQuiet_nil ?_
    rfl
  · simp only [pick_nil, pick_ff, pick_tf, List.take_succ_cons, List.take_zero, List.drop_succ_cons, List.drop_zero, List.append_nil]
    have HZ := Lib.hid hz
    have HV := own_below HH.out hz
    rw [← HN.out] at HV
    clear hz
    refine wpMix_push (fun _ _ h k => h.below k h.lt) (HG.out.below HZ.out HG.out.lt) 3 [.int .i64 (k : Int)] rfl (fun w' => by go_simp) rfl (.tmp 7) (.tmp 10) _ rfl rfl B i0 _ 1 8 Try.underlying138 hi hz0 hz1 hz2 rfl (by decide) (.slice A n c) n _ (fun _ => by rw [HN.out]; rfl) (fun _ => rfl) HV rfl (by simp [Value.oneCell']) hmx hmb (Nat.le_trans hB HZ.out.size) fun q v2 w2 h2 hg2 h3 => ?_
    have hgw : Blk wz g 138 #[.slice A n c] := by rw [HN.out]; exact HG.out.below HZ.out HG.out.lt
    have hne0 : (Value.slice A n c).ownBlock ≠ some g := own_blk_ne HV hgw (by decide)
    have hgb : Blk w2 g 138 #[.slice A n c] := (hg2.block g hgw.lt (fun e => hne0 e.symm)).trans hgw
    have hne : v2.ownBlock ≠ some g := own_blk_ne h2 hgb (by decide)
    have hup : Upd (fun x => x = g ∨ (Value.slice A n c).ownBlock = some x) w w2 := (Upd.ofBelow HZ.out _).grown hg2 fun k hk => .inl (.inr hk)
    obtain ⟨A2, c2, rfl, _⟩ := own_form h2
    have hl : (L ++ [k]).length = n + 1 := by rw [List.length_append, ← HN.out]; rfl
    refine wpMix_step (by rw [← HN.out]; exact hgb) fun w3 hw3 => ?_
    have hgb := hgb.below hw3 hgb.lt
    have h2 := own_below h2 hw3
    have hup := hup.trans_ (Upd.ofBelow hw3 _)
    have c0 := hgb.cell 0
    have f0 := hgb.frozen 0
    have hrow : (w3.setCell ⟨g, 0, none⟩ (.slice A2 (n + 1) c2)).ownsRow B 3 1 (.slice A2 (n + 1) c2) (L ++ [k]).length (natV (L ++ [k])) := by
      rw [hl, natV_app]
      exact ownsRow_setCell_other (a := ⟨g, 0, none⟩) h2 hne _
    have HR := Lib.hid hrow
    have HU := Lib.hid (hup.setCell (p := ⟨g, 0, none⟩) (.inl (.inl rfl)) (.slice A2 (n + 1) c2))
    have HGB := Lib.hid (hgb.set_ 0 (.slice A2 (n + 1) c2))
    clear hgb h2 hg2 h3 hne hne0 hgw hup hl hrow HV hw3
    go_wp2_with fail
    refine wpMix_plain ?_
    go_wp2_with fail
    go_end0
    exact ⟨rfl, _, HGB.out, HR.out, HU.out⟩
theorem ssa_ok {P : Program} (t : TypeId) (a : Addr) (nm : String) (w : World) : (Builtin.ssaWrapNilChk_ #[t] t #[.pointer (some a), strVal "", strVal nm]).run P w = .ok (.pointer (some a)) w := rfl
/-- A method of the value, called at a pointer to it. -/
theorem method_ptr {P : Program} {t e : TypeId} {name : String} {f : FuncId} {g n : Nat} {v : Value} {w : World}
    (hm : (P.info? t).map (fun i => (i.methods.find? (·.name == name)).map fun m => (m.path, m.func)) = some (some (#[], some (f, false)))) (hu : P.underlying t = some (.pointer e)) (hl : (loadVar e ⟨g, 0, none⟩).run P w = .ok v w) :
    (method (n + 1) t (.pointer (some ⟨g, 0, none⟩)) name).run P w = .ok (f, v) w := by
  obtain ⟨i, hi, h2⟩ := Option.map_eq_some_iff.1 hm
  obtain ⟨m, h3, h4⟩ := Option.map_eq_some_iff.1 h2
  injection h4 with h5 h6
  unfold method
  rw [Sem.run_bind, run_typeInfo w hi]
  simp only [Result.andThen, h3, h5, h6]
  have hl2 := hl
  simp [go_sem] at hl2
  simp [follow, receiverAt, run_underlying hu, Place.get, ssa_ok, go_sem]
  rw [hl2]
  rfl
section
variable {n g : Nat} {v : Value} {w : World}
theorem pl_load (h : Blk w g 138 #[v]) : (loadVar 138 ⟨g, 0, none⟩).run Try.prog w = .ok v w := by
  have hc := h.cell 0
  simp [go_sem, hc]
theorem plm_less (h : Blk w g 138 #[v]) : (method (n + 1) 140 (.pointer (some ⟨g, 0, none⟩)) "Less").run Try.prog w = .ok (133, v) w :=
  method_ptr (by kernel_rfl) Try.underlying140 (pl_load h)
theorem plm_len (h : Blk w g 138 #[v]) : (method (n + 1) 140 (.pointer (some ⟨g, 0, none⟩)) "Len").run Try.prog w = .ok (132, v) w :=
  method_ptr (by kernel_rfl) Try.underlying140 (pl_load h)
theorem plm_swap (h : Blk w g 138 #[v]) : (method (n + 1) 140 (.pointer (some ⟨g, 0, none⟩)) "Swap").run Try.prog w = .ok (134, v) w :=
  method_ptr (by kernel_rfl) Try.underlying140 (pl_load h)
theorem plm_push : (method (n + 1) 140 (.pointer (some ⟨g, 0, none⟩)) "Push").run Try.prog w = .ok (136, .pointer (some ⟨g, 0, none⟩)) w := by kernel_rfl
theorem plm_pop : (method (n + 1) 140 (.pointer (some ⟨g, 0, none⟩)) "Pop").run Try.prog w = .ok (135, .pointer (some ⟨g, 0, none⟩)) w := by kernel_rfl
theorem pln_less : (nilAhead (n + 1) 140 (.pointer (some ⟨g, 0, none⟩)) "Less").run Try.prog w = .ok (some false) w := by kernel_rfl
theorem pln_len : (nilAhead (n + 1) 140 (.pointer (some ⟨g, 0, none⟩)) "Len").run Try.prog w = .ok (some false) w := by kernel_rfl
theorem pln_swap : (nilAhead (n + 1) 140 (.pointer (some ⟨g, 0, none⟩)) "Swap").run Try.prog w = .ok (some false) w := by kernel_rfl
theorem pln_push : (nilAhead (n + 1) 140 (.pointer (some ⟨g, 0, none⟩)) "Push").run Try.prog w = .ok (some false) w := by kernel_rfl
theorem pln_pop : (nilAhead (n + 1) 140 (.pointer (some ⟨g, 0, none⟩)) "Pop").run Try.prog w = .ok (some false) w := by kernel_rfl
end
set_option maxRecDepth 100000 in
theorem pl_up (B g : Nat) (L : List Nat) (v : Value) (j : Nat) (w : World) (hg : Blk w g 138 #[v]) (h : RowN B w v L) (hj : j < L.length) (hsm : L.length ≤ 1000000) (hle : L.getD ((j - 1) / 2) 0 ≤ L.getD j 0) :
    Calls Try.prog 112 #[.iface 140 (.pointer (some ⟨g, 0, none⟩)), .int .i64 (j : Int)] w fun e w' => e = .returned (.tuple #[]) ∧ Below w.heap.size w w' := by
  obtain ⟨b, c, rfl, hc⟩ := own_form1 h (by omega)
  have hle2 : (decide (L.getD j 0 < L.getD ((j - 1) / 2) 0)) = false := decide_eq_false (by omega)
  have HL := Lib.hid (fun wx (hb : Below w.heap.size w wx) => pl_less B b L.length c L j ((j - 1) / 2) wx (own_below h hb) rfl hj (by omega) hsm)
  rw [hle2] at HL
  obtain ⟨n, hn⟩ : ∃ n, n = L.length := ⟨_, rfl⟩
  rw [← hn] at hc HL hg hj hsm
  clear h hn hle hle2
  go_enter Try.func112, Try.ntmps112
  go_wp2_with fail
  refine wp_loop_rounds 1 ?_
  rw [rounds_succ]
  rcases Nat.eq_zero_or_pos j with rfl | hj0
  · go_wp2_with fail
    go_end0
    exact ⟨rfl, Below.refl _ _⟩
  · obtain ⟨p, rfl⟩ : ∃ p, j = p + 1 := ⟨j - 1, by omega⟩
    obtain ⟨q, hq⟩ : ∃ q, q = p / 2 := ⟨_, rfl⟩
    rw [show p + 1 - 1 = p from rfl, ← hq] at HL
    have e1 : (p : Int) / 2 = (q : Int) := by omega
    have e2 : (((q : Nat) : Int) == ((p + 1 : Nat) : Int)) = false := by rw [beq_eq_false_iff_ne]; omega
    have n1 := fun n => pln_less (n := n) (g := g) (w := w)
    have m1 := fun n => plm_less (n := n) hg
    clear hq hg
    go_upto_region 1 with (fail)
    go_wp2_with (go_at_call 133; refine (HL.out _ (Below.refl _ _)).mono ?_; rintro e w1 ⟨rfl, hb1⟩; have HB1 := Lib.hid hb1; clear hb1)
    go_end0
    exact ⟨rfl, HB1.out⟩
-- DOWN --
set_option maxRecDepth 100000 in
set_option maxHeartbeats 4000000 in
theorem pl_down (B g n : Nat) (L : List Nat) (b c : Nat) (w : World) (hg : Blk w g 138 #[.slice (some ⟨b, 0, none⟩) L.length c]) (h : RowN B w (.slice (some ⟨b, 0, none⟩) L.length c) L) (hn : n ≤ L.length) (hsm : L.length ≤ 1000000) (hx : HeapX n 0 L) :
    Calls Try.prog 113 #[.iface 140 (.pointer (some ⟨g, 0, none⟩)), .int .i64 0, .int .i64 (n : Int)] w fun e w' => ∃ r, e = .returned (.bool r) ∧ ∃ L2, HeapN n L2 ∧ L2.Perm L ∧ (∀ k, n ≤ k → L2.getD k 0 = L.getD k 0) ∧ RowN B w' (.slice (some ⟨b, 0, none⟩) L.length c) L2 ∧ Upd (only b) w w' := by
  obtain ⟨N, hN⟩ : ∃ N, N = L.length := ⟨_, rfl⟩
  have hne : b ≠ g := fun e => own_blk_ne h hg (by decide) (by rw [e]; rfl)
  rw [← hN] at hg h hn hsm ⊢
  have HN := Lib.hid hN
  have HG0 := Lib.hid hg
  have HNE := Lib.hid hne
  have HR0 := Lib.hid h
  have HX0 := Lib.hid hx
  clear hN hg h hx hne
  go_enter Try.func113, Try.ntmps113
  go_wp2_with fail
  go_loopw [7] (fun s7 wr => ∃ (i : Nat) (L1 : List Nat), s7 = .int .i64 (i : Int) ∧ (i < n ∨ i = 0) ∧ HeapX n i L1 ∧ L1.Perm L ∧ (∀ k, n ≤ k → L1.getD k 0 = L.getD k 0) ∧ RowN B wr (.slice (some ⟨b, 0, none⟩) N c) L1 ∧ Upd (only b) w wr) (fun s7 _ => n - (intOf s7).toNat)
  case atStart => exact ⟨0, L, rfl, .inr rfl, HX0.out, List.Perm.refl _, fun _ _ => rfl, HR0.out, Upd.refl _ _⟩
  case round =>
    obtain ⟨i, L1, rfl, hi, hX, hP, hS, hR, hU⟩ := hrel
    have hl1 : L1.length = N := by rw [hP.length_eq, HN.out]
    have HX := Lib.hid hX
    have HP := Lib.hid hP
    have HS := Lib.hid hS
    have HR := Lib.hid hR
    have HU := Lib.hid hU
    have HG := Lib.hid (HG0.out.upd hU (fun e => HNE.out e.symm))
    have HL := Lib.hid (fun (a d : Nat) (ha : a < N) (hd : d < N) wx (hb : Below wr.heap.size wr wx) => pl_less B b N c L1 a d wx (own_below hR hb) hl1 ha hd hsm)
    have HSW := Lib.hid (fun (a d : Nat) (ha : a < N) (hd : d < N) wx (hb : Below wr.heap.size wr wx) => pl_swap B b N c L1 a d wx (own_below hR hb) hl1 ha hd hsm)
    clear hX hP hS hR hU
    obtain ⟨j1, hj1⟩ : ∃ j, j = 2 * i + 1 := ⟨_, rfl⟩
    obtain ⟨j2, hj2⟩ : ∃ j, j = j1 + 1 := ⟨_, rfl⟩
    have e1 : 2 * (i : Int) + 1 = (j1 : Int) := by omega
    have e2 : (j1 : Int) + 1 = (j2 : Int) := by omega
    have HJ1 := Lib.hid hj1
    have HJ2 := Lib.hid hj2
    by_cases hend : n ≤ j1
    · have HF := Lib.hid (heapX_end HX.out (by omega))
      clear hj1 hj2
      go_wp2_with fail
      go_ret
      exact ⟨_, rfl, L1, HF.out, HP.out, HS.out, HR.out, HU.out⟩
    have n0 := fun n => pln_less (n := n) (g := g) (w := wr)
    have m0 := fun n => plm_less (n := n) HG.out
    by_cases h2 : j2 < n
    · by_cases hlt : L1.getD j2 0 < L1.getD j1 0
      · have hv0 : decide (L1.getD j2 0 < L1.getD j1 0) = true := decide_eq_true hlt
        have hmin : ∀ k, 0 < k → k < n → (k - 1) / 2 = i → L1.getD j2 0 ≤ L1.getD k 0 := fun k h0 hk hp => by
          rcases (by omega : k = j1 ∨ k = j2) with e | e
          · rw [e]; omega
          · rw [e]; exact Nat.le_refl _
        clear hlt
        have HM := Lib.hid hmin
        clear hmin hj1 hj2
        go_upto_region 8 with (go_at_call 133; refine (HL.out j2 j1 (by have := HJ1.out; have := HJ2.out; omega) (by have := HJ1.out; have := HJ2.out; omega) _ (Below.refl _ _)).mono ?_; rw [hv0]; rintro e w4 ⟨rfl, hb⟩; have HB4 := Lib.hid hb; clear hb)
        have n4 := fun n => pln_less (n := n) (g := g) (w := w4)
        have m4 := fun n => plm_less (n := n) (HG.out.below HB4.out HG.out.lt)
        by_cases hli : L1.getD i 0 ≤ L1.getD j2 0
        · have hv : decide (L1.getD j2 0 < L1.getD i 0) = false := decide_eq_false (by have := HJ1.out; have := HJ2.out; omega)
          have HF := Lib.hid (heapX_stop HX.out HM.out hli)
          clear hli
          go_wp2_with (go_at_call 133; refine (HL.out j2 i (by have := HJ1.out; have := HJ2.out; omega) (by have := HJ1.out; have := HJ2.out; omega) _ HB4.out).mono ?_; rw [hv]; rintro e w5 ⟨rfl, hb⟩; have HB5 := Lib.hid (HB4.out.trans (hb.mono HB4.out.size)); clear hb)
          go_ret
          exact ⟨_, rfl, L1, HF.out, HP.out, HS.out, own_below HR.out HB5.out, HU.out.trans_ (Upd.ofBelow HB5.out _)⟩
        · have hv : decide (L1.getD j2 0 < L1.getD i 0) = true := decide_eq_true (by have := HJ1.out; have := HJ2.out; omega)
          have HF := Lib.hid (heapX_swap HX.out (by have := HJ1.out; have := HJ2.out; omega) (by have := HJ1.out; have := HJ2.out; omega) (by have := HJ1.out; have := HJ2.out; omega) (by have := HJ1.out; have := HJ2.out; omega) HM.out (Nat.lt_of_not_le hli))
          clear hli
          go_upto_region 9 with (go_at_call 133; refine (HL.out j2 i (by have := HJ1.out; have := HJ2.out; omega) (by have := HJ1.out; have := HJ2.out; omega) _ HB4.out).mono ?_; rw [hv]; rintro e w5 ⟨rfl, hb⟩; have HB5 := Lib.hid (HB4.out.trans (hb.mono HB4.out.size)); clear hb)
          have n9 := fun n => pln_swap (n := n) (g := g) (w := w5)
          have m9 := fun n => plm_swap (n := n) (HG.out.below HB5.out HG.out.lt)
          go_wp2_with (go_at_call 134; refine (HSW.out i j2 (by have := HJ1.out; have := HJ2.out; omega) (by have := HJ1.out; have := HJ2.out; omega) _ HB5.out).mono ?_; rintro e w6 ⟨rfl, hr, hu⟩; have HR6 := Lib.hid hr; have HU6 := Lib.hid ((HU.out.trans_ (Upd.ofBelow HB5.out _)).trans_ hu); clear hr hu)
          go_roundw
          case rel => exact ⟨j2, swapL L1 i j2, rfl, (by have := HJ1.out; have := HJ2.out; omega), HF.out, (swapL_perm L1 (by have := HJ1.out; have := HJ2.out; omega) (by have := HJ1.out; have := HJ2.out; omega)).trans HP.out, fun k hk => (swapL_get L1 (by have := HJ1.out; have := HJ2.out; omega) (by have := HJ1.out; have := HJ2.out; omega) k).trans ((if_neg (by have := HJ1.out; have := HJ2.out; omega)).trans ((if_neg (by have := HJ1.out; have := HJ2.out; omega)).trans (HS.out k hk))), HR6.out, HU6.out⟩
          case measure => have := HJ1.out; have := HJ2.out; simp [intOf]; omega
      · have hv0 : decide (L1.getD j2 0 < L1.getD j1 0) = false := decide_eq_false hlt
        have hmin : ∀ k, 0 < k → k < n → (k - 1) / 2 = i → L1.getD j1 0 ≤ L1.getD k 0 := fun k h0 hk hp => by
          rcases (by omega : k = j1 ∨ k = j2) with e | e
          · rw [e]; exact Nat.le_refl _
          · rw [e]; omega
        clear hlt
        have HM := Lib.hid hmin
        clear hmin hj1 hj2
        go_upto_region 8 with (go_at_call 133; refine (HL.out j2 j1 (by have := HJ1.out; have := HJ2.out; omega) (by have := HJ1.out; have := HJ2.out; omega) _ (Below.refl _ _)).mono ?_; rw [hv0]; rintro e w4 ⟨rfl, hb⟩; have HB4 := Lib.hid hb; clear hb)
        have n4 := fun n => pln_less (n := n) (g := g) (w := w4)
        have m4 := fun n => plm_less (n := n) (HG.out.below HB4.out HG.out.lt)
        by_cases hli : L1.getD i 0 ≤ L1.getD j1 0
        · have hv : decide (L1.getD j1 0 < L1.getD i 0) = false := decide_eq_false (by have := HJ1.out; have := HJ2.out; omega)
          have HF := Lib.hid (heapX_stop HX.out HM.out hli)
          clear hli
          go_wp2_with (go_at_call 133; refine (HL.out j1 i (by have := HJ1.out; have := HJ2.out; omega) (by have := HJ1.out; have := HJ2.out; omega) _ HB4.out).mono ?_; rw [hv]; rintro e w5 ⟨rfl, hb⟩; have HB5 := Lib.hid (HB4.out.trans (hb.mono HB4.out.size)); clear hb)
          go_ret
          exact ⟨_, rfl, L1, HF.out, HP.out, HS.out, own_below HR.out HB5.out, HU.out.trans_ (Upd.ofBelow HB5.out _)⟩
        · have hv : decide (L1.getD j1 0 < L1.getD i 0) = true := decide_eq_true (by have := HJ1.out; have := HJ2.out; omega)
          have HF := Lib.hid (heapX_swap HX.out (by have := HJ1.out; have := HJ2.out; omega) (by have := HJ1.out; have := HJ2.out; omega) (by have := HJ1.out; have := HJ2.out; omega) (by have := HJ1.out; have := HJ2.out; omega) HM.out (Nat.lt_of_not_le hli))
          clear hli
          go_upto_region 9 with (go_at_call 133; refine (HL.out j1 i (by have := HJ1.out; have := HJ2.out; omega) (by have := HJ1.out; have := HJ2.out; omega) _ HB4.out).mono ?_; rw [hv]; rintro e w5 ⟨rfl, hb⟩; have HB5 := Lib.hid (HB4.out.trans (hb.mono HB4.out.size)); clear hb)
          have n9 := fun n => pln_swap (n := n) (g := g) (w := w5)
          have m9 := fun n => plm_swap (n := n) (HG.out.below HB5.out HG.out.lt)
          go_wp2_with (go_at_call 134; refine (HSW.out i j1 (by have := HJ1.out; have := HJ2.out; omega) (by have := HJ1.out; have := HJ2.out; omega) _ HB5.out).mono ?_; rintro e w6 ⟨rfl, hr, hu⟩; have HR6 := Lib.hid hr; have HU6 := Lib.hid ((HU.out.trans_ (Upd.ofBelow HB5.out _)).trans_ hu); clear hr hu)
          go_roundw
          case rel => exact ⟨j1, swapL L1 i j1, rfl, (by have := HJ1.out; have := HJ2.out; omega), HF.out, (swapL_perm L1 (by have := HJ1.out; have := HJ2.out; omega) (by have := HJ1.out; have := HJ2.out; omega)).trans HP.out, fun k hk => (swapL_get L1 (by have := HJ1.out; have := HJ2.out; omega) (by have := HJ1.out; have := HJ2.out; omega) k).trans ((if_neg (by have := HJ1.out; have := HJ2.out; omega)).trans ((if_neg (by have := HJ1.out; have := HJ2.out; omega)).trans (HS.out k hk))), HR6.out, HU6.out⟩
          case measure => have := HJ1.out; have := HJ2.out; simp [intOf]; omega
    · have hmin : ∀ k, 0 < k → k < n → (k - 1) / 2 = i → L1.getD j1 0 ≤ L1.getD k 0 := fun k h0 hk hp => by
        rw [show k = j1 by omega]; exact Nat.le_refl _
      have HM := Lib.hid hmin
      clear hmin hj1 hj2
      go_upto_region 8 with (fail)
      by_cases hli : L1.getD i 0 ≤ L1.getD j1 0
      · have hv : decide (L1.getD j1 0 < L1.getD i 0) = false := decide_eq_false (by have := HJ1.out; have := HJ2.out; omega)
        have HF := Lib.hid (heapX_stop HX.out HM.out hli)
        clear hli
        go_wp2_with (go_at_call 133; refine (HL.out j1 i (by have := HJ1.out; have := HJ2.out; omega) (by have := HJ1.out; have := HJ2.out; omega) _ (Below.refl wr.heap.size wr)).mono ?_; rw [hv]; rintro e w5 ⟨rfl, hb⟩; have HB5 := Lib.hid ((Below.refl wr.heap.size wr).trans (hb.mono (Below.refl wr.heap.size wr).size)); clear hb)
        go_ret
        exact ⟨_, rfl, L1, HF.out, HP.out, HS.out, own_below HR.out HB5.out, HU.out.trans_ (Upd.ofBelow HB5.out _)⟩
      · have hv : decide (L1.getD j1 0 < L1.getD i 0) = true := decide_eq_true (by have := HJ1.out; have := HJ2.out; omega)
        have HF := Lib.hid (heapX_swap HX.out (by have := HJ1.out; have := HJ2.out; omega) (by have := HJ1.out; have := HJ2.out; omega) (by have := HJ1.out; have := HJ2.out; omega) (by have := HJ1.out; have := HJ2.out; omega) HM.out (Nat.lt_of_not_le hli))
        clear hli
        go_upto_region 9 with (go_at_call 133; refine (HL.out j1 i (by have := HJ1.out; have := HJ2.out; omega) (by have := HJ1.out; have := HJ2.out; omega) _ (Below.refl wr.heap.size wr)).mono ?_; rw [hv]; rintro e w5 ⟨rfl, hb⟩; have HB5 := Lib.hid ((Below.refl wr.heap.size wr).trans (hb.mono (Below.refl wr.heap.size wr).size)); clear hb)
        have n9 := fun n => pln_swap (n := n) (g := g) (w := w5)
        have m9 := fun n => plm_swap (n := n) (HG.out.below HB5.out HG.out.lt)
        go_wp2_with (go_at_call 134; refine (HSW.out i j1 (by have := HJ1.out; have := HJ2.out; omega) (by have := HJ1.out; have := HJ2.out; omega) _ HB5.out).mono ?_; rintro e w6 ⟨rfl, hr, hu⟩; have HR6 := Lib.hid hr; have HU6 := Lib.hid ((HU.out.trans_ (Upd.ofBelow HB5.out _)).trans_ hu); clear hr hu)
        go_roundw
        case rel => exact ⟨j1, swapL L1 i j1, rfl, (by have := HJ1.out; have := HJ2.out; omega), HF.out, (swapL_perm L1 (by have := HJ1.out; have := HJ2.out; omega) (by have := HJ1.out; have := HJ2.out; omega)).trans HP.out, fun k hk => (swapL_get L1 (by have := HJ1.out; have := HJ2.out; omega) (by have := HJ1.out; have := HJ2.out; omega) k).trans ((if_neg (by have := HJ1.out; have := HJ2.out; omega)).trans ((if_neg (by have := HJ1.out; have := HJ2.out; omega)).trans (HS.out k hk))), HR6.out, HU6.out⟩
        case measure => have := HJ1.out; have := HJ2.out; simp [intOf]; omega
end Go.Proofs.Ytihfihehiifdkaa
namespace Go.Proofs.Ytihfihehiifdkaa
open Go.RowKit Go.Sort
theorem rise_up {L : List Nat} {k : Nat} (h : ∀ x ∈ L, x < k) : (L ++ [k]).getD ((L.length - 1) / 2) 0 ≤ (L ++ [k]).getD L.length 0 := by
  have e2 : (L ++ [k]).getD L.length 0 = k := by simp [List.getD_eq_getElem?_getD]
  rw [e2]
  rcases Nat.eq_zero_or_pos L.length with h0 | h0
  · have : L = [] := List.eq_nil_of_length_eq_zero h0
    subst this
    exact Nat.le_refl _
  · have hi : (L.length - 1) / 2 < L.length := by omega
    have e1 : (L ++ [k]).getD ((L.length - 1) / 2) 0 = L[(L.length - 1) / 2] := by simp [List.getD_eq_getElem?_getD, List.getElem?_append_left hi, hi]
    rw [e1]
    exact Nat.le_of_lt (h _ (List.getElem_mem hi))
set_option maxRecDepth 100000 in
theorem pl_hpush (B g : Nat) (L : List Nat) (v : Value) (k : Nat) (w : World) (hg : Blk w g 138 #[v]) (h : RowN B w v L) (hsm : L.length ≤ 900000) (hB : B ≤ w.heap.size) (hk : ∀ x ∈ L, x < k) :
    Calls Try.prog 99 #[.iface 140 (.pointer (some ⟨g, 0, none⟩)), .iface 3 (.int .i64 (k : Int))] w fun e w' => e = .returned (.tuple #[]) ∧ ∃ v2, Blk w' g 138 #[v2] ∧ RowN B w' v2 (L ++ [k]) ∧ Upd (fun x => x = g ∨ v.ownBlock = some x) w w' := by
  have HP := Lib.hid (pl_push B g L v k w hg h (by omega) hB)
  have HK := Lib.hid (rise_up hk)
  have n1 := fun n => pln_push (n := n) (g := g) (w := w)
  have m1 := fun n => plm_push (n := n) (g := g) (w := w)
  clear hg h hk hB
  go_enter Try.func99, Try.ntmps99
  go_upto_region 1 with
    (go_at_call 136
     refine HP.out.mono ?_
     rintro e w1 ⟨rfl, v2, hg1, hr1, hu1⟩
     have HG1 := Lib.hid hg1
     have HR1 := Lib.hid hr1
     have HU1 := Lib.hid hu1
     clear hg1 hr1 hu1)
  clear n1 m1
  obtain ⟨A2, c2, rfl, _⟩ := own_form HR1.out
  have n2 := fun n => pln_len (n := n) (g := g) (w := w1)
  have m2 := fun n => plm_len (n := n) HG1.out
  have HUP := Lib.hid (pl_up B g (L ++ [k]) _ L.length w1 HG1.out HR1.out (by simp) (by simp; omega) HK.out)
  obtain ⟨N, hN⟩ : ∃ N, N = L.length := ⟨_, rfl⟩
  have hl : (L ++ [k]).length = N + 1 := by rw [hN]; simp
  rw [hl] at m2
  rw [← hN] at HUP hsm
  have HL := Lib.hid hl
  clear hN hl
  go_wp2_with (first
    | (go_at_call 132; refine (pl_len A2 (N + 1) c2 w1).mono ?_; rintro e w' ⟨rfl, rfl⟩)
    | (go_at_call 112; refine HUP.out.mono ?_; rintro e w2 ⟨rfl, hb⟩; have HB2 := Lib.hid hb; clear hb))
  go_end0
  exact ⟨rfl, _, HG1.out.below HB2.out HG1.out.lt, own_below HR1.out HB2.out, HU1.out.trans_ (Upd.ofBelow HB2.out _)⟩
set_option maxRecDepth 100000 in
theorem pl_hpop (B g n : Nat) (L : List Nat) (v : Value) (w : World) (hg : Blk w g 138 #[v]) (h : RowN B w v L) (hsm : L.length ≤ 900000) (hn : n + 1 = L.length) (hh : HeapN L.length L) :
    Calls Try.prog 100 #[.iface 140 (.pointer (some ⟨g, 0, none⟩))] w fun e w' => ∃ L2 v2, e = .returned (.iface 3 (.int .i64 ((L2.getD n 0 : Nat) : Int))) ∧ L2.Perm (swapL L 0 n) ∧ L2.getD n 0 = (swapL L 0 n).getD n 0 ∧ HeapN n L2 ∧ L2.length = n + 1 ∧ Blk w' g 138 #[v2] ∧ RowN B w' v2 (L2.take n) ∧ Upd (fun x => x = g ∨ v.ownBlock = some x) w w' ∧ v2.ownBlock = v.ownBlock := by
  obtain ⟨b, c, rfl, hc⟩ := own_form1 h (by omega)
  have HX := Lib.hid (heapX_pop (by rw [hn]; exact hh) hn)
  have HG := Lib.hid hg
  have HR := Lib.hid h
  have n0 := fun n => pln_len (n := n) (g := g) (w := w)
  have m0 := fun n => plm_len (n := n) hg
  have n1 := fun n => pln_swap (n := n) (g := g) (w := w)
  have m1 := fun n => plm_swap (n := n) hg
  have hne : b ≠ g := fun e => own_blk_ne h hg (by decide) (by rw [e]; rfl)
  have hsw := pl_swap B b L.length c L 0 n w h rfl (by omega) (by omega) (by omega)
  rw [show (((0 : Nat) : Int)) = 0 from rfl] at hsw
  have hsl : (swapL L 0 n).length = L.length := swapL_len _ _ _
  have HN := Lib.hid hn
  have HDN := Lib.hid (fun w2 (hb : Upd (only b) w w2) (hr : RowN B w2 (.slice (some ⟨b, 0, none⟩) L.length c) (swapL L 0 n)) => pl_down B g n (swapL L 0 n) b c w2 (by rw [hsl]; exact hg.upd hb fun e => hne e.symm) (by rw [hsl]; exact hr) (by rw [hsl]; omega) (by rw [hsl]; omega) HX.out)
  rw [hsl] at HDN
  rw [← hn] at m0 m1 hsw HDN
  have HSW := Lib.hid hsw
  have HNE := Lib.hid hne
  rw [← hn]
  have hsm2 : n + 1 ≤ 900000 := by omega
  clear h hg hh hn hne hsw hsl hsm hc
  go_enter Try.func100, Try.ntmps100
  go_upto_region 3 with (first
    | (go_at_call 132; refine (pl_len (some ⟨b, 0, none⟩) (n + 1) c w).mono ?_; rintro e w' ⟨rfl, rfl⟩)
    | (go_at_call 134
       refine HSW.out.mono ?_
       rintro e w1 ⟨rfl, hr1, hu1⟩
       have HR1 := Lib.hid hr1
       have HU1 := Lib.hid hu1
       clear hr1 hu1))
  clear n0 m0 n1 m1
  have hdn := HDN.out w1 HU1.out HR1.out
  have HD := Lib.hid hdn
  clear hdn
  go_upto_region 4 with
    (go_at_call 113
     refine HD.out.mono ?_
     rintro e w2 ⟨r, rfl, L2, hh2, hp2, hk2, hr2, hu2⟩
     have HH2 := Lib.hid hh2
     have HP2 := Lib.hid hp2
     have HK2 := Lib.hid (hk2 n (Nat.le_refl _))
     have HR2 := Lib.hid hr2
     have HU2 := Lib.hid (HU1.out.trans_ hu2)
     clear hh2 hp2 hk2 hr2 hu2)
  have hl2 : L2.length = n + 1 := by rw [HP2.out.length_eq, swapL_len, HN.out]
  have hg2 := HG.out.upd HU2.out (fun e => HNE.out e.symm)
  rw [← HN.out] at hg2
  have hpp := pl_pop B g L2 _ w2 hg2 HR2.out (by omega) (by omega)
  rw [hl2, show n + 1 - 1 = n from rfl] at hpp
  have HPP := Lib.hid hpp
  have HL2 := Lib.hid hl2
  have n3 := fun n => pln_pop (n := n) (g := g) (w := w2)
  have m3 := fun n => plm_pop (n := n) (g := g) (w := w2)
  clear hg2 hpp hl2
  go_wp2_with (go_at_call 135; refine HPP.out.mono ?_; rintro e w3 ⟨rfl, v3, hg3, hr3, hu3, ho3⟩; have HO3 := Lib.hid ho3; have HG3 := Lib.hid hg3; have HR3 := Lib.hid hr3; have HU3 := Lib.hid hu3; clear hg3 hr3 hu3 ho3)
  go_ret
  exact ⟨L2, v3, rfl, HP2.out, HK2.out, HH2.out, HL2.out, HG3.out, HR3.out, (HU2.out.mono fun x hx => .inl (.inr (by rw [show x = b from hx]; rfl))).trans_ (HU3.out.mono fun x hx => .inl (.inl hx)), HO3.out⟩
end Go.Proofs.Ytihfihehiifdkaa
