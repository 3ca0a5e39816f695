/- A window of strings: w = w[1:], and append to it. -/
import Derived.Test.YtfckagokeimkmaaLnX
import Derived.Deep.Onto
namespace Go.Proofs.Ytfckagokeimkmaa
open Go.RowKit

/-- v is a window of strings of the call's own; its block lies from B on. -/
def WinS (B : Nat) (W : World) (v : Value) (ss : List (List UInt8)) : Prop :=
  ∃ A c, v = .slice A ss.length c ∧ ss.length ≤ c ∧ c ≤ maxLen ∧ (∀ a, A = some a → B ≤ a.block ∧ a.block < W.heap.size) ∧
    (0 < c → ∃ g o, A = some ⟨g, o, none⟩ ∧ (∀ j u, (ss.map strV)[j]? = some u → W.cell? ⟨g, o + j, none⟩ = some u) ∧ ∀ j, j < c → (W.cell? ⟨g, o + j, none⟩).isSome = true ∧ W.frozen? ⟨g, o + j, none⟩ = false)

section
variable {B : Nat} {W W2 : World} {v : Value} {ss : List (List UInt8)} {x : List UInt8}
theorem WinS.nil (B : Nat) (W : World) : WinS B W (.slice none 0 0) [] :=
  ⟨none, 0, rfl, Nat.le_refl _, Nat.zero_le _, fun a e => (by cases e), fun h => absurd h (Nat.lt_irrefl 0)⟩
theorem WinS.lt (h : WinS B W v ss) {k : Nat} (hk : v.ownBlock = some k) : B ≤ k ∧ k < W.heap.size := by
  obtain ⟨A, c, rfl, _, _, h3, _⟩ := h
  cases A with
  | none => cases hk
  | some a =>
    injection hk with hk
    rw [← hk]
    exact h3 a rfl
theorem WinS.keep {X : Nat → Prop} (h : WinS B W v ss) (hs : Same X W W2) (hX : ∀ k, v.ownBlock = some k → X k) : WinS B W2 v ss := by
  obtain ⟨A, c, rfl, h1, h2, h3, h4⟩ := h
  refine ⟨A, c, rfl, h1, h2, fun a e => ⟨(h3 a e).1, Nat.lt_of_lt_of_le (h3 a e).2 hs.1⟩, fun hc => ?_⟩
  obtain ⟨g, o, rfl, h5, h6⟩ := h4 hc
  have hb : W2.heap[g]? = W.heap[g]? := hs.2 g (hX g rfl) (h3 _ rfl).2
  refine ⟨g, o, rfl, fun j u hu => (World.cell?_of_block (a := ⟨g, o + j, none⟩) hb).trans (h5 j u hu), fun j hj => ?_⟩
  rw [World.cell?_of_block (a := ⟨g, o + j, none⟩) hb, World.frozen?_of_block (a := ⟨g, o + j, none⟩) hb]
  exact h6 j hj
theorem WinS.reads (h : WinS B W v ss) : ∃ A c, v = .slice A ss.length c ∧ ss.length ≤ c ∧ Reads W (fun k => v.ownBlock = some k) 1 A ss.length (ss.map strV) := by
  obtain ⟨A, c, rfl, h1, h2, h3, h4⟩ := h
  refine ⟨A, c, rfl, h1, by simp, fun hn => ?_⟩
  obtain ⟨g, o, rfl, h5, h6⟩ := h4 (by omega)
  exact ⟨_, rfl, rfl, (h3 _ rfl).2, fun j u hu => by rw [Addr.add_lit]; exact h5 j u hu⟩
theorem WinS.tail1 {g o c n : Nat} (h : WinS B W (.slice (some ⟨g, o, none⟩) n c) (x :: ss)) : WinS B W (.slice (some ⟨g, o + 1, none⟩) ss.length (c - 1)) ss := by
  obtain ⟨A, c, e, h1, h2, h3, h4⟩ := h
  injection e with e1 e2 e3
  subst e1; subst e3
  simp at h1
  refine ⟨_, _, rfl, (by omega), (by omega), fun a e => ?_, fun hc => ?_⟩
  · injection e with e
    subst e
    exact h3 ⟨g, o, none⟩ rfl
  · obtain ⟨g', o', e, h5, h6⟩ := h4 (by omega)
    injection e with e
    injection e with e1 e2
    subst e1; subst e2
    refine ⟨g, o + 1, rfl, fun j u hu => ?_, fun j hj => ?_⟩
    · rw [show o + 1 + j = o + (j + 1) from by omega]
      exact h5 (j + 1) u (by simpa using hu)
    · rw [show o + 1 + j = o + (j + 1) from by omega]
      exact h6 (j + 1) (by omega)
theorem WinS.tail0 {g o n : Nat} (h : WinS B W (.slice (some ⟨g, o, none⟩) n 1) (x :: ss)) : ss = [] ∧ WinS B W (.slice (some ⟨g, o, none⟩) 0 0) [] := by
  obtain ⟨A, c, e, h1, h2, h3, h4⟩ := h
  injection e with e1 e2 e3
  subst e1; subst e3
  simp at h1
  subst h1
  exact ⟨rfl, _, _, rfl, Nat.le_refl _, Nat.zero_le _, fun a e => h3 a e, fun h => absurd h (Nat.lt_irrefl 0)⟩
theorem WinS.ofOwn {n : Nat} (h : W.ownsRow B 9 1 v n (ss.map strV)) : WinS B W v ss := by
  have hn : n = ss.length := by have := h.1; simpa using this.symm
  subst hn
  rcases h.2 with ⟨rfl, e⟩ | ⟨g, cap, cur, rfl, hg, hh, h1, h2, h3, h4⟩
  · have : ss = [] := List.eq_nil_of_length_eq_zero e
    subst this
    exact WinS.nil B W
  · have hlt : g < W.heap.size := (Array.getElem?_eq_some_iff.1 hh).1
    refine ⟨_, _, rfl, h1, h2, fun a e => ?_, fun hc => ⟨g, 0, rfl, fun j u hu => ?_, fun j hj => ?_⟩⟩
    · injection e with e
      subst e
      exact ⟨hg, hlt⟩
    · have hj : j < ss.length := by simpa using (List.getElem?_eq_some_iff.1 hu).1
      have : cur[j]? = some u := by
        rw [← h4, Nat.mul_one, List.getElem?_take_of_lt hj] at hu
        simpa using hu
      simp [World.cell?, hh, this]
    · have : j < cur.size := by omega
      simp [World.cell?, World.frozen?, hh, this]
end

section
variable {P : Program}
theorem run_append_win {B : Nat} {w : World} {v : Value} {ss : List (List UInt8)} (h : WinS B w v ss) (t ty : TypeId) (i : TypeInfo) (z : Value) (ht : P.underlying t = some (.slice 9)) (hi : P.info? 9 = some i) (hz : i.zero = some z) (hsize : i.size = 1) (hby : i.bytes = 16) (hzs : z.cells.size = 1)
    (ad : Addr) (c : Nat) (x : List UInt8) (hx : w.cell? (ad.add 0) = some (strV x)) (hB : B ≤ w.heap.size) (h63 : ss.length ≤ 1000000) :
    ∃ v' w', (Builtin.append_ #[t, t] ty #[v, .slice (some ad) 1 c]).run P w = .ok v' w' ∧ WinS B w' v' (ss ++ [x]) ∧ Upd (fun k => v.ownBlock = some k) w w' ∧ ∀ k, v'.ownBlock = some k → v.ownBlock = some k ∨ w.heap.size ≤ k := by
  obtain ⟨A, cp, rfl, h1, h2, h3, h4⟩ := h
  have hnews : ∀ (j : Nat) u, [strV x][j]? = some u → w.cell? (ad.add j) = some u := fun j u hu => by
    match j, hu with
    | 0, hu => injection hu with hu; rw [← hu]; exact hx
  have h1c : ∀ u ∈ [strV x], u.oneCell' = true := by intro u hu; rw [List.mem_singleton.1 hu]; rfl
  have hm1 : ss.length + 1 ≤ maxLen := by unfold maxLen; omega
  have hmb : (ss.length + 1) * 16 ≤ 140737488355328 := by omega
  have fresh : ∀ v' w', (w'.ownsRow w.heap.size 9 1 v' (ss.length + 1) (ss.map strV ++ [strV x])) → w.grownBy w' none → WinS B w' v' (ss ++ [x]) ∧ Upd (fun k => (Value.slice A ss.length cp).ownBlock = some k) w w' ∧ ∀ k, v'.ownBlock = some k → (Value.slice A ss.length cp).ownBlock = some k ∨ w.heap.size ≤ k := fun v' w' r1 r2 => by
    refine ⟨WinS.ofOwn (n := ss.length + 1) ?_, (Upd.refl _ w).grown r2 (fun k hk => by cases hk), fun k hk => .inr (own_lt r1 hk).1⟩
    have := own_base r1 hB
    simpa using this
  by_cases hr : ss.length + 1 ≤ cp
  · obtain ⟨g, o, rfl, h5, h6⟩ := h4 (by omega)
    have hc := h6 ss.length (by omega)
    have hrun := run_append_room_cells (P := P) (w := w) t ty 9 i ht hi g o ss.length cp ad 1 c [strV x] (by rw [hsize]; rfl) hnews h1c hr
      (fun j hj => by obtain rfl : j = 0 := (by simpa using hj); rw [hsize]; simpa using hc.1) (fun j hj => by obtain rfl : j = 0 := (by simpa using hj); rw [hsize]; simpa using hc.2)
    rw [hsize, Nat.mul_one] at hrun
    have hs : w.setCells g (o + ss.length) [strV x] = w.setCell ⟨g, o + ss.length, none⟩ (strV x) := rfl
    rw [hs] at hrun
    have hlt := (h3 _ rfl).2
    refine ⟨_, _, hrun, ⟨_, cp, by simp, by simpa using hr, h2, fun a e => ⟨(h3 a e).1, by simpa using (h3 a e).2⟩, fun _ => ⟨g, o, rfl, fun j u hu => ?_, fun j hj => ?_⟩⟩, ((Upd.refl (fun k => (Value.slice (some (⟨g, o, none⟩ : Addr)) ss.length cp).ownBlock = some k) w).setCell (p := ⟨g, o + ss.length, none⟩) (.inl rfl) _), fun k hk => .inl hk⟩
    · have hj : j < ss.length + 1 := by simpa using (List.getElem?_eq_some_iff.1 hu).1
      by_cases e : j = ss.length
      · subst e
        rw [List.map_append, List.getElem?_append_right (by simp)] at hu
        simp at hu
        rw [← hu]
        obtain ⟨u0, hu0⟩ := Option.isSome_iff_exists.1 hc.1
        exact World.cell?_setCell_same _ (v := strV x) (a := ⟨g, o + ss.length, none⟩) hu0
      · have hne : (⟨g, o + ss.length, none⟩ : Addr) ≠ ⟨g, o + j, none⟩ := fun h => by injection h with _ h; omega
        refine (World.cell?_setCell_other w _ _ (strV x) hne).trans ?_
        rw [List.map_append, List.getElem?_append_left (by simp; omega)] at hu
        exact h5 j u hu
    · refine ⟨?_, (World.frozen?_setCell w ⟨g, o + ss.length, none⟩ ⟨g, o + j, none⟩ (strV x)).trans (h6 j hj).2⟩
      obtain ⟨u0, hu0⟩ := Option.isSome_iff_exists.1 (h6 j hj).1
      obtain ⟨u1, hu1⟩ := cell?_setCell_some (p := ⟨g, o + ss.length, none⟩) (x := strV x) hu0
      rw [hu1]
      rfl
  · cases A with
    | none =>
      have h0 : cp = 0 := by
        by_cases e : cp = 0
        · exact e
        · obtain ⟨g, o, e, _⟩ := h4 (by omega)
          cases e
      subst h0
      have hs0 : ss = [] := List.eq_nil_of_length_eq_zero (by omega)
      subst hs0
      obtain ⟨v', w', hrun, r1, r2, _⟩ := run_append_own (P := P) w w.heap.size t ty 9 i z 1 16 ht hi hz hsize hby hzs Nat.one_pos (.slice none 0 0) 0 [] (World.ownsRow_nil w _ _ _) ad 1 c [strV x] rfl hnews h1c (by simpa using hm1) (by simp) (Nat.le_refl _)
      obtain ⟨q1, q2, q3⟩ := fresh v' w' (by simpa using r1) r2
      exact ⟨v', w', hrun, q1, q2, q3⟩
    | some a =>
      obtain ⟨v', w', hrun, r1, r2⟩ := run_append_arg_grows (P := P) (w := w) t ty 9 i z 1 16 ht hi hz hsize hby hzs Nat.one_pos a ss.length cp (ss.map strV) (by simp) (fun j u hu => by
        have hj : j < ss.length := by simpa using (List.getElem?_eq_some_iff.1 hu).1
        obtain ⟨g, o, e, h5, _⟩ := h4 (by omega)
        injection e with e
        subst e
        rw [Addr.add_lit]
        exact h5 j u hu) ad 1 c [strV x] rfl hnews (by omega) hm1 hmb
      obtain ⟨q1, q2, q3⟩ := fresh v' w' r1 r2
      exact ⟨v', w', hrun, q1, q2, q3⟩
/-- .. for the walk. -/
theorem wpList_append_win {B : Nat} {w : World} {v : Value} {ss : List (List UInt8)} {ops : Array Oper} {rest : List Oper} {o : Oper} {a : Act} {Q : Exit → Act → World → Prop} (hgd : o.guard = none) (s x : Operand) (t : TypeId)
    (ho : o.op = .call { callee := .builtin .append, args := #[s, x], argTypes := #[t, t] }) (i : TypeInfo) (z : Value) (ht : P.underlying t = some (.slice 9)) (hi : P.info? 9 = some i) (hz : i.zero = some z) (hsize : i.size = 1) (hby : i.bytes = 16) (hzs : z.cells.size = 1)
    (hs : a.eval s = v) (h : WinS B w v ss) (ad : Addr) (c : Nat) (y : List UInt8) (hx : a.eval x = .slice (some ad) 1 c) (hy : w.cell? (ad.add 0) = some (strV y)) (hB : B ≤ w.heap.size) (h63 : ss.length ≤ 1000000)
    (hK : ∀ v' w', WinS B w' v' (ss ++ [y]) → Upd (fun k => v.ownBlock = some k) w w' → (∀ k, v'.ownBlock = some k → v.ownBlock = some k ∨ w.heap.size ≤ k) → wpList P ops Q rest (a.put o.dst v') w') : wpList P ops Q (o :: rest) a w := by
  refine wpList_plain hgd fun K hK' => ?_
  obtain ⟨v', w', hrun, r1, r2, r3⟩ := run_append_win (P := P) h t o.type i z ht hi hz hsize hby hzs ad c y hy hB h63
  unfold Oper.wp
  simp [execOp, ho, resolve, invoke, builtin, hs, hx, hrun, Result.andThen]
  exact hK' _ _ (hK v' w' r1 r2 r3)
end
end Go.Proofs.Ytfckagokeimkmaa
