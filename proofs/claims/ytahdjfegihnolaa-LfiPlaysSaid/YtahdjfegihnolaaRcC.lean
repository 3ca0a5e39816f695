/- Layer 12: the document's core in memory; its small functions. -/
import Derived.Test.YtahdjfegihnolaaLzE
import Derived.Deep.LoopGhost
namespace Go.Proofs.Ytahdjfegihnolaa
open Go.RowKit Go.Sort
/-- A store into a row of the call's own. -/
theorem rown_set {w : World} {base : Nat} {e : TypeId} {size n cap g off : Nat} {xs : List Value} (h : w.ownsRow base e size (.slice (some ⟨g, 0, none⟩) n cap) n xs) (u : Value) : (w.setCell ⟨g, off, none⟩ u).ownsRow base e size (.slice (some ⟨g, 0, none⟩) n cap) n (xs.set off u) := by
  refine ⟨by rw [List.length_set]; exact h.1, .inr ?_⟩
  rcases h.2 with ⟨h2, _⟩ | ⟨g2, c, cur, h2, h3, h4, h5, h6, h7, h8⟩
  · cases h2
  · injection h2 with h2 _ hc
    injection h2 with h2
    injection h2 with h2
    subst h2
    subst hc
    refine ⟨g, cap, cur.setIfInBounds off u, rfl, h3, Blk.set_ (t := e) (cs := cur) h4 off u, h5, h6, by rw [Array.size_setIfInBounds]; exact h7, ?_⟩
    rw [Array.toList_setIfInBounds, List.take_set, h8]
theorem rown_blk {w : World} {base : Nat} {e : TypeId} {size n cap g : Nat} {xs : List Value} (h : w.ownsRow base e size (.slice (some ⟨g, 0, none⟩) n cap) n xs) : base ≤ g ∧ n ≤ cap ∧ ∃ cur, Blk w g e cur ∧ ∀ (i : Nat) (u : Value), xs[i]? = some u → cur[i]? = some u := by
  rcases h.2 with ⟨h2, _⟩ | ⟨g2, c, cur, h2, h3, h4, h5, h6, h7, h8⟩
  · cases h2
  · injection h2 with h2 _ hc
    injection h2 with h2
    injection h2 with h2
    subst h2
    subst hc
    refine ⟨h3, h5, cur, h4, fun i u hi => ?_⟩
    rw [← h8, List.getElem?_take] at hi
    split at hi
    · simpa using hi
    · cases hi
theorem rown_form {w : World} {base : Nat} {e : TypeId} {size n : Nat} {v : Value} {xs : List Value} (h : w.ownsRow base e size v n xs) (hn : 0 < n) : ∃ g c, v = .slice (some ⟨g, 0, none⟩) n c ∧ n ≤ c := own_form1 h hn
def reC (x : Le) : List Value := [.int .u32 (x.p.1 : Int), .int .i64 x.p.2, .bool x.own, .bool x.tk, .int .i64 (x.said 0), .int .i64 (x.said 1), .int .i64 (x.said 2), .int .i64 (x.said 3), .int .i64 (x.said 4), .int .i64 (x.said 5), .int .i64 (x.said 6), .int .i64 (x.said 7), .int .i64 x.told, .int .i64 x.feas, .int .i64 ((x.aw 0 : Nat)), .int .i64 ((x.aw 1 : Nat)), .int .i64 ((x.aw 2 : Nat)), .int .i64 ((x.aw 3 : Nat)), .int .i64 ((x.aw 4 : Nat)), .int .i64 ((x.aw 5 : Nat)), .int .i64 ((x.aw 6 : Nat)), .int .i64 ((x.aw 7 : Nat))]
def rcC (room : Int) (c : Pc) (av ov : Value) : Array Value := #[.int .i64 room, .bool (c.up 0), .bool (c.up 1), .bool (c.up 2), .bool (c.up 3), .bool (c.up 4), .bool (c.up 5), .bool (c.up 6), .bool (c.up 7), .int .i64 (c.cost 0), .int .i64 (c.cost 1), .int .i64 (c.cost 2), .int .i64 (c.cost 3), .int .i64 (c.cost 4), .int .i64 (c.cost 5), .int .i64 (c.cost 6), .int .i64 (c.cost 7), av, ov]
def reA (x : Le) : Array Value := (reC x).toArray
theorem reA_get (x : Le) (j : Nat) : (reA x)[j]? = (reC x)[j]? := by simp [reA]
def flatE (L : List Le) : List Value := L.flatMap reC
theorem reC_len (x : Le) : (reC x).length = 22 := rfl
theorem flatE_len : ∀ L : List Le, (flatE L).length = L.length * 22
  | [] => rfl
  | x :: L => by
    have := flatE_len L
    unfold flatE at this ⊢
    rw [List.flatMap_cons, List.length_append, this, reC_len, List.length_cons]
    omega
theorem flatE_get : ∀ {L : List Le} {i : Nat} {x : Le}, L[i]? = some x → ∀ {j : Nat}, j < 22 → (flatE L)[i * 22 + j]? = (reC x)[j]?
  | [], i, x, h, _, _ => by simp at h
  | a :: L, 0, x, h, j, hj => by
    simp at h
    subst h
    unfold flatE
    rw [List.flatMap_cons, Nat.zero_mul, Nat.zero_add, List.getElem?_append_left (by rw [reC_len]; exact hj)]
  | a :: L, i + 1, x, h, j, hj => by
    have := flatE_get (L := L) (i := i) (x := x) (by simpa using h) hj
    unfold flatE at this ⊢
    rw [List.flatMap_cons, List.getElem?_append_right (by rw [reC_len]; omega), reC_len, ← this]
    congr 1
    omega
theorem flatE_set : ∀ {L : List Le} {i : Nat} {x y : Le}, L[i]? = some x → ∀ {j : Nat} {u : Value}, j < 22 → (reC x).set j u = reC y → (flatE L).set (i * 22 + j) u = flatE (L.set i y)
  | [], i, x, y, h, _, _, _, _ => by simp at h
  | a :: L, 0, x, y, h, j, u, hj, he => by
    simp at h
    subst h
    unfold flatE
    rw [List.set_cons_zero, List.flatMap_cons, List.flatMap_cons, Nat.zero_mul, Nat.zero_add, List.set_append_left _ _ (by rw [reC_len]; exact hj), he]
  | a :: L, i + 1, x, y, h, j, u, hj, he => by
    have := flatE_set (L := L) (i := i) (x := x) (y := y) (by simpa using h) hj he
    unfold flatE at this ⊢
    rw [List.set_cons_succ, List.flatMap_cons, List.flatMap_cons, List.set_append_right _ _ (by rw [reC_len]; omega), reC_len, ← this]
    congr 2
    omega
theorem flatE_append (L M : List Le) : flatE (L ++ M) = flatE L ++ flatE M := by unfold flatE; rw [List.flatMap_append]
theorem flatE_snoc (L : List Le) (x : Le) : flatE (L ++ [x]) = flatE L ++ reC x := by rw [flatE_append]; unfold flatE; simp
theorem reC_said (x : Le) {p : Nat} (h : p < 8) : (reC x)[4 + p]? = some (.int .i64 (x.said p)) := by rcases lt8 h with rfl | rfl | rfl | rfl | rfl | rfl | rfl | rfl <;> rfl
theorem reC_aw (x : Le) {p : Nat} (h : p < 8) : (reC x)[14 + p]? = some (.int .i64 ((x.aw p : Nat) : Int)) := by rcases lt8 h with rfl | rfl | rfl | rfl | rfl | rfl | rfl | rfl <;> rfl
theorem reC_set_aw (x : Le) {p : Nat} (h : p < 8) (v : Nat) : (reC x).set (14 + p) (.int .i64 (v : Int)) = reC { x with aw := setN x.aw p v } := by
  rcases lt8 h with rfl | rfl | rfl | rfl | rfl | rfl | rfl | rfl <;> rfl
theorem reC_set_said (x : Le) {p : Nat} (h : p < 8) (v : Int) : (reC x).set (4 + p) (.int .i64 v) = reC { x with said := setAt x.said p v } := by
  rcases lt8 h with rfl | rfl | rfl | rfl | rfl | rfl | rfl | rfl <;> rfl
theorem reC_set_told (x : Le) (v : Int) : (reC x).set 12 (.int .i64 v) = reC { x with told := v } := rfl
theorem reC_set_feas (x : Le) (v : Int) : (reC x).set 13 (.int .i64 v) = reC { x with feas := v } := rfl
theorem reC_set_tk (x : Le) (v : Bool) : (reC x).set 3 (.bool v) = reC { x with tk := v } := rfl
theorem rcC_up (room : Int) (c : Pc) (av ov : Value) {p : Nat} (h : p < 8) : (rcC room c av ov)[1 + p]? = some (.bool (c.up p)) := by rcases lt8 h with rfl | rfl | rfl | rfl | rfl | rfl | rfl | rfl <;> rfl
theorem rcC_cost (room : Int) (c : Pc) (av ov : Value) {p : Nat} (h : p < 8) : (rcC room c av ov)[9 + p]? = some (.int .i64 (c.cost p)) := by rcases lt8 h with rfl | rfl | rfl | rfl | rfl | rfl | rfl | rfl <;> rfl
theorem rcC_set_up (room : Int) (c : Pc) (av ov : Value) {p : Nat} (h : p < 8) (v : Bool) : (rcC room c av ov).setIfInBounds (1 + p) (.bool v) = rcC room ⟨setB c.up p v, c.cost⟩ av ov := by
  rcases lt8 h with rfl | rfl | rfl | rfl | rfl | rfl | rfl | rfl <;> rfl
theorem rcC_set_cost (room : Int) (c : Pc) (av ov : Value) {p : Nat} (h : p < 8) (v : Int) : (rcC room c av ov).setIfInBounds (9 + p) (.int .i64 v) = rcC room ⟨c.up, setAt c.cost p v⟩ av ov := by
  rcases lt8 h with rfl | rfl | rfl | rfl | rfl | rfl | rfl | rfl <;> rfl
theorem rcC_set_all (room : Int) (c : Pc) (av ov av2 : Value) : (rcC room c av ov).setIfInBounds 17 av2 = rcC room c av2 ov := rfl
theorem rcC_set_out (room : Int) (c : Pc) (av ov ov2 : Value) : (rcC room c av ov).setIfInBounds 18 ov2 = rcC room c av ov2 := rfl
/-- The document's core in memory. -/
structure RcM (w : World) (B rb : Nat) (av ov : Value) (room : Int) (c : Pc) (L : List Le) : Prop where
  blk : Blk w rb 77 (rcC room c av ov)
  row : w.ownsRow B 98 22 av L.length (flatE L)
def RcU (rb : Nat) (av ov : Value) (k : Nat) : Prop := k = rb ∨ av.ownBlock = some k ∨ ov.ownBlock = some k
section
variable {w w' : World} {B rb : Nat} {av ov : Value} {room : Int} {c : Pc} {L : List Le}
theorem RcM.lt (h : RcM w B rb av ov room c L) : rb < w.heap.size ∧ ∀ k, av.ownBlock = some k → k < w.heap.size := ⟨h.blk.lt, fun _ hk => (own_lt h.row hk).2⟩
theorem RcM.same (h : RcM w B rb av ov room c L) (hs : Same (fun k => k = rb ∨ av.ownBlock = some k) w w') : RcM w' B rb av ov room c L :=
  ⟨(hs.2 rb (.inl rfl) h.blk.lt).trans h.blk, own_keep h.row hs fun _ hk => .inr hk⟩
theorem RcM.below (h : RcM w B rb av ov room c L) (hb : Below w.heap.size w w') : RcM w' B rb av ov room c L := ⟨h.blk.below hb h.blk.lt, own_below h.row hb⟩
theorem RcM.ne (h : RcM w B rb av ov room c L) : av.ownBlock ≠ some rb := own_blk_ne h.row h.blk (by decide)
/-- The row's block is no row of updates. -/
theorem RcM.neOut {B2 : Nat} {o : List Tl} (h : RcM w B rb av ov room c L) (ho : OutM w B2 ov o) : ov.ownBlock ≠ some rb ∧ ∀ k, ov.ownBlock = some k → av.ownBlock ≠ some k :=
  ⟨own_blk_ne ho h.blk (by decide), fun k hk => by
    obtain ⟨cs, hb⟩ := own_blkT ho hk
    exact own_blk_ne h.row hb (by decide)⟩
/-- The core's block turns. -/
theorem RcM.core (h : RcM w B rb av ov room c L) {ov2 : Value} {room2 : Int} {c2 : Pc} (hk : Blk w' rb 77 (rcC room2 c2 av ov2)) {U : Nat → Prop} (hu : Upd U w w') (hU : ∀ k, av.ownBlock = some k → ¬ U k) : RcM w' B rb av ov2 room2 c2 L :=
  ⟨hk, own_keep h.row (hu.same (I := fun k => av.ownBlock = some k) fun k h1 h2 => hU k h2 h1) fun _ e => e⟩
end
/-- Where the entries stand. -/
structure RcR (w : World) (B rb g cap : Nat) (ov : Value) (room : Int) (c : Pc) (L : List Le) : Prop where
  core : RcM w B rb (.slice (some ⟨g, 0, none⟩) L.length cap) ov room c L
section
variable {w w' : World} {B rb g cap : Nat} {ov : Value} {room : Int} {c : Pc} {L : List Le}
theorem RcM.at_ {av : Value} (h : RcM w B rb av ov room c L) (hn : 0 < L.length) : ∃ g cap, av = .slice (some ⟨g, 0, none⟩) L.length cap ∧ L.length ≤ cap := rown_form h.row hn
/-- A cell of an entry. -/
theorem RcM.cell (h : RcM w B rb (.slice (some ⟨g, 0, none⟩) L.length cap) ov room c L) {i : Nat} {x : Le} (hx : L[i]? = some x) {j : Nat} {u : Value} (hu : (reC x)[j]? = some u) : w.cell? ⟨g, i * 22 + j, none⟩ = some u := by
  have hj : j < 22 := by
    rcases Nat.lt_or_ge j 22 with hl | hg
    · exact hl
    · rw [List.getElem?_eq_none (by rw [reC_len]; exact hg)] at hu; cases hu
  obtain ⟨_, _, cur, hk, hc⟩ := rown_blk h.row
  rw [hk.cell]
  exact hc _ _ ((flatE_get hx hj).trans hu)
theorem RcM.frozen (h : RcM w B rb (.slice (some ⟨g, 0, none⟩) L.length cap) ov room c L) (o : Nat) : w.frozen? ⟨g, o, none⟩ = false := by
  obtain ⟨_, _, cur, hk, _⟩ := rown_blk h.row
  exact hk.frozen o
/-- A store into an entry. -/
theorem RcM.put (h : RcM w B rb (.slice (some ⟨g, 0, none⟩) L.length cap) ov room c L) {i : Nat} {x y : Le} (hx : L[i]? = some x) {j : Nat} {u : Value} (hj : j < 22) (he : (reC x).set j u = reC y) :
    RcM (w.setCell ⟨g, i * 22 + j, none⟩ u) B rb (.slice (some ⟨g, 0, none⟩) L.length cap) ov room c (L.set i y) := by
  have hne : rb ≠ g := fun e => h.ne (by rw [e]; rfl)
  refine ⟨h.blk.far (p := ⟨g, i * 22 + j, none⟩) hne _, ?_⟩
  rw [List.length_set, ← flatE_set hx hj he]
  exact rown_set h.row u
/-- A whole entry. -/
theorem RcM.ld (h : RcM w B rb (.slice (some ⟨g, 0, none⟩) L.length cap) ov room c L) {i : Nat} {x : Le} (hx : L[i]? = some x) : (Instr.loadAt 98 (.pointer (some ⟨g, i * 22, none⟩))).run Try.prog w = .ok (.agg (reA x)) w :=
  run_loadAt_mid (P := Try.prog) w g (i * 22) 98 (reC x) _ (fun j v hv => h.cell hx hv) Try.underlying98 rfl (show (Try.prog.info? 98).map (·.size) = some 22 by kernel_rfl)
end
end Go.Proofs.Ytahdjfegihnolaa
namespace Go.Proofs.Ytahdjfegihnolaa
open Go.RowKit Go.Sort
theorem eql_pf (a b : Nat) (m n : Int) (w : World) : (binOp .eql 36 (.agg #[.int .u32 (a : Int), .int .i64 m]) (.agg #[.int .u32 (b : Int), .int .i64 n])).run Try.prog w = .ok (.bool (decide (((a, m) : Pf) = (b, n)))) w := by
  go_simp
  by_cases h1 : (a : Int) = (b : Int)
  · rw [if_pos h1]
    have h1' : a = b := by omega
    by_cases h2 : m = n
    · rw [if_pos h2]; simp [h1', h2]
    · rw [if_neg h2]; simp [h2]
  · rw [if_neg h1]
    have h1' : ¬ a = b := by omega
    simp [h1']
/-- A place of a prefix; -1: none. -/
def atF (L : List Le) (p : Pf) : Int := match L.findIdx? (fun x => x.p == p) with
  | some i => (i : Int)
  | none => -1
theorem atF_found {L : List Le} {p : Pf} {k : Nat} {x : Le} (hx : L[k]? = some x) (hp : x.p = p) (hn : ∀ j y, j < k → L[j]? = some y → y.p ≠ p) : atF L p = (k : Int) := by
  have : L.findIdx? (fun x => x.p == p) = some k := by
    rw [List.findIdx?_eq_some_iff_getElem]
    obtain ⟨h, he⟩ := List.getElem?_eq_some_iff.1 hx
    refine ⟨h, by rw [he, hp]; simp, fun j hj => ?_⟩
    have := hn j L[j] hj (List.getElem?_eq_getElem (by omega))
    simpa using this
  unfold atF
  rw [this]
theorem atF_none {L : List Le} {p : Pf} (hn : ∀ x ∈ L, x.p ≠ p) : atF L p = -1 := by
  have : L.findIdx? (fun x => x.p == p) = none := by
    rw [List.findIdx?_eq_none_iff]
    intro x hx
    have := hn x hx
    simpa using this
  unfold atF
  rw [this]
/-- Where a prefix stands. -/
theorem atF_cases (L : List Le) (p : Pf) : (atF L p = -1 ∧ findE L p = none) ∨ ∃ (k : Nat) (x : Le), atF L p = (k : Int) ∧ L[k]? = some x ∧ x.p = p ∧ findE L p = some x := by
  cases h : L.findIdx? (fun x => x.p == p) with
  | none =>
    refine .inl ⟨by unfold atF; rw [h], ?_⟩
    rw [List.findIdx?_eq_none_iff] at h
    unfold findE
    rw [List.find?_eq_none]
    intro x hx
    simpa using h x hx
  | some k =>
    refine .inr ?_
    obtain ⟨hk, h1, h2⟩ := List.findIdx?_eq_some_iff_getElem.1 h
    refine ⟨k, L[k], by unfold atF; rw [h], List.getElem?_eq_getElem hk, by simpa using h1, ?_⟩
    unfold findE
    rw [List.find?_eq_some_iff_getElem]
    exact ⟨h1, k, hk, rfl, fun j hj => by simpa using h2 j hj⟩
theorem ld_all {w : World} {b : Nat} {A : Option Addr} {n c : Nat} (hu : w.cell? ⟨b, 17, none⟩ = some (.slice A n c)) : (Instr.loadAt 75 (.pointer (some ⟨b, 17, none⟩))).run Try.prog w = .ok (.slice A n c) w := by simp [go_sem, hu]
theorem ld_uC {w : World} {b o : Nat} {z : Int} (hu : w.cell? ⟨b, o, none⟩ = some (.int .u32 z)) : (Instr.loadAt 34 (.pointer (some ⟨b, o, none⟩))).run Try.prog w = .ok (.int .u32 z) w := by simp [go_sem, hu]
section
variable {w : World} {B rb : Nat} {av ov : Value} {room : Int} {c : Pc} {L : List Le}
theorem RcM.len_le (h : RcM w B rb av ov room c L) : ∃ A cap, av = .slice A L.length cap ∧ L.length ≤ cap := own_form h.row
/-- The prefix of an entry, loaded. -/
theorem RcM.ld_p {g cap : Nat} (h : RcM w B rb (.slice (some ⟨g, 0, none⟩) L.length cap) ov room c L) {i : Nat} {x : Le} (hx : L[i]? = some x) : (Instr.loadAt 36 (.pointer (some ⟨g, i * 22, none⟩))).run Try.prog w = .ok (.agg #[.int .u32 (x.p.1 : Int), .int .i64 x.p.2]) w := by
  have := run_loadAt_mid (P := Try.prog) w g (i * 22) 36 (pfE x.p) _ (fun j v hv => h.cell hx (by
    rcases j with _ | _ | j
    · exact hv
    · exact hv
    · simp [pfE] at hv)) Try.underlying36 rfl (show (Try.prog.info? 36).map (·.size) = some 2 by kernel_rfl)
  simpa [pfE] using this
set_option maxRecDepth 100000 in
set_option maxHeartbeats 2000000 in
attribute [-go_sem] Instr.storeAt Instr.loadAt in
theorem at12_any (h : RcM w B rb av ov room c L) (hl : L.length ≤ 1024) (p : Pf) :
    Calls Try.prog 36 #[.pointer (some ⟨rb, 0, none⟩), .agg #[.int .u32 (p.1 : Int), .int .i64 p.2]] w fun e w' => e = .returned (.int .i64 (atF L p)) ∧ Below w.heap.size w w' := by
  obtain ⟨W1, hW1⟩ : ∃ Z, Z = w.alloc (.cells #[.int .u32 (p.1 : Int), .int .i64 p.2] 36) := ⟨_, rfl⟩
  have hb1 : Below w.heap.size w W1 := by rw [hW1]; exact (Below.refl _ _).alloc (Nat.le_refl _) _
  have hkp : Blk W1 w.heap.size 36 (pfC p) := by rw [hW1]; exact Blk.new _ _ _
  have h1 := h.below hb1
  obtain ⟨A, cap, rfl, hcap⟩ := h1.len_le
  have HW1 := Lib.hid hW1
  have HB1 := Lib.hid hb1
  have HKP := Lib.hid hkp
  have H1 := Lib.hid h1
  obtain ⟨n, hn⟩ : ∃ n, n = L.length := ⟨_, rfl⟩
  rw [← hn] at hl
  have HN := Lib.hid hn
  clear hW1 hb1 hkp h1 h hn hcap
  go_enter Try.func36, Try.ntmps36
  go_wp2_with fail
  rw [← HW1.out]
  go_loopw [5] (fun s5 wr => ∃ k : Nat, k ≤ n ∧ s5 = .int .i64 (k : Int) ∧ Below w.heap.size w wr ∧ Below W1.heap.size W1 wr ∧ ∀ j y, j < k → L[j]? = some y → y.p ≠ p) (fun s5 _ => n - (intOf s5).toNat)
  case atStart => exact ⟨0, Nat.zero_le _, rfl, HB1.out, Below.refl _ _, fun j y hj => absurd hj (Nat.not_lt_zero _)⟩
  case round =>
    obtain ⟨k, hk, rfl, hB, hB1, hno⟩ := hrel
    have HB := Lib.hid hB
    have HBB := Lib.hid hB1
    have HNO := Lib.hid hno
    have hr := H1.out.below hB1
    have l1 := fun (q : Nat) => ld_all (w := wr.drewN q) (hr.blk.cell 17)
    have l0 := ld_all (hr.blk.cell 17)
    rw [← HN.out] at l0 l1
    have hi0 : (0 : Int) ≤ k := by omega
    clear hB hB1 hno
    by_cases hlt : k < n
    · obtain ⟨x, hx⟩ : ∃ x, L[k]? = some x := ⟨_, List.getElem?_eq_getElem (by rw [← HN.out]; exact hlt)⟩
      obtain ⟨g, c2, e1, _⟩ := hr.at_ (by rw [← HN.out]; omega)
      injection e1 with e1 _ e2
      subst e1
      subst e2
      have l2 := fun (q : Nat) => RcM.ld_p (w := wr.drewN q) (hr.below (below_drewN wr q)) hx
      have l3 := fun (q : Nat) => ld_pf (w := wr.drewN q) ((HKP.out.below HBB.out HKP.out.lt).below (below_drewN wr q) (HKP.out.below HBB.out HKP.out.lt).lt)
      have l4 := fun wx => eql_pf x.p.1 p.1 x.p.2 p.2 wx
      have hi1 : (k : Int) < n := by omega
      have HX := Lib.hid hx
      clear hx hr
      by_cases he : x.p = p
      · have hd : decide (((x.p.1, x.p.2) : Pf) = (p.1, p.2)) = true := decide_eq_true he
        rw [hd] at l4
        have HE := Lib.hid he
        clear hd he
        go_wp2_with fail
        go_quiet (fail)
        go_wp2_with fail
        go_ret
        refine ⟨by rw [atF_found HX.out HE.out HNO.out]; rfl, HB.out.trans ((below_drewN wr _).mono HB.out.size)⟩
      · have hd : decide (((x.p.1, x.p.2) : Pf) = (p.1, p.2)) = false := decide_eq_false he
        rw [hd] at l4
        have HE := Lib.hid he
        clear hd he
        go_wp2_with fail
        go_quiet (fail)
        go_wp2_with fail
        go_roundw
        case measure => simp [intOf]; omega
        case rel =>
          refine ⟨k + 1, by omega, by go_num, HB.out.trans ((below_drewN wr _).mono HB.out.size), HBB.out.trans ((below_drewN wr _).mono HBB.out.size), fun j y hj hy => ?_⟩
          rcases Nat.lt_or_ge j k with h1 | h1
          · exact HNO.out j y h1 hy
          · obtain rfl : j = k := by omega
            rw [HX.out] at hy
            injection hy with hy
            rw [← hy]; exact HE.out
    · obtain rfl : k = n := by omega
      clear hr
      go_wp2_with fail
      go_ret
      have hat : atF L p = -1 := atF_none fun x hx => by
        obtain ⟨j, hj, rfl⟩ := List.getElem_of_mem hx
        exact HNO.out j _ (by rw [HN.out]; exact hj) (List.getElem?_eq_getElem hj)
      refine ⟨by rw [hat]; rfl, HB.out⟩
end
set_option maxRecDepth 100000 in
set_option maxHeartbeats 2000000 in
attribute [-go_sem] Instr.storeAt Instr.loadAt in
theorem less_any (a1 b1 : Nat) (a2 b2 : Int) (w : World) :
    Calls Try.prog 59 #[.agg #[.int .u32 (a1 : Int), .int .i64 a2], .agg #[.int .u32 (b1 : Int), .int .i64 b2]] w fun e w' => e = .returned (.bool (decide (lessP (a1, a2) (b1, b2)))) ∧ Below w.heap.size w w' := by
  obtain ⟨W1, hW1⟩ : ∃ Z, Z = (w.alloc (.cells #[.int .u32 (a1 : Int), .int .i64 a2] 36)).alloc (.cells #[.int .u32 (b1 : Int), .int .i64 b2] 36) := ⟨_, rfl⟩
  have hb1 : Below w.heap.size w W1 := by rw [hW1]; exact ((Below.refl _ _).alloc (Nat.le_refl _) _).alloc (by simp) _
  have hk1 : Blk W1 w.heap.size 36 #[.int .u32 (a1 : Int), .int .i64 a2] := by rw [hW1]; exact (Blk.new _ _ _).alloc _
  have hk2 : Blk W1 (w.heap.size + 1) 36 #[.int .u32 (b1 : Int), .int .i64 b2] := by
    rw [hW1]
    have := Blk.new (w.alloc (.cells #[.int .u32 (a1 : Int), .int .i64 a2] 36)) 36 #[.int .u32 (b1 : Int), .int .i64 b2]
    simpa using this
  have l0 := ld_uC (w := W1) (b := w.heap.size) (o := 0) (z := (a1 : Int)) (hk1.cell 0)
  have l1 := ld_iC (w := W1) (b := w.heap.size) (o := 1) (z := a2) (hk1.cell 1)
  have l2 := ld_uC (w := W1) (b := w.heap.size + 1) (o := 0) (z := (b1 : Int)) (hk2.cell 0)
  have l3 := ld_iC (w := W1) (b := w.heap.size + 1) (o := 1) (z := b2) (hk2.cell 1)
  have HW1 := Lib.hid hW1
  have HB1 := Lib.hid hb1
  clear hW1 hb1 hk1 hk2
  by_cases h1 : a1 < b1
  · have hr : decide (lessP (a1, a2) (b1, b2)) = true := decide_eq_true (.inl h1)
    rw [hr]
    have d1 : decide ((a1 : Int) < (b1 : Int)) = true := decide_eq_true (by omega)
    have d2 : decide (a1 < b1) = true := decide_eq_true h1
    clear hr h1
    go_enter Try.func59, Try.ntmps59
    go_upto_region 1 with (fail)
    rw [← HW1.out]
    go_wp2_with fail
    go_ret
    exact ⟨rfl, HB1.out⟩
  · have d1 : decide ((a1 : Int) < (b1 : Int)) = false := decide_eq_false (by omega)
    have d2 : decide (a1 < b1) = false := decide_eq_false h1
    by_cases h2 : a1 = b1
    · subst h2
      have d3 : ((a1 : Int) == (a1 : Int)) = true := by simp
      have hr : decide (lessP (a1, a2) (a1, b2)) = decide (a2 < b2) := by
        rw [decide_eq_decide]
        unfold lessP
        dsimp only
        omega
      rw [hr]
      obtain ⟨z, hz⟩ : ∃ z, z = decide (a2 < b2) := ⟨_, rfl⟩
      rw [← hz]
      have hz2 := hz.symm
      clear hr h1 hz
      go_enter Try.func59, Try.ntmps59
      go_upto_region 1 with (fail)
      rw [← HW1.out]
      go_wp2_with fail
      go_ret
      exact ⟨rfl, HB1.out⟩
    · have d3 : ((a1 : Int) == (b1 : Int)) = false := by rw [beq_eq_false_iff_ne]; omega
      have d4 : (a1 == b1) = false := by rw [beq_eq_false_iff_ne]; exact h2
      have hr : decide (lessP (a1, a2) (b1, b2)) = false := decide_eq_false fun h => by
        unfold lessP at h
        dsimp only at h
        omega
      rw [hr]
      clear hr h1 h2
      go_enter Try.func59, Try.ntmps59
      go_upto_region 1 with (fail)
      rw [← HW1.out]
      go_wp2_with fail
      go_ret
      exact ⟨rfl, HB1.out⟩
set_option maxRecDepth 100000 in
theorem nothing_any (w : World) : Calls Try.prog 38 #[] w fun e w' => e = .returned (.agg (arA fun _ => 255)) ∧ Below w.heap.size w w' := by
  go_enter Try.func38, Try.ntmps38
  go_wp2_with fail
  have hk := Blk.new w 41 (arA fun _ => 255)
  refine bodyPost_ret_by (res_ar rfl _ rfl hk) rfl ?_
  exact ⟨rfl, (Below.refl _ _).alloc (Nat.le_refl _) _⟩
set_option maxRecDepth 100000 in
set_option maxHeartbeats 2000000 in
attribute [-go_sem] Instr.storeAt Instr.loadAt in
theorem active12_any (x : Le) (w : World) : Calls Try.prog 46 #[.agg (reA x)] w fun e w' => e = .returned (.bool (actF x)) ∧ Below w.heap.size w w' := by
  obtain ⟨W1, hW1⟩ : ∃ Z, Z = w.alloc (.cells (reA x) 98) := ⟨_, rfl⟩
  have hb1 : Below w.heap.size w W1 := by rw [hW1]; exact (Below.refl _ _).alloc (Nat.le_refl _) _
  have hk1 : Blk W1 w.heap.size 98 (reA x) := by rw [hW1]; exact Blk.new _ _ _
  have HW1 := Lib.hid hW1
  have HB1 := Lib.hid hb1
  have HK1 := Lib.hid hk1
  clear hW1 hb1 hk1
  go_enter Try.func46, Try.ntmps46
  go_wp2_with fail
  rw [← HW1.out]
  go_loop [3] (fun s3 => ∃ k : Nat, k ≤ 8 ∧ s3 = .int .i64 (k : Int) ∧ ∀ q, q < k → x.aw q = 0) (fun s3 => 8 - (intOf s3).toNat)
  case atStart => exact ⟨0, by omega, rfl, fun q hq => absurd hq (Nat.not_lt_zero _)⟩
  case round =>
    obtain ⟨k, hk, rfl, hno⟩ := hrel
    have HNO := Lib.hid hno
    clear hno
    by_cases hlt : k < 8
    · have l1 := ld_iC (w := W1) (b := w.heap.size) (o := 14 + k) (z := ((x.aw k : Nat) : Int)) (by rw [HK1.out.cell, reA_get]; exact reC_aw x hlt)
      have k0 : (0 : Int) ≤ k := by omega
      have k1 : (k : Int) < 8 := by omega
      obtain ⟨a, ha⟩ : ∃ a, a = x.aw k := ⟨_, rfl⟩
      rw [← ha] at l1
      have HA := Lib.hid ha
      clear ha
      by_cases h0 : 0 < a
      · have d1 : decide ((0 : Int) < (a : Int)) = true := decide_eq_true (by omega)
        have d2 : decide (0 < a) = true := decide_eq_true h0
        have HR := Lib.hid (show actF x = true from (act_iff x).2 ⟨k, hlt, by have := HA.out; omega⟩)
        clear h0
        go_wp2_with fail
        go_ret
        exact ⟨by rw [HR.out]; rfl, HB1.out⟩
      · have d1 : decide ((0 : Int) < (a : Int)) = false := decide_eq_false (by omega)
        have d2 : decide (0 < a) = false := decide_eq_false h0
        have HN := Lib.hid (show x.aw k = 0 from by have := HA.out; omega)
        clear h0
        go_wp2_with fail
        go_round
        case rel => exact ⟨k + 1, by omega, by go_num, fun q hq => by
          rcases Nat.lt_or_ge q k with h | h
          · exact HNO.out q h
          · obtain rfl : q = k := by omega
            exact HN.out⟩
        case measure => simp [intOf]; omega
    · obtain rfl : k = 8 := by omega
      go_wp2_with fail
      go_ret
      exact ⟨by rw [act_of HNO.out]; rfl, HB1.out⟩
end Go.Proofs.Ytahdjfegihnolaa
namespace Go.Proofs.Ytahdjfegihnolaa
open Go.RowKit Go.Sort
theorem rcell_up {w : World} {rb : Nat} {av ov : Value} {room : Int} {c : Pc} (h : Blk w rb 77 (rcC room c av ov)) {p : Nat} (hp : p < 8) : w.cell? ⟨rb, 1 + p, none⟩ = some (.bool (c.up p)) := (h.cell (1 + p)).trans (rcC_up room c av ov hp)
theorem rcell_cost {w : World} {rb : Nat} {av ov : Value} {room : Int} {c : Pc} (h : Blk w rb 77 (rcC room c av ov)) {p : Nat} (hp : p < 8) : w.cell? ⟨rb, 9 + p, none⟩ = some (.int .i64 (c.cost p)) := (h.cell (9 + p)).trans (rcC_cost room c av ov hp)
set_option maxRecDepth 100000 in
set_option maxHeartbeats 4000000 in
attribute [-go_sem] Instr.storeAt Instr.loadAt in
theorem distance12_any {w : World} {rb : Nat} {av ov : Value} {room : Int} {c : Pc} (h : Blk w rb 77 (rcC room c av ov)) (x : Le) (hs : ∀ q, 0 ≤ x.said q ∧ x.said q ≤ 255) (hc : ∀ q, 0 ≤ c.cost q ∧ c.cost q ≤ 50) :
    Calls Try.prog 47 #[.pointer (some ⟨rb, 0, none⟩), .agg (reA x)] w fun e w' => e = .returned (.int .i64 (distF c x)) ∧ Below w.heap.size w w' := by
  obtain ⟨W1, hW1⟩ : ∃ Z, Z = w.alloc (.cells (reA x) 98) := ⟨_, rfl⟩
  have hb1 : Below w.heap.size w W1 := by rw [hW1]; exact (Below.refl _ _).alloc (Nat.le_refl _) _
  have hk1 : Blk W1 w.heap.size 98 (reA x) := by rw [hW1]; exact Blk.new _ _ _
  have c0 := ld_bC (w := W1) (b := w.heap.size) (o := 2) (z := x.own) (hk1.cell 2)
  have HW1 := Lib.hid hW1
  have HB1 := Lib.hid hb1
  have HK1 := Lib.hid hk1
  have H1 := Lib.hid (h.below hb1 h.lt)
  have HS := Lib.hid hs
  have HC := Lib.hid hc
  have HM := Lib.hid (minUp_bd c x.said (fun q => (hc q).1) (fun q => (hs q).1))
  unfold distF
  clear h hs hc hW1 hb1 hk1
  cases ho : x.own with
  | true =>
    rw [ho] at c0
    rw [if_pos rfl]
    clear ho
    go_enter Try.func47, Try.ntmps47
    go_upto_region 1 with (fail)
    rw [← HW1.out]
    go_wp2_with fail
    go_ret
    exact ⟨rfl, HB1.out⟩
  | false =>
    rw [ho] at c0
    rw [if_neg (by simp)]
    clear ho
    have c1 := ld_bC (w := W1) (b := w.heap.size) (o := 3) (z := x.tk) (HK1.out.cell 3)
    cases ht : x.tk with
    | false =>
      rw [ht] at c1
      rw [if_pos rfl]
      clear ht
      go_enter Try.func47, Try.ntmps47
      go_upto_region 1 with (fail)
      rw [← HW1.out]
      go_wp2_with fail
      refine wp_loop_rounds 1 ?_
      rw [rounds_succ]
      go_wp2_with fail
      go_ret
      exact ⟨rfl, HB1.out⟩
    | true =>
      rw [if_neg (by simp)]
      have HT := Lib.hid ht
      go_enter Try.func47, Try.ntmps47
      go_upto_region 1 with (fail)
      rw [← HW1.out]
      clear ht c1
      go_wp2_with fail
      clear c0
      go_loopw [5, 6] (fun s5 s6 wr => ∃ k : Nat, k ≤ 8 ∧ s6 = .int .i64 (k : Int) ∧ s5 = .int .i64 (minUp c x.said k) ∧ Below w.heap.size w wr ∧ Below W1.heap.size W1 wr) (fun _ s6 _ => 8 - (intOf s6).toNat)
      case atStart => exact ⟨0, by omega, rfl, rfl, HB1.out, Below.refl _ _⟩
      case round =>
        obtain ⟨k, hk, rfl, rfl, hB, hB1⟩ := hrel
        have HB := Lib.hid hB
        have HBB := Lib.hid hB1
        have HKr := Lib.hid (HK1.out.below hB1 HK1.out.lt)
        have HR := Lib.hid (H1.out.below hB1 H1.out.lt)
        have t1 := ld_bC (w := wr) (b := w.heap.size) (o := 3) (z := x.tk) (HKr.out.cell 3)
        rw [HT.out] at t1
        obtain ⟨m0, m1⟩ := HM.out k
        clear hB hB1
        by_cases hlt : k < 8
        · obtain ⟨s0, s1⟩ := HS.out k
          obtain ⟨d0, d1⟩ := HC.out k
          have u1 := fun (q : Nat) => ld_bC (w := wr.drewN q) (rcell_up (HR.out.drewN q) hlt)
          have u2 := fun (q : Nat) => ld_iC (w := wr.drewN q) (rcell_cost (HR.out.drewN q) hlt)
          have u3 := fun (q : Nat) => ld_iC (w := wr.drewN q) (b := w.heap.size) (o := 4 + k) (z := x.said k) (by rw [(HKr.out.drewN q).cell, reA_get]; exact reC_said x hlt)
          have k0 : (0 : Int) ≤ k := by omega
          have k1 : (k : Int) < 8 := by omega
          have HE := Lib.hid (show minUp c x.said (k + 1) = if c.up k = true then min (minUp c x.said k) (x.said k + c.cost k) else minUp c x.said k from rfl)
          obtain ⟨m, hm⟩ : ∃ m, m = minUp c x.said k := ⟨_, rfl⟩
          obtain ⟨y, hy⟩ : ∃ m, m = x.said k := ⟨_, rfl⟩
          obtain ⟨z, hz⟩ : ∃ m, m = c.cost k := ⟨_, rfl⟩
          rw [← hm] at m0 m1 HE ⊢
          rw [← hy] at s0 s1 HE u3
          rw [← hz] at d0 d1 HE u2
          have HY := Lib.hid hy
          have HZ := Lib.hid hz
          clear hm hy hz
          cases hu : c.up k with
          | false =>
            rw [hu] at u1 HE
            rw [if_neg (by simp)] at HE
            clear hu
            go_wp2_with fail
            go_quiet (fail)
            go_wp2_with fail
            go_roundw
            case rel => exact ⟨k + 1, by omega, by go_num, by rw [HE.out], HB.out.trans ((below_drewN wr _).mono HB.out.size), HBB.out.trans ((below_drewN wr _).mono HBB.out.size)⟩
            case measure => simp [intOf]; omega
          | true =>
            rw [hu] at u1 HE
            rw [if_pos rfl] at HE
            clear hu
            have e1 : IntKind.i64.wrap (y + z) = y + z := IntWalk.i64_in _ ⟨by omega, by omega⟩
            by_cases hl : y + z < m
            · have d2 : decide (y + z < m) = true := decide_eq_true hl
              have hmin : min m (y + z) = y + z := by omega
              rw [hmin] at HE
              clear hl hmin
              go_wp2_with fail
              go_quiet (fail)
              go_wp2_with fail
              clear u1 u2 u3
              obtain ⟨Wq, hWq⟩ : ∃ Z, Z = wr.drewN nq := ⟨_, rfl⟩
              rw [← hWq]
              have hbq : Below wr.heap.size wr Wq := by rw [hWq]; exact below_drewN wr nq
              have HBQ := Lib.hid hbq
              have HKq := Lib.hid (HKr.out.below hbq HKr.out.lt)
              have HRq := Lib.hid (HR.out.below hbq HR.out.lt)
              clear hWq hbq
              have u2 := fun (q : Nat) => ld_iC (w := Wq.drewN q) (rcell_cost (HRq.out.drewN q) hlt)
              have u3 := fun (q : Nat) => ld_iC (w := Wq.drewN q) (b := w.heap.size) (o := 4 + k) (z := x.said k) (by rw [(HKq.out.drewN q).cell, reA_get]; exact reC_said x hlt)
              rw [← HY.out] at u3
              rw [← HZ.out] at u2
              go_quiet (fail)
              go_wp2_with fail
              go_roundw
              case rel => exact ⟨k + 1, by omega, by go_num, by rw [HE.out], HB.out.trans ((HBQ.out.trans ((below_drewN Wq _).mono HBQ.out.size)).mono HB.out.size), HBB.out.trans ((HBQ.out.trans ((below_drewN Wq _).mono HBQ.out.size)).mono HBB.out.size)⟩
              case measure => simp [intOf]; omega
            · have d2 : decide (y + z < m) = false := decide_eq_false hl
              have hmin : min m (y + z) = m := by omega
              rw [hmin] at HE
              clear hl hmin
              go_wp2_with fail
              go_quiet (fail)
              go_wp2_with fail
              go_roundw
              case rel => exact ⟨k + 1, by omega, by go_num, by rw [HE.out], HB.out.trans ((below_drewN wr _).mono HB.out.size), HBB.out.trans ((below_drewN wr _).mono HBB.out.size)⟩
              case measure => simp [intOf]; omega
        · obtain rfl : k = 8 := by omega
          go_wp2_with fail
          go_ret
          exact ⟨rfl, HB.out⟩
theorem ld_esaid {w : World} {b : Nat} {x : Le} (h : Blk w b 98 (reA x)) : (Instr.loadAt 41 (.pointer (some ⟨b, 4, none⟩))).run Try.prog w = .ok (.agg (arA x.said)) w := by
  have := run_loadAt_mid (P := Try.prog) w b 4 41 (arA x.said).toList _ (blk_rangeZ h 4 _ fun j u hu => by obtain ⟨h1, rfl⟩ := ar_get _ hu; rw [reA_get]; exact reC_said x h1) Try.underlying41 rfl (by simpa [arA] using ar_info)
  simpa using this
theorem ld_epf {w : World} {b : Nat} {x : Le} (h : Blk w b 98 (reA x)) : (Instr.loadAt 36 (.pointer (some ⟨b, 0, none⟩))).run Try.prog w = .ok (.agg #[.int .u32 (x.p.1 : Int), .int .i64 x.p.2]) w := by
  have := run_loadAt_mid (P := Try.prog) w b 0 36 (pfE x.p) _ (fun j v hv => by
    rw [Nat.zero_add, h.cell, reA_get]
    rcases j with _ | _ | j
    · exact hv
    · exact hv
    · simp [pfE] at hv) Try.underlying36 rfl (show (Try.prog.info? 36).map (·.size) = some 2 by kernel_rfl)
  simpa [pfE] using this
theorem ld_ent {w : World} {b : Nat} {x : Le} (h : Blk w b 98 (reA x)) : (Instr.loadAt 98 (.pointer (some ⟨b, 0, none⟩))).run Try.prog w = .ok (.agg (reA x)) w := by
  have := run_loadAt_mid (P := Try.prog) w b 0 98 (reC x) _ (fun j v hv => by rw [Nat.zero_add, h.cell, reA_get]; exact hv) Try.underlying98 rfl (show (Try.prog.info? 98).map (·.size) = some 22 by kernel_rfl)
  exact this
set_option maxRecDepth 100000 in
set_option maxHeartbeats 2000000 in
attribute [-go_sem] Instr.storeAt Instr.loadAt in
theorem stays12_any (x : Le) (w0 : World) : Calls Try.prog 60 #[.agg (reA x)] w0 fun e w' => e = .returned (.bool (staysF x)) ∧ Below w0.heap.size w0 w' := by
  obtain ⟨w, hW1⟩ : ∃ Z, Z = w0.alloc (.cells (reA x) 98) := ⟨_, rfl⟩
  have hb1 : Below w0.heap.size w0 w := by rw [hW1]; exact (Below.refl _ _).alloc (Nat.le_refl _) _
  have h : Blk w w0.heap.size 98 (reA x) := by rw [hW1]; exact Blk.new _ _ _
  have HW1 := Lib.hid hW1
  have HB1 := Lib.hid hb1
  clear hW1 hb1
  have hb := fun (dd : Nat) (os : Array Obj) => h.below (below_regrown w dd os) h.lt
  have x0 := fun (dd : Nat) (os : Array Obj) => ld_bC (b := w0.heap.size) (o := 2) (z := x.own) ((hb dd os).cell 2)
  have x1 := fun (dd : Nat) (os : Array Obj) => ld_iC (b := w0.heap.size) (o := 12) (z := x.told) ((hb dd os).cell 12)
  have x2 := fun (dd : Nat) (os : Array Obj) => ld_esaid (hb dd os)
  have c1 := fun (dd : Nat) (os : Array Obj) => Calls.regrown_of (active12_any x (grow (redrawn w dd) os))
  have c2 := fun (dd : Nat) (os : Array Obj) => Calls.regrown_of (nothing_any (grow (redrawn w dd) os))
  have x3 := fun (dd : Nat) (os : Array Obj) => ld_ent (hb dd os)
  have n1 := fun wx => neq_ar x.said (fun _ => 255) wx
  have n2 := fun wx => eqIn_ar x.said (fun _ => 255) wx
  have n3 := fun y z wx => ng_ar y z x.said (fun _ => 255) wx
  have e8 : eq8 x.said (fun _ => 255) = blankF x.said := rfl
  rw [e8] at n1 n2
  unfold staysF
  obtain ⟨a, ha⟩ : ∃ a, a = actF x := ⟨_, rfl⟩
  obtain ⟨z, hz⟩ : ∃ z, z = blankF x.said := ⟨_, rfl⟩
  obtain ⟨o, ho⟩ : ∃ o, o = x.own := ⟨_, rfl⟩
  obtain ⟨t, ht⟩ : ∃ o, o = x.told := ⟨_, rfl⟩
  rw [← ha] at c1
  rw [← hz] at n1 n2
  rw [← ho] at x0
  rw [← ht] at x1
  rw [← ha, ← hz, ← ho, ← ht]
  have HX := Lib.hid (And.intro x0 (And.intro x1 (And.intro x2 (And.intro x3 (And.intro c1 (And.intro c2 (And.intro n1 (And.intro n2 n3))))))))
  clear h hb x0 x1 x2 x3 c1 c2 n1 n2 n3 e8 ha hz ho ht
  go_enter Try.func60, Try.ntmps60
  go_upto_region 1 with (fail)
  rw [← HW1.out]
  obtain ⟨x0, x1, x2, x3, c1, c2, n1, n2, n3⟩ := HX.out
  cases o with
  | true =>
    refine wp_region_quiet_below (by kernel_rfl) (by kernel_rfl) ?_
    repeat (go_big_quiet_step (first | with_reducible exact c1 _ _ | with_reducible exact c2 _ _))
    refine wpQuiet_nil ?_
    intro _ hw'
    obtain ⟨⟨dq, osq⟩, hw''⟩ := hw'
    subst hw''
    have hbq := below_regrown w dq osq
    generalize grow (redrawn w dq) osq = wq at hbq ⊢
    clear x0 x1 x2 x3 c1 c2 n1 n2 n3
    go_wp2_with fail
    go_ret
    exact ⟨rfl, HB1.out.trans (hbq.mono HB1.out.size)⟩
  | false =>
    by_cases ht : t = 255
    · subst ht
      have b1 : ((255 : Int) != 255) = false := by decide
      cases a with
      | true =>
        refine wp_region_quiet_below (by kernel_rfl) (by kernel_rfl) ?_
        repeat (go_big_quiet_step (first | with_reducible exact c1 _ _ | with_reducible exact c2 _ _))
        refine wpQuiet_nil ?_
        intro _ hw'
        obtain ⟨⟨dq, osq⟩, hw''⟩ := hw'
        subst hw''
        have hbq := below_regrown w dq osq
        generalize grow (redrawn w dq) osq = wq at hbq ⊢
        clear x0 x1 x2 x3 c1 c2 n1 n2 n3
        go_wp2_with fail
        go_ret
        exact ⟨rfl, HB1.out.trans (hbq.mono HB1.out.size)⟩
      | false =>
        cases z with
        | true =>
          refine wp_region_quiet_below (by kernel_rfl) (by kernel_rfl) ?_
          repeat (go_big_quiet_step (first | with_reducible exact c1 _ _ | with_reducible exact c2 _ _))
          refine wpQuiet_nil ?_
          intro _ hw'
          obtain ⟨⟨dq, osq⟩, hw''⟩ := hw'
          subst hw''
          have hbq := below_regrown w dq osq
          generalize grow (redrawn w dq) osq = wq at hbq ⊢
          clear x0 x1 x2 x3 c1 c2 n1 n2 n3
          go_wp2_with fail
          go_ret
          exact ⟨rfl, HB1.out.trans (hbq.mono HB1.out.size)⟩
        | false =>
          refine wp_region_quiet_below (by kernel_rfl) (by kernel_rfl) ?_
          repeat (go_big_quiet_step (first | with_reducible exact c1 _ _ | with_reducible exact c2 _ _))
          refine wpQuiet_nil ?_
          intro _ hw'
          obtain ⟨⟨dq, osq⟩, hw''⟩ := hw'
          subst hw''
          have hbq := below_regrown w dq osq
          generalize grow (redrawn w dq) osq = wq at hbq ⊢
          clear x0 x1 x2 x3 c1 c2 n1 n2 n3
          go_wp2_with fail
          go_ret
          exact ⟨rfl, HB1.out.trans (hbq.mono HB1.out.size)⟩
    · have b1 : ((t : Int) != 255) = true := by rw [bne_iff_ne]; exact ht
      have HTT := Lib.hid ht
      clear ht
      refine wp_region_quiet_below (by kernel_rfl) (by kernel_rfl) ?_
      repeat (go_big_quiet_step (first | with_reducible exact c1 _ _ | with_reducible exact c2 _ _))
      refine wpQuiet_nil ?_
      intro _ hw'
      obtain ⟨⟨dq, osq⟩, hw''⟩ := hw'
      subst hw''
      have hbq := below_regrown w dq osq
      generalize grow (redrawn w dq) osq = wq at hbq ⊢
      clear x0 x1 x2 x3 c1 c2 n1 n2 n3
      go_wp2_with fail
      go_ret
      exact ⟨by have := HTT.out; simp [this], HB1.out.trans (hbq.mono HB1.out.size)⟩
theorem cntT_take {L : List Le} {k : Nat} {x : Le} (h : L[k]? = some x) : cntT (L.take (k + 1)) = cntT (L.take k) + if (x.tk && !x.own) = true then 1 else 0 := by
  unfold cntT
  rw [List.take_add_one, h, List.countP_append]
  simp [List.countP_cons]
theorem cntT_le (L : List Le) : cntT L ≤ L.length := List.countP_le_length
set_option maxRecDepth 100000 in
set_option maxHeartbeats 2000000 in
attribute [-go_sem] Instr.storeAt Instr.loadAt in
theorem taken12_any {w : World} {B rb : Nat} {av ov : Value} {room : Int} {c : Pc} {L : List Le} (h : RcM w B rb av ov room c L) (hl : L.length ≤ 1024) :
    Calls Try.prog 42 #[.pointer (some ⟨rb, 0, none⟩)] w fun e w' => e = .returned (.int .i64 (cntT L : Int)) ∧ w = w' := by
  obtain ⟨A, cap, rfl, hcap⟩ := h.len_le
  have l0 := ld_all (h.blk.cell 17)
  have H := Lib.hid h
  obtain ⟨n, hn⟩ : ∃ n, n = L.length := ⟨_, rfl⟩
  rw [← hn] at hl l0
  have HN := Lib.hid hn
  clear h hn hcap
  go_enter Try.func42, Try.ntmps42
  go_wp2_with fail
  go_loop [3, 4] (fun s3 s4 => ∃ k : Nat, k ≤ n ∧ s4 = .int .i64 (k : Int) ∧ s3 = .int .i64 (cntT (L.take k) : Int)) (fun _ s4 => n - (intOf s4).toNat)
  case atStart => exact ⟨0, Nat.zero_le _, rfl, rfl⟩
  case round =>
    obtain ⟨k, hk, rfl, rfl⟩ := hrel
    have hi0 : (0 : Int) ≤ k := by omega
    by_cases hlt : k < n
    · obtain ⟨x, hx⟩ : ∃ x, L[k]? = some x := ⟨_, List.getElem?_eq_getElem (by rw [← HN.out]; exact hlt)⟩
      obtain ⟨g, c2, e1, _⟩ := H.out.at_ (by rw [← HN.out]; omega)
      injection e1 with e1 _ e2
      subst e1
      subst e2
      have l2 := ld_bC (H.out.cell hx (j := 2) (u := .bool x.own) rfl)
      have l3 := ld_bC (H.out.cell hx (j := 3) (u := .bool x.tk) rfl)
      have hi1 : (k : Int) < n := by omega
      have hct := cntT_take hx
      have hcl : cntT (L.take k) ≤ 1024 := by have := cntT_le (L.take k); rw [List.length_take] at this; omega
      obtain ⟨m, hm⟩ : ∃ m, m = cntT (L.take k) := ⟨_, rfl⟩
      rw [← hm] at hct hcl ⊢
      clear hx hm
      cases ht : x.tk with
      | false =>
        rw [ht] at l3 hct
        have HC := Lib.hid hct
        clear ht hct
        go_wp2_with fail
        go_round
        case rel => exact ⟨k + 1, by omega, by go_num, by rw [HC.out]; simp⟩
        case measure => simp [intOf]; omega
      | true =>
        cases ho : x.own with
        | false =>
          rw [ho] at l2 hct
          rw [ht] at l3 hct
          have HC := Lib.hid hct
          clear ht ho hct
          go_wp2_with fail
          go_round
          case rel => exact ⟨k + 1, by omega, by go_num, by rw [HC.out]; simp⟩
          case measure => simp [intOf]; omega
        | true =>
          rw [ho] at l2 hct
          rw [ht] at l3 hct
          have HC := Lib.hid hct
          clear ht ho hct
          go_wp2_with fail
          go_round
          case rel => exact ⟨k + 1, by omega, by go_num, by rw [HC.out]; simp⟩
          case measure => simp [intOf]; omega
    · obtain rfl : k = n := by omega
      go_wp2_with fail
      go_ret
      exact ⟨by rw [List.take_of_length_le (by rw [HN.out]; exact Nat.le_refl _)]; rfl, rfl⟩
end Go.Proofs.Ytahdjfegihnolaa
