/- Layer 12: known; reading rows of routes. -/
import Derived.Test.YtahdjfegihnolaaLwE
namespace Go.Proofs.Ytahdjfegihnolaa
open Go.RowKit Go.Sort
theorem flatR_get (c : Pc) : ∀ (L : List Rx) (k : Nat) (a : Rx), L[k]? = some a → ∀ j, j < 6 → (flatR c L)[k * 6 + j]? = (rtE c a)[j]?
  | [], _, _, h, _, _ => by simp at h
  | q :: L, 0, a, h, j, hj => by
    obtain rfl : q = a := by simpa using h
    unfold flatR
    rw [List.flatMap_cons, Nat.zero_mul, Nat.zero_add, List.getElem?_append_left (by simpa [rtE] using hj)]
  | q :: L, k + 1, a, h, j, hj => by
    have ih := flatR_get c L k a (by simpa using h) j hj
    unfold flatR at ih ⊢
    rw [List.flatMap_cons, List.getElem?_append_right (by simp [rtE]; omega), ← ih]
    congr 1
    simp [rtE]
    omega
section
variable {w : World} {B b n cp k : Nat} {c : Pc} {L : List Rx} {a : Rx}
theorem RtL.cell (h : RtL w B (.slice (some ⟨b, 0, none⟩) n cp) c L) (hk : L[k]? = some a) {j : Nat} (hj : j < 6) : w.cell? ⟨b, k * 6 + j, none⟩ = (rtE c a)[j]? := by
  have hlt : k < L.length := (List.getElem?_eq_some_iff.1 hk).1
  obtain ⟨A, q, e, _⟩ := own_form h.1
  injection e with e1 e2 e3
  subst e2
  have := h.1.cellAt (k * 6 + j) (by omega)
  rw [flatR_get c L k a hk j hj] at this
  exact this
theorem ld_sNx {o : Nat} {A : Option Addr} {m q : Nat} (hu : w.cell? ⟨b, o, none⟩ = some (.slice A m q)) : (Instr.loadAt 46 (.pointer (some ⟨b, o, none⟩))).run Try.prog w = .ok (.slice A m q) w := by simp [go_sem, hu]
theorem ld_pfo {o : Nat} {p : Pf} (h0 : w.cell? ⟨b, o, none⟩ = some (.int .u32 (p.1 : Int))) (h1 : w.cell? ⟨b, o + 1, none⟩ = some (.int .i64 p.2)) : (Instr.loadAt 36 (.pointer (some ⟨b, o, none⟩))).run Try.prog w = .ok (.agg #[.int .u32 (p.1 : Int), .int .i64 p.2]) w := by
  simp [go_sem, h0, h1]
theorem rt_p (h : RtL w B (.slice (some ⟨b, 0, none⟩) n cp) c L) (hk : L[k]? = some a) : (Instr.loadAt 36 (.pointer (some ⟨b, k * 6, none⟩))).run Try.prog w = .ok (.agg #[.int .u32 (a.1.p.1 : Int), .int .i64 a.1.p.2]) w := ld_pfo (h.cell hk (j := 0) (by omega)) (h.cell hk (j := 1) (by omega))
theorem rt_own (h : RtL w B (.slice (some ⟨b, 0, none⟩) n cp) c L) (hk : L[k]? = some a) : (Instr.loadAt 4 (.pointer (some ⟨b, k * 6 + 2, none⟩))).run Try.prog w = .ok (.bool a.1.own) w := ld_bC (h.cell hk (j := 2) (by omega))
theorem rt_tk (h : RtL w B (.slice (some ⟨b, 0, none⟩) n cp) c L) (hk : L[k]? = some a) : (Instr.loadAt 4 (.pointer (some ⟨b, k * 6 + 3, none⟩))).run Try.prog w = .ok (.bool a.1.tk) w := ld_bC (h.cell hk (j := 3) (by omega))
theorem rt_d (h : RtL w B (.slice (some ⟨b, 0, none⟩) n cp) c L) (hk : L[k]? = some a) : (Instr.loadAt 3 (.pointer (some ⟨b, k * 6 + 4, none⟩))).run Try.prog w = .ok (.int .i64 (distF c a.1)) w := ld_iC (h.cell hk (j := 4) (by omega))
theorem rt_nx (h : RtL w B (.slice (some ⟨b, 0, none⟩) n cp) c L) (hk : L[k]? = some a) : ∃ A q, a.2 = .slice A (nextF c a.1).length q ∧ NxM w B (.slice A (nextF c a.1).length q) (nextF c a.1) ∧ (Instr.loadAt 46 (.pointer (some ⟨b, k * 6 + 5, none⟩))).run Try.prog w = .ok (.slice A (nextF c a.1).length q) w := by
  have hm := h.2 a (List.mem_of_getElem? hk)
  obtain ⟨A, q, e, _⟩ := own_form hm
  refine ⟨A, q, e, by rw [← e]; exact hm, ld_sNx ?_⟩
  rw [h.cell hk (j := 5) (by omega), ← e]
  rfl
end
set_option maxRecDepth 100000 in
theorem ld_told {w : World} {B b n cp : Nat} {o : List Tl} (h : OutM w B (.slice (some ⟨b, 0, none⟩) n cp) o) {t : Tl} (ht : o = [t]) : (Instr.loadAt 56 (.pointer (some ⟨b, 0, none⟩))).run Try.prog w = .ok (.agg #[.int .i64 (t.1 : Int), .int .u32 (t.2.1.1 : Int), .int .i64 t.2.1.2, .int .i64 t.2.2]) w := by
  subst ht
  obtain ⟨A, q, e, _⟩ := own_form h
  injection e with e1 e2 e3
  subst e1
  subst e2
  unfold OutM at h
  have c0 := h.cellAt 0 (by simp)
  have c1 := h.cellAt 1 (by simp)
  have c2 := h.cellAt 2 (by simp)
  have c3 := h.cellAt 3 (by simp)
  simp [flatT, tlE] at c0 c1 c2 c3
  simp [go_sem, c0, c1, c2, c3]
theorem ld_told1 {w : World} {B b n cp : Nat} (h : OutM w B (.slice (some ⟨b, 0, none⟩) n cp) [(0, kP, 0)]) : (Instr.loadAt 56 (.pointer (some ⟨b, 0, none⟩))).run Try.prog w = .ok (.agg #[.int .i64 0, .int .u32 167772160, .int .i64 8, .int .i64 0]) w := ld_told h rfl
theorem ld_told2 {w : World} {B b n cp : Nat} (h : OutM w B (.slice (some ⟨b, 0, none⟩) n cp) [(0, kQ, 7)]) : (Instr.loadAt 56 (.pointer (some ⟨b, 0, none⟩))).run Try.prog w = .ok (.agg #[.int .i64 0, .int .u32 184549376, .int .i64 8, .int .i64 7]) w := ld_told h rfl
theorem ld_told4 {w : World} {B b n cp : Nat} (h : OutM w B (.slice (some ⟨b, 0, none⟩) n cp) [(0, kQ, 255)]) : w.cell? ⟨b, 3, none⟩ = some (.int .i64 255) := by
  obtain ⟨A, q, e, _⟩ := own_form h
  injection e with e1 e2 e3
  subst e1
  subst e2
  unfold OutM at h
  have c3 := h.cellAt 3 (by simp)
  simpa [flatT, tlE] using c3
theorem eq_told (a b c d : Int) (w : World) : (binOp .eql 56 (.agg #[.int .i64 a, .int .u32 b, .int .i64 c, .int .i64 d]) (.agg #[.int .i64 a, .int .u32 b, .int .i64 c, .int .i64 d])).run Try.prog w = .ok (.bool true) w := by
  go_simp
theorem eq_nx (a b : Int) (w : World) : (binOp .eql 61 (.agg #[.int .i64 a, .int .i64 b]) (.agg #[.int .i64 a, .int .i64 b])).run Try.prog w = .ok (.bool true) w := by
  go_simp
theorem bd_pf (w : World) (a n : Int) : (Instr.build 36 #[(0, .int .u32 a), (1, .int .i64 n)]).run Try.prog w = .ok (.agg #[.int .u32 a, .int .i64 n]) w := by kernel_rfl
theorem bd_up0 (w : World) (a n : Int) : (Instr.build 54 #[(0, .agg #[.int .u32 a, .int .i64 n])]).run Try.prog w = .ok (.agg #[.int .u32 a, .int .i64 n, .int .i64 0]) w := by kernel_rfl
theorem bd_td (w : World) (a n d : Int) : (Instr.build 56 #[(1, .agg #[.int .u32 a, .int .i64 n, .int .i64 d])]).run Try.prog w = .ok (.agg #[.int .i64 0, .int .u32 a, .int .i64 n, .int .i64 d]) w := by kernel_rfl
theorem bd_ev1 (w : World) : (Instr.build 38 #[(0, .int .i64 1), (2, .int .i64 3)]).run Try.prog w = .ok (.agg #[.int .i64 1, .int .i64 0, .int .i64 3, .int .u32 0, .int .i64 0, .int .i64 0]) w := by kernel_rfl
theorem bd_ev4 (w : World) (d : Int) (a n : Int) : (Instr.build 38 #[(0, .int .i64 4), (3, .agg #[.int .u32 a, .int .i64 n]), (4, .int .i64 d)]).run Try.prog w = .ok (.agg #[.int .i64 4, .int .i64 0, .int .i64 0, .int .u32 a, .int .i64 n, .int .i64 d]) w := by kernel_rfl
theorem bd_ev5 (w : World) (a n : Int) : (Instr.build 38 #[(0, .int .i64 5), (3, .agg #[.int .u32 a, .int .i64 n])]).run Try.prog w = .ok (.agg #[.int .i64 5, .int .i64 0, .int .i64 0, .int .u32 a, .int .i64 n, .int .i64 0]) w := by kernel_rfl
theorem bd_nx (w : World) (d : Int) : (Instr.build 61 #[(1, .int .i64 d)]).run Try.prog w = .ok (.agg #[.int .i64 0, .int .i64 d]) w := by kernel_rfl
set_option maxRecDepth 100000 in
theorem nx_ld {w : World} {B b n cp : Nat} {o : List Nx} (h : NxM w B (.slice (some ⟨b, 0, none⟩) n cp) o) {k : Nat} {t : Nx} (hk : o[k]? = some t) : (Instr.loadAt 61 (.pointer (some ⟨b, k * 2, none⟩))).run Try.prog w = .ok (.agg #[.int .i64 (t.1 : Int), .int .i64 t.2]) w := by
  obtain ⟨A, q, e, _⟩ := own_form h
  injection e with e1 e2 e3
  subst e2
  have hlt : k < o.length := (List.getElem?_eq_some_iff.1 hk).1
  unfold NxM at h
  have c0 := h.cellAt (k * 2) (by omega)
  have c1 := h.cellAt (k * 2 + 1) (by omega)
  have hf : ∀ (o : List Nx) (k : Nat), o[k]? = some t → (flatN o)[k * 2]? = some (.int .i64 (t.1 : Int)) ∧ (flatN o)[k * 2 + 1]? = some (.int .i64 t.2) := by
    intro o
    induction o with
    | nil => intro k hk; simp at hk
    | cons a o ih =>
      intro k hk
      match k with
      | 0 =>
        obtain rfl : a = t := by simpa using hk
        exact ⟨rfl, rfl⟩
      | k + 1 =>
        have := ih k (by simpa using hk)
        have e : flatN (a :: o) = .int .i64 (a.1 : Int) :: .int .i64 a.2 :: flatN o := rfl
        rw [e, show (k + 1) * 2 = k * 2 + 1 + 1 by omega]
        simpa using this
  obtain ⟨f0, f1⟩ := hf o k hk
  rw [f0] at c0
  rw [f1] at c1
  simp [go_sem, c0, c1]
theorem rt_ex {w : World} {B gr cr : Nat} {s0 s1 : Value} (h : RtL w B (.slice (some ⟨gr, 0, none⟩) 2 cr) kPc [(kX, s0), (kQ2, s1)]) :
    (Instr.loadAt 4 (.pointer (some ⟨gr, 2, none⟩))).run Try.prog w = .ok (.bool true) w ∧ (Instr.loadAt 3 (.pointer (some ⟨gr, 10, none⟩))).run Try.prog w = .ok (.int .i64 7) w ∧ True ∧
    ∃ gn cn, (Instr.loadAt 46 (.pointer (some ⟨gr, 11, none⟩))).run Try.prog w = .ok (.slice (some ⟨gn, 0, none⟩) 1 cn) w ∧ (Instr.loadAt 61 (.pointer (some ⟨gn, 0, none⟩))).run Try.prog w = .ok (.agg #[.int .i64 0, .int .i64 7]) w := by
  obtain ⟨A, q, e, hn, hl⟩ := rt_nx h (k := 1) (a := (kQ2, s1)) rfl
  obtain ⟨z1, z2, z3, z4⟩ := k_f
  rw [show nextF kPc (kQ2, s1).1 = [(0, 7)] from z2] at hn hl
  obtain ⟨gn, cn, e2, _⟩ := own_form1 hn (by simp)
  rw [e2] at hn hl
  have d := rt_d h (k := 1) (a := (kQ2, s1)) rfl
  rw [show distF kPc (kQ2, s1).1 = 7 from z3] at d
  exact ⟨rt_own h (k := 0) (a := (kX, s0)) rfl, d, trivial, gn, cn, hl, nx_ld hn (k := 0) rfl⟩
theorem rt_ex4 {w : World} {B gr cr : Nat} {s0 s1 : Value} (h : RtL w B (.slice (some ⟨gr, 0, none⟩) 2 cr) kPc [(kX, s0), (kQ4, s1)]) :
    ∃ A cn, (Instr.loadAt 46 (.pointer (some ⟨gr, 11, none⟩))).run Try.prog w = .ok (.slice A 0 cn) w := by
  obtain ⟨A, q, e, hn, hl⟩ := rt_nx h (k := 1) (a := (kQ4, s1)) rfl
  obtain ⟨z1, z2, z3, z4⟩ := k_f
  rw [show nextF kPc (kQ4, s1).1 = [] from z4] at hn hl
  exact ⟨A, q, hl⟩
theorem map_two {L : List Rx} {x y : Le} (h : L.map (·.1) = [x, y]) : ∃ s t, L = [(x, s), (y, t)] := by
  match L, h with
  | [(a, s), (b, t)], h =>
    simp only [List.map_cons, List.map_nil, List.cons.injEq, and_true] at h
    obtain ⟨rfl, rfl⟩ := h
    exact ⟨s, t, rfl⟩
theorem map_one {L : List Rx} {x : Le} (h : L.map (·.1) = [x]) : ∃ s, L = [(x, s)] := by
  match L, h with
  | [(a, s)], h =>
    simp only [List.map_cons, List.map_nil, List.cons.injEq, and_true] at h
    subst h
    exact ⟨s, rfl⟩
/-- A core with what lies ahead of it. -/
structure KN (w wx : World) (M : Nat → Prop) (cb mb : Nat) (l : List Le) : Prop where
  ex : ∃ W0, Core W0 wx M cb mb ⟨9, kPc, l⟩ ∧ Below w.heap.size w W0 ∧ Blk W0 w.heap.size 36 (pfC kP) ∧ Blk W0 (w.heap.size + 1) 36 (pfC kQ)
theorem KN.bel {w wx : World} {M : Nat → Prop} {cb mb : Nat} {l : List Le} (h : KN w wx M cb mb l) : Below w.heap.size w wx := by
  obtain ⟨W0, h1, h2, h3, h4⟩ := h.ex
  exact h2.trans (h1.bel.mono h2.size)
theorem KN.later {w wx wy : World} {M : Nat → Prop} {cb mb : Nat} {l : List Le} (h : KN w wx M cb mb l) (hb : Below wx.heap.size wx wy) : KN w wy M cb mb l := by
  obtain ⟨W0, h1, h2, h3, h4⟩ := h.ex
  exact ⟨W0, h1.later hb, h2, h3, h4⟩
theorem KN.p {w wx : World} {M : Nat → Prop} {cb mb : Nat} {l : List Le} (h : KN w wx M cb mb l) : (Instr.loadAt 36 (.pointer (some ⟨w.heap.size, 0, none⟩))).run Try.prog wx = .ok (.agg #[.int .u32 167772160, .int .i64 8]) wx := by
  obtain ⟨W0, h1, h2, h3, h4⟩ := h.ex
  exact ld_pf (h3.below h1.bel h3.lt)
theorem KN.q {w wx : World} {M : Nat → Prop} {cb mb : Nat} {l : List Le} (h : KN w wx M cb mb l) : (Instr.loadAt 36 (.pointer (some ⟨w.heap.size + 1, 0, none⟩))).run Try.prog wx = .ok (.agg #[.int .u32 184549376, .int .i64 8]) wx := by
  obtain ⟨W0, h1, h2, h3, h4⟩ := h.ex
  exact ld_pf (h4.below h1.bel h4.lt)
theorem out_keep {w0 wx w' : World} {M : Nat → Prop} {cb mb : Nat} {S : Lc} {B : Nat} {v : Value} {o : List Tl} (h : OutM wx B v o) (hc : Core w0 wx M cb mb S) (hu : Upd M wx w') : OutM w' B v o :=
  own_keep h (I := fun k => v.ownBlock = some k) (hu.same fun k hk hv => by
    obtain ⟨cs, hb⟩ := own_blkT h hv
    exact hc.apart hb (by decide) (by decide) hk) fun _ e => e
/-- What an event of the example leaves. -/
def KD (w wx : World) (M : Nat → Prop) (cb mb : Nat) (l : List Le) (o : List Tl) (en : Ending) (w' : World) : Prop :=
  ∃ v M', en = .returned (.tuple #[v, .int .i64 0]) ∧ OutM w' wx.heap.size v o ∧ KN w w' M' cb mb l ∧ Upd M wx w'
theorem kn_do {w wx : World} {M : Nat → Prop} {cb mb : Nat} {l l' : List Le} {e : Ev} {o : List Tl} (h : KN w wx M cb mb l) (hd : doF ⟨9, kPc, l⟩ e = (⟨9, kPc, l'⟩, o, 0)) (hp : e.p.1 < 2 ^ 32) :
    Calls Try.prog 12 #[.pointer (some ⟨cb, 0, none⟩), .agg #[.int .i64 e.kind, .int .i64 e.port, .int .i64 e.cost, .int .u32 (e.p.1 : Int), .int .i64 e.p.2, .int .i64 e.dist]] wx (KD w wx M cb mb l' o) := by
  obtain ⟨W0, h1, h2, h3, h4⟩ := h.ex
  refine (core_do h1 e hp).mono ?_
  rintro en w' ⟨v, rfl, M', ho, hc, hm, hu⟩
  rw [hd] at ho hc ⊢
  exact ⟨v, M', rfl, ho, ⟨W0, hc, h2, h3, h4⟩, hu⟩
theorem kn_out {w wx w' : World} {M : Nat → Prop} {cb mb : Nat} {l : List Le} {B : Nat} {v : Value} {o : List Tl} (h : KN w wx M cb mb l) (ho : OutM wx B v o) (hu : Upd M wx w') : OutM w' B v o := by
  obtain ⟨W0, h1, _⟩ := h.ex
  exact out_keep ho h1 hu
theorem kn_routes {w wx : World} {M : Nat → Prop} {cb mb : Nat} {l : List Le} (h : KN w wx M cb mb l) : Calls Try.prog 13 #[.pointer (some ⟨cb, 0, none⟩)] wx fun e w' => ∃ v, e = .returned v ∧ RtM w' wx.heap.size v kPc l ∧ Below wx.heap.size wx w' := by
  obtain ⟨W0, h1, _⟩ := h.ex
  exact core_routes h1
theorem kn_pas {w wx : World} {M : Nat → Prop} {cb mb : Nat} {l : List Le} (h : KN w wx M cb mb l) : Calls Try.prog 17 #[.pointer (some ⟨cb, 0, none⟩)] wx fun e w' => e = .returned (.bool (pasF l)) ∧ Below wx.heap.size wx w' := by
  obtain ⟨W0, h1, _⟩ := h.ex
  exact core_passive h1
set_option maxRecDepth 100000 in
set_option maxHeartbeats 8000000 in
attribute [-go_sem] Instr.storeAt Instr.loadAt Instr.build in
theorem known12_any (w : World) : Calls Try.prog 10 #[] w fun e w' => e = .returned (.bool true) ∧ Below w.heap.size w w' := by
  obtain ⟨V0, hV0⟩ : ∃ Z, Z = (w.alloc (.cells #[.int .u32 0, .int .i64 0] 36)).alloc (.cells #[.int .u32 0, .int .i64 0] 36) := ⟨_, rfl⟩
  have hp0 : Blk V0 w.heap.size 36 #[.int .u32 0, .int .i64 0] := by rw [hV0]; exact (Blk.new _ _ _).alloc _
  have hq0 : Blk V0 (w.heap.size + 1) 36 #[.int .u32 0, .int .i64 0] := by
    rw [hV0]
    have := Blk.new (w.alloc (.cells #[.int .u32 0, .int .i64 0] 36)) 36 #[.int .u32 0, .int .i64 0]
    simpa using this
  have hb0 : Below w.heap.size w V0 := by rw [hV0]; exact ((Below.refl _ _).alloc (Nat.le_refl _) _).alloc (by simp) _
  have pinfo : (Try.prog.info? 36).map (·.size) = some 2 := by kernel_rfl
  have s1 := stc_store pinfo hp0 rfl (vs := #[.int .u32 167772160, .int .i64 8]) rfl (by simp [Value.oneCell'])
  obtain ⟨V1, hV1⟩ : ∃ Z, Z = V0.setCells w.heap.size 0 (#[.int .u32 167772160, .int .i64 8] : Array Value).toList := ⟨_, rfl⟩
  have hp1 : Blk V1 w.heap.size 36 (pfC kP) := by rw [hV1]; exact blk_setCells (vs := #[.int .u32 167772160, .int .i64 8]) hp0 rfl
  have hq1 : Blk V1 (w.heap.size + 1) 36 #[.int .u32 0, .int .i64 0] := by rw [hV1]; exact blk_far_setCells (by omega) _ _ _ hq0
  have hb1 : Below w.heap.size w V1 := by rw [hV1]; exact below_setCells (Nat.le_refl _) _ _ _ hb0
  rw [← hV1, hV0] at s1
  have s2 := stc_store pinfo hq1 rfl (vs := #[.int .u32 184549376, .int .i64 8]) rfl (by simp [Value.oneCell'])
  obtain ⟨V2, hV2⟩ : ∃ Z, Z = V1.setCells (w.heap.size + 1) 0 (#[.int .u32 184549376, .int .i64 8] : Array Value).toList := ⟨_, rfl⟩
  have hp2 : Blk V2 w.heap.size 36 (pfC kP) := by rw [hV2]; exact blk_far_setCells (by omega) _ _ _ hp1
  have hq2 : Blk V2 (w.heap.size + 1) 36 (pfC kQ) := by rw [hV2]; exact blk_setCells (vs := #[.int .u32 184549376, .int .i64 8]) hq1 rfl
  have hb2 : Below w.heap.size w V2 := by rw [hV2]; exact below_setCells (by omega) _ _ _ hb1
  rw [← hV2] at s2
  have HP2 := Lib.hid hp2
  have HQ2 := Lib.hid hq2
  have HB2 := Lib.hid hb2
  have b1 := fun (a n : Int) (wx : World) => bd_pf wx a n
  have lp : (Instr.loadAt 36 (.pointer (some ⟨w.heap.size, 0, none⟩))).run Try.prog V2 = .ok (.agg #[.int .u32 167772160, .int .i64 8]) V2 := ld_pf hp2
  clear hV0 hV1 hV2 hp0 hq0 hb0 pinfo hp1 hq1 hb1 hp2 hq2 hb2
  go_enter Try.func10, Try.ntmps10
  go_upto_region 2 with (fail)
  clear s1 s2 b1
  obtain ⟨V3, hV3⟩ : ∃ Z, Z = V2.alloc (.cells #[.int .u32 167772160, .int .i64 8] 36) := ⟨_, rfl⟩
  have hb3 : Below V2.heap.size V2 V3 := by rw [hV3]; exact (Below.refl _ _).alloc (Nat.le_refl _) _
  have hrd : Reads V3 (fun k => k < V3.heap.size) 2 (some ⟨V2.heap.size, 0, none⟩) 1 (flatP [kP]) := by
    rw [hV3]
    exact (reads_lit V2 36 (pfC kP) 1 2 (0, 0) rfl).mono fun k hk => by rw [hk]; simp
  have hcn := core_new 9 (some ⟨V2.heap.size, 0, none⟩) 1 1 [kP] V3 hrd rfl (fun p hp => by rw [List.mem_singleton.1 hp]; decide)
  unfold MadeC at hcn
  rw [k_new] at hcn
  dsimp only at hcn
  have HCN := Lib.hid hcn
  have HV3 := Lib.hid hV3
  have HB3 := Lib.hid (HB2.out.trans (hb3.mono HB2.out.size))
  have HP3 := Lib.hid (HP2.out.below hb3 HP2.out.lt)
  have HQ3 := Lib.hid (HQ2.out.below hb3 HQ2.out.lt)
  clear hV3 hb3 hrd hcn
  go_wp2_with fail
  rw [← HV3.out]
  refine HCN.out.mono ?_
  rintro e w3 ⟨cb, mb, M, rfl, hc⟩
  have hd1 : Calls Try.prog 12 #[.pointer (some ⟨cb, 0, none⟩), .agg #[.int .i64 1, .int .i64 0, .int .i64 3, .int .u32 0, .int .i64 0, .int .i64 0]] w3 (KD w w3 M cb mb [kX] [(0, kP, 0)]) := by
    refine (core_do hc ⟨1, 0, 3, (0, 0), 0⟩ (by decide)).mono ?_
    rintro en w' ⟨v, rfl, M', ho, hc', hm, hu⟩
    have hk1 := k_1
    rw [show (⟨9, pc0, [ownE kP]⟩ : Lc) = ⟨9, ⟨fun _ => false, fun _ => 0⟩, [ownE kP]⟩ from rfl] at ho hc' ⊢
    rw [hk1] at ho hc' ⊢
    exact ⟨v, M', rfl, ho, ⟨V3, hc', HB3.out, HP3.out, HQ3.out⟩, hu⟩
  have HD1 := Lib.hid hd1
  have be1 := fun wx => bd_ev1 wx
  clear hc hd1 lp
  go_wp2_with fail
  refine HD1.out.mono ?_
  rintro e w4 ⟨v1, M1, rfl, ho1, hk1, _⟩
  obtain ⟨ga, ca, rfl, _⟩ := own_form1 ho1 (by decide)
  have HO1 := Lib.hid ho1
  have HK1 := Lib.hid hk1
  have lq := hk1.q
  have hd2 : Calls Try.prog 12 #[.pointer (some ⟨cb, 0, none⟩), .agg #[.int .i64 4, .int .i64 0, .int .i64 0, .int .u32 184549376, .int .i64 8, .int .i64 4]] w4 (KD w w4 M1 cb mb [kX, kQ2] [(0, kQ, 7)]) := kn_do (e := ⟨4, 0, 0, kQ, 4⟩) hk1 k_2 (by decide)
  have HD2 := Lib.hid hd2
  have be2 := fun wx => bd_ev4 wx 4 184549376 8
  clear ho1 hk1 hd2 be1
  go_wp2_with fail
  refine HD2.out.mono ?_
  rintro e w5 ⟨v2, M2, rfl, ho2, hk2, hu2⟩
  obtain ⟨gb, cbb, rfl, _⟩ := own_form1 ho2 (by decide)
  have HO1b := Lib.hid (kn_out HK1.out HO1.out hu2)
  have HO2 := Lib.hid ho2
  have HK2 := Lib.hid hk2
  have HR2 := Lib.hid (kn_routes hk2)
  clear ho2 hk2 hu2 lq be2
  go_upto_region 8 with (go_at_call 13; refine HR2.out.mono ?_; rintro e w6 ⟨v3, rfl, hr3, hb6⟩; have HR3 := Lib.hid hr3; have HB6 := Lib.hid hb6; clear hr3 hb6)
  obtain ⟨L, hL, hrl⟩ := HR3.out
  obtain ⟨s0, s1, rfl⟩ := map_two hL
  clear hL
  obtain ⟨gr, cr, e9, _⟩ := own_form1 hrl.1 (by simp)
  subst e9
  rw [show ([(kX, s0), (kQ2, s1)] : List Rx).length = 2 from rfl] at *
  have HRL := Lib.hid hrl
  clear hrl HR3
  have HK6 := Lib.hid (HK2.out.later HB6.out)
  have la := fun (dd : Nat) (os : Array Obj) => ld_told1 (own_below (own_below HO1b.out HB6.out) (below_regrown w6 dd os))
  have lb := fun (dd : Nat) (os : Array Obj) => ld_told2 (own_below (own_below HO2.out HB6.out) (below_regrown w6 dd os))
  have lp := fun (dd : Nat) (os : Array Obj) => (HK6.out.later (below_regrown w6 dd os)).p
  have lq := fun (dd : Nat) (os : Array Obj) => (HK6.out.later (below_regrown w6 dd os)).q
  have e1 := fun wx => eq_told 0 167772160 8 0 wx
  have e2 := fun wx => eq_told 0 184549376 8 7 wx
  have b1 := fun wx => bd_td wx 167772160 8 0
  have b2 := fun wx => bd_td wx 184549376 8 7
  have b3 := fun wx => bd_up0 wx 167772160 8
  have b4 := fun wx => bd_upd wx 184549376 8 7
  refine wp_region_quiet_below (by kernel_rfl) (by kernel_rfl) ?_
  repeat (go_big_quiet_step (fail))
  refine wpQuiet_nil ?_
  intro _ hw'
  obtain ⟨⟨dq, osq⟩, hw''⟩ := hw'
  subst hw''
  have HB7 := Lib.hid (below_regrown w6 dq osq)
  generalize grow (redrawn w6 dq) osq = w7 at HB7 ⊢
  clear la lb lp lq e1 e2 b1 b2 b3 b4
  have HK7 := Lib.hid (HK6.out.later HB7.out)
  have HPA := Lib.hid (show Calls Try.prog 17 #[.pointer (some ⟨cb, 0, none⟩)] w7 fun e w' => e = .returned (.bool false) ∧ Below w7.heap.size w7 w' from kn_pas HK7.out)
  have e1 := fun wx => eq_nx 0 7 wx
  have b1 := fun wx => bd_nx wx 7
  go_upto_region 10 with (go_at_call 17; refine HPA.out.mono ?_; rintro e w8 ⟨rfl, hb8⟩; have HB8 := Lib.hid hb8; have hrl8 := (HRL.out.below HB7.out).below hb8; obtain ⟨f0, f1, f2, gn, cn, f3, f4⟩ := rt_ex hrl8; clear hb8 hrl8)
  clear e1 b1 f0 f1 f2 f3 f4
  have HK8 := Lib.hid (HK7.out.later HB8.out)
  have lq := HK8.out.q
  have hd3 : Calls Try.prog 12 #[.pointer (some ⟨cb, 0, none⟩), .agg #[.int .i64 5, .int .i64 0, .int .i64 0, .int .u32 184549376, .int .i64 8, .int .i64 0]] w8 (KD w w8 M2 cb mb [kX, kQ3] []) := kn_do (e := ⟨5, 0, 0, kQ, 0⟩) HK8.out k_3 (by decide)
  have HD3 := Lib.hid hd3
  have be3 := fun wx => bd_ev5 wx 184549376 8
  clear hd3
  go_wp2_with fail
  refine HD3.out.mono ?_
  rintro e w9 ⟨v4, M3, rfl, ho3, hk3, _⟩
  have HK9 := Lib.hid hk3
  have lq9 := hk3.q
  have hd4 : Calls Try.prog 12 #[.pointer (some ⟨cb, 0, none⟩), .agg #[.int .i64 4, .int .i64 0, .int .i64 0, .int .u32 184549376, .int .i64 8, .int .i64 255]] w9 (KD w w9 M3 cb mb [kX, kQ4] [(0, kQ, 255)]) := kn_do (e := ⟨4, 0, 0, kQ, 255⟩) HK9.out k_4 (by decide)
  have HD4 := Lib.hid hd4
  have be4 := fun wx => bd_ev4 wx 255 184549376 8
  clear ho3 hk3 hd4 lq be3
  go_wp2_with fail
  refine HD4.out.mono ?_
  rintro e w10 ⟨v5, M4, rfl, ho4, hk4, _⟩
  obtain ⟨gd, cd, rfl, _⟩ := own_form1 ho4 (by decide)
  have HK10 := Lib.hid hk4
  have l4 := ld_iC (ld_told4 ho4)
  have HR4 := Lib.hid (kn_routes hk4)
  clear ho4 hk4 lq9 be4
  go_upto_region 13 with (go_at_call 13; refine HR4.out.mono ?_; rintro e w11 ⟨v6, rfl, hr6, hb11⟩; have HB11 := Lib.hid hb11; obtain ⟨L6, hL6, hrl6⟩ := hr6; obtain ⟨s4, s5, rfl⟩ := map_two hL6; obtain ⟨gs, cs, e8, _⟩ := own_form1 hrl6.1 (by simp); subst e8; obtain ⟨A8, c8, l8⟩ := rt_ex4 hrl6; clear hL6 hrl6 hb11)
  clear l4 l8
  have HK11 := Lib.hid (HK10.out.later HB11.out)
  have lq := HK11.out.q
  have hd5 : Calls Try.prog 12 #[.pointer (some ⟨cb, 0, none⟩), .agg #[.int .i64 5, .int .i64 0, .int .i64 0, .int .u32 184549376, .int .i64 8, .int .i64 0]] w11 (KD w w11 M4 cb mb [kX] []) := kn_do (e := ⟨5, 0, 0, kQ, 0⟩) HK11.out k_5 (by decide)
  have HD5 := Lib.hid hd5
  have be5 := fun wx => bd_ev5 wx 184549376 8
  clear hd5
  go_wp2_with fail
  refine HD5.out.mono ?_
  rintro e w12 ⟨v7, M5, rfl, _, hk5, _⟩
  have HK12 := Lib.hid hk5
  have HR5 := Lib.hid (kn_routes hk5)
  clear hk5 lq be5
  go_wp2_with (go_at_call 13; refine HR5.out.mono ?_; rintro e w13 ⟨v8, rfl, hr8, hb13⟩; have HB13 := Lib.hid hb13; obtain ⟨L8, hL8, hrl8⟩ := hr8; obtain ⟨s6, rfl⟩ := map_one hL8; obtain ⟨gu, cu, e8, _⟩ := own_form1 hrl8.1 (by simp); subst e8; clear hL8 hrl8 hb13)
  go_ret
  exact ⟨rfl, HK12.out.bel.trans (HB13.out.mono HK12.out.bel.size)⟩
end Go.Proofs.Ytahdjfegihnolaa
