/- The document's table as a row of entries: Compare, Lookup. -/
import Derived.Test.YthlommalbkhcjaaGreatFuT
import Derived.Test.YthlommalbkhcjaaGreatFuY
namespace Go.Proofs.YthlommalbkhcjaaGreat
open Go.RowKit Go.Sort
variable {dc : Int → Array Value}
/-- The order of prefixes, as the document has it. -/
def cmpP (p q : Px) : Int := if p.a = q.a ∧ p.n = q.n then 0 else if p.a < q.a ∨ (p.a = q.a ∧ p.n < q.n) then -1 else 1
set_option maxHeartbeats 2000000 in
theorem pcmp_any (p q : Px) (w : World) : Calls Tryz.prog 52 #[pxV p.a p.n, pxV q.a q.n] w fun e w' => e = .returned (.int .i64 (cmpP p q)) ∧ Below w.heap.size w w' := by
  obtain ⟨a, n⟩ := p
  obtain ⟨b, m⟩ := q
  simp only [cmpP]
  have hB : Below w.heap.size w ((w.alloc (.cells #[.int .u32 (a : Int), .int .i64 n] 37)).alloc (.cells #[.int .u32 (b : Int), .int .i64 m] 37)) := ((Below.refl _ _).alloc (Nat.le_refl _) _).alloc (by simp) _
  have HB := Lib.hid hB
  clear hB
  have he := fun w => eql_px a b n m w
  by_cases h1 : a = b ∧ n = m
  · obtain ⟨rfl, rfl⟩ := h1
    rw [if_pos ⟨rfl, rfl⟩]
    rw [decide_eq_true ⟨rfl, rfl⟩] at he
    go_enter Tryz.func52, Tryz.ntmps52
    go_wp2_with fail
    go_ret
    exact ⟨rfl, HB.out⟩
  · rw [if_neg h1]
    rw [decide_eq_false h1] at he
    by_cases h2 : a < b
    · rw [if_pos (.inl h2)]
      have d1 : decide ((a : Int) < b) = true := decide_eq_true (by omega)
      have d2 : decide (a < b) = true := decide_eq_true h2
      clear h1
      go_enter Tryz.func52, Tryz.ntmps52
      go_wp2_with fail
      go_ret
      exact ⟨rfl, HB.out⟩
    · by_cases h3 : a = b
      · subst h3
        by_cases h4 : n < m
        · rw [if_pos (.inr ⟨rfl, h4⟩)]
          have d1 : decide (n < m) = true := decide_eq_true h4
          clear h1 h2
          go_enter Tryz.func52, Tryz.ntmps52
          go_wp2_with fail
          go_ret
          exact ⟨rfl, HB.out⟩
        · rw [if_neg (by rintro (h | ⟨_, h⟩); exact h2 h; exact h4 h)]
          have d1 : decide (n < m) = false := decide_eq_false h4
          clear h1 h2
          go_enter Tryz.func52, Tryz.ntmps52
          go_wp2_with fail
          go_ret
          exact ⟨rfl, HB.out⟩
      · rw [if_neg (by rintro (h | ⟨h, _⟩); exact h2 h; exact h3 h)]
        have d1 : decide ((a : Int) < b) = false := decide_eq_false (by omega)
        have d2 : decide (a < b) = false := decide_eq_false h2
        have d3 : ((a : Int) == (b : Int)) = false := beq_eq_false_iff_ne.2 (by omega)
        have d4 : (a == b) = false := beq_eq_false_iff_ne.2 h3
        clear h1
        go_enter Tryz.func52, Tryz.ntmps52
        go_wp2_with fail
        go_ret
        exact ⟨rfl, HB.out⟩
theorem cmp_lt {p : Bs} {r : Rt} (hp : p.length ≤ 32) (ha : r.a < 2 ^ 32) (hm : mayR r = true) : decide (cmpP ⟨padB p, p.length⟩ ⟨r.a, r.m⟩ < 0) = ltB p (rB r) := by
  obtain ⟨h1, h2, h3⟩ := rB_may ha hm
  rw [Bool.eq_iff_iff, decide_eq_true_iff, ltB_pad hp h1, h2]
  unfold cmpP
  dsimp only
  rw [← h3]
  constructor
  · intro h
    split at h
    · omega
    · split at h
      · rename_i h4
        rcases h4 with h4 | ⟨h4, h5⟩
        · exact .inl h4
        · exact .inr ⟨h4, by omega⟩
      · omega
  · intro h
    rw [if_neg (by rintro ⟨h4, h5⟩; rcases h with h | ⟨_, h⟩ <;> omega), if_pos (by rcases h with h | ⟨h, h5⟩; exact .inl h; exact .inr ⟨h, by omega⟩)]
    omega
/-- What is wanted, with its lengths besides. -/
def WantL (dc : Int → Array Value) (A : Option Addr) (L : List (Bs × Int)) (w : World) : Prop := ∀ k e, L[k]? = some e → ∃ ad, A = some ad ∧ ∀ wx, Below w.heap.size w wx →
  (Instr.loadAt 37 (.pointer (some (ad.add (k * 259))))).run Tryz.prog wx = .ok (pxV (padB e.1) e.1.length) wx ∧ (Instr.loadAt 41 (.pointer (some ⟨(ad.add (k * 259)).block, (ad.add (k * 259)).off + 2, none⟩))).run Tryz.prog wx = .ok (.agg (dc e.2)) wx ∧
  (Instr.loadAt 3 (.pointer (some ⟨(ad.add (k * 259)).block, (ad.add (k * 259)).off + 1, none⟩))).run Tryz.prog wx = .ok (.int .i64 (e.1.length : Int)) wx
theorem WantL.at_ {A : Option Addr} {L : List (Bs × Int)} {w : World} (h : WantL dc A L w) : WantAt dc A L w := fun k e hk => by
  obtain ⟨ad, h1, h2⟩ := h k e hk
  exact ⟨ad, h1, fun wx hb => ⟨(h2 wx hb).1, (h2 wx hb).2.1⟩⟩
theorem WantL.later {A : Option Addr} {L : List (Bs × Int)} {w w' : World} (h : WantL dc A L w) (hb : Below w.heap.size w w') : WantL dc A L w' := fun k e hk => by
  obtain ⟨ad, h1, h2⟩ := h k e hk
  exact ⟨ad, h1, fun wx hb2 => h2 wx (hb.trans (hb2.mono hb.size))⟩
theorem want_own (hd : Dc dc) {w : World} {B n cap : Nat} {t : TypeId} {A : Option Addr} {L : List (Bs × Int)} (h : w.ownsRow B t 259 (.slice A n cap) n (flatN dc L)) (hn : L.length = n) : WantL dc A L w := fun k e hk => by
  have hkn : k < n := by rw [← hn]; exact (List.getElem?_eq_some_iff.1 hk).1
  obtain ⟨g, c, e1, _⟩ := own_form1 h (by omega)
  injection e1 with e1
  subst e1
  have hlt : g < w.heap.size := (own_lt h (g := g) rfl).2
  refine ⟨_, rfl, fun wx hb => ?_⟩
  rw [add_off, Nat.zero_add]
  have hc : ∀ j, j < 259 → wx.cell? ⟨g, k * 259 + j, none⟩ = (enE dc e).toList[j]? := fun j hj => by
    have hj2 : j < (enE dc e).toList.length := by rw [enE_len hd]; exact hj
    rw [List.getElem?_eq_getElem hj2]
    refine (hb.cell (p := ⟨g, k * 259 + j, none⟩) hlt).trans ?_
    have := h.cells (g := g) rfl (k * 259 + j) _ (by rw [flatN_get hd hk hj, List.getElem?_eq_getElem hj2])
    rwa [add_off, Nat.zero_add] at this
  have c0 := hc 0 (by decide)
  have c1 := hc 1 (by decide)
  have x0 : (enE dc e).toList[0]? = some (.int .u32 (padB e.1 : Int)) := by simp [enE, enX]
  have x1 : (enE dc e).toList[1]? = some (.int .i64 (e.1.length : Int)) := by simp [enE, enX]
  rw [x0, Nat.add_zero] at c0
  rw [x1] at c1
  refine ⟨by unfold pxV; simp [go_sem, c0, c1], ?_, by simp [go_sem, c1]⟩
  have := run_loadAt_mid (P := Tryz.prog) wx g (k * 259 + 2) 41 (dc e.2).toList _ (fun j v hj => by
    have hj' : (dc e.2)[j]? = some v := by simpa using hj
    have hj2 : j < 257 := by have := (Array.getElem?_eq_some_iff.1 hj').1; rw [hd.sz] at this; exact this
    rw [show k * 259 + 2 + j = k * 259 + (2 + j) by omega, hc (2 + j) (by omega)]
    have := enX_at (a := (padB e.1 : Int)) (n := (e.1.length : Int)) (cs := dc e.2) j
    unfold enE
    rw [Array.getElem?_toList, this]
    exact hj') Tryz.underlying41 rfl (by simpa [hd.sz] using wy_info)
  simpa using this
/-- The longest of the first k entries that have the address, where it stands. -/
def BestAt (D : Bs) (L : List (Bs × Int)) (k : Nat) (b : Int) : Prop := (covS D (L.take k) = [] ∧ b = -1) ∨ ∃ (j : Nat) (e : Bs × Int), L[j]? = some e ∧ b = (j : Int) ∧ covS D (L.take k) ≠ [] ∧ lastE (covS D (L.take k)) = e
theorem take_snocE2 {L : List (Bs × Int)} {k : Nat} {e : Bs × Int} (h : L[k]? = some e) : L.take (k + 1) = L.take k ++ [e] := take_snocE h
theorem best_no {D : Bs} {L : List (Bs × Int)} {k : Nat} {b : Int} {x : Bs × Int} (h : BestAt D L k b) (hx : L[k]? = some x) (hp : ¬ x.1 <+: D) : BestAt D L (k + 1) b := by
  have e : covS D (L.take (k + 1)) = covS D (L.take k) := by
    rw [take_snocE hx, covS_app]
    unfold covS
    simp [hp]
  unfold BestAt
  rw [e]
  exact h
theorem best_yes {D : Bs} {L : List (Bs × Int)} {k : Nat} {x : Bs × Int} (hx : L[k]? = some x) (hp : x.1 <+: D) : BestAt D L (k + 1) (k : Int) := by
  have e : covS D (L.take (k + 1)) = covS D (L.take k) ++ [x] := by
    rw [take_snocE hx, covS_app]
    unfold covS
    simp [hp]
  refine .inr ⟨k, x, hx, rfl, by rw [e]; simp, by rw [e]; simp [lastE]⟩
/-- The next one that has the address is longer. -/
theorem best_longer {D : Bs} {L : List (Bs × Int)} (hs : SortedB L) {k : Nat} {e x : Bs × Int} (hx : L[k]? = some x) (hp : x.1 <+: D) (hc : covS D (L.take k) ≠ []) (he : lastE (covS D (L.take k)) = e) : e.1.length < x.1.length := by
  have hm := lastE_mem hc
  rw [he] at hm
  obtain ⟨h1, h2⟩ := covS_mem.1 hm
  have hlt : ltB e.1 x.1 = true := by
    have := hs
    obtain ⟨k1, k2⟩ := List.getElem?_eq_some_iff.1 hx
    have e2 : L = L.take k ++ x :: L.drop (k + 1) := by
      rw [← k2, ← List.drop_eq_getElem_cons k1, List.take_append_drop]
    unfold SortedB at this
    rw [e2] at this
    exact (List.pairwise_append.1 this).2.2 e h1 x (by simp)
  have hne : e.1 ≠ x.1 := fun h => by rw [h, ltB_irrefl] at hlt; cases hlt
  rcases List.prefix_or_prefix_of_prefix h2 hp with h | h
  · exact Nat.lt_of_le_of_ne h.length_le fun hl => hne (h.eq_of_length hl)
  · have := ltB_asymm (ltB_pre h fun e => hne e.symm)
    rw [hlt] at this
    cases this
/-- The two boxes of a result. -/
structure M2 (w : World) (a n : Int) (cs : Array Value) (W : World) : Prop where
  p : Blk W w.heap.size 37 #[.int .u32 a, .int .i64 n]
  v : Blk W (w.heap.size + 1) 41 cs
  b : Below w.heap.size w W
section
variable {w W W' : World} {a n a2 n2 : Int} {cs vs : Array Value}
theorem M2.later (h : M2 w a n cs W) (hb : Below W.heap.size W W') : M2 w a n cs W' := ⟨h.p.below hb h.p.lt, h.v.below hb h.v.lt, h.b.trans (hb.mono h.b.size)⟩
theorem M2.setP (h : M2 w a n cs W) : M2 w a2 n2 cs (W.setCells w.heap.size 0 [.int .u32 a2, .int .i64 n2]) :=
  ⟨blk_setCells (vs := #[.int .u32 a2, .int .i64 n2]) h.p rfl, blk_far_setCells (by omega) _ _ _ h.v, below_setCells (Nat.le_refl _) _ _ _ h.b⟩
theorem M2.setV (h : M2 w a n cs W) (he : cs.size = vs.size) : M2 w a n vs (W.setCells (w.heap.size + 1) 0 vs.toList) :=
  ⟨blk_far_setCells (by omega) _ _ _ h.p, blk_setCells h.v he, below_setCells (by omega) _ _ _ h.b⟩
theorem M2.stp (h : M2 w a n cs W) (a2 n2 : Int) : (Instr.storeAt 37 (.pointer (some ⟨w.heap.size, 0, none⟩)) (.agg #[.int .u32 a2, .int .i64 n2])).run Tryz.prog W = .ok () (W.setCells w.heap.size 0 [.int .u32 a2, .int .i64 n2]) := stc_store px_info h.p rfl (vs := #[.int .u32 a2, .int .i64 n2]) rfl (by simp [Value.oneCell'])
theorem M2.stv (h : M2 w a n cs W) (hc : cs.size = 257) (hv : vs.size = 257) (h1 : vs.all (·.oneCell') = true) : (Instr.storeAt 41 (.pointer (some ⟨w.heap.size + 1, 0, none⟩)) (.agg vs)).run Tryz.prog W = .ok () (W.setCells (w.heap.size + 1) 0 vs.toList) := st_wyB h.v hc hv h1
end
set_option maxRecDepth 20000 in
set_option maxHeartbeats 8000000 in
attribute [-go_sem] Instr.storeAt Instr.loadAt Instr.alloc Instr.build in
theorem rlook14_any (hd : Dc dc) (A : Option Addr) (n c a : Nat) (L : List (Bs × Int)) (w : World) (hL : SortedB L) (h32 : ∀ e ∈ L, e.1.length ≤ 32) (hn : L.length = n) (hsm : n ≤ 1000000) (hw : WantL dc A L w) (ha : a < 2 ^ 32) :
    Calls Tryz.prog 15 #[.slice A n c, .int .u32 (a : Int)] w (MatchPost dc w (covS (bitsB a 32) L)) := by
  obtain ⟨W0, hW0⟩ : ∃ Z, Z = (w.alloc (.cells #[.int .u32 0, .int .i64 0] 37)).alloc (.cells wy0 41) := ⟨_, rfl⟩
  have hz1 : (w.alloc (.cells #[.int .u32 0, .int .i64 0] 37)).heap.size = w.heap.size + 1 := by simp
  have hb0 : Below w.heap.size w W0 := by rw [hW0]; exact ((Below.refl _ _).alloc (Nat.le_refl _) _).alloc (by simp) _
  have hp0 : Blk W0 w.heap.size 37 #[.int .u32 0, .int .i64 0] := by rw [hW0]; exact (Blk.new w _ _).alloc _
  have hv0 : Blk W0 (w.heap.size + 1) 41 wy0 := by
    rw [hW0]
    have := Blk.new (w.alloc (.cells #[.int .u32 0, .int .i64 0] 37)) 41 wy0
    rwa [hz1] at this
  have HP0 := Lib.hid hp0
  have HV0 := Lib.hid hv0
  have HB0 := Lib.hid hb0
  have HW0 := Lib.hid hW0
  have HD := Lib.hid hd
  have HL := Lib.hid hL
  have H32 := Lib.hid h32
  have HN := Lib.hid hn
  have HW := Lib.hid hw
  have HA := Lib.hid ha
  have a1 := px_alloc
  have a2 := way_alloc
  clear hb0 hp0 hv0 hW0 hd hL h32 hn hw ha
  go_enter Tryz.func15, Tryz.ntmps15
  go_upto_region 1 with (fail)
  rw [← HW0.out]
  clear a1 a2 hz1
  go_wp2_with fail
  go_loopw [7, 8] (fun b i wr => ∃ (k : Nat) (bz : Int), k ≤ n ∧ i = .int .i64 (k : Int) ∧ b = .int .i64 bz ∧ BestAt (bitsB a 32) L k bz ∧ Below W0.heap.size W0 wr) (fun _ i _ => n - (intOf i).toNat)
  case atStart => exact ⟨0, -1, Nat.zero_le _, rfl, rfl, .inl ⟨rfl, rfl⟩, Below.refl _ _⟩
  case round =>
    obtain ⟨k, bz, hk, rfl, rfl, hbest, hbr⟩ := hrel
    have HBE := Lib.hid hbest
    have HBR := Lib.hid hbr
    clear hbest hbr
    by_cases hkn : k < n
    · obtain ⟨x, hx⟩ : ∃ x, L[k]? = some x := ⟨_, List.getElem?_eq_getElem (by rw [HN.out]; exact hkn)⟩
      have hw0 := HW.out.later (HB0.out.trans (HBR.out.mono HB0.out.size))
      have hw1 := hw0 k x hx
      obtain ⟨ad, rfl, ex⟩ := hw1
      have EX := Lib.hid ex
      have HX := Lib.hid hx
      have hdk : decide ((k : Int) < n) = true := decide_eq_true (by omega)
      have hki : ¬ (k : Int) < 0 ∧ (k : Int) < n := ⟨by omega, by omega⟩
      have HAS := Lib.hid (fun wx => has_e x.1 (H32.out x (List.mem_of_getElem? hx)) a HA.out wx)
      obtain ⟨xa, hxa⟩ : ∃ z, z = padB x.1 := ⟨_, rfl⟩
      obtain ⟨xn, hxn⟩ : ∃ z, z = x.1.length := ⟨_, rfl⟩
      have ex1 := fun wz hz => (EX.out wz hz).1
      have ex2 := fun wz hz => (EX.out wz hz).2.2
      rw [← hxa, ← hxn] at ex1
      rw [← hxn] at ex2
      have E1 := Lib.hid ex1
      have E2 := Lib.hid ex2
      have HXA := Lib.hid hxa
      have HXN := Lib.hid hxn
      by_cases hp : x.1 <+: bitsB a 32
      · rw [decide_eq_true hp, ← hxa, ← hxn] at HAS
        clear hxa hxn
        rcases HBE.out with ⟨hc0, rfl⟩ | ⟨j, y, hy, rfl, hc1, hl1⟩
        · clear hw0 ex ex1 ex2 hx hc0
          go_wp2_with fail
          refine wp_region_stages [(true, 26)] (by kernel_rfl) (by kernel_rfl) fun wz hz hz2 => ?_
          have HZ := Lib.hid hz
          clear hz hz2
          have q0 := fun (dd : Nat) (os : Array Obj) => E1.out _ (HZ.out.trans ((below_regrown wz dd os).mono HZ.out.size))
          have q2 := fun (dd : Nat) (os : Array Obj) => Calls.regrown_of (HAS.out (grow (redrawn wz dd) os))
          refine wpSt_q ?_
          simp only [List.take_succ_cons, List.take_zero, List.drop_succ_cons, List.drop_zero]
          repeat (go_big_quiet_step (with_reducible exact q2 _ _))
          refine wpQuiet_nil ?_
          intro _ hw'
          obtain ⟨⟨dq, osq⟩, hw''⟩ := hw'
          subst hw''
          have HZQ := Lib.hid (HBR.out.trans ((HZ.out.trans ((below_regrown wz dq osq).mono HZ.out.size)).mono HBR.out.size))
          clear q0 q2
          refine wpSt_end ?_
          go_wp2_with fail
          exact ⟨⟨k + 1, _, hkn, by simp, rfl, best_yes HX.out hp, HZQ.out⟩, by simp [intOf]; omega⟩
        · skip
          obtain ⟨yn, hyn⟩ : ∃ z, z = y.1.length := ⟨_, rfl⟩
          have hlong := best_longer HL.out HX.out hp hc1 hl1
          rw [← HXN.out, ← hyn] at hlong
          have hjn : j < n := by rw [← HN.out]; exact (List.getElem?_eq_some_iff.1 hy).1
          obtain ⟨ad2, e2, ey⟩ := hw0 j y hy
          injection e2 with e2
          subst e2
          have ey2 := fun wz hz => (ey wz hz).2.2
          rw [← hyn] at ey2
          have EY := Lib.hid ey2
          have dj : decide ((j : Int) < 0) = false := decide_eq_false (by omega)
          have hji : ¬ (j : Int) < 0 ∧ (j : Int) < n := ⟨by omega, by omega⟩
          have dl : decide ((yn : Int) < xn) = true := decide_eq_true (by omega)
          have dl2 : decide (yn < xn) = true := decide_eq_true hlong
          clear hyn hjn ey ey2 hy hc1 hl1
          clear hw0 ex ex1 ex2 hx
          go_wp2_with fail
          refine wp_region_stages [(true, 26)] (by kernel_rfl) (by kernel_rfl) fun wz hz hz2 => ?_
          have HZ := Lib.hid hz
          clear hz hz2
          have q0 := fun (dd : Nat) (os : Array Obj) => E1.out _ (HZ.out.trans ((below_regrown wz dd os).mono HZ.out.size))
          have q3 := fun (dd : Nat) (os : Array Obj) => E2.out _ (HZ.out.trans ((below_regrown wz dd os).mono HZ.out.size))
          have q4 := fun (dd : Nat) (os : Array Obj) => EY.out _ (HZ.out.trans ((below_regrown wz dd os).mono HZ.out.size))
          have q2 := fun (dd : Nat) (os : Array Obj) => Calls.regrown_of (HAS.out (grow (redrawn wz dd) os))
          refine wpSt_q ?_
          simp only [List.take_succ_cons, List.take_zero, List.drop_succ_cons, List.drop_zero]
          repeat (go_big_quiet_step (with_reducible exact q2 _ _))
          refine wpQuiet_nil ?_
          intro _ hw'
          obtain ⟨⟨dq, osq⟩, hw''⟩ := hw'
          subst hw''
          have HZQ := Lib.hid (HBR.out.trans ((HZ.out.trans ((below_regrown wz dq osq).mono HZ.out.size)).mono HBR.out.size))
          clear q0 q2 q3 q4
          refine wpSt_end ?_
          go_wp2_with fail
          exact ⟨⟨k + 1, _, hkn, by simp, rfl, best_yes HX.out hp, HZQ.out⟩, by simp [intOf]; omega⟩
      · rw [decide_eq_false hp, ← hxa, ← hxn] at HAS
        clear hxa hxn
        clear hw0 ex ex1 ex2 hx
        go_wp2_with fail
        refine wp_region_stages [(true, 26)] (by kernel_rfl) (by kernel_rfl) fun wz hz hz2 => ?_
        have HZ := Lib.hid hz
        clear hz hz2
        have q0 := fun (dd : Nat) (os : Array Obj) => E1.out _ (HZ.out.trans ((below_regrown wz dd os).mono HZ.out.size))
        have q2 := fun (dd : Nat) (os : Array Obj) => Calls.regrown_of (HAS.out (grow (redrawn wz dd) os))
        refine wpSt_q ?_
        simp only [List.take_succ_cons, List.take_zero, List.drop_succ_cons, List.drop_zero]
        repeat (go_big_quiet_step (with_reducible exact q2 _ _))
        refine wpQuiet_nil ?_
        intro _ hw'
        obtain ⟨⟨dq, osq⟩, hw''⟩ := hw'
        subst hw''
        have HZQ := Lib.hid (HBR.out.trans ((HZ.out.trans ((below_regrown wz dq osq).mono HZ.out.size)).mono HBR.out.size))
        clear q0 q2
        refine wpSt_end ?_
        go_wp2_with fail
        exact ⟨⟨k + 1, _, hkn, by simp, rfl, best_no HBE.out HX.out hp, HZQ.out⟩, by simp [intOf]; omega⟩
    · have e1 : k = n := by omega
      subst e1
      have hbest := HBE.out
      unfold BestAt at hbest
      rw [show L.take k = L from List.take_of_length_le (by rw [HN.out]; exact Nat.le_refl _)] at hbest
      have hm0 : M2 w 0 0 wy0 wr := (show M2 w 0 0 wy0 W0 from ⟨HP0.out, HV0.out, HB0.out⟩).later HBR.out
      have HM0 := Lib.hid hm0
      rcases hbest with ⟨hc0, rfl⟩ | ⟨j, y, hy, rfl, hc1, hl1⟩
      · have st1 := hm0.stp 0 0
        have hm1 : M2 w 0 0 wy0 _ := hm0.setP (a2 := 0) (n2 := 0)
        have st2 := hm1.stv wy0_size wy0_size wy0_one
        have hm2 := hm1.setV (vs := wy0) rfl
        generalize wr.setCells w.heap.size 0 [.int .u32 0, .int .i64 0] = w1 at st1 st2 hm2
        generalize w1.setCells (w.heap.size + 1) 0 wy0.toList = w2 at st2 hm2
        have HM2 := Lib.hid hm2
        have b1 := px_build0
        have b2 := way_build
        clear hm0 hm1 hm2
        go_wp2_with fail
        refine bodyPost_ret_by (res_px_wy rfl _ rfl rfl HM2.out.p HM2.out.v wy0_size) rfl ?_
        refine ⟨?_, HM2.out.b⟩
        rw [hc0]
        have := HD.out.z
        rw [show lastE ([] : List (Bs × Int)) = ([], 0) from rfl]
        dsimp only
        rw [this, show padB [] = 0 from rfl]
        rfl
      · obtain ⟨ad, rfl, ey⟩ := HW.out j y hy
        have hjn : j < k := by rw [← HN.out]; exact (List.getElem?_eq_some_iff.1 hy).1
        have dj : decide ((j : Int) < 0) = false := decide_eq_false (by omega)
        have hji : ¬ (j : Int) < 0 ∧ (j : Int) < k := ⟨by omega, by omega⟩
        obtain ⟨ya, hya⟩ : ∃ z, z = padB y.1 := ⟨_, rfl⟩
        obtain ⟨yn, hyn⟩ : ∃ z, z = y.1.length := ⟨_, rfl⟩
        obtain ⟨cs, hcs⟩ : ∃ z, z = dc y.2 := ⟨_, rfl⟩
        have hc1s : cs.size = 257 := by rw [hcs]; exact HD.out.sz _
        have hc2s : cs.all (·.oneCell') = true := by rw [hcs]; exact HD.out.one _
        rw [← hya, ← hyn, ← hcs] at ey
        have EY := Lib.hid ey
        have HRES := Lib.hid (And.intro hya (And.intro hyn (And.intro hcs hl1)))
        clear hm0 ey hya hyn hcs hl1 hy hjn
        go_wp2_with fail
        refine wp_region_mix [(true, 10), (false, 3)] 2 (by kernel_rfl) (fun V => Below w.heap.size w V) (fun _ _ h k => h.trans (k.mono h.size)) (by kernel_rfl) HM0.out.b (a' := ?_) (fun wz hz => ?_) fun wz hz => ?_
        rotate_left
        · have q0 := fun (dd : Nat) (os : Array Obj) => (EY.out _ (hz.trans ((below_regrown wz dd os).mono hz.size))).1
          have q1 := fun (dd : Nat) (os : Array Obj) => (EY.out _ (hz.trans ((below_regrown wz dd os).mono hz.size))).2.1
          clear hz
          simp only [pick_nil, pick_tt, pick_ft, List.take_succ_cons, List.take_zero, List.drop_succ_cons, List.drop_zero, List.append_nil]
          repeat (go_big_quiet_step (fail))
          refine wpQuiet_nil ?_
          rfl
        simp only [pick_nil, pick_ff, pick_tf, List.take_succ_cons, List.take_zero, List.drop_succ_cons, List.drop_zero, List.append_nil]
        have HZ := Lib.hid (HM0.out.later hz)
        clear hz
        refine wpMix_step HZ.out.b fun wa ha => ?_
        have RA := Lib.hid (HZ.out.later ha)
        clear ha
        have st := RA.out.stp ya yn
        have RB := Lib.hid (show M2 w ya yn wy0 _ from RA.out.setP)
        generalize wa.setCells w.heap.size 0 [.int .u32 (ya : Int), .int .i64 (yn : Int)] = wb at st RB
        go_wp2_with fail
        clear st
        refine wpMix_step RB.out.b fun wc hc => ?_
        have RC := Lib.hid (RB.out.later hc)
        clear hc
        have st := RC.out.stv wy0_size hc1s hc2s
        have RD := Lib.hid (RC.out.setV (vs := cs) (wy0_size.trans hc1s.symm))
        generalize wc.setCells (w.heap.size + 1) 0 cs.toList = wd at st RD
        go_wp2_with fail
        clear st
        refine wpMix_step RD.out.b fun we he => ?_
        have RE := Lib.hid (RD.out.later he)
        clear he
        go_wp2_with fail
        refine wpMix_plain ?_
        go_wp2_with fail
        refine bodyPost_ret_by (res_px_wy rfl _ rfl rfl RE.out.p RE.out.v hc1s) rfl ?_
        refine ⟨?_, RE.out.b⟩
        obtain ⟨e1, e2, e3, e4⟩ := HRES.out
        rw [e1, e2, e3, ← e4]
        have e5 : (!(covS (bitsB a 32) L).isEmpty) = true := by simp [hc1]
        rw [e5]
        rfl
end Go.Proofs.YthlommalbkhcjaaGreat
