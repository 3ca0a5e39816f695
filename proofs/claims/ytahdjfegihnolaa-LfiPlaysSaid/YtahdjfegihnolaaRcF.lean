/- Layer 12: the document's tell, look, down. -/
import Derived.Test.YtahdjfegihnolaaRcC
import Derived.Test.YtahdjfegihnolaaLzF
import Derived.LoopN
namespace Go.Proofs.Ytahdjfegihnolaa
open Go.RowKit Go.Sort
/-- What a call that tells leaves. -/
structure RlM (w : World) (rb B D : Nat) (av : Value) (room : Int) (c : Pc) (L : List Le) (o : List Tl) (w' : World) (ov : Value) (U : Nat → Prop) : Prop where
  com : RcM w' D rb av ov room c L
  out : OutM w' B ov o
  upd : Upd U w w'
  own : ∀ j, ov.ownBlock = some j → U j ∨ w.heap.size ≤ j
def Tell12 (w : World) (rb B D : Nat) (av : Value) (room : Int) (c : Pc) (L : List Le) (o : List Tl) (U : Nat → Prop) (e : Ending) (w' : World) : Prop := e = .returned (.tuple #[]) ∧ ∃ ov, RlM w rb B D av room c L o w' ov U
theorem RlM.trans {w W W' : World} {rb B D : Nat} {av av2 : Value} {room : Int} {c c2 : Pc} {L L2 : List Le} {o o2 : List Tl} {ov ov2 : Value} {U V : Nat → Prop} (m : RlM w rb B D av room c L o W ov U) (n : RlM W rb B D av2 room c2 L2 o2 W' ov2 V) (hV : ∀ k, V k → U k ∨ w.heap.size ≤ k) : RlM w rb B D av2 room c2 L2 o2 W' ov2 U :=
  ⟨n.com, n.out, m.upd.trans n.upd hV, fun j hj => by
    rcases n.own j hj with h | h
    · exact hV j h
    · exact .inr (Nat.le_trans m.upd.size h)⟩
def avL (g n cap : Nat) : Value := .slice (some ⟨g, 0, none⟩) n cap
theorem avL_own {g n cap k : Nat} : (avL g n cap).ownBlock = some k ↔ g = k := by unfold avL Value.ownBlock; simp
/-- The blocks that a look may turn. -/
def RkU (rb g : Nat) (ov : Value) (k : Nat) : Prop := k = rb ∨ k = g ∨ ov.ownBlock = some k
set_option maxRecDepth 100000 in
set_option maxHeartbeats 4000000 in
attribute [-go_sem] Instr.storeAt Instr.loadAt in
theorem tell12_any {w : World} {rb g cap B D : Nat} {ov : Value} {room : Int} {c : Pc} {L : List Le} (h : RcM w D rb (avL g L.length cap) ov room c L) {i : Nat} {x : Le} (hx : L[i]? = some x) {q : Nat} (hq : q < 8) {o : List Tl} (ho : OutM w B ov o) (hB : B ≤ w.heap.size) (hlen : o.length ≤ 1000000) (haw : x.aw q ≤ 1000) :
    Calls Try.prog 40 #[.pointer (some ⟨rb, 0, none⟩), .int .i64 (q : Int), .pointer (some ⟨g, i * 22, none⟩)] w
      (Tell12 w rb B D (avL g L.length cap) room c (L.set i { x with aw := setN x.aw q (x.aw q + 1) }) (o ++ [(q, x.p, x.told)]) (RkU rb g ov)) := by
  obtain ⟨A, cp, rfl, hcp⟩ := own_form ho
  obtain ⟨n1, n2⟩ := h.neOut ho
  have hne : rb ≠ g := fun e => h.ne (avL_own.2 e.symm)
  obtain ⟨i0, hi, hz0, hz1, hz2⟩ := info_parts info_tl
  have hmx : o.length + 1 ≤ maxLen := by unfold maxLen; omega
  have hmb : (o.length + 1) * 32 ≤ 140737488355328 := by omega
  have hc18 := h.blk.cell 18
  have HX := Lib.hid hx
  have HO1 := Lib.hid ho
  have HNE := Lib.hid (And.intro hne (And.intro n1 n2))
  obtain ⟨no, hno⟩ : ∃ k, k = o.length := ⟨_, rfl⟩
  rw [← hno] at hmx hmb hc18
  have HNO := Lib.hid hno
  have HC18 := Lib.hid hc18
  have HQ := Lib.hid hq
  have hq0 : (0 : Int) ≤ q := by omega
  have hq1 : (q : Int) < 8 := by omega
  have HC := Lib.hid (show RcM w D rb (avL g L.length cap) (.slice A no cp) room c L by rw [hno]; exact h)
  clear n1 n2 hne h ho hno hcp hc18 hx
  go_enter Try.func40, Try.ntmps40
  go_upto_region 0 with (fail)
  refine wp_region_mix [(true, 16), (false, 5)] 2 (by kernel_rfl) (fun a => RcM a D rb (avL g L.length cap) (.slice A no cp) room c L) (fun _ _ h k => h.below k) (by kernel_rfl) HC.out (a' := ?_) (fun wz hz => ?_) fun wz hz => ?_
  rotate_left
  · have hzz := fun (dd : Nat) (os : Array Obj) => hz.below (below_regrown wz dd os)
    have l1 := fun (dd : Nat) (os : Array Obj) => ld_tlC (b := rb) (o := 18) ((hzz dd os).blk.cell 18)
    have l2 := fun (dd : Nat) (os : Array Obj) => RcM.ld_p (hzz dd os) HX.out
    have l3 := fun (dd : Nat) (os : Array Obj) => ld_iC (b := g) (o := i * 22 + 12) (z := x.told) ((hzz dd os).cell HX.out (j := 12) rfl)
    have l4 := fun wx => bd_upd wx (x.p.1 : Int) x.p.2 x.told
    have l5 := fun wx => bd_tl wx (q : Int) (x.p.1 : Int) x.p.2 x.told
    clear hz hzz
    simp only [pick_nil, pick_tt, pick_ft, List.take_succ_cons, List.take_zero, List.drop_succ_cons, List.drop_zero, List.append_nil]
    repeat (go_big_quiet_step (fail))
    refine wpQuiet_nil ?_
    rfl
  simp only [pick_nil, pick_ff, pick_tf, List.take_succ_cons, List.take_zero, List.drop_succ_cons, List.drop_zero, List.append_nil]
  have HZ := Lib.hid hz
  have hoz : OutM wz B (.slice A no cp) o := by rw [HNO.out]; exact own_below HO1.out hz
  have HOZ := Lib.hid hoz
  unfold OutM at hoz
  rw [← HNO.out] at hoz
  clear hz
  refine wpMix_push (fun _ _ h k => h.below k) (HC.out.below HZ.out) 56 [.int .i64 (q : Int), .int .u32 (x.p.1 : Int), .int .i64 x.p.2, .int .i64 x.told] rfl (fun w' => by go_simp) rfl (.tmp 10) (.tmp 22) _ rfl rfl B i0 _ 4 32 Try.underlying29 hi hz0 hz1 hz2 rfl (by decide) (.slice A no cp) no _ (fun _ => rfl) (fun _ => rfl) hoz rfl (by simp [Value.oneCell']) hmx hmb (Nat.le_trans hB HZ.out.size) fun gq v2 w2 h2 hg2 h3 => ?_
  have hcz := HC.out.below HZ.out
  obtain ⟨m1, m2⟩ := hcz.neOut (o := o) HOZ.out
  have hu2 : Upd (fun k => (Value.slice A no cp).ownBlock = some k) w w2 := (Upd.ofBelow HZ.out _).grown hg2 fun k hk => .inl hk
  have hc2 : RcM w2 D rb (avL g L.length cap) (.slice A no cp) room c L := HC.out.same (hu2.same fun k hk hk2 => by
    rcases hk2 with e | e
    · exact m1 (by rw [hk, e])
    · exact m2 k hk e)
  obtain ⟨A2, c2, rfl, _⟩ := own_form h2
  refine wpMix_step hc2 fun w3 hw3 => ?_
  have hc3 := hc2.below hw3
  have hu3 := hu2.trans_ (Upd.ofBelow hw3 _)
  have h3r := own_below h2 hw3
  have st := st_tlC (hc3.blk.cell 18) (hc3.blk.frozen 18) A2 (no + 1) c2
  have HC3 := Lib.hid hc3
  have HU3 := Lib.hid hu3
  have HR3 := Lib.hid h3r
  have HOWN := Lib.hid (show ∀ j, (Value.slice A2 (no + 1) c2).ownBlock = some j → (Value.slice A no cp).ownBlock = some j ∨ w.heap.size ≤ j from fun j hj => by
    rcases h3 with h3 | ⟨gx, h3, h4⟩
    · exact .inl (h3.symm.trans hj)
    · rw [h3] at hj
      injection hj with hj
      have := HZ.out.size
      exact .inr (by omega))
  clear hcz m1 m2 hc2 hu2 hw3 hc3 hu3 h3r h2 hg2 h3 hoz
  go_wp2_with fail
  refine wpMix_plain ?_
  go_wp2_with fail
  clear st
  obtain ⟨W4, hW4⟩ : ∃ Z, Z = w3.setCell ⟨rb, 18, none⟩ (.slice A2 (no + 1) c2) := ⟨_, rfl⟩
  rw [← hW4]
  have hk4 : Blk W4 rb 77 (rcC room c (avL g L.length cap) (.slice A2 (no + 1) c2)) := by rw [hW4]; exact HC3.out.blk.set_ 18 _
  have hu34 : Upd (only rb) w3 W4 := by rw [hW4]; exact upd_set _ _ _ _
  have hu4 : Upd (fun k => k = rb ∨ (Value.slice A no cp).ownBlock = some k) w W4 := (HU3.out.mono fun k hk => .inl (.inr hk)).trans_ (hu34.mono fun k (hk : k = rb) => .inl (.inl hk))
  have hc4 : RcM W4 D rb (avL g L.length cap) (.slice A2 (no + 1) c2) room c L := HC3.out.core hk4 hu34 fun k hk (e : k = rb) => HNE.out.1 (e.symm.trans (avL_own.1 hk).symm)
  have hr4 : W4.ownsRow B 56 4 (.slice A2 (no + 1) c2) (no + 1) (flatT (o ++ [(q, x.p, x.told)])) := by
    rw [hW4, flatT_snoc]
    exact ownsRow_setCell_other (a := ⟨rb, 18, none⟩) HR3.out (own_blk_ne HR3.out HC3.out.blk (by decide)) _
  have haw' : (W4.drew).cell? ⟨g, i * 22 + (14 + q), none⟩ = some (.int .i64 ((x.aw q : Nat) : Int)) := hc4.cell HX.out (reC_aw x HQ.out)
  rw [← Nat.add_assoc] at haw'
  have haf : (W4.drew).frozen? ⟨g, i * 22 + 14 + q, none⟩ = false := hc4.frozen _
  have lw := ld_iC haw'
  have sw := st_iC haw' haf (((x.aw q : Nat) : Int) + 1)
  have HC4 := Lib.hid hc4
  have HU4 := Lib.hid hu4
  have HR4 := Lib.hid hr4
  clear hW4 hk4 hc4 hu4 hu34 hr4 haw' haf hi hz0 hz1 hz2
  have hwr : IntKind.i64.wrap (((x.aw q : Nat) : Int) + 1) = ((x.aw q : Nat) : Int) + 1 := IntWalk.i64_in _ ⟨by omega, by omega⟩
  go_still_tail 10, (by kernel_rfl)
  go_wp2_with fail
  go_end0
  obtain ⟨W5, hW5⟩ : ∃ Z, Z = W4.setCell ⟨g, i * 22 + 14 + q, none⟩ (.int .i64 (((x.aw q : Nat) : Int) + 1)) := ⟨_, rfl⟩
  rw [← hW5]
  have hc5 : RcM W5 D rb (avL g L.length cap) (.slice A2 (no + 1) c2) room c (L.set i { x with aw := setN x.aw q (x.aw q + 1) }) := by
    rw [hW5, Nat.add_assoc]
    exact HC4.out.put HX.out (by have := HQ.out; omega) (reC_set_aw x HQ.out (x.aw q + 1))
  have hu45 : Upd (only g) W4 W5 := by rw [hW5]; exact upd_set _ _ _ _
  have hor : W5.ownsRow B 56 4 (.slice A2 (no + 1) c2) (no + 1) (flatT (o ++ [(q, x.p, x.told)])) := by
    rw [hW5]
    exact ownsRow_setCell_other (a := ⟨g, i * 22 + 14 + q, none⟩) HR4.out (fun e => (HC4.out.neOut (o := o ++ [(q, x.p, x.told)]) (by unfold OutM; rw [List.length_append, List.length_singleton, ← HNO.out]; exact HR4.out)).2 g e (avL_own.2 rfl)) _
  refine ⟨rfl, .slice A2 (no + 1) c2, ?_, ?_, ?_, fun j hj => ?_⟩
  · exact hc5.below (w' := W5.drew) ⟨rfl, rfl, rfl, Nat.le_refl _, fun _ _ => rfl⟩
  · unfold OutM
    rw [List.length_append, List.length_singleton, ← HNO.out]
    exact own_keep hor (Same.ofHeap _ rfl) fun _ e => e
  · refine ((HU4.out.mono fun k hk => .inl ?_).trans_ (hu45.mono fun k (hk : k = g) => .inl (.inr (.inl hk)))).drew
    rcases hk with hk | hk
    · exact .inl hk
    · exact .inr (.inr (by rw [← HNO.out]; exact hk))
  · rcases HOWN.out j hj with h | h
    · exact .inl (.inr (.inr (by rw [← HNO.out]; exact h)))
    · exact .inr h
end Go.Proofs.Ytahdjfegihnolaa
namespace Go.Proofs.Ytahdjfegihnolaa
open Go.RowKit Go.Sort
theorem set_self {α : Type} {L : List α} {i : Nat} {x : α} (h : L[i]? = some x) : L.set i x = L := by
  obtain ⟨hi, rfl⟩ := List.getElem?_eq_some_iff.1 h
  exact List.set_getElem_self hi
theorem get_set {α : Type} {L : List α} {i : Nat} {x y : α} (h : L[i]? = some x) : (L.set i y)[i]? = some y := by
  obtain ⟨hi, rfl⟩ := List.getElem?_eq_some_iff.1 h
  simp [hi]
theorem tell0_lt {c : Pc} {x : Le} {d : Int} (hd : d = distF c x) (h : d < x.told) : ({ ({ x with feas := d } : Le) with told := d } : Le) = tellK c x 0 := by
  rw [tellK_zero, ← hd, show min x.told d = d by omega]
theorem tell0_ge {c : Pc} {x : Le} {d : Int} (hd : d = distF c x) (h : ¬ d < x.told) : ({ ({ x with feas := x.told } : Le) with told := d } : Le) = tellK c x 0 := by
  rw [tellK_zero, ← hd, show min x.told d = x.told by omega]
section
variable {w w' : World} {rb g cap B D : Nat} {ov : Value} {room : Int} {c : Pc} {L : List Le} {i : Nat} {x y : Le} {o : List Tl}
/-- An entry turns by one store. -/
theorem RlM.set1 {W : World} {U : Nat → Prop} (m : RlM w rb B D (avL g L.length cap) room c L o W ov U) (hU : U g) (hx : L[i]? = some x) {j : Nat} {u : Value} (hj : j < 22) (he : (reC x).set j u = reC y) :
    RlM w rb B D (avL g L.length cap) room c (L.set i y) o (W.setCell ⟨g, i * 22 + j, none⟩ u) ov U :=
  ⟨m.com.put hx hj he, ownsRow_setCell_other (a := ⟨g, i * 22 + j, none⟩) m.out (fun e => (m.com.neOut m.out).2 g e (avL_own.2 rfl)) _, m.upd.trans (upd_set W g _ u) fun k (e : k = g) => .inl (e ▸ hU), m.own⟩
theorem RlM.below {av : Value} {W W' : World} {U : Nat → Prop} (m : RlM w rb B D av room c L o W ov U) (hb : Below W.heap.size W W') : RlM w rb B D av room c L o W' ov U :=
  ⟨m.com.below hb, own_below m.out hb, m.upd.trans_ (Upd.ofBelow hb _), m.own⟩
theorem RcM.toRl {av : Value} (h : RcM w D rb av ov room c L) (ho : OutM w B ov o) {U : Nat → Prop} (hU : ∀ j, ov.ownBlock = some j → U j) : RlM w rb B D av room c L o w ov U :=
  ⟨h, ho, Upd.refl _ _, fun j hj => .inl (hU j hj)⟩
end
set_option maxRecDepth 100000 in
set_option maxHeartbeats 4000000 in
attribute [-go_sem] Instr.storeAt Instr.loadAt in
theorem look12_act {w : World} {rb g cap B D : Nat} {ov : Value} {room : Int} {c : Pc} {L : List Le} (h : RcM w D rb (avL g L.length cap) ov room c L) (hpc : PcOk c) {i : Nat} {x : Le} (hx : L[i]? = some x) (hew : EW c x) {o : List Tl} (ho : OutM w B ov o) (hact : actF x = true) :
    Calls Try.prog 41 #[.pointer (some ⟨rb, 0, none⟩), .int .i64 (i : Int)] w
      (Tell12 w rb B D (avL g L.length cap) room c (L.set i { x with feas := min x.feas (distF c x) }) o (RkU rb g ov)) := by
  have hi : i < L.length := (List.getElem?_eq_some_iff.1 hx).1
  have l0 := ld_all (h.blk.cell 17)
  have l1 := RcM.ld h hx
  have HDI := Lib.hid (distance12_any h.blk x hew.s hpc.b)
  have HAC := Lib.hid (fun wx => active12_any x wx)
  have hbd := dist_bd (x := x) (fun q => (hpc.b q).1) fun q => (hew.s q).1
  rw [hact] at HAC
  have HM := Lib.hid (h.toRl (U := RkU rb g ov) ho fun j hj => .inr (.inr hj))
  have HX := Lib.hid hx
  have hf := hew.f
  obtain ⟨d, hd⟩ : ∃ d, d = distF c x := ⟨_, rfl⟩
  rw [← hd] at HDI hbd ⊢
  obtain ⟨n, hn⟩ : ∃ n, n = L.length := ⟨_, rfl⟩
  rw [← hn] at HM hi ⊢
  rw [show (L.length : Nat) = n from hn.symm] at l0
  have HN := Lib.hid hn
  have hi0 : (0 : Int) ≤ i := by omega
  have hi1 : (i : Int) < n := by omega
  clear h ho hx hew hpc hact hd hn
  by_cases hlt : d < x.feas
  all_goals
    go_enter Try.func41, Try.ntmps41
    go_wp2_with fail
    go_at_call 47
    refine HDI.out.mono ?_
    rintro e w2 ⟨rfl, hb2⟩
    have m2 := HM.out.below hb2
    have le2 := RcM.ld (by rw [HN.out] at m2; exact m2.com) HX.out
    have HM2 := Lib.hid m2
    clear m2 hb2 l0 l1
    go_wp2_with fail
    refine wp_loop_rounds 1 ?_
    rw [rounds_succ]
    go_wp2_with fail
    go_at_call 46
    refine (HAC.out w2).mono ?_
    rintro e w3 ⟨rfl, hb3⟩
    have m3 := HM2.out.below hb3
    rw [HN.out] at m3
    have lf := ld_iC (b := g) (o := i * 22 + 13) (z := x.feas) (m3.com.cell HX.out (j := 13) rfl)
    have sf := fun z => st_iC (m3.com.cell HX.out (j := 13) rfl) (m3.com.frozen _) z
    have HM3 := Lib.hid m3
    clear m3 hb3 le2
  · have hd1 : decide (d < x.feas) = true := decide_eq_true hlt
    have HMIN := Lib.hid (show min x.feas d = d by omega)
    clear hlt
    go_wp2_with fail
    go_end0
    refine ⟨rfl, ov, ?_⟩
    rw [HN.out, HMIN.out]
    exact HM3.out.set1 (.inr (.inl rfl)) HX.out (by omega) (reC_set_feas x d)
  · have hd1 : decide (d < x.feas) = false := decide_eq_false (by omega)
    have HMIN := Lib.hid (show min x.feas d = x.feas by omega)
    clear hlt
    go_wp2_with fail
    go_end0
    refine ⟨rfl, ov, ?_⟩
    rw [HN.out, HMIN.out]
    have : L.set i { x with feas := x.feas } = L := set_self HX.out
    rw [this]
    exact HM3.out
set_option maxRecDepth 100000 in
set_option maxHeartbeats 4000000 in
attribute [-go_sem] Instr.storeAt Instr.loadAt in
theorem look12_same {w : World} {rb g cap B D : Nat} {ov : Value} {room : Int} {c : Pc} {L : List Le} (h : RcM w D rb (avL g L.length cap) ov room c L) (hpc : PcOk c) {i : Nat} {x : Le} (hx : L[i]? = some x) (hew : EW c x) {o : List Tl} (ho : OutM w B ov o) (hact : actF x = false) (hsame : distF c x = x.told) :
    Calls Try.prog 41 #[.pointer (some ⟨rb, 0, none⟩), .int .i64 (i : Int)] w
      (Tell12 w rb B D (avL g L.length cap) room c (L.set i { x with feas := x.told }) o (RkU rb g ov)) := by
  have hi : i < L.length := (List.getElem?_eq_some_iff.1 hx).1
  have l0 := ld_all (h.blk.cell 17)
  have l1 := RcM.ld h hx
  have HDI := Lib.hid (distance12_any h.blk x hew.s hpc.b)
  have HAC := Lib.hid (fun wx => active12_any x wx)
  have hbd := dist_bd (x := x) (fun q => (hpc.b q).1) fun q => (hew.s q).1
  have htd := hew.t
  rw [hact] at HAC
  have HM := Lib.hid (h.toRl (U := RkU rb g ov) ho fun j hj => .inr (.inr hj))
  have HX := Lib.hid hx
  have hf := hew.f
  rw [hsame] at HDI
  obtain ⟨n, hn⟩ : ∃ n, n = L.length := ⟨_, rfl⟩
  rw [← hn] at HM hi ⊢
  rw [show (L.length : Nat) = n from hn.symm] at l0
  have HN := Lib.hid hn
  have hi0 : (0 : Int) ≤ i := by omega
  have hi1 : (i : Int) < n := by omega
  clear h ho hx hew hpc hact hsame hn hbd
  go_enter Try.func41, Try.ntmps41
  go_wp2_with fail
  go_at_call 47
  refine HDI.out.mono ?_
  rintro e w2 ⟨rfl, hb2⟩
  have m2 := HM.out.below hb2
  have le2 := RcM.ld (by rw [HN.out] at m2; exact m2.com) HX.out
  have HM2 := Lib.hid m2
  clear m2 hb2 l0 l1
  go_wp2_with fail
  refine wp_loop_rounds 1 ?_
  rw [rounds_succ]
  go_wp2_with fail
  go_at_call 46
  refine (HAC.out w2).mono ?_
  rintro e w3 ⟨rfl, hb3⟩
  have m3 := HM2.out.below hb3
  rw [HN.out] at m3
  have HM3 := Lib.hid m3
  clear m3 hb3 le2
  have lt := ld_iC (b := g) (o := i * 22 + 12) (z := x.told) (HM3.out.com.cell HX.out (j := 12) rfl)
  have sf := fun z => st_iC (HM3.out.com.cell HX.out (j := 13) rfl) (HM3.out.com.frozen _) z
  have m4 := HM3.out.set1 (.inr (.inl rfl)) HX.out (by omega) (reC_set_feas x x.told)
  obtain ⟨W4, hW4⟩ : ∃ Z, Z = w3.setCell ⟨g, i * 22 + 13, none⟩ (.int .i64 x.told) := ⟨_, rfl⟩
  rw [← hW4] at m4
  have lt4 := ld_iC (b := g) (o := i * 22 + 12) (z := x.told) ((show RcM W4 D rb (avL g (L.set i { x with feas := x.told }).length cap) ov room c (L.set i { x with feas := x.told }) by rw [List.length_set]; exact m4.com).cell (get_set HX.out) (j := 12) rfl)
  have HM4 := Lib.hid m4
  have hW4' := hW4.symm
  clear m4 hW4
  go_wp2_with fail
  go_end0
  refine ⟨rfl, ov, ?_⟩
  rw [HN.out]
  exact HM4.out
set_option maxRecDepth 100000 in
set_option maxHeartbeats 4000000 in
attribute [-go_sem] Instr.storeAt Instr.loadAt in
theorem look12_turn {w : World} {rb g cap B D : Nat} {ov : Value} {room : Int} {c : Pc} {L : List Le} (h : RcM w D rb (avL g L.length cap) ov room c L) (hpc : PcOk c) {i : Nat} {x : Le} (hx : L[i]? = some x) (hew : EW c x) {o : List Tl} (ho : OutM w B ov o) (hB : B ≤ w.heap.size) (hlen : o.length ≤ 900000) (hact : actF x = false) (hne : distF c x ≠ x.told) :
    Calls Try.prog 41 #[.pointer (some ⟨rb, 0, none⟩), .int .i64 (i : Int)] w
      (Tell12 w rb B D (avL g L.length cap) room c (L.set i (lookF c x).1) (o ++ (lookF c x).2) (RkU rb g ov)) := by
  have hi : i < L.length := (List.getElem?_eq_some_iff.1 hx).1
  have l0 := ld_all (h.blk.cell 17)
  have l1 := RcM.ld h hx
  have HDI := Lib.hid (distance12_any h.blk x hew.s hpc.b)
  have HAC := Lib.hid (fun wx => active12_any x wx)
  have hbd := dist_bd (x := x) (fun q => (hpc.b q).1) fun q => (hew.s q).1
  have htd := hew.t
  rw [hact] at HAC
  have HM := Lib.hid (h.toRl (U := RkU rb g ov) ho fun j hj => .inr (.inr hj))
  have HX := Lib.hid hx
  have hf := hew.f
  obtain ⟨n, hn⟩ : ∃ n, n = L.length := ⟨_, rfl⟩
  rw [← hn] at HM hi ⊢
  rw [show (L.length : Nat) = n from hn.symm] at l0
  have HN := Lib.hid hn
  have hi0 : (0 : Int) ≤ i := by omega
  have hi1 : (i : Int) < n := by omega
  have HEW := Lib.hid hew
  have HPC := Lib.hid hpc
  have HACT := Lib.hid hact
  have HNE := Lib.hid hne
  have HBS := Lib.hid hB
  have HLEN := Lib.hid hlen
  obtain ⟨d, hd⟩ : ∃ d, d = distF c x := ⟨_, rfl⟩
  rw [← hd] at HDI hbd
  have HD := Lib.hid hd
  have hdt : (d == x.told) = false := by rw [beq_eq_false_iff_ne, hd]; exact hne
  clear h ho hx hew hpc hact hne hn hd hB hlen
  go_enter Try.func41, Try.ntmps41
  go_wp2_with fail
  go_at_call 47
  refine HDI.out.mono ?_
  rintro e w2 ⟨rfl, hb2⟩
  have m2 := HM.out.below hb2
  have le2 := RcM.ld (by rw [HN.out] at m2; exact m2.com) HX.out
  have HM2 := Lib.hid m2
  clear m2 hb2 l0 l1
  go_wp2_with fail
  refine wp_loop_rounds 2 ?_
  rw [rounds_succ]
  go_wp2_with fail
  go_at_call 46
  refine (HAC.out w2).mono ?_
  rintro e w3 ⟨rfl, hb3⟩
  have m3 := HM2.out.below hb3
  rw [HN.out] at m3
  have HM3 := Lib.hid m3
  clear m3 hb3 le2
  have lt := ld_iC (b := g) (o := i * 22 + 12) (z := x.told) (HM3.out.com.cell HX.out (j := 12) rfl)
  have sf := fun z => st_iC (HM3.out.com.cell HX.out (j := 13) rfl) (HM3.out.com.frozen _) z
  have m4 := HM3.out.set1 (.inr (.inl rfl)) HX.out (by omega) (reC_set_feas x x.told)
  obtain ⟨W4, hW4⟩ : ∃ Z, Z = w3.setCell ⟨g, i * 22 + 13, none⟩ (.int .i64 x.told) := ⟨_, rfl⟩
  rw [← hW4] at m4
  have hl4 : (L.set i { x with feas := x.told }).length = L.length := List.length_set
  have c4 : RcM W4 D rb (avL g (L.set i { x with feas := x.told }).length cap) ov room c (L.set i { x with feas := x.told }) := by rw [hl4]; exact m4.com
  have lt4 := ld_iC (b := g) (o := i * 22 + 12) (z := x.told) (c4.cell (get_set HX.out) (j := 12) rfl)
  have sf4 := fun z => st_iC (c4.cell (get_set HX.out) (j := 13) rfl) (c4.frozen (i * 22 + 13)) z
  have st4 := fun z => st_iC (c4.cell (get_set HX.out) (j := 12) rfl) (c4.frozen (i * 22 + 12)) z
  have m5 := (show RlM w rb B D (avL g (L.set i { x with feas := x.told }).length cap) room c (L.set i { x with feas := x.told }) o W4 ov (RkU rb g ov) by rw [hl4]; exact m4).set1 (.inr (.inl rfl)) (get_set HX.out) (by omega) (reC_set_feas { x with feas := x.told } d)
  obtain ⟨W5, hW5⟩ : ∃ Z, Z = W4.setCell ⟨g, i * 22 + 13, none⟩ (.int .i64 d) := ⟨_, rfl⟩
  rw [← hW5, List.set_set, hl4] at m5
  have hl5 : (L.set i { x with feas := d }).length = L.length := List.length_set
  have c5 : RcM W5 D rb (avL g (L.set i { x with feas := d }).length cap) ov room c (L.set i { x with feas := d }) := by rw [hl5]; exact m5.com
  have lt5 := ld_iC (b := g) (o := i * 22 + 12) (z := x.told) (c5.cell (get_set HX.out) (j := 12) rfl)
  have st5 := fun z => st_iC (c5.cell (get_set HX.out) (j := 12) rfl) (c5.frozen (i * 22 + 12)) z
  have HM4 := Lib.hid m4
  have HM5 := Lib.hid m5
  have hW4' := hW4.symm
  have hW5' := hW5.symm
  clear m4 m5 hW4 hW5 c4 c5 hl4 hl5
  obtain ⟨t, ht⟩ : ∃ t, t = x.told := ⟨_, rfl⟩
  have HT := Lib.hid ht
  rw [← ht] at hdt lt lt4 lt5 htd hf hW4'
  clear ht
  by_cases hlt : d < t
  · have hd1 : decide (d < t) = true := decide_eq_true hlt
    have HLT := Lib.hid hlt
    clear hlt 
    go_upto_region 8 with (fail)
    obtain ⟨W6, hW6⟩ : ∃ Z, Z = W5.setCell ⟨g, i * 22 + 12, none⟩ (.int .i64 d) := ⟨_, rfl⟩
    rw [← hW6]
    have m6 := (show RlM w rb B D (avL g (L.set i ({ x with feas := d } : Le)).length cap) room c (L.set i ({ x with feas := d } : Le)) o W5 ov (RkU rb g ov) by rw [List.length_set]; exact HM5.out).set1 (.inr (.inl rfl)) (get_set HX.out) (by omega) (reC_set_told ({ x with feas := d } : Le) d)
    rw [← hW6, List.set_set, List.length_set, show ({ ({ x with feas := d } : Le) with told := d } : Le) = tellK c x 0 from tell0_lt HD.out (by have := HLT.out; have := HT.out; omega)] at m6
    have HM6 := Lib.hid m6
    clear m6 hW6 sf lt lt4 lt5 sf4 st4 st5 hW4' hW5' HM3 HM4 HM5 HM2 HM HDI hd1
    go_wp2_with fail
    go_loopw [6] (fun s6 wr => ∃ (k : Nat) (ov2 : Value), k ≤ 8 ∧ s6 = .int .i64 (k : Int) ∧ RlM w rb B D (avL g n cap) room c (L.set i (tellK c x k)) (o ++ tellO c x k) wr ov2 (RkU rb g ov)) (fun s6 _ => 8 - (intOf s6).toNat)
    case atStart => exact ⟨0, ov, by omega, rfl, by rw [show tellO c x 0 = [] from rfl, List.append_nil, HN.out]; exact HM6.out⟩
    case round =>
      obtain ⟨k, ov2, hk, rfl, hM⟩ := hrel
      have HMk := Lib.hid hM
      have hM2 : RlM w rb B D (avL g (L.set i (tellK c x k)).length cap) room c (L.set i (tellK c x k)) (o ++ tellO c x k) wr ov2 (RkU rb g ov) := by rw [List.length_set, ← HN.out]; exact hM
      by_cases hk8 : k < 8
      · have k0 : (0 : Int) ≤ k := by omega
        have k1 : (k : Int) < 8 := by omega
        have u1 := ld_bC (rcell_up hM2.com.blk hk8)
        cases hu : c.up k with
        | false =>
          rw [hu] at u1
          have HTK := Lib.hid (tellK_no (x := x) hu)
          have HTO := Lib.hid (tellO_no (x := x) hu)
          clear hM hM2 hu
          go_wp2_with fail
          go_roundw
          case rel => exact ⟨k + 1, ov2, by omega, by go_num, by rw [HTK.out, HTO.out]; exact HMk.out⟩
          case measure => simp [intOf]; omega
        | true =>
          rw [hu] at u1
          have HTK := Lib.hid (tellK_yes (x := x) hu)
          have HTO := Lib.hid (tellO_yes (x := x) hu)
          have htl := tell12_any (B := B) hM2.com (get_set HX.out) hk8 hM2.out (by have := hM2.upd.size; have := HBS.out; omega) (by have := tellO_len c x k; have := HLEN.out; rw [List.length_append]; omega) (by rw [tellK_aw]; have := HEW.out.aw k; omega)
          rw [List.set_set] at htl
          have HTL := Lib.hid htl
          clear hM hM2 hu htl
          go_wp2_with (go_at_call 40; refine HTL.out.mono ?_; rintro e w7 ⟨rfl, ov3, hm⟩; have HM7 := Lib.hid hm; clear hm)
          go_roundw
          case rel =>
            have hm := HM7.out
            rw [List.length_set, ← HN.out, List.append_assoc] at hm
            refine ⟨k + 1, ov3, by omega, by go_num, ?_⟩
            rw [HTK.out, HTO.out]
            refine HMk.out.trans hm fun j hj => ?_
            rcases hj with hj | hj | hj
            · exact .inl (.inl hj)
            · exact .inl (.inr (.inl hj))
            · exact HMk.out.own j hj
          case measure => simp [intOf]; omega
      · obtain rfl : k = 8 := by omega
        have le7 := RcM.ld hM2.com (get_set HX.out)
        by_cases hups : upsF c = []
        · have hna : actF (tellK c x 8) = false := tellK_act0 HACT.out hups
          have hla := tellK_none HACT.out HNE.out hups
          have hac := fun wx => active12_any (tellK c x 8) wx
          rw [hna] at hac
          have HA := Lib.hid hac
          have HM8 := Lib.hid hM2
          have HLA := Lib.hid hla
          have HDD := Lib.hid (show (tellK c x 8).told = d from HD.out.symm)
          clear hM hM2 hna hac hla hups hk8 hk
          go_wp2_with fail
          go_at_call 46
          refine (HA.out wr).mono ?_
          rintro e w8 ⟨rfl, hb8⟩
          have m8 := HM8.out.below hb8
          have le8 := RcM.ld m8.com (get_set HX.out)
          have HM9 := Lib.hid m8
          clear le7 hb8 m8
          go_wp2_with fail
          rw [rounds_succ]
          go_wp2_with fail
          go_at_call 46
          refine (HA.out w8).mono ?_
          rintro e w9 ⟨rfl, hb9⟩
          have m9 := HM9.out.below hb9
          have lt9 := ld_iC (b := g) (o := i * 22 + 12) (z := (tellK c x 8).told) (m9.com.cell (get_set HX.out) (j := 12) rfl)
          have sf9 := fun z => st_iC (m9.com.cell (get_set HX.out) (j := 13) rfl) (m9.com.frozen (i * 22 + 13)) z
          have m10 := m9.set1 (.inr (.inl rfl)) (get_set HX.out) (by omega) (reC_set_feas (tellK c x 8) (tellK c x 8).told)
          rw [List.set_set, List.length_set] at m10
          obtain ⟨W10, hW10⟩ : ∃ Z, Z = w9.setCell ⟨g, i * 22 + 13, none⟩ (.int .i64 (tellK c x 8).told) := ⟨_, rfl⟩
          rw [← hW10] at m10
          have lt10 := ld_iC (b := g) (o := i * 22 + 12) (z := (tellK c x 8).told) ((show RcM W10 D rb (avL g (L.set i { tellK c x 8 with feas := (tellK c x 8).told }).length cap) ov2 room c (L.set i { tellK c x 8 with feas := (tellK c x 8).told }) by rw [List.length_set]; exact m10.com).cell (get_set HX.out) (j := 12) rfl)
          rw [HDD.out] at lt9 lt10 hW10
          have hW10' := hW10.symm
          have HM10 := Lib.hid m10
          clear le8 hb9 m9 m10 hW10
          go_wp2_with fail
          go_end0
          refine ⟨rfl, ov2, ?_⟩
          rw [HLA.out, HN.out]
          exact HM10.out
        · have hna : actF (tellK c x 8) = true := tellK_act1 hups
          have hla := tellK_some HACT.out HNE.out hups
          have hac := fun wx => active12_any (tellK c x 8) wx
          rw [hna] at hac
          have HA := Lib.hid hac
          have HLA := Lib.hid hla
          clear hM hM2 hna hac hla hups hk8 hk
          go_wp2_with fail
          go_at_call 46
          refine (HA.out wr).mono ?_
          rintro e w8 ⟨rfl, hb8⟩
          have HM8 := Lib.hid (HMk.out.below hb8)
          clear le7 hb8
          go_wp2_with fail
          go_end0
          refine ⟨rfl, ov2, ?_⟩
          rw [HLA.out]
          exact HM8.out
  · have hd1 : decide (d < t) = false := decide_eq_false hlt
    have HLT := Lib.hid hlt
    clear hlt 
    go_upto_region 8 with (fail)
    obtain ⟨W6, hW6⟩ : ∃ Z, Z = W4.setCell ⟨g, i * 22 + 12, none⟩ (.int .i64 d) := ⟨_, rfl⟩
    rw [← hW6]
    have m6 := (show RlM w rb B D (avL g (L.set i ({ x with feas := x.told } : Le)).length cap) room c (L.set i ({ x with feas := x.told } : Le)) o W4 ov (RkU rb g ov) by rw [List.length_set]; exact HM4.out).set1 (.inr (.inl rfl)) (get_set HX.out) (by omega) (reC_set_told ({ x with feas := x.told } : Le) d)
    rw [← hW6, List.set_set, List.length_set, show ({ ({ x with feas := x.told } : Le) with told := d } : Le) = tellK c x 0 from tell0_ge HD.out (by have := HLT.out; have := HT.out; omega)] at m6
    have HM6 := Lib.hid m6
    clear m6 hW6 sf lt lt4 lt5 sf4 st4 st5 hW4' hW5' HM3 HM4 HM5 HM2 HM HDI hd1
    go_wp2_with fail
    go_loopw [6] (fun s6 wr => ∃ (k : Nat) (ov2 : Value), k ≤ 8 ∧ s6 = .int .i64 (k : Int) ∧ RlM w rb B D (avL g n cap) room c (L.set i (tellK c x k)) (o ++ tellO c x k) wr ov2 (RkU rb g ov)) (fun s6 _ => 8 - (intOf s6).toNat)
    case atStart => exact ⟨0, ov, by omega, rfl, by rw [show tellO c x 0 = [] from rfl, List.append_nil, HN.out]; exact HM6.out⟩
    case round =>
      obtain ⟨k, ov2, hk, rfl, hM⟩ := hrel
      have HMk := Lib.hid hM
      have hM2 : RlM w rb B D (avL g (L.set i (tellK c x k)).length cap) room c (L.set i (tellK c x k)) (o ++ tellO c x k) wr ov2 (RkU rb g ov) := by rw [List.length_set, ← HN.out]; exact hM
      by_cases hk8 : k < 8
      · have k0 : (0 : Int) ≤ k := by omega
        have k1 : (k : Int) < 8 := by omega
        have u1 := ld_bC (rcell_up hM2.com.blk hk8)
        cases hu : c.up k with
        | false =>
          rw [hu] at u1
          have HTK := Lib.hid (tellK_no (x := x) hu)
          have HTO := Lib.hid (tellO_no (x := x) hu)
          clear hM hM2 hu
          go_wp2_with fail
          go_roundw
          case rel => exact ⟨k + 1, ov2, by omega, by go_num, by rw [HTK.out, HTO.out]; exact HMk.out⟩
          case measure => simp [intOf]; omega
        | true =>
          rw [hu] at u1
          have HTK := Lib.hid (tellK_yes (x := x) hu)
          have HTO := Lib.hid (tellO_yes (x := x) hu)
          have htl := tell12_any (B := B) hM2.com (get_set HX.out) hk8 hM2.out (by have := hM2.upd.size; have := HBS.out; omega) (by have := tellO_len c x k; have := HLEN.out; rw [List.length_append]; omega) (by rw [tellK_aw]; have := HEW.out.aw k; omega)
          rw [List.set_set] at htl
          have HTL := Lib.hid htl
          clear hM hM2 hu htl
          go_wp2_with (go_at_call 40; refine HTL.out.mono ?_; rintro e w7 ⟨rfl, ov3, hm⟩; have HM7 := Lib.hid hm; clear hm)
          go_roundw
          case rel =>
            have hm := HM7.out
            rw [List.length_set, ← HN.out, List.append_assoc] at hm
            refine ⟨k + 1, ov3, by omega, by go_num, ?_⟩
            rw [HTK.out, HTO.out]
            refine HMk.out.trans hm fun j hj => ?_
            rcases hj with hj | hj | hj
            · exact .inl (.inl hj)
            · exact .inl (.inr (.inl hj))
            · exact HMk.out.own j hj
          case measure => simp [intOf]; omega
      · obtain rfl : k = 8 := by omega
        have le7 := RcM.ld hM2.com (get_set HX.out)
        by_cases hups : upsF c = []
        · have hna : actF (tellK c x 8) = false := tellK_act0 HACT.out hups
          have hla := tellK_none HACT.out HNE.out hups
          have hac := fun wx => active12_any (tellK c x 8) wx
          rw [hna] at hac
          have HA := Lib.hid hac
          have HM8 := Lib.hid hM2
          have HLA := Lib.hid hla
          have HDD := Lib.hid (show (tellK c x 8).told = d from HD.out.symm)
          clear hM hM2 hna hac hla hups hk8 hk
          go_wp2_with fail
          go_at_call 46
          refine (HA.out wr).mono ?_
          rintro e w8 ⟨rfl, hb8⟩
          have m8 := HM8.out.below hb8
          have le8 := RcM.ld m8.com (get_set HX.out)
          have HM9 := Lib.hid m8
          clear le7 hb8 m8
          go_wp2_with fail
          rw [rounds_succ]
          go_wp2_with fail
          go_at_call 46
          refine (HA.out w8).mono ?_
          rintro e w9 ⟨rfl, hb9⟩
          have m9 := HM9.out.below hb9
          have lt9 := ld_iC (b := g) (o := i * 22 + 12) (z := (tellK c x 8).told) (m9.com.cell (get_set HX.out) (j := 12) rfl)
          have sf9 := fun z => st_iC (m9.com.cell (get_set HX.out) (j := 13) rfl) (m9.com.frozen (i * 22 + 13)) z
          have m10 := m9.set1 (.inr (.inl rfl)) (get_set HX.out) (by omega) (reC_set_feas (tellK c x 8) (tellK c x 8).told)
          rw [List.set_set, List.length_set] at m10
          obtain ⟨W10, hW10⟩ : ∃ Z, Z = w9.setCell ⟨g, i * 22 + 13, none⟩ (.int .i64 (tellK c x 8).told) := ⟨_, rfl⟩
          rw [← hW10] at m10
          have lt10 := ld_iC (b := g) (o := i * 22 + 12) (z := (tellK c x 8).told) ((show RcM W10 D rb (avL g (L.set i { tellK c x 8 with feas := (tellK c x 8).told }).length cap) ov2 room c (L.set i { tellK c x 8 with feas := (tellK c x 8).told }) by rw [List.length_set]; exact m10.com).cell (get_set HX.out) (j := 12) rfl)
          rw [HDD.out] at lt9 lt10 hW10
          have hW10' := hW10.symm
          have HM10 := Lib.hid m10
          clear le8 hb9 m9 m10 hW10
          go_wp2_with fail
          go_end0
          refine ⟨rfl, ov2, ?_⟩
          rw [HLA.out, HN.out]
          exact HM10.out
        · have hna : actF (tellK c x 8) = true := tellK_act1 hups
          have hla := tellK_some HACT.out HNE.out hups
          have hac := fun wx => active12_any (tellK c x 8) wx
          rw [hna] at hac
          have HA := Lib.hid hac
          have HLA := Lib.hid hla
          clear hM hM2 hna hac hla hups hk8 hk
          go_wp2_with fail
          go_at_call 46
          refine (HA.out wr).mono ?_
          rintro e w8 ⟨rfl, hb8⟩
          have HM8 := Lib.hid (HMk.out.below hb8)
          clear le7 hb8
          go_wp2_with fail
          go_end0
          refine ⟨rfl, ov2, ?_⟩
          rw [HLA.out]
          exact HM8.out
/-- A look at an entry. -/
theorem look12_any {w : World} {rb g cap B D : Nat} {ov : Value} {room : Int} {c : Pc} {L : List Le} (h : RcM w D rb (avL g L.length cap) ov room c L) (hpc : PcOk c) {i : Nat} {x : Le} (hx : L[i]? = some x) (hew : EW c x) {o : List Tl} (ho : OutM w B ov o) (hB : B ≤ w.heap.size) (hlen : o.length ≤ 900000) :
    Calls Try.prog 41 #[.pointer (some ⟨rb, 0, none⟩), .int .i64 (i : Int)] w
      (Tell12 w rb B D (avL g L.length cap) room c (L.set i (lookF c x).1) (o ++ (lookF c x).2) (RkU rb g ov)) := by
  by_cases ha : actF x = true
  · have := look12_act h hpc hx hew ho ha
    unfold lookF
    rw [if_pos ha, List.append_nil]
    exact this
  · have ha' : actF x = false := by simpa using ha
    by_cases hd : distF c x = x.told
    · have := look12_same h hpc hx hew ho ha' hd
      unfold lookF
      rw [if_neg ha, if_pos hd, List.append_nil]
      exact this
    · exact look12_turn h hpc hx hew ho hB hlen ha' hd
end Go.Proofs.Ytahdjfegihnolaa
namespace Go.Proofs.Ytahdjfegihnolaa
open Go.RowKit Go.Sort
/-- A list of which the first k have turned. -/
def mtL {α : Type} (f : α → α) (k : Nat) (L : List α) : List α := (L.take k).map f ++ L.drop k
section
variable {α : Type} {f : α → α} {k : Nat} {L : List α} {x : α}
theorem mtL_zero : mtL f 0 L = L := by simp [mtL]
theorem mtL_all : mtL f L.length L = L.map f := by simp [mtL]
theorem mtL_len : (mtL f k L).length = L.length := by unfold mtL; simp; omega
theorem mtL_get (h : L[k]? = some x) : (mtL f k L)[k]? = some x := by
  obtain ⟨hk, rfl⟩ := List.getElem?_eq_some_iff.1 h
  unfold mtL
  rw [List.getElem?_append_right (by simp; omega)]
  simp [Nat.min_eq_left (Nat.le_of_lt hk)]
theorem mtL_set (h : L[k]? = some x) : (mtL f k L).set k (f x) = mtL f (k + 1) L := by
  obtain ⟨hk, rfl⟩ := List.getElem?_eq_some_iff.1 h
  unfold mtL
  have h0 : k - ((L.take k).map f).length = 0 := by simp; omega
  have h1 : (L.drop k).set 0 (f L[k]) = f L[k] :: L.drop (k + 1) := by rw [List.drop_eq_getElem_cons hk]; rfl
  rw [List.set_append_right _ _ (by simp; omega), h0, h1, List.take_add_one, h, List.map_append]
  simp
theorem mtL_mem (h : L[k]? = some x) : x ∈ L := List.mem_of_getElem? h
end
theorem flat_take {α β : Type} {f : α → List β} {L : List α} {k : Nat} {x : α} (h : L[k]? = some x) : (L.take (k + 1)).flatMap f = (L.take k).flatMap f ++ f x := by
  rw [List.take_add_one, h, List.flatMap_append]; simp
theorem outs_len (c : Pc) (L : List Le) (k : Nat) : ((L.take k).flatMap fun x => (lookF c x).2).length ≤ 8 * L.length := by
  have : ∀ l : List Le, (l.flatMap fun x => (lookF c x).2).length ≤ 8 * l.length := fun l => by
    induction l with
    | nil => simp
    | cons a l ih =>
      have := lookF_len c a
      rw [List.flatMap_cons, List.length_append, List.length_cons]
      omega
  have h1 := this (L.take k)
  rw [List.length_take] at h1
  omega
section
variable {w w' : World} {rb g cap B D : Nat} {av ov : Value} {room : Int} {c : Pc} {L : List Le} {i : Nat} {x y : Le} {o : List Tl} {U : Nat → Prop} {W : World}
theorem RlM.monoU (m : RlM w rb B D av room c L o W ov U) {V : Nat → Prop} (h : ∀ k, U k → V k) : RlM w rb B D av room c L o W ov V :=
  ⟨m.com, m.out, m.upd.mono fun k hk => .inl (h k hk), fun j hj => (m.own j hj).imp (h j) id⟩
/-- The core's block turns. -/
theorem RlM.core (m : RlM w rb B D av room c L o W ov U) {c2 : Pc} {j : Nat} {u : Value} (hk : (rcC room c av ov).setIfInBounds j u = rcC room c2 av ov) (hU : U rb) : RlM w rb B D av room c2 L o (W.setCell ⟨rb, j, none⟩ u) ov U :=
  ⟨m.com.core (by rw [← hk]; exact m.com.blk.set_ j u) (upd_set W rb j u) fun k h1 (h2 : k = rb) => m.com.ne (by rw [h1, h2]), ownsRow_setCell_other (a := ⟨rb, j, none⟩) m.out ((m.com.neOut m.out).1) _, m.upd.trans (upd_set W rb j u) fun k (e : k = rb) => .inl (e ▸ hU), m.own⟩
/-- Where the entries stand. -/
theorem RlM.atg (m : RlM w rb B D av room c L o W ov U) (hn : 0 < L.length) : ∃ g cap, av = avL g L.length cap := by
  obtain ⟨g, cap, h, _⟩ := m.com.at_ hn
  exact ⟨g, cap, h⟩
end
/-- Looks at all from k on. -/
def LkAll (w : World) (rb B D : Nat) (av : Value) (room : Int) (c : Pc) (L : List Le) (o : List Tl) (U : Nat → Prop) (k : Nat) (wr : World) : Prop := ∃ ov, RlM w rb B D av room c (mtL (fun x => (lookF c x).1) k L) (o ++ (L.take k).flatMap fun x => (lookF c x).2) wr ov U
theorem LkAll.step {w wr w' : World} {rb g cap B D : Nat} {room : Int} {c : Pc} {L : List Le} {o : List Tl} {U : Nat → Prop} {k : Nat} {x : Le} {ov : Value} (hx : L[k]? = some x) (m : RlM w rb B D (avL g L.length cap) room c (mtL (fun x => (lookF c x).1) k L) (o ++ (L.take k).flatMap fun x => (lookF c x).2) wr ov U)
    (h : ∃ ov2, RlM wr rb B D (avL g L.length cap) room c ((mtL (fun x => (lookF c x).1) k L).set k (lookF c x).1) ((o ++ (L.take k).flatMap fun x => (lookF c x).2) ++ (lookF c x).2) w' ov2 (RkU rb g ov)) (h1 : U rb) (h2 : U g) : LkAll w rb B D (avL g L.length cap) room c L o U (k + 1) w' := by
  obtain ⟨ov2, h⟩ := h
  have e := mtL_set (f := fun x => (lookF c x).1) hx
  rw [e, List.append_assoc, ← flat_take (f := fun x => (lookF c x).2) hx] at h
  refine ⟨ov2, m.trans h fun j hj => ?_⟩
  rcases hj with rfl | rfl | hj
  · exact .inl h1
  · exact .inl h2
  · exact m.own j hj
set_option maxRecDepth 100000 in
set_option maxHeartbeats 4000000 in
attribute [-go_sem] Instr.storeAt Instr.loadAt in
theorem down12_any {w : World} {rb B D : Nat} {av ov : Value} {room : Int} {c : Pc} {L : List Le} (h : RcM w D rb av ov room c L) (hl : L.length ≤ 1024) (hpc : PcOk c) (hew : ∀ x ∈ L, EW c x) {q : Nat} (hq : q < 8) {o : List Tl} (ho : OutM w B ov o) (hB : B ≤ w.heap.size) (hlen : o.length ≤ 800000) :
    Calls Try.prog 39 #[.pointer (some ⟨rb, 0, none⟩), .int .i64 (q : Int)] w
      (Tell12 w rb B D av room (downF c q) (portDownF c L q).1 (o ++ (portDownF c L q).2) (RcU rb av ov)) := by
  obtain ⟨U, hU⟩ : ∃ U, U = RcU rb av ov := ⟨_, rfl⟩
  have HU1 := Lib.hid (show U rb by rw [hU]; exact .inl rfl)
  have HU2 := Lib.hid (show ∀ j, av.ownBlock = some j → U j from fun j hj => by rw [hU]; exact .inr (.inl hj))
  have m0 := h.toRl (U := U) ho fun j hj => by rw [hU]; exact .inr (.inr hj)
  rw [← hU]
  have s0 := st_bC (rcell_up h.blk hq) (h.blk.frozen _) false
  have m1 := m0.core (rcC_set_up room c av ov hq false) HU1.out
  obtain ⟨W1, hW1⟩ : ∃ Z, Z = w.setCell ⟨rb, 1 + q, none⟩ (.bool false) := ⟨_, rfl⟩
  rw [← hW1] at m1
  have s1 := st_iC (rcell_cost m1.com.blk hq) (m1.com.blk.frozen _) 0
  have m2 := m1.core (rcC_set_cost room _ av ov hq 0) HU1.out
  obtain ⟨W2, hW2⟩ : ∃ Z, Z = W1.setCell ⟨rb, 9 + q, none⟩ (.int .i64 0) := ⟨_, rfl⟩
  rw [← hW2] at m2
  have HM2 := Lib.hid (show RlM w rb B D av room (downF c q) L o W2 ov U from m2)
  have HPD := Lib.hid (pc_down hpc q)
  have HEW := Lib.hid (fun x hx => cut_ew (hew x hx) q)
  have HL := Lib.hid hl
  have HBS := Lib.hid hB
  have HLEN := Lib.hid hlen
  obtain ⟨A, cap, hav, _⟩ := h.len_le
  obtain ⟨n, hn⟩ : ∃ n, n = L.length := ⟨_, rfl⟩
  rw [← hn] at hl
  have HN := Lib.hid hn
  have HAV := Lib.hid hav
  have HQ := Lib.hid hq
  have hq0 : (0 : Int) ≤ q := by omega
  have hq1 : (q : Int) < 8 := by omega
  have hW1' := hW1.symm
  have hW2' := hW2.symm
  clear hU h hpc hew ho m0 m1 m2 hW1 hW2 hn hB hlen hav
  go_enter Try.func39, Try.ntmps39
  go_wp2_with fail
  clear s0 s1 hW1' hW2'
  go_loopw [4] (fun s4 wr => ∃ k : Nat, k ≤ n ∧ s4 = .int .i64 (k : Int) ∧ RlM w rb B D av room (downF c q) (mtL (cutE q) k L) o wr ov U) (fun s4 _ => n - (intOf s4).toNat)
  case atStart => exact ⟨0, Nat.zero_le _, rfl, by rw [mtL_zero]; exact HM2.out⟩
  case round =>
    obtain ⟨k, hk, rfl, hM⟩ := hrel
    have HM := Lib.hid hM
    have l0 := ld_all (w := wr) (b := rb) (A := A) (n := n) (c := cap) (by rw [HN.out, ← HAV.out]; exact hM.com.blk.cell 17)
    have hi0 : (0 : Int) ≤ k := by omega
    by_cases hlt : k < n
    · obtain ⟨x, hx⟩ : ∃ x, L[k]? = some x := ⟨_, List.getElem?_eq_getElem (by rw [← HN.out]; exact hlt)⟩
      have hxm := mtL_get (f := cutE q) hx
      obtain ⟨g, cap2, hg⟩ := hM.atg (by rw [mtL_len, ← HN.out]; omega)
      have hA : A = some ⟨g, 0, none⟩ ∧ cap = cap2 := by
        have e := HAV.out.symm.trans hg
        unfold avL at e
        injection e with e1 _ e2
        exact ⟨e1, e2⟩
      obtain ⟨rfl, rfl⟩ := hA
      rw [hg] at hM
      have hUg : U g := HU2.out g (by rw [hg]; rfl)
      have s2 := st_iC (hM.com.cell hxm (reC_said x HQ.out)) (hM.com.frozen _) 255
      have m3 := hM.set1 hUg hxm (by have := HQ.out; omega) (reC_set_said x HQ.out 255)
      rw [← Nat.add_assoc] at s2 m3
      obtain ⟨W3, hW3⟩ : ∃ Z, Z = wr.setCell ⟨g, k * 22 + 4 + q, none⟩ (.int .i64 255) := ⟨_, rfl⟩
      rw [← hW3] at m3
      have hl3 : ((mtL (cutE q) k L).set k { x with said := setAt x.said q 255 }).length = (mtL (cutE q) k L).length := List.length_set
      have m3' : RlM w rb B D (avL g ((mtL (cutE q) k L).set k { x with said := setAt x.said q 255 }).length cap) room (downF c q) ((mtL (cutE q) k L).set k { x with said := setAt x.said q 255 }) o W3 ov U := by rw [hl3]; exact m3
      have l3 := ld_all (w := W3) (b := rb) (A := some ⟨g, 0, none⟩) (n := n) (c := cap) (by rw [HN.out, ← HAV.out, hg]; exact m3.com.blk.cell 17)
      have s3 := st_iC (m3'.com.cell (get_set hxm) (reC_aw _ HQ.out)) (m3'.com.frozen _) 0
      have m4 := m3'.set1 hUg (get_set hxm) (by have := HQ.out; omega) (reC_set_aw _ HQ.out 0)
      rw [← Nat.add_assoc] at s3 m4
      rw [List.set_set, hl3] at m4
      have m5 := mtL_set (f := cutE q) hx
      unfold cutE at m5
      have HM5 := Lib.hid (show RlM w rb B D av room (downF c q) (mtL (cutE q) (k + 1) L) o (W3.setCell ⟨g, k * 22 + 14 + q, none⟩ (.int .i64 ((0 : Nat) : Int))) ov U by rw [hg]; unfold cutE; rw [← m5]; exact m4)
      have hi1 : (k : Int) < n := by omega
      have hW3' := hW3.symm
      clear hM hx hxm hUg m3 m3' m4 m5 hl3 hW3 hg
      go_wp2_with fail
      go_roundw
      case rel => exact ⟨k + 1, by omega, by go_num, HM5.out⟩
      case measure => simp [intOf]; omega
    · obtain rfl : k = n := by omega
      have hend : mtL (cutE q) k L = L.map (cutE q) := by rw [HN.out]; exact mtL_all
      have HE := Lib.hid hend
      clear hM hend
      go_wp2_with fail
      clear l0
      go_loopw [5] (fun s5 wr => ∃ j : Nat, j ≤ k ∧ s5 = .int .i64 (j : Int) ∧ LkAll w rb B D av room (downF c q) (L.map (cutE q)) o U j wr) (fun s5 _ => k - (intOf s5).toNat)
      case atStart => exact ⟨0, Nat.zero_le _, rfl, ov, by rw [mtL_zero, List.take_zero, List.flatMap_nil, List.append_nil, ← HE.out]; exact HM.out⟩
      case round =>
        rename_i wo _
        obtain ⟨j, hj, rfl, ov2, hM2⟩ := hrel
        have l0 := ld_all (w := wr) (b := rb) (A := A) (n := k) (c := cap) (by rw [HN.out, ← HAV.out]; exact hM2.com.blk.cell 17)
        have HM2' := Lib.hid hM2
        have hj0 : (0 : Int) ≤ j := by omega
        by_cases hjk : j < k
        · obtain ⟨x, hx⟩ : ∃ x, (L.map (cutE q))[j]? = some x := ⟨_, List.getElem?_eq_getElem (by rw [List.length_map, ← HN.out]; exact hjk)⟩
          have hxm := mtL_get (f := fun x => (lookF (downF c q) x).1) hx
          obtain ⟨g, cap2, hg⟩ := hM2.atg (by rw [mtL_len, List.length_map, ← HN.out]; omega)
          have hwx : EW (downF c q) x := by
            obtain ⟨y, hy, rfl⟩ := List.mem_map.1 (mtL_mem hx)
            exact HEW.out y hy
          rw [hg] at hM2
          have hlk := look12_any hM2.com HPD.out hxm hwx hM2.out (by have := hM2.upd.size; have := HBS.out; omega) (by have := outs_len (downF c q) (L.map (cutE q)) j; rw [List.length_map] at this; have := HLEN.out; have := HL.out; rw [List.length_append]; omega)
          have HLK := Lib.hid hlk
          have HX := Lib.hid hx
          have HG := Lib.hid hg
          clear hM2 hx hxm hwx hlk hg
          go_wp2_with (go_at_call 41; refine HLK.out.mono ?_; rintro e w5 ⟨rfl, hm⟩; have HM5 := Lib.hid hm; clear hm)
          go_roundw
          case rel =>
            refine ⟨j + 1, by omega, by go_num, ?_⟩
            have m6 := HM2'.out
            have hlm : (mtL (fun x => (lookF (downF c q) x).1) j (L.map (cutE q))).length = (L.map (cutE q)).length := mtL_len
            rw [HG.out, hlm] at m6 ⊢
            have m7 := HM5.out
            rw [hlm] at m7
            exact LkAll.step HX.out m6 m7 HU1.out (HU2.out g (by rw [HG.out]; rfl))
          case measure => simp [intOf]; omega
        · obtain rfl : j = k := by omega
          clear hM2
          go_wp2_with fail
          refine bodyPost_ret (results_none rfl _ _ _) rfl ?_
          refine ⟨rfl, ov2, ?_⟩
          have m6 := HM2'.out
          have hlm : j = (L.map (cutE q)).length := by rw [List.length_map]; exact HN.out
          rw [hlm, mtL_all, List.take_of_length_le (Nat.le_refl _)] at m6
          exact m6
end Go.Proofs.Ytahdjfegihnolaa
