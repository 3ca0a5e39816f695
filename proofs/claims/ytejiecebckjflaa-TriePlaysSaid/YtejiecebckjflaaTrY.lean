/- Tries: without. -/
import Derived.Test.YtejiecebckjflaaTrX
import Derived.Deep.DeepCutAuto
import Derived.Deep.RegionLaw
namespace Go.Proofs.Ytejiecebckjflaa
open Go.RowKit Go.Sort Go.BigFrame

def WoPost (w : World) (M : Nat → Prop) (T2 : TT) (e : Ending) (w' : World) : Prop := ∃ a2, e = .returned (.pointer a2) ∧ IsT w' M (.pointer a2) T2 ∧ Upd M w w'
/-- What the inner call leaves, with the node's cells at hand. -/
def WoIn (w : World) (M Mc Mo : Nat → Prop) (b : Nat) (cs : Array Value) (off : Nat) (old ov : Value) (C2 O : TT) (e : Ending) (w1 : World) : Prop :=
  ∃ a2, e = .returned (.pointer a2) ∧ (w1.cell? ⟨b, off, none⟩ = some old ∧ w1.frozen? ⟨b, off, none⟩ = false) ∧ Blk w1 b 78 cs ∧ IsT w1 Mc (.pointer a2) C2 ∧ IsT w1 Mo ov O ∧ Upd M w w1
theorem wo_in {w wx w1 : World} {M Mc Mo : Nat → Prop} {b off : Nat} {cs : Array Value} {old ov : Value} {C2 O : TT} {e : Ending} (h : WoPost wx Mc C2 e w1) (hu : Upd (fun _ => False) w wx) (hk : Blk w b 78 cs) (ho : cs[off]? = some old) (hc : ∀ k, Mc k → M k ∧ k ≠ b) (hd : ∀ k, Mc k → ¬ Mo k) (hto : IsT w Mo ov O) : WoIn w M Mc Mo b cs off old ov C2 O e w1 := by
  obtain ⟨a2, he, ht, hu2⟩ := h
  have hk1 : Blk w1 b 78 cs := (hk.upd hu (fun h => h)).upd hu2 fun h => (hc b h).2 rfl
  exact ⟨a2, he, ⟨(hk1.cell off).trans ho, hk1.frozen off⟩, hk1, ht, (hto.keep ⟨hu.size, fun k _ hl => hu.block k hl (fun h => h)⟩).keep (hu2.same hd), (hu.mono fun _ h => h.elim).trans hu2 fun k hk => .inl (hc k hk).1⟩
def WoMid (w : World) (M Mc Mo : Nat → Prop) (b : Nat) (q : Bs) (x : Int) (h dir : Bool) (po : Option Addr) (C2 O : TT) (wx : World) : Prop :=
  ∃ a2, Blk wx b 78 (if dir then ndC q x h (.pointer po) (.pointer a2) else ndC q x h (.pointer a2) (.pointer po)) ∧ IsT wx Mc (.pointer a2) C2 ∧ IsT wx Mo (.pointer po) O ∧ Upd M w wx
theorem wo_mid {w w1 wz : World} {M Mc Mo : Nat → Prop} {b : Nat} {q : Bs} {x : Int} {h dir : Bool} {po pc : Option Addr} {a2 : Option Addr} {C2 O : TT}
    (hk : Blk w1 b 78 (if dir then ndC q x h (.pointer po) (.pointer pc) else ndC q x h (.pointer pc) (.pointer po))) (ht : IsT w1 Mc (.pointer a2) C2) (hu : Upd M w w1) (hmb : M b) (hc : ∀ k, Mc k → M k ∧ k ≠ b) (ho : ∀ k, Mo k → M k ∧ k ≠ b) (hto : IsT w1 Mo (.pointer po) O)
    (hz : wz.heap = (w1.setCell ⟨b, (if dir then 5 else 4), none⟩ (.pointer a2)).heap ∧ wz.os = w1.os ∧ wz.tape = w1.tape ∧ wz.output = w1.output) : WoMid w M Mc Mo b q x h dir po C2 O wz := by
  obtain ⟨z1, z2, z3, z4⟩ := hz
  have hs := upd_set w1 b (if dir then 5 else 4) (.pointer a2)
  have hsz : ∀ (I : Nat → Prop), (∀ k, I k → k ≠ b) → Same I w1 wz := fun I hI => (hs.same fun k (e : k = b) hi => hI k hi e).trans (Same.ofHeap I z1)
  have u2 := hu.trans (hs.mono fun k (e : k = b) => .inl (show M k from e ▸ hmb)) fun k hk => .inl hk
  refine ⟨a2, ?_, ht.keep (hsz Mc fun k hk => (hc k hk).2), hto.keep (hsz Mo fun k hk => (ho k hk).2), ⟨z2.trans hu.os, z3.trans hu.tape, z4.trans hu.output, by rw [z1]; exact u2.size, fun k hk hn => by rw [z1]; exact u2.block k hk hn⟩⟩
  have := hk.set_ (if dir then 5 else 4) (.pointer a2)
  unfold Blk at this ⊢
  rw [z1, this]
  cases dir <;> simp [ndC]
theorem trimV_ptr (b : Nat) (h : Bool) (pl pr : Option Addr) : ∃ a, trimV b h pl pr = .pointer a := by
  cases pl <;> cases pr <;> cases h <;> exact ⟨_, rfl⟩
set_option maxHeartbeats 4000000 in
theorem without_any (p : Bs) (hp : p.length ≤ 32) : ∀ (T : TT) (c : Bs) (M : Nat → Prop) (pv : Value) (w : World), T.wf c → c <+: p → (T.get p).isSome = true → IsT w M pv T → (∀ k, M k → k < w.heap.size) →
    Calls Try.prog 35 #[pv, pxV (padB p) p.length] w (WoPost w M (T.del p)) := by
  intro T
  induction T with
  | nil => intro c M pv w _ _ hg; cases hg
  | node q x h l r ihl ihr =>
    intro c M pv w wf hc hg ht lt
    obtain ⟨w1, qw, w3, w4, w5⟩ := wf
    obtain ⟨b, pvl, pvr, Ml, Mr, rfl, hk, hmb, hl, hr, hd, tl, tr⟩ := ht
    obtain ⟨pl, rfl, _⟩ := tl.ptr
    obtain ⟨pr, rfl, _⟩ := tr.ptr
    obtain ⟨a, ha⟩ : ∃ a, a = padB p := ⟨_, rfl⟩
    obtain ⟨n, hn⟩ : ∃ n, n = p.length := ⟨_, rfl⟩
    obtain ⟨qa, hqa⟩ : ∃ qa, qa = padB q := ⟨_, rfl⟩
    obtain ⟨qn, hqn⟩ : ∃ qn, qn = q.length := ⟨_, rfl⟩
    have y0 : w.cell? ⟨b, 0, none⟩ = some (.int .u32 (qa : Int)) := by rw [hqa]; exact hk.cell 0
    have y1 : w.cell? ⟨b, 1, none⟩ = some (.int .i64 (qn : Int)) := by rw [hqn]; exact hk.cell 1
    have y2 : w.cell? ⟨b, 2, none⟩ = some (.int .i64 x) := hk.cell 2
    have y3 : w.cell? ⟨b, 3, none⟩ = some (.bool h) := hk.cell 3
    have y4 : w.cell? ⟨b, 4, none⟩ = some (.pointer pl) := hk.cell 4
    have y5 : w.cell? ⟨b, 5, none⟩ = some (.pointer pr) := hk.cell 5
    have z2 : w.frozen? ⟨b, 2, none⟩ = false := hk.frozen 2
    have z3 : w.frozen? ⟨b, 3, none⟩ = false := hk.frozen 3
    have hbl := hk.lt
    have HK := Lib.hid hk
    have HQA := Lib.hid hqa
    have HQN := Lib.hid hqn
    have HA := Lib.hid ha
    have HN := Lib.hid hn
    have HTL := Lib.hid tl
    have HTR := Lib.hid tr
    have HLT := Lib.hid lt
    have HL := Lib.hid hl
    have HR := Lib.hid hr
    have HD := Lib.hid hd
    have IHL := Lib.hid ihl
    have IHR := Lib.hid ihr
    have HG := Lib.hid hg
    have W4 := Lib.hid w4
    have W5 := Lib.hid w5
    rw [← ha, ← hn]
    clear hk hqa hqn ha hn tl tr lt hl hr hd ihl ihr hg w4 w5 w3 w1 hc
    by_cases he : q = p
    · have e1 : qa = a := by rw [HQA.out, HA.out, he]
      have e2 : qn = n := by rw [HQN.out, HN.out, he]
      subst e1; subst e2
      have hq2 : ∀ w, (binOp .eql 31 (.agg #[.int .u32 (qa : Int), .int .i64 (qn : Int)]) (.agg #[.int .u32 (qa : Int), .int .i64 (qn : Int)])).run Try.prog w = .ok (.bool true) w := fun w => by
        rw [eql_px, decide_eq_true]
        exact ⟨rfl, rfl⟩
      have hdel : (TT.node q x h l r).del p = (TT.node q 0 false l r).trim := by rw [TT.del, if_pos he]
      have HDEL := Lib.hid hdel
      clear he hdel
      go_enter Try.func35, Try.ntmps35
      go_wp2_with fail
      go_quiet (fail)
      generalize nq = m1
      clear nq
      go_wp2_with fail
      have hk9 : Blk ((((w.alloc (.cells #[.int .u32 (qa : Int), .int .i64 (qn : Int)] 31)).drewN m1).setCell ⟨b, 2, none⟩ (.int .i64 0)).setCell ⟨b, 3, none⟩ (.bool false)) b 78 (ndC q 0 false (.pointer pl) (.pointer pr)) := by
        have := (((HK.out.alloc (.cells #[.int .u32 (qa : Int), .int .i64 (qn : Int)] 31)).drewN m1).set_ 2 (.int .i64 0)).set_ 3 (.bool false)
        simpa [ndC] using this
      have hu9 : Upd (only b) w ((((w.alloc (.cells #[.int .u32 (qa : Int), .int .i64 (qn : Int)] 31)).drewN m1).setCell ⟨b, 2, none⟩ (.int .i64 0)).setCell ⟨b, 3, none⟩ (.bool false)) :=
        ((((Upd.refl _ w).alloc _).drewN m1).set_ 2 _).set_ 3 _
      generalize ((((w.alloc (.cells #[.int .u32 (qa : Int), .int .i64 (qn : Int)] 31)).drewN m1).setCell ⟨b, 2, none⟩ (.int .i64 0)).setCell ⟨b, 3, none⟩ (.bool false)) = w9 at hk9 hu9 ⊢
      obtain ⟨a2, ha2⟩ := trimV_ptr b false pl pr
      have htm := trimmed_any b q 0 false pl pr w9 hk9
      rw [ha2] at htm
      have HU := Lib.hid hu9
      have HK9 := Lib.hid hk9
      have HA2 := Lib.hid ha2
      clear hu9 hk9 ha2
      refine htm.mono ?_
      rintro e w' ⟨rfl, rfl⟩
      go_wp2_with fail
      go_ret
      refine ⟨a2, rfl, ?_, HU.out.mono fun k (e : k = b) => .inl (e ▸ hmb)⟩
      rw [HDEL.out, ← HA2.out]
      exact IsT.trim HK9.out hmb HL.out HR.out HD.out (HTL.out.keep (HU.out.same fun k (e : k = b) hk => (HL.out k hk).2 e)) (HTR.out.keep (HU.out.same fun k (e : k = b) hk => (HR.out k hk).2 e))
    · have hpre : q <+: p := by
        have hg := HG.out
        rw [TT.get, if_neg he] at hg
        by_cases h : q <+: p
        · exact h
        · rw [if_neg h] at hg; cases hg
      have hcg : (if nth p q.length then r.get p else l.get p).isSome = true := by
        have hg := HG.out
        rwa [TT.get, if_neg he, if_pos hpre] at hg
      have hne : ¬ (qa = a ∧ qn = n) := fun ⟨e1, e2⟩ => he (by
        rw [HQA.out, HA.out] at e1
        rw [HQN.out, HN.out] at e2
        exact pad_inj qw e2 e1)
      have hq1 : ∀ w, (binOp .eql 31 (.agg #[.int .u32 (qa : Int), .int .i64 (qn : Int)]) (.agg #[.int .u32 (a : Int), .int .i64 (n : Int)])).run Try.prog w = .ok (.bool false) w := fun w => by
        rw [eql_px, decide_eq_false]
        exact fun h => hne ⟨h.1, by have := h.2; omega⟩
      have hlt : qn < p.length := by rw [HQN.out]; exact Nat.lt_of_le_of_ne hpre.length_le fun e => he (hpre.eq_of_length e)
      have hbi : bitI a qn = if nth p q.length then 1 else 0 := by
        unfold bitI bitB nth
        rw [HA.out, HQN.out, padB_bit p hp q.length (by rw [← HQN.out]; omega)]
      have hbc := fun (wx : World) => bit_any a qn wx (by omega) (by rw [HA.out]; exact padB_lt p hp)
      clear hne hlt
      cases hdir : nth p q.length with
      | false =>
        rw [hdir, if_neg (by decide)] at hbi hcg
        rw [hbi] at hbc
        have hn1 := pre_nth hpre he
        rw [hdir] at hn1
        have hdel : (TT.node q x h l r).del p = (TT.node q x h (l.del p) r).trim := by rw [TT.del, if_neg he, hdir]; rfl
        have HDEL := Lib.hid hdel
        have hih := fun (wx : World) (hb : Upd (fun _ => False) w wx) => IHL.out _ Ml (.pointer pl) wx W4.out hn1 hcg (HTL.out.keep ⟨hb.size, fun k _ hl => hb.block k hl (fun h => h)⟩) (fun k hk => Nat.lt_of_lt_of_le (HLT.out k (HL.out k hk).1) hb.size)
        rw [← HA.out, ← HN.out] at hih
        have hih2 := fun (wx : World) (hb : Upd (fun _ => False) w wx) => (hih wx hb).mono fun e w1 hw => wo_in (M := M) (off := 4) (old := .pointer pl) hw hb HK.out rfl HL.out HD.out HTR.out
        have HIH := Lib.hid hih2
        clear hbi hcg hn1 hdel hih hih2 he hpre hdir
        go_enter Try.func35, Try.ntmps35
        go_wp2_with fail
        go_quiet (fail)
        generalize nq = m1
        clear nq
        have u1 : Upd (fun _ => False) w ((w.alloc (.cells #[.int .u32 (a : Int), .int .i64 (n : Int)] 31)).drewN m1) := ((Upd.refl _ w).alloc _).drewN m1
        have hx1 : Blk ((w.alloc (.cells #[.int .u32 (a : Int), .int .i64 (n : Int)] 31)).drewN m1) w.heap.size 31 #[.int .u32 (a : Int), .int .i64 (n : Int)] := (Blk.new w _ _).drewN m1
        go_wp2_with fail
        generalize (w.alloc (.cells #[.int .u32 (a : Int), .int .i64 (n : Int)] 31)).drewN m1 = wq at u1 hx1 ⊢
        have hkq := HK.out.upd u1 (fun h => h)
        have y0 : wq.cell? ⟨b, 0, none⟩ = some (.int .u32 (qa : Int)) := by rw [HQA.out]; exact hkq.cell 0
        have y1 : wq.cell? ⟨b, 1, none⟩ = some (.int .i64 (qn : Int)) := by rw [HQN.out]; exact hkq.cell 1
        have y4 : wq.cell? ⟨b, 4, none⟩ = some (.pointer pl) := hkq.cell 4
        have y5 : wq.cell? ⟨b, 5, none⟩ = some (.pointer pr) := hkq.cell 5
        have x0 : wq.cell? ⟨w.heap.size, 0, none⟩ = some (.int .u32 (a : Int)) := hx1.cell 0
        have x1 : wq.cell? ⟨w.heap.size, 1, none⟩ = some (.int .i64 (n : Int)) := hx1.cell 1
        have U1 := Lib.hid u1
        have HX := Lib.hid hx1
        have HKQ := Lib.hid hkq
        clear u1 hx1 hkq
        have HIQ := Lib.hid (fun (n : Nat) => HIH.out (wq.drewN n) (U1.out.drewN n))
        go_quiet ((go_at_call 38; exact Calls.quiet_of_same ((hbc _).mono fun _ _ ⟨h, hw⟩ => ⟨h, hw.symm⟩)))
        generalize nq = m2
        clear nq
        go_wp2_with fail
        go_cut [] (fun wx => WoMid w M Ml Mr b q x h false pr (l.del p) r wx)
        case first =>
          go_region_law (go_simp; go_at_call 35; refine (HIQ.out _).mono ?_; rintro e w1 ⟨a2, rfl, ⟨hc1, hf1⟩, hk1, ht1, ho1, hu1⟩)
          all_goals
            go_wp2_with fail
            go_meet
            exact wo_mid (dir := false) hk1 ht1 hu1 hmb HL.out HR.out ho1 ⟨rfl, rfl, rfl, rfl⟩
        case rest =>
          obtain ⟨a2, hkz, ht2, hto2, huz⟩ := hcut
          obtain ⟨a3, ha3⟩ := trimV_ptr b h a2 pr
          have htm := trimmed_any b q x h a2 pr wc hkz
          rw [ha3] at htm
          have HU := Lib.hid huz
          have HK9 := Lib.hid hkz
          have HA3 := Lib.hid ha3
          have HT2 := Lib.hid ht2
          have HTO := Lib.hid hto2
          clear huz hkz ha3 ht2 hto2
          go_wp2_with fail
          refine htm.mono ?_
          rintro e w' ⟨rfl, rfl⟩
          go_wp2_with fail
          go_ret
          refine ⟨a3, rfl, ?_, HU.out⟩
          rw [HDEL.out, ← HA3.out]
          exact IsT.trim HK9.out hmb HL.out HR.out HD.out HT2.out HTO.out
      | true =>
        rw [hdir, if_pos rfl] at hbi hcg
        rw [hbi] at hbc
        have hn1 := pre_nth hpre he
        rw [hdir] at hn1
        have hdel : (TT.node q x h l r).del p = (TT.node q x h l (r.del p)).trim := by rw [TT.del, if_neg he, hdir]; rfl
        have HDEL := Lib.hid hdel
        have hih := fun (wx : World) (hb : Upd (fun _ => False) w wx) => IHR.out _ Mr (.pointer pr) wx W5.out hn1 hcg (HTR.out.keep ⟨hb.size, fun k _ hl => hb.block k hl (fun h => h)⟩) (fun k hk => Nat.lt_of_lt_of_le (HLT.out k (HR.out k hk).1) hb.size)
        rw [← HA.out, ← HN.out] at hih
        have hih2 := fun (wx : World) (hb : Upd (fun _ => False) w wx) => (hih wx hb).mono fun e w1 hw => wo_in (M := M) (off := 5) (old := .pointer pr) hw hb HK.out rfl HR.out (fun k hk hl => HD.out k hl hk) HTL.out
        have HIH := Lib.hid hih2
        clear hbi hcg hn1 hdel hih hih2 he hpre hdir
        go_enter Try.func35, Try.ntmps35
        go_wp2_with fail
        go_quiet (fail)
        generalize nq = m1
        clear nq
        have u1 : Upd (fun _ => False) w ((w.alloc (.cells #[.int .u32 (a : Int), .int .i64 (n : Int)] 31)).drewN m1) := ((Upd.refl _ w).alloc _).drewN m1
        have hx1 : Blk ((w.alloc (.cells #[.int .u32 (a : Int), .int .i64 (n : Int)] 31)).drewN m1) w.heap.size 31 #[.int .u32 (a : Int), .int .i64 (n : Int)] := (Blk.new w _ _).drewN m1
        go_wp2_with fail
        generalize (w.alloc (.cells #[.int .u32 (a : Int), .int .i64 (n : Int)] 31)).drewN m1 = wq at u1 hx1 ⊢
        have hkq := HK.out.upd u1 (fun h => h)
        have y0 : wq.cell? ⟨b, 0, none⟩ = some (.int .u32 (qa : Int)) := by rw [HQA.out]; exact hkq.cell 0
        have y1 : wq.cell? ⟨b, 1, none⟩ = some (.int .i64 (qn : Int)) := by rw [HQN.out]; exact hkq.cell 1
        have y4 : wq.cell? ⟨b, 4, none⟩ = some (.pointer pl) := hkq.cell 4
        have y5 : wq.cell? ⟨b, 5, none⟩ = some (.pointer pr) := hkq.cell 5
        have x0 : wq.cell? ⟨w.heap.size, 0, none⟩ = some (.int .u32 (a : Int)) := hx1.cell 0
        have x1 : wq.cell? ⟨w.heap.size, 1, none⟩ = some (.int .i64 (n : Int)) := hx1.cell 1
        have U1 := Lib.hid u1
        have HX := Lib.hid hx1
        have HKQ := Lib.hid hkq
        clear u1 hx1 hkq
        have HIQ := Lib.hid (fun (n : Nat) => HIH.out (wq.drewN n) (U1.out.drewN n))
        go_quiet ((go_at_call 38; exact Calls.quiet_of_same ((hbc _).mono fun _ _ ⟨h, hw⟩ => ⟨h, hw.symm⟩)))
        generalize nq = m2
        clear nq
        go_wp2_with fail
        go_cut [] (fun wx => WoMid w M Mr Ml b q x h true pl (r.del p) l wx)
        case first =>
          go_region_law (go_simp; go_at_call 35; refine (HIQ.out _).mono ?_; rintro e w1 ⟨a2, rfl, ⟨hc1, hf1⟩, hk1, ht1, ho1, hu1⟩)
          all_goals
            go_wp2_with fail
            go_meet
            exact wo_mid (dir := true) hk1 ht1 hu1 hmb HR.out HL.out ho1 ⟨rfl, rfl, rfl, rfl⟩
        case rest =>
          obtain ⟨a2, hkz, ht2, hto2, huz⟩ := hcut
          obtain ⟨a3, ha3⟩ := trimV_ptr b h pl a2
          have htm := trimmed_any b q x h pl a2 wc hkz
          rw [ha3] at htm
          have HU := Lib.hid huz
          have HK9 := Lib.hid hkz
          have HA3 := Lib.hid ha3
          have HT2 := Lib.hid ht2
          have HTO := Lib.hid hto2
          clear huz hkz ha3 ht2 hto2
          go_wp2_with fail
          refine htm.mono ?_
          rintro e w' ⟨rfl, rfl⟩
          go_wp2_with fail
          go_ret
          refine ⟨a3, rfl, ?_, HU.out⟩
          rw [HDEL.out, ← HA3.out]
          exact IsT.trim HK9.out hmb HL.out HR.out HD.out HTO.out HT2.out
end Go.Proofs.Ytejiecebckjflaa
