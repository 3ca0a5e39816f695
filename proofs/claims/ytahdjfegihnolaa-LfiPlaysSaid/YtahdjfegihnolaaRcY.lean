/- Layer 12: LfiPlays, the walk. -/
import Derived.Test.YtahdjfegihnolaaRcX
namespace Go.Proofs.Ytahdjfegihnolaa
open Go.RowKit Go.Sort
attribute [local go_sem] Oper.semAt_some
theorem ld_rp {w : World} {b : Nat} {u : Option Addr} (hu : w.cell? ⟨b, 0, none⟩ = some (.pointer u)) : (Instr.loadAt 62 (.pointer (some ⟨b, 0, none⟩))).run Try.prog w = .ok (.pointer u) w := by simp [go_sem, hu]
theorem st_rp_new (wx : World) (b : Nat) : (Instr.storeAt 62 (.pointer (some ⟨wx.heap.size, 0, none⟩)) (.pointer (some ⟨b, 0, none⟩))).run Try.prog (wx.alloc (.cells #[.pointer none] 62)) = .ok () (wx.alloc (.cells #[.pointer (some ⟨b, 0, none⟩)] 62)) := by
  go_simp
theorem st_rp_nil (wx : World) : (Instr.storeAt 62 (.pointer (some ⟨wx.heap.size, 0, none⟩)) (.pointer none)).run Try.prog (wx.alloc (.cells #[.pointer none] 62)) = .ok () (wx.alloc (.cells #[.pointer none] 62)) := by
  go_simp
theorem st_i_new (wx : World) : (Instr.storeAt 3 (.pointer (some ⟨wx.heap.size, 0, none⟩)) (.int .i64 0)).run Try.prog (wx.alloc (.cells #[.int .i64 0] 3)) = .ok () (wx.alloc (.cells #[.int .i64 0] 3)) := by
  go_simp
theorem keeps_of_below {B : Nat} {W W' : World} (h : Below W.heap.size W W') : KeepsFrom B W W' := ⟨h.size, fun k _o _ hk _ => (h.block k (Array.getElem?_eq_some_iff.1 hk).1).trans hk⟩
/-- What LfiPlays keeps between events. -/
structure PlS (w W0 wx : World) (M N : Nat → Prop) (cb mb rb bb : Nat) (S T : Lc) : Prop where
  c : Core W0 wx M cb mb S
  r : RCore W0 wx N rb T
  a : Blk wx w.heap.size 4 #[.bool false]
  p : Blk wx bb 62 #[.pointer (some ⟨rb, 0, none⟩)]
section
variable {w W0 wx wy : World} {M N : Nat → Prop} {cb mb rb bb : Nat} {S T : Lc}
theorem PlS.later (h : PlS w W0 wx M N cb mb rb bb S T) (hb : Below wx.heap.size wx wy) : PlS w W0 wy M N cb mb rb bb S T := ⟨h.c.later hb, h.r.later hb, h.a.below hb h.a.lt, h.p.below hb h.p.lt⟩
theorem PlS.doC (h : PlS w W0 wx M N cb mb rb bb S T) {e : Ev} {v : Value} (hd : DoneC W0 wx M cb mb S e wy v) : OutM wy wx.heap.size v (doF S e).2.1 ∧ ∃ M', PlS w W0 wy M' N cb mb rb bb (doF S e).1 T := by
  have hr := h.r.doneC h.c hd
  obtain ⟨M', h1, h2, h3, h4⟩ := hd
  exact ⟨h1, M', h2, hr, h.a.upd h4 (h.c.apart h.a (by decide) (by decide)), h.p.upd h4 (h.c.apart h.p (by decide) (by decide))⟩
theorem PlS.doR (h : PlS w W0 wx M N cb mb rb bb S T) {e : Ev} {v u : Value} {B : Nat} {o : List Tl} (hu : OutM wx B u o) (hd : DoneR W0 wx N rb T e wy v) : OutM wy wx.heap.size v (doF T e).2.1 ∧ OutM wy B u o ∧ ∃ N', PlS w W0 wy M N' cb mb rb bb S (doF T e).1 := by
  have hc := h.c.doneR h.r hd
  obtain ⟨N', h1, h2, h3, h4⟩ := hd
  exact ⟨h1, h.r.out hu h4, N', hc, h2, h.a.upd h4 (h.r.apartB h.a (by decide) (by decide)), h.p.upd h4 (h.r.apartB h.p (by decide) (by decide))⟩
theorem PlS.same (h : PlS w W0 wx M N cb mb rb bb S S) : Calls Try.prog 21 #[.pointer (some ⟨cb, 0, none⟩), .pointer (some ⟨rb, 0, none⟩)] wx fun e w' => e = .returned (.bool true) ∧ Below wx.heap.size wx w' := both_same ⟨h.c, h.r⟩
end
set_option maxRecDepth 100000 in
set_option maxHeartbeats 4000000 in
attribute [-go_sem] Instr.storeAt Instr.loadAt in
theorem plays_big (room : Int) (A : Option Addr) (n c : Nat) (B : Option Addr) (m d : Nat) (w : World) (hbig : 150 < m ∨ 12 < n) :
    Calls Try.prog 8 #[.int .i64 room, .slice A n c, .slice B m d] w fun e w' => e = .returned (.bool true) ∧ Below w.heap.size w w' := by
  obtain ⟨W0, hW0⟩ : ∃ Z, Z = w.alloc (.cells #[.bool false] 4) := ⟨_, rfl⟩
  have hb0 : Below w.heap.size w W0 := by rw [hW0]; exact (Below.refl _ _).alloc (Nat.le_refl _) _
  have hk0 : Blk W0 w.heap.size 4 #[.bool false] := by rw [hW0]; exact Blk.new _ _ _
  have HW0 := Lib.hid hW0
  have HB0 := Lib.hid hb0
  have HK0 := Lib.hid hk0
  clear hW0 hb0 hk0
  by_cases h1 : 150 < m
  all_goals
    have hd1 : decide (150 < (m : Int)) = decide (150 < m) := by rw [decide_eq_decide]; omega
    have hd2 : decide (12 < (n : Int)) = decide (12 < n) := by rw [decide_eq_decide]; omega
  · rw [decide_eq_true h1] at hd1
    clear hd2 hbig h1
    go_enter Try.func8, Try.ntmps8
    go_upto_region 1 with (fail)
    rw [← HW0.out]
    go_wp2_with (go_at_call 10; refine (known12_any _).mono ?_; rintro e w2 ⟨rfl, hb2⟩; have hk2 := HK0.out.below hb2 HK0.out.lt; have st := st_bC (hk2.cell 0) (hk2.frozen 0) true; have HK2 := Lib.hid hk2; have HB2 := Lib.hid (HB0.out.trans (hb2.mono HB0.out.size)); clear hb2 hk2)
    have a0 := (HK2.out.set_ 0 (.bool true)).cell 0
    refine bodyPost_ret (v := .bool true) (by simp [results, Try.f8, go_sem, a0]) rfl ⟨rfl, HB2.out.setCell (p := ⟨w.heap.size, 0, none⟩) (Nat.le_refl _) _⟩
  · rw [decide_eq_false h1] at hd1
    rw [decide_eq_true (hbig.resolve_left h1)] at hd2
    clear hbig h1
    go_enter Try.func8, Try.ntmps8
    go_upto_region 1 with (fail)
    rw [← HW0.out]
    go_wp2_with (go_at_call 10; refine (known12_any _).mono ?_; rintro e w2 ⟨rfl, hb2⟩; have hk2 := HK0.out.below hb2 HK0.out.lt; have st := st_bC (hk2.cell 0) (hk2.frozen 0) true; have HK2 := Lib.hid hk2; have HB2 := Lib.hid (HB0.out.trans (hb2.mono HB0.out.size)); clear hb2 hk2)
    have a0 := (HK2.out.set_ 0 (.bool true)).cell 0
    refine bodyPost_ret (v := .bool true) (by simp [results, Try.f8, go_sem, a0]) rfl ⟨rfl, HB2.out.setCell (p := ⟨w.heap.size, 0, none⟩) (Nat.le_refl _) _⟩
set_option maxRecDepth 100000 in
set_option maxHeartbeats 4000000 in
attribute [-go_sem] Instr.storeAt Instr.loadAt in
theorem plays_no (room : Int) (A : Option Addr) (n c : Nat) (lo : List Pf) (B : Option Addr) (m d : Nat) (w : World) (r : Reads w (fun k => k < w.heap.size) 2 A n (flatP lo)) (hl : lo.length = n) (hp : ∀ p ∈ lo, p.1 < 2 ^ 32) (h1 : ¬ 150 < m) (h2 : ¬ 12 < n) (hnf : newF room lo = none) :
    Calls Try.prog 8 #[.int .i64 room, .slice A n c, .slice B m d] w fun e w' => e = .returned (.bool true) ∧ Below w.heap.size w w' := by
  obtain ⟨W0, hW0⟩ : ∃ Z, Z = w.alloc (.cells #[.bool false] 4) := ⟨_, rfl⟩
  have hb0 : Below w.heap.size w W0 := by rw [hW0]; exact (Below.refl _ _).alloc (Nat.le_refl _) _
  have hk0 : Blk W0 w.heap.size 4 #[.bool false] := by rw [hW0]; exact Blk.new _ _ _
  have hrd : ∀ wz, Below w.heap.size w wz → Reads wz (fun k => k < wz.heap.size) 2 A n (flatP lo) := fun wz hz => (r.keep (Same.ofBelow hz fun k hk => hk)).mono fun k hk => Nat.lt_of_lt_of_le hk hz.size
  have hnw := core_new room A n c lo W0 (hrd W0 hb0) hl hp
  unfold MadeC at hnw
  rw [hnf] at hnw
  have HRN := Lib.hid (fun wz (hz : Below w.heap.size w wz) => (show Calls Try.prog 18 #[.int .i64 room, .slice A n c] wz fun e w' => e = .returned (.tuple #[.pointer none, .bool false]) ∧ Below wz.heap.size wz w' from (new12_any room A n c lo wz (hrd wz hz) hl hp).mono fun e w' h => by unfold New12 at h; rw [hnf] at h; exact h))
  have HNW := Lib.hid hnw
  have HW0 := Lib.hid hW0
  have HB0 := Lib.hid hb0
  have HK0 := Lib.hid hk0
  have hd1 : decide (150 < (m : Int)) = false := decide_eq_false (by omega)
  have hd2 : decide (12 < (n : Int)) = false := decide_eq_false (by omega)
  clear hW0 hb0 hk0 hrd hnw r hl hp hnf h1 h2
  go_enter Try.func8, Try.ntmps8
  go_upto_region 1 with (fail)
  rw [← HW0.out]
  go_upto_region 5 with (first
    | (go_at_call 11; refine HNW.out.mono ?_; rintro e w1 ⟨rfl, hb1⟩; have HB1 := Lib.hid (HB0.out.trans (hb1.mono HB0.out.size)); have HK1 := Lib.hid (HK0.out.below hb1 HK0.out.lt); have HRN1 := Lib.hid (HRN.out w1 HB1.out); clear hb1)
    | (go_at_call 18; refine HRN1.out.mono ?_; rintro e w2 ⟨rfl, hb2⟩; have HB2 := Lib.hid (HB1.out.trans (hb2.mono HB1.out.size)); have HK2 := Lib.hid (HK1.out.below hb2 HK1.out.lt); have st := st_rp_nil w2; clear hb2))
  clear st
  obtain ⟨W3, hW3⟩ : ∃ Z, Z = w2.alloc (.cells #[.pointer none] 62) := ⟨_, rfl⟩
  rw [← hW3]
  have hb3 : Below w2.heap.size w2 W3 := by rw [hW3]; exact (Below.refl _ _).alloc (Nat.le_refl _) _
  have HB3 := Lib.hid (HB2.out.trans (hb3.mono HB2.out.size))
  have HK3 := Lib.hid (HK2.out.below hb3 HK2.out.lt)
  clear hb3 hW3
  go_wp2_with (go_at_call 10; refine (known12_any _).mono ?_; rintro e w4 ⟨rfl, hb4⟩; have hk4 := HK3.out.below hb4 HK3.out.lt; have st := st_bC (hk4.cell 0) (hk4.frozen 0) true; have HK4 := Lib.hid hk4; have HB4 := Lib.hid (HB3.out.trans (hb4.mono HB3.out.size)); clear hb4 hk4)
  have a0 := (HK4.out.set_ 0 (.bool true)).cell 0
  refine bodyPost_ret (v := .bool true) (by simp [results, Try.f8, go_sem, a0]) rfl ⟨rfl, HB4.out.setCell (p := ⟨w.heap.size, 0, none⟩) (Nat.le_refl _) _⟩
/-- While it goes over all. -/
structure PlG (V0 W : World) (ib k : Nat) : Prop where
  u : Upd (only ib) V0 W
  i : Blk W ib 3 #[.int .i64 (k : Int)]
theorem PlG.own {V0 W W' : World} {ib k : Nat} {row : Option Nat} (h : PlG V0 W ib k) (hg : W.grownBy W' row) (hr : ∀ r, row = some r → V0.heap.size ≤ r ∧ ∃ o : Obj, W.heap[r]? = some o ∧ o.isCells = false) : PlG V0 W' ib k :=
  ⟨h.u.grown hg fun r e => .inr (hr r e).1, blk_own h.i hg fun r e => (hr r e).2⟩
theorem viz_copy (W1 : World) : ∃ W2, (Instr.storeAt 43 (.pointer (some ⟨W1.heap.size, 0, none⟩)) (.agg viZ)).run Try.prog (W1.alloc (.cells #[.int .u32 0, .int .i64 0, .bool false, .bool false, .bool false, .int .i64 0, .int .i64 0, .int .i64 0, .int .i64 0, .int .i64 0, .int .i64 0, .int .i64 0, .int .i64 0, .int .i64 0, .int .i64 0, .int .i64 0] 43)) = .ok () W2 ∧ Below W1.heap.size W1 W2 := by
  have hk : Blk (W1.alloc (.cells viZ 43)) W1.heap.size 43 viZ := Blk.new _ _ _
  have st := stc_store vi_info hk rfl (vs := viZ) rfl (by simp [viZ, Value.oneCell'])
  exact ⟨_, st, below_setCells (Nat.le_refl _) _ _ _ ((Below.refl _ _).alloc (Nat.le_refl _) _)⟩
theorem find_five {S : Lc} (h : ∀ x ∈ S.all, mayP x.p = true) : findE S.all (1, 5) = none := by
  unfold findE
  rw [List.find?_eq_none]
  intro x hx e
  have e2 : x.p = (1, 5) := by simpa using e
  have := h x hx
  rw [e2] at this
  exact absurd this (by decide)
set_option maxRecDepth 100000 in
set_option maxHeartbeats 32000000 in
attribute [-go_sem] Instr.storeAt Instr.loadAt in
theorem plays_yes (room : Int) (A : Option Addr) (n c : Nat) (lo : List Pf) (B : Option Addr) (m d : Nat) (le : List Ev) (w : World) (r : Reads w (fun k => k < w.heap.size) 2 A n (flatP lo)) (hl : lo.length = n) (hp : ∀ p ∈ lo, p.1 < 2 ^ 32)
    (r2 : Reads w (fun k => k < w.heap.size) 6 B m (le.flatMap evC)) (hl2 : le.length = m) (hp2 : ∀ e ∈ le, e.p.1 < 2 ^ 32) (h1 : ¬ 150 < m) (h2 : ¬ 12 < n) {all : List Le} (hnf : newF room lo = some all) :
    Calls Try.prog 8 #[.int .i64 room, .slice A n c, .slice B m d] w fun e w' => e = .returned (.bool true) ∧ Below w.heap.size w w' := by
  obtain ⟨W0, hW0⟩ : ∃ Z, Z = w.alloc (.cells #[.bool false] 4) := ⟨_, rfl⟩
  have hb0 : Below w.heap.size w W0 := by rw [hW0]; exact (Below.refl _ _).alloc (Nat.le_refl _) _
  have hk0 : Blk W0 w.heap.size 4 #[.bool false] := by rw [hW0]; exact Blk.new _ _ _
  have hrd : ∀ wz, Below w.heap.size w wz → Reads wz (fun k => k < wz.heap.size) 2 A n (flatP lo) := fun wz hz => (r.keep (Same.ofBelow hz fun k hk => hk)).mono fun k hk => Nat.lt_of_lt_of_le hk hz.size
  have hnw := core_new room A n c lo W0 (hrd W0 hb0) hl hp
  unfold MadeC at hnw
  rw [hnf] at hnw
  have HRN := Lib.hid (fun wz (hz : Below w.heap.size w wz) => (show Calls Try.prog 18 #[.int .i64 room, .slice A n c] wz fun e w' => ∃ rb av, e = .returned (.tuple #[.pointer (some ⟨rb, 0, none⟩), .bool true]) ∧ RcM w' wz.heap.size rb av (.slice none 0 0) room pc0 all ∧ Below wz.heap.size wz w' ∧ wz.heap.size ≤ rb from (new12_any room A n c lo wz (hrd wz hz) hl hp).mono fun e w' h => by unfold New12 at h; rw [hnf] at h; exact h))
  have HNW := Lib.hid hnw
  have HNF := Lib.hid hnf
  have HW0 := Lib.hid hW0
  have HB0 := Lib.hid hb0
  have HK0 := Lib.hid hk0
  have HR2 := Lib.hid r2
  have HL2 := Lib.hid hl2
  have HP2 := Lib.hid hp2
  have hd1 : decide (150 < (m : Int)) = false := decide_eq_false (by omega)
  have hd2 : decide (12 < (n : Int)) = false := decide_eq_false (by omega)
  have hm9 : m ≤ 150 := by omega
  clear hW0 hb0 hk0 hrd hnw r hl hp hnf h1 h2 r2 hl2 hp2
  refine (callsIn_wide (n := 5)).1 ?_
  refine callsIn_of_wp_marks Try.func8 rfl trivial ?_ rfl
  simp only [Try.ntmps8, List.size_toArray, List.length_cons, List.length_nil, Nat.reduceAdd, Nat.reduceSub, Array.replicate_succ, Array.replicate_zero, List.push_toArray, List.append_toArray, List.nil_append, List.cons_append]
  refine wpIn_wide.2 ?_
  go_upto_region 1 with (fail)
  rw [← HW0.out]
  go_upto_region 5 with (first
    | (go_at_call 11; refine HNW.out.mono ?_; rintro e w1 ⟨cb, mb, M, rfl, hc1⟩; have HC1 := Lib.hid hc1; have HRN1 := Lib.hid (HRN.out w1 (HB0.out.trans (hc1.bel.mono HB0.out.size))); clear hc1)
    | (go_at_call 18; refine HRN1.out.mono ?_; rintro e w2 ⟨rb, av, rfl, hr2, hb2, hrb2⟩; have HC2 := Lib.hid (HC1.out.later hb2); have HX2 := Lib.hid (mk_rcore HNF.out HC1.out.bel hr2 hb2 hrb2); have st := st_rp_new w2 rb; clear hr2 hb2 hrb2))
  clear st
  obtain ⟨W3, hW3⟩ : ∃ Z, Z = w2.alloc (.cells #[.pointer (some ⟨rb, 0, none⟩)] 62) := ⟨_, rfl⟩
  rw [← hW3]
  have hb3 : Below w2.heap.size w2 W3 := by rw [hW3]; exact (Below.refl _ _).alloc (Nat.le_refl _) _
  obtain ⟨bb, hbb⟩ : ∃ b, b = w2.heap.size := ⟨_, rfl⟩
  have HP3 := Lib.hid (show PlS w W0 W3 M (fun b => b = rb ∨ av.ownBlock = some b) cb mb rb bb ⟨room, pc0, all⟩ ⟨room, pc0, all⟩ from ⟨HC2.out.later hb3, HX2.out.later hb3, HK0.out.below ((HC2.out.later hb3).bel) HK0.out.lt, by rw [hW3, hbb]; exact Blk.new _ _ _⟩)
  rw [← hbb]
  have HBB := Lib.hid (show W0.heap.size ≤ bb by rw [hbb]; exact HC2.out.bel.size)
  have lr := ld_rp (HP3.out.p.cell 0)
  have HSM := Lib.hid HP3.out.same
  clear hb3 hW3 hbb
  go_wp2_with (go_at_call 21; refine HSM.out.mono ?_; rintro en w4 ⟨rfl, hb4⟩; have HP4 := Lib.hid (HP3.out.later hb4); clear hb4)
  clear lr
  go_loopw [11] (fun s11 wr => ∃ (k : Nat) (M N : Nat → Prop) (S : Lc), k ≤ m ∧ s11 = .int .i64 (k : Int) ∧ PlS w W0 wr M N cb mb rb bb S S) (fun s11 _ => m - (intOf s11).toNat)
  case atStart => exact ⟨0, M, _, _, Nat.zero_le _, rfl, HP4.out⟩
  case round =>
    clear HP3 HP4 HC1 HC2 HX2 HRN HRN1 HNW HSM
    obtain ⟨k, M1, N1, S, hk, rfl, hP⟩ := hrel
    have HP := Lib.hid hP
    have k0 : (0 : Int) ≤ k := by omega
    by_cases hlt : k < m
    · obtain ⟨e, hek⟩ : ∃ e, le[k]? = some e := ⟨_, List.getElem?_eq_getElem (by rw [HL2.out]; exact hlt)⟩
      have HEV := Lib.hid (fun wz (h : Below w.heap.size w wz) => ld_evR HR2.out HL2.out h hek)
      obtain ⟨ad, rfl, lv⟩ := ld_evR HR2.out HL2.out (HB0.out.trans (hP.c.bel.mono HB0.out.size)) hek
      have HEW := Lib.hid (show ∀ wz, Below W0.heap.size W0 wz → (Instr.loadAt 38 (.pointer (some (ad.add (k * 6))))).run Try.prog wz = .ok (.agg #[.int .i64 e.kind, .int .i64 e.port, .int .i64 e.cost, .int .u32 (e.p.1 : Int), .int .i64 e.p.2, .int .i64 e.dist]) wz from fun wz hz => by
        obtain ⟨ad2, e9, h9⟩ := HEV.out wz (HB0.out.trans (hz.mono HB0.out.size))
        injection e9 with e9
        rw [e9]; exact h9)
      have hp9 := HP2.out e (List.mem_of_getElem? hek)
      have hdo := core_do hP.c e hp9
      have HP9 := Lib.hid hp9
      have HLN := Lib.hid (do_outR hP.c.ok e)
      obtain ⟨cd, hcd⟩ : ∃ z : Nat, z = (doF S e).2.2 := ⟨_, rfl⟩
      rw [← hcd] at hdo
      have HDO := Lib.hid hdo
      have HCD := Lib.hid hcd
      have k1 : (k : Int) < m := by omega
      clear hP hek hp9 hdo hcd
      go_upto_region 13 with (go_at_call 12; refine HDO.out.mono ?_; rintro en w5 ⟨v, rfl, hd5⟩; have HD5 := Lib.hid (HP.out.doC hd5); clear hd5)
      obtain ⟨ho5, M5, hp5⟩ := HD5.out
      obtain ⟨Av, nv, cv, rfl⟩ : ∃ A n c, v = Value.slice A n c := (by obtain ⟨A, c, h, _⟩ := own_form ho5; exact ⟨A, _, c, h⟩)
      have HO5 := Lib.hid ho5
      have HP5 := Lib.hid hp5
      clear lv ho5 hp5 HD5
      refine wp_region_stages [(true, 5), (false, 1), (true, 5)] (by kernel_rfl) (by kernel_rfl) fun wz hz hz2 => ?_
      have HPZ := Lib.hid (HP5.out.later hz)
      have HOZ := Lib.hid (show OutM wz wr.heap.size (.slice Av nv cv) (doF S e).2.1 from own_below HO5.out hz)
      have f1 := fun (dd : Nat) (os : Array Obj) => ld_rp ((HPZ.out.later (below_regrown wz dd os)).p.cell 0)
      have f2 := fun (dd : Nat) (os : Array Obj) => HEW.out (grow (redrawn wz dd) os) (HPZ.out.later (below_regrown wz dd os)).c.bel
      clear hz hz2
      refine wpSt_q ?_
      simp only [List.take_succ_cons, List.take_zero, List.drop_succ_cons, List.drop_zero]
      repeat (go_big_quiet_step (fail))
      refine wpQuiet_nil ?_
      intro _ hw'
      obtain ⟨⟨dq, osq⟩, hw''⟩ := hw'
      subst hw''
      have hbq := below_regrown wz dq osq
      generalize grow (redrawn wz dq) osq = wq at hbq ⊢
      have HPQ := Lib.hid (HPZ.out.later hbq)
      have HOQ := Lib.hid (show OutM wq wr.heap.size (.slice Av nv cv) (doF S e).2.1 from own_below HOZ.out hbq)
      clear hbq f1 f2
      refine wpSt_l ?_
      simp only [List.take_succ_cons, List.take_zero, List.drop_succ_cons, List.drop_zero]
      have hdr := rcore_do HPQ.out.r e HP9.out
      rw [← HCD.out] at hdr
      have HDR := Lib.hid hdr
      clear hdr
      go_wp2_with fail
      refine HDR.out.mono ?_
      rintro en w6 ⟨v2, rfl, hd6⟩
      obtain ⟨ho6, hq6, N6, hp6⟩ := HPQ.out.doR HOQ.out hd6
      obtain ⟨A2, n2, c2, rfl⟩ : ∃ A n c, v2 = Value.slice A n c := (by obtain ⟨A, c, h, _⟩ := own_form ho6; exact ⟨A, _, c, h⟩)
      have HO6 := Lib.hid ho6
      have HQ6 := Lib.hid hq6
      have HP6 := Lib.hid hp6
      clear hd6 ho6 hq6 hp6 HDR
      go_wp2_with fail
      refine wpSt_q ?_
      simp only [List.take_succ_cons, List.take_zero, List.drop_succ_cons, List.drop_zero]
      repeat (go_big_quiet_step (fail))
      refine wpQuiet_nil ?_
      intro _ hw'
      obtain ⟨⟨dp, osp⟩, hw''⟩ := hw'
      subst hw''
      have hbp := below_regrown w6 dp osp
      generalize grow (redrawn w6 dp) osp = w7 at hbp ⊢
      have HP7 := Lib.hid (HP6.out.later hbp)
      have ha7 : OutM w7 wr.heap.size (.slice Av nv cv) (doF S e).2.1 := own_below HQ6.out hbp
      have hb7 : OutM w7 wq.heap.size (.slice A2 n2 c2) (doF S e).2.1 := own_below HO6.out hbp
      obtain ⟨no, hno⟩ : ∃ z, z = (doF S e).2.1.length := ⟨_, rfl⟩
      have e1 : nv = no := by obtain ⟨A9, c9, h9, _⟩ := own_form ha7; injection h9 with _ h9 _; rw [h9, hno]
      have e2 : n2 = no := by obtain ⟨A9, c9, h9, _⟩ := own_form hb7; injection h9 with _ h9 _; rw [h9, hno]
      subst e1
      subst e2
      have HST := Lib.hid (sametold_any ha7 hb7 hno (by have := HLN.out; omega))
      clear ha7 hb7 hno hbp
      refine wpSt_end ?_
      go_wp2_with (first
        | (go_at_call 22; refine HST.out.mono ?_; rintro en w8 ⟨rfl, hb8⟩; have HP8 := Lib.hid (HP7.out.later hb8); have lr := ld_rp (HP8.out.p.cell 0); have HSM := Lib.hid HP8.out.same; clear hb8)
        | (go_at_call 21; refine HSM.out.mono ?_; rintro en w9 ⟨rfl, hb9⟩; have HP9 := Lib.hid (HP8.out.later hb9); clear hb9 lr))
      go_roundw
      case rel => exact ⟨k + 1, M5, N6, _, by omega, by go_num, HP9.out⟩
      case measure => simp [intOf]; omega
    · obtain rfl : k = m := by omega
      have HALL := Lib.hid (lall_any hP.c)
      have hfn : ∀ (w2 : World) (b : Nat), (binOp .eql 72 (.func (.func 45) #[] #[.pointer (some ⟨b, 0, none⟩)]) Value.nilFunc).run Try.prog w2 = .ok (.bool false) w2 := fun w2 b => by kernel_rfl
      clear hP
      obtain ⟨wo, rfl⟩ : ∃ wo : World, wo = wr := ⟨_, rfl⟩
      go_upto_region 19 with (go_at_call 23; refine HALL.out.mono ?_; rintro en w5 ⟨Bx, v, rfl, hbx, hrow, hbl, hb5⟩; have HP5 := Lib.hid (HP.out.later hb5); have HBX := Lib.hid hbx; have HROW := Lib.hid hrow; clear hbx hrow hbl hb5)
      have st := st_i_new w5
      obtain ⟨V0, hV0⟩ : ∃ Z, Z = w5.alloc (.cells #[.int .i64 0] 3) := ⟨_, rfl⟩
      obtain ⟨ib, hib⟩ : ∃ b, b = w5.heap.size := ⟨_, rfl⟩
      have hbv : Below w5.heap.size w5 V0 := by rw [hV0]; exact (Below.refl _ _).alloc (Nat.le_refl _) _
      have hki : Blk V0 ib 3 #[.int .i64 ((0 : Nat) : Int)] := by rw [hV0, hib]; exact Blk.new _ _ _
      have HPV := Lib.hid (HP5.out.later hbv)
      have HBXV := Lib.hid (HBX.out.below hbv HBX.out.lt)
      have HROWV := Lib.hid (own_base (own_below HROW.out hbv) (Nat.zero_le _))
      have HKI := Lib.hid hki
      have HIB := Lib.hid (show W0.heap.size ≤ ib by rw [hib]; exact HP5.out.c.bel.size)
      have HV0' := Lib.hid hV0
      have HIBE := Lib.hid hib
      clear hV0 hbv hki hib
      obtain ⟨Ar, cr, hv, _⟩ := own_form HROWV.out
      subst hv
      obtain ⟨I, hI⟩ : ∃ I : Nat → Prop, I = fun j => (j = Bx ∨ (Value.slice Ar S.all.length cr).ownBlock = some j) ∧ j < V0.heap.size := ⟨_, rfl⟩
      have HI := Lib.hid (show ∀ j, I j → (j = Bx ∨ (Value.slice Ar S.all.length cr).ownBlock = some j) ∧ j < V0.heap.size from fun j hj => by rw [hI] at hj; exact hj)
      have HST := Lib.hid (show SeqFit Fence.wide 4 Try.prog 45 #[.pointer (some ⟨Bx, 0, none⟩)] (fun x : Le => #[.agg #[.int .u32 (x.p.1 : Int), .int .i64 x.p.2], .agg (viC S.pc x)]) (Same I) (fun ys => ys = S.all) (fun pre => pre <+: S.all) (fun pre x _ => pre ++ [x] <+: S.all) V0 from
        fun l J Jx W hbW hJ _ hJ0 hY => all12_in Fence.wide 4 trivial rfl (by omega) l Bx I Ar cr S.pc S.all (by have := HP5.out.c.ok.len; omega) J Jx W (fun j hj => Nat.lt_of_lt_of_le (HI.out j hj).2 hbW.size) hJ hY ((HBXV.out.below hbW HBXV.out.lt).cell 0) (own_below HROWV.out hbW) (fun g hg => by rw [hI]; exact ⟨.inr hg, (own_lt HROWV.out hg).2⟩) hJ0)
      have HIN := Lib.hid (show ∀ j, only ib j → ¬ I j from fun j (e : j = ib) hj => by
        subst e
        rcases (HI.out _ hj).1 with e | e
        · exact HKI.out.ne_ HBXV.out (by decide) e
        · exact own_blk_ne HROWV.out HKI.out (by decide) e)
      clear hI
      go_wp2_with fail
      rw [← HV0'.out, ← HIBE.out]
      clear st hfn
      refine (wpIn_wide (n := 5)).1 ?_
      refine wpIn_range_fit rfl (by omega) (gf := 45) (lb := #[.pointer (some ⟨Bx, 0, none⟩)]) rfl trivial (enters_of Try.func45 (by kernel_rfl) rfl) HST.out (fun h k => same_t h k) (fun W l o o' hl h h1 h2 => same_b (w := V0) (fun j hj => (HI.out j hj).2) W l o o' hl h h1 h2) (Below.refl _ _) (fun _ => rfl)
        (fun pre W => PlG V0 W ib pre.length) (fun _ _ _ => False) (fun pre W W' row hs hg hr => hs.own hg hr) (fun _ _ _ _ _ hs _ _ => hs) ⟨Upd.refl _ _, HKI.out⟩
        (fun t pre x a' W => pre ++ [x] <+: S.all ∧ ∃ Bp Be, Blk W Bp 36 (pfC x.p) ∧ Blk W Be 43 (viC S.pc x) ∧ a' = { tmps := (((t.setIfInBounds 106 (.agg #[.int .u32 (x.p.1 : Int), .int .i64 x.p.2])).setIfInBounds 107 (.agg (viC S.pc x))).setIfInBounds 18 (.pointer (some ⟨Bp, 0, none⟩))).setIfInBounds 19 (.pointer (some ⟨Be, 0, none⟩)), defers := [] })
        (fun pre x a' _ W W' row hs hg hr => by obtain ⟨h0, Bp, Be, h1, h2, h3⟩ := hs; exact ⟨h0, Bp, Be, blk_own h1 hg fun r e => (hr r e).2, blk_own h2 hg fun r e => (hr r e).2, h3⟩) ?assign ?body ?done ?stop
      case assign =>
        intro l pre x W K hi hfit hsz hK
        have st1 := st_pf_new W (x.p.1 : Int) x.p.2
        obtain ⟨V3, st2, hk3, hb3⟩ := vi_copy (W.alloc (.cells #[.int .u32 (x.p.1 : Int), .int .i64 x.p.2] 36)) S.pc x
        have hb1 : Below W.heap.size W (W.alloc (.cells #[.int .u32 (x.p.1 : Int), .int .i64 x.p.2] 36)) := (Below.refl _ _).alloc (Nat.le_refl _) _
        have hk1 : Blk (W.alloc (.cells #[.int .u32 (x.p.1 : Int), .int .i64 x.p.2] 36)) W.heap.size 36 (pfC x.p) := Blk.new _ _ _
        have hball : Below W.heap.size W V3 := hb1.trans (hb3.mono hb1.size)
        have hk1' := hk1.below hb3 hk1.lt
        have hz : (W.alloc (.cells #[.int .u32 (x.p.1 : Int), .int .i64 x.p.2] 36)).heap.size = W.heap.size + 1 := by simp
        rw [hz] at st2 hk3
        have HBA := Lib.hid hball
        have HK1 := Lib.hid hk1'
        have HK3 := Lib.hid hk3
        have HGI := Lib.hid (hi.own (W' := V3) (row := none) ⟨hball.os, hball.tape, hball.output, hball.size, fun j hj _ => hball.block j hj⟩ fun r e => by cases e)
        clear hb1 hk1 hball hk1' hz hk3 hb3 hi
        dsimp only
        gi_wp2
        refine hK _ _ (keeps_of_below HBA.out) (Same.ofBelow HBA.out fun j hj => Nat.lt_of_lt_of_le (HI.out j hj).2 hsz) HGI.out ⟨hfit, W.heap.size, W.heap.size + 1, HK1.out, HK3.out, rfl⟩
      case body =>
        rintro l pre x a' W hl ⟨rr, hr⟩ hs ⟨hfit, Bp, Be, hbp, hbe, rfl⟩
        obtain ⟨k, hk⟩ : ∃ k, k = pre.length := ⟨_, rfl⟩
        rw [← hk] at hs
        have hx : S.all[k]? = some x := by
          obtain ⟨t, ht⟩ := hfit
          rw [← ht, hk]
          simp
        have hrc : RCore W0 W N1 rb S := HPV.out.r.keep hs.u (fun b e => by cases e; exact HPV.out.r.apartB HKI.out (by decide) (by decide)) (fun b e => by cases e; exact HIB.out)
        have hkb : Blk W bb 62 #[.pointer (some ⟨rb, 0, none⟩)] := HPV.out.p.upd hs.u fun e => HPV.out.p.ne_ HKI.out (by decide) e
        obtain ⟨D, av, ov, _, hrm, _⟩ := hrc.ex
        obtain ⟨g, cap, hav, _⟩ := hrm.at_ (by have := (List.getElem?_eq_some_iff.1 hx).1; omega)
        subst hav
        have hv := view_any hrm hx hrc.ok.len (fun q => (hrc.ok.e x (List.mem_of_getElem? hx)).s q) hrc.ok.pc.b
        have HVW := Lib.hid (fun wz (h : Below W.heap.size W wz) => view_any (hrm.below h) hx hrc.ok.len (fun q => (hrc.ok.e x (List.mem_of_getElem? hx)).s q) hrc.ok.pc.b)
        clear hv
        have hkn : k < S.all.length := (List.getElem?_eq_some_iff.1 hx).1
        obtain ⟨nn, hnn⟩ : ∃ n, n = S.all.length := ⟨_, rfl⟩
        rw [← hnn] at hkn
        have HRB := Lib.hid (show Blk W rb 77 (rcC S.room S.pc (.slice (some ⟨g, 0, none⟩) nn cap) ov) by rw [hnn]; exact hrm.blk)
        have HK := Lib.hid hk
        have HI2 := Lib.hid hs
        have HBB := Lib.hid hkb
        have HBP := Lib.hid hbp
        have HBE := Lib.hid hbe
        have HF := Lib.hid hfit
        have hd2 : decide (nn ≤ k) = false := decide_eq_false (by omega)
        have hd3 : decide ((nn : Int) ≤ (k : Int)) = false := decide_eq_false (by omega)
        have hL9 : nn ≤ 1024 := by rw [hnn]; exact hrc.ok.len
        clear hk hs hx hrc hkb hrm hbp hbe hfit hnn
        simp only [List.setIfInBounds_toArray, List.set_cons_zero, List.set_cons_succ]
        gi_wp2_with fail
        refine wpIn_region_stages [(true, 20)] (by kernel_rfl) (by kernel_rfl) (by kernel_rfl) fun wz hz hz2 => ?_
        have hbq := fun (dd : Nat) (os : Array Obj) => hz.trans ((below_regrown wz dd os).mono hz.size)
        have q0 := fun (dd : Nat) (os : Array Obj) => ld_iC (b := ib) (o := 0) (z := (k : Int)) ((HI2.out.i.below (hbq dd os) HI2.out.i.lt).cell 0)
        have q1 := fun (dd : Nat) (os : Array Obj) => ld_rp ((HBB.out.below (hbq dd os) HBB.out.lt).cell 0)
        have q2 := fun (dd : Nat) (os : Array Obj) => ld_all (b := rb) (A := some ⟨g, 0, none⟩) (n := nn) (c := cap) ((HRB.out.below (hbq dd os) HRB.out.lt).cell 17)
        have q3 := fun (dd : Nat) (os : Array Obj) => Calls.regrown_of (HVW.out (grow (redrawn wz dd) os) (hbq dd os))
        have q4 := fun (dd : Nat) (os : Array Obj) => vi_load (HBE.out.below (hbq dd os) HBE.out.lt)
        have q5 := fun (dd : Nat) (os : Array Obj) => ld_pf (HBP.out.below (hbq dd os) HBP.out.lt)
        have q6 := fun (dd : Nat) (os : Array Obj) => vi_p (HBE.out.below (hbq dd os) HBE.out.lt)
        have q7 := fun wx => neq_vi S.pc x wx
        have q8 := fun wx => neq_pfs x.p.1 x.p.2 wx
        have HZ := Lib.hid hz
        clear hz hz2 hbq
        refine wpSt_q ?_
        simp only [List.take_succ_cons, List.take_zero, List.drop_succ_cons, List.drop_zero]
        repeat (go_big_quiet_step (with_reducible exact q3 _ _))
        refine wpQuiet_nil ?_
        intro _ hw'
        obtain ⟨⟨dq, osq⟩, hw''⟩ := hw'
        subst hw''
        have hbq := HZ.out.trans ((below_regrown wz dq osq).mono HZ.out.size)
        generalize grow (redrawn wz dq) osq = wq at hbq ⊢
        clear q0 q1 q2 q3 q4 q5 q6 q7 q8
        refine wpSt_end ?_
        refine And.intro rfl ?_
        have hiq := HI2.out.i.below hbq HI2.out.i.lt
        have l9 := ld_iC (b := ib) (o := 0) (z := (k : Int)) (hiq.cell 0)
        have s9 := st_iC (hiq.cell 0) (hiq.frozen 0) ((k : Int) + 1)
        have hw1 : IntKind.i64.wrap ((k : Int) + 1) = (k : Int) + 1 := by rw [IntWalk.i64_in _ (by omega)]
        have HIQ := Lib.hid hiq
        have HBQ := Lib.hid hbq
        clear hiq hbq
        gi_wp2_with fail
        have hu9 : Upd (only ib) W (wq.setCell ⟨ib, 0, none⟩ (.int .i64 ((k : Int) + 1))) := Upd.setCell (F := only ib) (Upd.ofBelow HBQ.out (only ib)) (p := ⟨ib, 0, none⟩) (.inl rfl) _
        have hk9 := HIQ.out.set_ 0 (.int .i64 ((k : Int) + 1))
        refine ⟨keeps_of_cells _ hu9 fun j hj _ => by cases hj; exact ⟨_, _, HI2.out.i⟩, hu9.same fun j hj hi => HIN.out j hj hi, HI2.out.u.trans_ hu9, ?_⟩
        rw [List.length_append, ← HK.out, List.length_singleton]
        simpa using hk9
      case done =>
        rintro D ys W hD hys hi hdef
        rw [hys] at hi
        clear hys
        obtain ⟨nn, hnn⟩ : ∃ n, n = S.all.length := ⟨_, rfl⟩
        rw [← hnn] at hi
        have hapi : ∀ b, only ib b → ¬ M1 b := fun b e => by cases e; exact HPV.out.c.apart HKI.out (by decide) (by decide)
        have hown : ∀ b, only ib b → W0.heap.size ≤ b := fun b e => by cases e; exact HIB.out
        have hcc : Core W0 W M1 cb mb S := HPV.out.c.keep hi.u hapi hown
        have hrc : RCore W0 W N1 rb S := HPV.out.r.keep hi.u (fun b e => by cases e; exact HPV.out.r.apartB HKI.out (by decide) (by decide)) hown
        have hkb : Blk W bb 62 #[.pointer (some ⟨rb, 0, none⟩)] := HPV.out.p.upd hi.u fun e => HPV.out.p.ne_ HKI.out (by decide) e
        have hka : Blk W w.heap.size 4 #[.bool false] := HPV.out.a.upd hi.u fun e => HPV.out.a.ne_ HKI.out (by decide) e
        obtain ⟨Dr, av, ov, _, hrm, _⟩ := hrc.ex
        obtain ⟨Aa, na, ca, hav⟩ : ∃ A n c, av = Value.slice A n c := (by obtain ⟨A, c, h, _⟩ := own_form hrm.row; exact ⟨A, _, c, h⟩)
        have hna : na = nn := by obtain ⟨A9, c9, h9, _⟩ := own_form hrm.row; rw [hav] at h9; injection h9 with _ h9 _; rw [h9, hnn]
        subst hna
        subst hav
        have hen := core_entry hcc (p := (1, 5)) (by unfold pfOk; decide)
        have hff : EnF S (1, 5) = .tuple #[.agg viZ, .bool false] := by
          unfold EnF
          rw [find_five fun x hx => (hcc.ok.e x hx).may]
        rw [hff] at hen
        have HEN := Lib.hid hen
        have HCC := Lib.hid hcc
        have HRB := Lib.hid hrm.blk
        have HBB := Lib.hid hkb
        have HKA := Lib.hid hka
        have HI2 := Lib.hid hi
        have HDF := Lib.hid hdef
        clear hapi hown hcc hrc hkb hka hrm hen hff hi hdef
        go_upto_region 27 with (go_at_call 14; refine HEN.out.mono ?_; rintro en w5 ⟨rfl, hb5⟩; obtain ⟨V3, st, hb3⟩ := viz_copy w5; have HB5 := Lib.hid (hb5.trans (hb3.mono hb5.size)); clear hb5 hb3)
        clear st
        have HB3 := Lib.hid HB5.out
        have hB := HCC.out.bel.trans (HB5.out.mono HCC.out.bel.size)
        have hz0 : (if (na : Int) = (na : Int) then true else false) = true := if_pos rfl
        refine wp_region_mix [(true, 14), (false, 1)] 0 (by kernel_rfl) (fun a => Below W.heap.size W a) (fun _ _ h k => h.trans (k.mono h.size)) (by kernel_rfl) HB5.out (a' := ?_) (fun wz hz => ?_) fun wz hz => ?_
        rotate_left
        · have hbq := fun (dd : Nat) (os : Array Obj) => hz.trans ((below_regrown wz dd os).mono hz.size)
          have q0 := fun (dd : Nat) (os : Array Obj) => ld_iC (b := ib) (o := 0) (z := (na : Int)) ((HI2.out.i.below (hbq dd os) HI2.out.i.lt).cell 0)
          have q1 := fun (dd : Nat) (os : Array Obj) => ld_rp ((HBB.out.below (hbq dd os) HBB.out.lt).cell 0)
          have q2 := fun (dd : Nat) (os : Array Obj) => ld_all (b := rb) (A := Aa) (n := na) (c := ca) ((HRB.out.below (hbq dd os) HRB.out.lt).cell 17)
          have q3 := fun (dd : Nat) (os : Array Obj) => Calls.regrown_of (known12_any (grow (redrawn wz dd) os))
          clear hz hbq
          simp only [pick_nil, pick_tt, pick_ft, List.take_succ_cons, List.take_zero, List.drop_succ_cons, List.drop_zero, List.append_nil]
          repeat (go_big_quiet_step (with_reducible exact q3 _ _))
          refine wpQuiet_nil ?_
          rfl
        simp only [pick_nil, pick_ff, pick_tf, List.take_succ_cons, List.take_zero, List.drop_succ_cons, List.drop_zero, List.append_nil]
        have HZ := Lib.hid hz
        clear hz
        refine wpMix_step (HB5.out.trans (HZ.out.mono HB5.out.size)) fun wa ha => ?_
        have ha := (HB5.out.trans (HZ.out.mono HB5.out.size)).trans (ha.mono (Nat.le_trans HB5.out.size HZ.out.size))
        have hba := HCC.out.bel.trans (ha.mono HCC.out.bel.size)
        have hka := HKA.out.below ha HKA.out.lt
        have st := st_bC (hka.cell 0) (hka.frozen 0) true
        have hda : wa.heap[D]? = some (.deferred (some [])) := (ha.block D (Array.getElem?_eq_some_iff.1 HDF.out).1).trans HDF.out
        have HK9 := Lib.hid hka
        have HB9 := Lib.hid hba
        have HD9 := Lib.hid hda
        clear hka hba hda ha
        go_wp2_with fail
        refine wpMix_plain ?_
        go_wp2_with fail
        have hwd : w.heap.size ≠ D := fun e => by
          have h1 : wa.heap[w.heap.size]? = some (.cells #[.bool false] 4) := HK9.out
          rw [e, HD9.out] at h1
          cases h1
        have hb10 : Below w.heap.size w (wa.setCell ⟨w.heap.size, 0, none⟩ (.bool true)) := (HB0.out.trans (HB9.out.mono HB0.out.size)).setCell (p := ⟨w.heap.size, 0, none⟩) (Nat.le_refl _) _
        have hd9 : (wa.setCell ⟨w.heap.size, 0, none⟩ (.bool true)).heap[D]? = some (.deferred (some [])) := (Below.heap_setCell wa ⟨w.heap.size, 0, none⟩ _ D (by show D ≠ w.heap.size; exact fun e => hwd e.symm)).trans HD9.out
        have hr9 := HK9.out.set_ 0 (.bool true)
        have hDw : w.heap.size ≤ D := by
          have := HCC.out.bel.size
          have := HB0.out.size
          have hD' : V0.heap.size ≤ D := hD
          have := HPV.out.c.bel.size
          omega
        generalize wa.setCell ⟨w.heap.size, 0, none⟩ (.bool true) = w9 at hb10 hd9 hr9 ⊢
        have j1 := blk_own hr9 (grownBy_putObj' w9 D (.deferred none)) (fun r e => by cases e; exact ⟨_, hd9, rfl⟩)
        have a0 := j1.cell 0
        have hBz := hb10.trans (belowK_b (w := w) (Nat.le_refl _) w9 D _ (.deferred none) hDw hd9 rfl rfl)
        refine ⟨by simp, .inl ⟨_, _, rfl, run_takeDeferred hd9, ?_⟩⟩
        refine ⟨.bool true, ?_, ⟨rfl, hBz⟩⟩
        simp [results, Try.f8, go_sem, a0]
      case stop =>
        intro D c pre W hD hpre hx
        exact hx.elim
theorem plays_any (room : Int) (A : Option Addr) (n c : Nat) (lo : List Pf) (B : Option Addr) (m d : Nat) (le : List Ev) (w : World) (r : Reads w (fun k => k < w.heap.size) 2 A n (flatP lo)) (hl : lo.length = n) (hp : ∀ p ∈ lo, p.1 < 2 ^ 32)
    (r2 : Reads w (fun k => k < w.heap.size) 6 B m (le.flatMap evC)) (hl2 : le.length = m) (hp2 : ∀ e ∈ le, e.p.1 < 2 ^ 32) :
    Calls Try.prog 8 #[.int .i64 room, .slice A n c, .slice B m d] w fun e w' => e = .returned (.bool true) ∧ Below w.heap.size w w' := by
  by_cases hb : 150 < m ∨ 12 < n
  · exact plays_big room A n c B m d w hb
  · rw [not_or] at hb
    cases h : newF room lo with
    | none => exact plays_no room A n c lo B m d w r hl hp hb.1 hb.2 h
    | some all => exact plays_yes room A n c lo B m d le w r hl hp r2 hl2 hp2 hb.1 hb.2 h
end Go.Proofs.Ytahdjfegihnolaa
