/- Tries of ways: walk, All. -/
import Derived.Test.YthlommalbkhcjaaGreatFtU
namespace Go.Proofs.YthlommalbkhcjaaGreat
open Go.RowKit Go.Sort Go.BigFrame
variable {dc : Int → Array Value}
theorem results_noneT {fn : Func} (h : fn.results = #[]) (tmps : Array Value) (P : Program) (w : World) : (results fn tmps).run P w = .ok (.tuple #[]) w := by simp [results, h]
/-- While All walks: its list. -/
def WA (dc : Int → Array Value) (w0 : World) (lb : Nat) (acc : List (Bs × Int)) (wx : World) : Prop := Below w0.heap.size w0 wx ∧ w0.heap.size ≤ lb ∧ ∃ lv, Blk wx lb 240 #[lv] ∧ wx.ownsRow w0.heap.size 242 259 lv acc.length (flatN dc acc)
theorem ld_slE {w : World} {b : Nat} {A : Option Addr} {n c : Nat} (hb : Blk w b 240 #[.slice A n c]) : (Instr.loadAt 240 (.pointer (some ⟨b, 0, none⟩))).run Tryz.prog w = .ok (.slice A n c) w := ld_slN (hb.cell 0)
set_option maxRecDepth 100000 in
set_option maxHeartbeats 4000000 in
attribute [-go_sem] Instr.storeAt Instr.loadAt Instr.build Instr.buildSlice in
theorem all1_any (hd : Dc dc) (w0 wx : World) (lb b : Nat) (acc : List (Bs × Int)) (q : Bs) (x : Int) (g : Bool) (pl pr : Value) (hk : Blk w0 b 192 (ndC dc q x g pl pr)) (h : WA dc w0 lb acc wx) (hn : acc.length ≤ 1000000) :
    Calls Tryz.prog 161 #[.pointer (some ⟨b, 0, none⟩), .pointer (some ⟨lb, 0, none⟩)] wx fun e w' => e = .returned (.tuple #[]) ∧ WA dc w0 lb (acc ++ (if g then [(q, x)] else [])) w' := by
  obtain ⟨hb, hle, lv, hkl, ho⟩ := h
  obtain ⟨m, hm⟩ : ∃ m, m = acc.length := ⟨_, rfl⟩
  rw [← hm] at ho hn
  obtain ⟨Al, cl, rfl, _⟩ := own_form ho
  have hkb := hk.below hb hk.lt
  unfold ndC at hkb
  obtain ⟨qa, hqa⟩ : ∃ qa, qa = padB q := ⟨_, rfl⟩
  obtain ⟨qn, hqn⟩ : ∃ qn, qn = q.length := ⟨_, rfl⟩
  rw [← hqa, ← hqn] at hkb
  have HD := Lib.hid hd
  have HB := Lib.hid hb
  have HKL := Lib.hid hkl
  have HO := Lib.hid ho
  have HKB := Lib.hid hkb
  have HQA := Lib.hid hqa
  have HQN := Lib.hid hqn
  have HM := Lib.hid hm
  have lh := ld_ndH hkb (hd.sz x)
  have hne85 : (242 : TypeId) ≠ 240 := by decide
  clear hk hkb hqa hqn hkl ho hb hd hm
  cases g with
  | false =>
    go_enter Tryz.func161, Tryz.ntmps161
    go_wp2
    refine bodyPost_end (results_noneT rfl _ _ _) rfl ?_
    refine ⟨rfl, HB.out, hle, _, HKL.out, ?_⟩
    have hm := HM.out
    subst hm
    simpa using HO.out
  | true =>
    obtain ⟨z0, hin, hz0, hz1, hz2⟩ := info_parts info_en
    have hmx : m + 1 ≤ maxLen := by unfold maxLen; omega
    have hmb : (m + 1) * 2072 ≤ 140737488355328 := by omega
    go_enter Tryz.func161, Tryz.ntmps161
    go_upto_region 1 with (fail)
    clear lh
    have HC := Lib.hid (And.intro HKB.out HKL.out)
    refine wp_region_mix [(true, 10), (false, 3)] 2 (by kernel_rfl) (fun wy => Blk wy b 192 (ndX (qa : Int) (qn : Int) (dc x) true pl pr) ∧ Blk wy lb 240 #[.slice Al m cl]) (fun _ _ h k => ⟨h.1.below k h.1.lt, h.2.below k h.2.lt⟩) (by kernel_rfl) HC.out (a' := ?_) (fun wz hz => ?_) fun wz hz => ?_
    rotate_left
    · have q0 := fun (dd : Nat) (os : Array Obj) => ld_ndP (hz.1.below (below_regrown wz dd os) hz.1.lt)
      have q1 := fun (dd : Nat) (os : Array Obj) => ld_way (hz.1.below (below_regrown wz dd os) hz.1.lt) (HD.out.sz x)
      have q2 := fun wx => bd_en wx (qa : Int) (qn : Int) (dc x) (HD.out.sz x)
      have q3 := fun (dd : Nat) (os : Array Obj) => ld_slE (hz.2.below (below_regrown wz dd os) hz.2.lt)
      clear hz
      simp only [pick_nil, pick_tt, pick_ft, List.take_succ_cons, List.take_zero, List.drop_succ_cons, List.drop_zero, List.append_nil]
      repeat (go_big_quiet_step (fail))
      refine wpQuiet_nil ?_
      rfl
    simp only [pick_nil, pick_ff, pick_tf, List.take_succ_cons, List.take_zero, List.drop_succ_cons, List.drop_zero, List.append_nil]
    have HZ := Lib.hid hz
    have HCZ := Lib.hid (show Blk wz b 192 (ndX (qa : Int) (qn : Int) (dc x) true pl pr) ∧ Blk wz lb 240 #[.slice Al m cl] from ⟨HC.out.1.below hz HC.out.1.lt, HC.out.2.below hz HC.out.2.lt⟩)
    have HOZ := Lib.hid (own_below HO.out hz)
    have HBZ := Lib.hid (HB.out.trans (hz.mono HB.out.size))
    clear hz
    refine wpMix_push (fun _ _ h k => ⟨h.1.below k h.1.lt, h.2.below k h.2.lt⟩) HCZ.out 242 (enX (qa : Int) (qn : Int) (dc x)).toList rfl (fun w' => bs_op w' (qa : Int) (qn : Int) (dc x) (HD.out.sz x) _ _ rfl rfl) rfl (.tmp 7) (.tmp 17) _ rfl rfl w0.heap.size z0 _ 259 2072 Tryz.underlying240 hin hz0 hz1 hz2 (by rw [Value.cells]; exact enX_size wy0_size) (by decide) (.slice Al m cl) m (flatN dc acc) (fun _ => rfl) (fun _ => rfl) HOZ.out (by rw [Array.length_toList]; exact enX_size (HD.out.sz x)) (en_oneX (HD.out.one x)) hmx hmb HBZ.out.size fun gq v2 w2 h2 hg2 h3 => ?_
    obtain ⟨A2, c2, rfl, _⟩ := own_form h2
    have HB2 := Lib.hid (HBZ.out.grown hg2 HBZ.out.size fun k hk => (own_lt HOZ.out hk).1)
    have HC2 := Lib.hid (show Blk w2 b 192 (ndX (qa : Int) (qn : Int) (dc x) true pl pr) ∧ Blk w2 lb 240 #[.slice Al m cl] from ⟨(hg2.block b HCZ.out.1.lt fun e => own_blk_ne HOZ.out HCZ.out.1 (by decide) e.symm).trans HCZ.out.1, (hg2.block lb HCZ.out.2.lt fun e => own_blk_ne HOZ.out HCZ.out.2 hne85 e.symm).trans HCZ.out.2⟩)
    have HO2 := Lib.hid (show w2.ownsRow w0.heap.size 242 259 (.slice A2 (m + 1) c2) (m + 1) (flatN dc (acc ++ [(q, x)])) by rw [flatN_snoc]; unfold enE; rw [← HQA.out, ← HQN.out]; exact h2)
    clear h2 hg2 h3
    refine wpMix_step HC2.out fun w3 hw3 => ?_
    have HB3 := Lib.hid (HB2.out.trans (hw3.mono HB2.out.size))
    have hk3 := HC2.out.2.below hw3 HC2.out.2.lt
    have HO3 := Lib.hid (own_below HO2.out hw3)
    have st := st_slN (hk3.cell 0) (hk3.frozen 0) A2 (m + 1) c2
    have HK3 := Lib.hid hk3
    clear hw3 hk3
    go_wp2_with fail
    refine wpMix_plain ?_
    go_wp2_with fail
    refine bodyPost_end (results_noneT rfl _ _ _) rfl ?_
    have hk5 := HK3.out.set_ 0 (.slice A2 (m + 1) c2)
    have ho5 := own_keep (I := fun k => k ≠ lb) HO3.out ((upd_set w3 lb 0 (.slice A2 (m + 1) c2)).same fun k (e : k = lb) hn => hn e) fun k hk e => own_blk_ne HO3.out HK3.out hne85 (e ▸ hk)
    refine ⟨rfl, HB3.out.setCell (p := ⟨lb, 0, none⟩) hle _, hle, .slice A2 (m + 1) c2, hk5, ?_⟩
    rw [List.length_append, ← HM.out]
    exact ho5
set_option maxRecDepth 100000 in
set_option maxHeartbeats 2000000 in
attribute [-go_sem] Instr.storeAt Instr.loadAt in
theorem walk_all (hd : Dc dc) (w0 : World) (lb : Nat) : ∀ (T : TT) (Ms : Nat → Prop) (pv : Value) (acc : List (Bs × Int)) (wx : World), IsT dc w0 Ms pv T → WA dc w0 lb acc wx → acc.length + T.list.length ≤ 1000000 →
    Calls Tryz.prog 160 #[pv, .func (.func 161) #[] #[.pointer (some ⟨lb, 0, none⟩)]] wx fun e w' => e = .returned (.tuple #[]) ∧ WA dc w0 lb (acc ++ T.list) w' := by
  intro T
  induction T with
  | nil =>
    intro Ms pv acc wx ht h hn
    obtain rfl : pv = .pointer none := ht
    have H := Lib.hid h
    clear h
    go_enter Tryz.func160, Tryz.ntmps160
    go_wp2
    refine bodyPost_end (results_noneT rfl _ _ _) rfl ?_
    exact ⟨rfl, by rw [TT.list, List.append_nil]; exact H.out⟩
  | node q x g l r ihl ihr =>
    intro Ms pv acc wx ht h hn
    obtain ⟨b, pvl, pvr, Ml, Mr, rfl, hk, _, _, _, _, tl, tr⟩ := ht
    have hlen : (TT.node q x g l r).list.length = (if g then [(q, x)] else []).length + (l.list.length + r.list.length) := by simp [TT.list]
    have hn1 : acc.length ≤ 1000000 := by omega
    obtain ⟨pl, rfl⟩ := tl.ptr
    obtain ⟨pr, rfl⟩ := tr.ptr
    have C1 := Lib.hid (all1_any hd w0 wx lb b acc q x g _ _ hk h hn1)
    have C2 := Lib.hid (fun (wy : World) (hw : WA dc w0 lb (acc ++ (if g then [(q, x)] else [])) wy) => ihl Ml _ _ wy tl hw (by rw [List.length_append]; omega))
    have C3 := Lib.hid (fun (wy : World) (hw : WA dc w0 lb ((acc ++ (if g then [(q, x)] else [])) ++ l.list) wy) => ihr Mr _ _ wy tr hw (by rw [List.length_append, List.length_append]; omega))
    have HK := Lib.hid hk
    have HD := Lib.hid hd
    have hkl := hk.lt
    clear ihl ihr hk tl tr hlen hn hn1 h hd
    go_enter Tryz.func160, Tryz.ntmps160
    go_wp2_with fail
    refine (C1.out).mono ?_
    rintro e w2 ⟨rfl, h2⟩
    have l2 := ld_ptN (((HK.out.below h2.1 hkl).cell 260).trans (ndX_l (HD.out.sz x)))
    have H2 := Lib.hid h2
    clear h2
    go_wp2_with fail
    refine (C2.out _ H2.out).mono ?_
    rintro e w3 ⟨rfl, h3⟩
    have l3 := ld_ptN (((HK.out.below h3.1 hkl).cell 261).trans (ndX_r (HD.out.sz x)))
    have H3 := Lib.hid h3
    clear h3
    go_wp2_with fail
    refine (C3.out _ H3.out).mono ?_
    rintro e w4 ⟨rfl, h4⟩
    have H4 := Lib.hid h4
    clear h4
    go_wp2_with fail
    refine bodyPost_end (results_noneT rfl _ _ _) rfl ?_
    refine ⟨rfl, ?_⟩
    have := H4.out
    rw [List.append_assoc, List.append_assoc] at this
    exact this
def AllPost (dc : Int → Array Value) (w : World) (T : TT) (e : Ending) (w' : World) : Prop := ∃ f, e = .returned f ∧ SeqOf dc w' (fun k => w.heap.size ≤ k) f T.list ∧ Below w.heap.size w w'
set_option maxHeartbeats 2000000 in
attribute [-go_sem] Instr.storeAt Instr.loadAt in
theorem all_any (hd : Dc dc) (tb : Nat) (M : Nat → Prop) (limit : Int) (T : TT) (w : World) (h : IsTr dc w M tb limit T) (hsm : T.list.length ≤ 1000000) :
    Calls Tryz.prog 117 #[.pointer (some ⟨tb, 0, none⟩)] w (AllPost dc w T) := by
  obtain ⟨pv, hk, ht⟩ := h.ex
  obtain ⟨pu, rfl⟩ := ht.ptr
  obtain ⟨W0, hW0⟩ : ∃ Z, Z = w.alloc (.cells #[.slice none 0 0] 240) := ⟨_, rfl⟩
  have hB0 : Below w.heap.size w W0 := by rw [hW0]; exact (Below.refl w.heap.size w).alloc (Nat.le_refl _) _
  have hkl : Blk W0 w.heap.size 240 #[.slice none 0 0] := by rw [hW0]; exact Blk.new w _ _
  have hk1 := hk.below hB0 hk.lt
  have HT := Lib.hid (there_any tb _ _ _ _ hk1)
  have lt := ld_ptN (hk1.cell 0)
  have hW := walk_all hd w w.heap.size T _ _ [] W0 ht ⟨hB0, Nat.le_refl _, _, hkl, World.ownsRow_nil _ _ _ _⟩ (by simpa using hsm)
  rw [List.nil_append] at hW
  have HW := Lib.hid hW
  have HW0 := Lib.hid hW0
  obtain ⟨n, hn⟩ : ∃ n, n = T.list.length := ⟨_, rfl⟩
  have HN := Lib.hid hn
  clear hW h hk ht hk1 hB0 hsm hW0 hkl hn
  go_enter Tryz.func117, Tryz.ntmps117
  go_upto_region 2 with (fail)
  rw [← HW0.out]
  go_wp2_with (go_at_call 103; refine (HT.out).mono ?_; rintro e w' ⟨rfl, rfl⟩)
  refine (HW.out).mono ?_
  rintro e w2 ⟨rfl, hb2, _, lv, hc2, ho2⟩
  rw [← HN.out] at ho2
  obtain ⟨Al, cl, hlv, _⟩ := own_form ho2
  subst hlv
  have ls := ld_slN (hc2.cell 0)
  have HB2 := Lib.hid hb2
  have HO2 := Lib.hid ho2
  clear hb2 hc2 ho2 lt
  go_wp2_with (go_at_call 156; refine (over_any _ Al _ cl rfl _).mono ?_; rintro e w' ⟨rfl, rfl⟩)
  go_ret
  have ho := HO2.out
  have hn := HN.out
  subst hn
  obtain ⟨A2, c2, e2, hs⟩ := seq_new ho HB2.out
  exact ⟨_, rfl, hs, HB2.out.alloc HB2.out.size _⟩
theorem new_any (limit : Int) (w : World) : Calls Tryz.prog 47 #[.int .i64 limit] w fun e w' => e = .returned (.pointer (some ⟨w.heap.size, 0, none⟩)) ∧ w' = w.alloc (.cells #[.pointer none, .int .i64 (max 0 limit), .int .i64 0, .bool true] 184) := by
  go_enter Tryz.func47, Tryz.ntmps47
  go_wp2
  go_ret
  exact ⟨rfl, rfl⟩
end Go.Proofs.YthlommalbkhcjaaGreat
