/- The law's looks: a trie and the document's table look alike. -/
import Derived.Test.YtejiecebckjflaaTpH
import Derived.Test.YtejiecebckjflaaTcM
import Derived.Test.YtejiecebckjflaaTbC
import Derived.Test.YtejiecebckjflaaTbO
namespace Go.Proofs.Ytejiecebckjflaa
open Go.RowKit Go.Sort Go.BigFrame

theorem getT_eq {T : TT} (wf : T.wf []) {x : Px} (hx : x.a < 2 ^ 32) (hs : SortedB T.list) (h32 : ∀ e ∈ T.list, e.1.length ≤ 32) : getT x T.list = getP x T := by
  unfold getT getP
  by_cases hm : x.may = true
  · rw [if_pos hm, hasB_get wf hx hm hs h32]
    by_cases hg : (T.get (pB x)).isSome = true
    · rw [if_pos hg]
      obtain ⟨b, hb, hb2⟩ := in_get (x := x) (L := T.list) (by rw [hasB_get wf hx hm hs h32]; exact hg)
      have hmem := List.mem_of_getElem? hb
      rw [hb, TT.get_list wf, ← hb2 hx hm (h32 b hmem), getS_of_mem hs hmem]
      rfl
    · rw [if_neg hg]
      cases h : T.get (pB x) with
      | none => rfl
      | some v => rw [h] at hg; exact absurd rfl hg
  · rw [if_neg hm, if_neg]
    intro hin
    unfold inP at hin
    cases hh : T.list[atP x T.list]? with
    | none => rw [hh] at hin; cases hin
    | some e =>
      rw [hh] at hin
      obtain ⟨h1, h2⟩ := of_decide_eq_true hin
      have := bits_may (h32 e (List.mem_of_getElem? hh))
      rw [h1, h2] at this
      exact hm this
theorem seq_below {w : World} {I : Nat → Prop} {f : Value} {L : List (Bs × Int)} (h : SeqOf w I f L) : SeqOf w (fun k => k < w.heap.size) f L := by
  obtain ⟨Bx, A, cap, h1, h2, h3, h4⟩ := h
  exact ⟨Bx, A, cap, h1, h2, h2.lt, h4.lt.mono fun _ hk => hk.2⟩
theorem last_cells {C : List (Bs × Int)} {m : Nat} (h : C.length = m + 1) : C[m]? = some (lastE C) := by
  have hne : C ≠ [] := by intro e; rw [e] at h; cases h
  have h1 : C.getLast? = some (C.getLast hne) := List.getLast?_eq_some_getLast hne
  unfold lastE
  rw [h1, Option.getD_some, ← h1, List.getLast?_eq_getElem?, h]
  rfl
theorem num_regrown {w : World} {f : FuncId} {args : Array Value} {d : Nat} {os : Array Obj} {v : Value} (h : Calls Try.prog f args (grow (redrawn w d) os) fun e w' => e = .returned v ∧ grow (redrawn w d) os = w') : Calls Try.prog f args (grow (redrawn w d) os) fun e w'' => e = .returned v ∧ ∃ p : Regrown, w'' = grow (redrawn w p.d) p.os :=
  Calls.regrown_of (h.mono fun _ _ ⟨h1, h2⟩ => ⟨h1, h2 ▸ Below.refl _ _⟩)

set_option maxRecDepth 100000 in
set_option maxHeartbeats 8000000 in
theorem looks_any (x : Px) (a : Nat) (lv : Int) (tb db : Nat) (M N : Nat → Prop) (lim dl : Int) (T : TT) (w : World) (h1 : IsTr w M tb lim T) (h2 : IsTab w N db dl T.list) (hx : x.a < 2 ^ 32) (ha : a < 2 ^ 32) (hsm : T.list.length ≤ 100000) :
    Calls Try.prog 29 #[.pointer (some ⟨tb, 0, none⟩), .pointer (some ⟨db, 0, none⟩), pxV x.a x.n, .int .u32 (a : Int), .int .i64 lv] w fun e w' => e = .returned (.bool true) ∧ Below w.heap.size w w' := by
  have HTR := Lib.hid (fun (wx : World) (hb : Below w.heap.size w wx) => h1.keep ⟨hb.size, fun k hm _ => hb.block k (h1.lt k hm)⟩)
  have HTB := Lib.hid (fun (wx : World) (hb : Below w.heap.size w wx) => h2.below hb)
  have hgt := getT_eq h1.wf hx h2.sorted h2.short
  have hcv := TT.cov_list (A := bitsB a 32) h1.wf
  have HWF := Lib.hid h1.wf
  have HSM := Lib.hid hsm
  obtain ⟨W0, hW0⟩ : ∃ W0, W0 = w.alloc (.cells #[.int .u32 (x.a : Int), .int .i64 x.n] 31) := ⟨_, rfl⟩
  have hb0 : Below w.heap.size w W0 := by rw [hW0]; exact (Below.refl _ _).alloc (Nat.le_refl _) _
  have k0 : Blk W0 w.heap.size 31 #[.int .u32 (x.a : Int), .int .i64 x.n] := by rw [hW0]; exact Blk.new _ _ _
  have y0 : (w.alloc (.cells #[.int .u32 (x.a : Int), .int .i64 x.n] 31)).cell? ⟨w.heap.size, 0, none⟩ = some (.int .u32 (x.a : Int)) := by rw [← hW0]; exact k0.cell 0
  have y1 : (w.alloc (.cells #[.int .u32 (x.a : Int), .int .i64 x.n] 31)).cell? ⟨w.heap.size, 1, none⟩ = some (.int .i64 x.n) := by rw [← hW0]; exact k0.cell 1
  obtain ⟨ov, hov⟩ : ∃ ov, ov = getP x T := ⟨_, rfl⟩
  have c1 := get_any x tb M lim T W0 (HTR.out W0 hb0) hx
  have c2 := fun (wx : World) (hb : Below w.heap.size w wx) => tabget_any x db N dl T.list wx (HTB.out wx hb) (by have := HSM.out; omega)
  rw [hgt, ← hov] at c2
  rw [← hov] at c1
  rw [hW0] at c1
  have C1 := Lib.hid c1
  have C2 := Lib.hid c2
  have HB0 := Lib.hid hb0
  have K0 := Lib.hid k0
  have HW0 := Lib.hid hW0
  obtain ⟨C, hC⟩ : ∃ C, C = covS (bitsB a 32) T.list := ⟨_, rfl⟩
  have hcl : C.length ≤ 100000 := by have := covS_len (bitsB a 32) T.list; rw [← hC] at this; omega
  have c3 := fun (wx : World) (hb : Below w.heap.size w wx) => match_any a tb M lim T wx (HTR.out wx hb) ha (by have := HSM.out; omega)
  have c4 := fun (wx : World) (hb : Below w.heap.size w wx) => tabcov_any a db N dl T.list wx (HTB.out wx hb) ha hsm
  have c5 := fun (wx : World) (hb : Below w.heap.size w wx) => covers_any a tb M lim T wx (HTR.out wx hb) ha (by have := HSM.out; omega)
  unfold CovPost at c5
  unfold MatchPost at c3
  unfold TCov at c4
  rw [hcv, ← hC] at c3 c5
  rw [← hC] at c4
  obtain ⟨m, hm⟩ : ∃ m, m = C.length := ⟨_, rfl⟩
  obtain ⟨bb, hbb⟩ : ∃ bb, bb = !C.isEmpty := ⟨_, rfl⟩
  obtain ⟨qa, hqa⟩ : ∃ qa, qa = padB (lastE C).1 := ⟨_, rfl⟩
  obtain ⟨qn, hqn⟩ : ∃ qn, qn = (lastE C).1.length := ⟨_, rfl⟩
  obtain ⟨qv, hqv⟩ : ∃ qv, qv = (lastE C).2 := ⟨_, rfl⟩
  rw [← hbb, ← hqa, ← hqn, ← hqv] at c3
  rw [← hm] at c4 hcl
  have HM := Lib.hid hm
  have HBB := Lib.hid hbb
  have HQA := Lib.hid hqa
  have HQN := Lib.hid hqn
  have HQV := Lib.hid hqv
  have C3 := Lib.hid c3
  have C4 := Lib.hid c4
  have C5 := Lib.hid c5
  have HCL := Lib.hid hcl
  have C6 := Lib.hid (fun (wx : World) (hb : Below w.heap.size w wx) => all_any tb M lim T wx (HTR.out wx hb) (by have := HSM.out; omega))
  have C7 := Lib.hid (fun (wx : World) (hb : Below w.heap.size w wx) => nodes_any tb M lim T wx (HTR.out wx hb) (by have := (TT.keys_le HWF.out).1; have := HSM.out; omega))
  have C8 := Lib.hid (fun (wx : World) (hb : Below w.heap.size w wx) => tabnodes_any db N dl T wx (HTB.out wx hb) HWF.out HSM.out)
  clear h1 h2 hgt hcv hsm hb0 k0 hov c1 c2 hC hcl c3 c4 c5 hW0 hm hbb hqa hqn hqv
  go_enter Try.func29, Try.ntmps29
  go_wp2_with fail
  refine C1.out.mono ?_
  rw [← HW0.out]
  rintro e w1 ⟨rfl, hb1⟩
  have hB1 := HB0.out.trans (hb1.mono HB0.out.size)
  have HB1 := Lib.hid hB1
  have k1 := K0.out.below hb1 K0.out.lt
  have y2 : w1.cell? ⟨w.heap.size, 0, none⟩ = some (.int .u32 (x.a : Int)) := k1.cell 0
  have y3 : w1.cell? ⟨w.heap.size, 1, none⟩ = some (.int .i64 x.n) := k1.cell 1
  clear hb1 hB1 k1 y0 y1 K0 HW0
  go_wp2_with fail
  refine (C2.out _ HB1.out).mono ?_
  rintro e w2 ⟨rfl, hb2⟩
  have HB2 := Lib.hid (HB1.out.trans (hb2.mono HB1.out.size))
  clear hb2 y2 y3
  have hself : decide (ov.getD 0 = ov.getD 0) = true := decide_eq_true rfl
  go_wp2_with fail
  refine (C3.out _ HB2.out).mono ?_
  rintro e w3 ⟨rfl, hb3⟩
  have HB3 := Lib.hid (HB2.out.trans (hb3.mono HB2.out.size))
  have hk3 := Blk.new w3 31 #[.int .u32 (qa : Int), .int .i64 (qn : Int)]
  have HK3 := Lib.hid hk3
  have hb4 : Below w3.heap.size w3 (w3.alloc (.cells #[.int .u32 (qa : Int), .int .i64 (qn : Int)] 31)) := (Below.refl _ _).alloc (Nat.le_refl _) _
  have HB4 := Lib.hid (HB3.out.trans (hb4.mono HB3.out.size))
  clear hb3 hk3 hb4 hself
  go_wp2_with fail
  refine (C4.out _ HB4.out).mono ?_
  rintro e w5 ⟨Al, cl, rfl, hown5, hb5⟩
  have K5 := Lib.hid (HK3.out.below hb5 HK3.out.lt)
  have HB5 := Lib.hid (HB4.out.trans (hb5.mono HB4.out.size))
  have HR5 := Lib.hid ((Reads.of_own (I := fun _ => True) hown5 fun _ _ => trivial).lt.mono (J := fun k => k < w5.heap.size) fun _ hk => hk.2)
  have HCAP := Lib.hid (show m ≤ cl by obtain ⟨_, _, e, hc⟩ := own_form hown5; injection e with _ _ e; omega)
  clear hown5 hb5
  have z0 : w5.cell? ⟨w3.heap.size, 0, none⟩ = some (.int .u32 (qa : Int)) := K5.out.cell 0
  have z1 : w5.cell? ⟨w3.heap.size, 1, none⟩ = some (.int .i64 (qn : Int)) := K5.out.cell 1
  have n1 := fun w => neq_px qa qa qn qn w
  have e1 : (!decide (qa = qa ∧ (qn : Int) = qn)) = false := by simp
  rw [e1] at n1
  cases m with
  | zero =>
    have hnil : C = [] := List.eq_nil_of_length_eq_zero HM.out.symm
    obtain rfl : bb = false := by rw [HBB.out, hnil]; rfl
    obtain rfl : qa = 0 := by rw [HQA.out, hnil]; rfl
    obtain rfl : qn = 0 := by rw [HQN.out, hnil]; rfl
    obtain rfl : qv = 0 := by rw [HQV.out, hnil]; rfl
    clear hnil e1
    go_wp2_with fail
    go_quiet (fail)
    have hdr : Below w5.heap.size w5 (w5.drewN nq) := ⟨rfl, rfl, rfl, Nat.le_refl _, fun _ _ => rfl⟩
    generalize w5.drewN nq = w6 at hdr ⊢
    have HB6 := Lib.hid (HB5.out.trans (hdr.mono HB5.out.size))
    have HR6 := Lib.hid ((HR5.out.keep (Same.ofBelow hdr fun k hk => hk)).mono (J := fun k => k < w6.heap.size) fun k hk => Nat.lt_of_lt_of_le hk hdr.size)
    clear hdr z0 z1 n1
    go_wp2_with fail
    refine (C5.out _ HB6.out).mono ?_
    rintro e w7 ⟨f7, rfl, hsq7, hb7⟩
    have SQ7 := Lib.hid (seq_below hsq7)
    have HB7 := Lib.hid (HB6.out.trans (hb7.mono HB6.out.size))
    have HR7 := Lib.hid ((HR6.out.keep (Same.ofBelow hb7 fun k hk => hk)).mono (J := fun k => k < w7.heap.size) fun k hk => Nat.lt_of_lt_of_le hk hb7.size)
    clear hsq7 hb7
    go_wp2_with fail
    refine (C6.out _ HB7.out).mono ?_
    rintro e w8 ⟨f8, rfl, hsq8, hb8⟩
    have HB8 := Lib.hid (HB7.out.trans (hb8.mono HB7.out.size))
    have SQ8 := Lib.hid (seq_below hsq8)
    have SQ7' := Lib.hid ((SQ7.out.keep (Same.ofBelow hb8 fun k hk => hk)).mono (J := fun k => k < w8.heap.size) fun k hk => Nat.lt_of_lt_of_le hk hb8.size)
    have HR8 := Lib.hid ((HR7.out.keep (Same.ofBelow hb8 fun k hk => hk)).mono (J := fun k => k < w8.heap.size) fun k hk => Nat.lt_of_lt_of_le hk hb8.size)
    clear hsq8 hb8
    go_wp2_with fail
    obtain ⟨A, cap, hkw, hcap, _, hrd, _⟩ := (HTB.out _ HB8.out).form
    obtain ⟨pv, hkt, _⟩ := (HTR.out _ HB8.out).ex
    have hlt8 := (HTB.out _ HB8.out).lt
    have o1 := fun (lv : Int) (wx : World) (hb : Below w8.heap.size w8 wx) => once_any f7 wx Al cl lv C (fun k => k < w8.heap.size) (fun k hk => Nat.lt_of_lt_of_le hk hb.size) (SQ7'.out.keep (Same.ofBelow hb fun k hk => hk)) ((by
      have h := (HR8.out.keep (Same.ofBelow hb fun k hk => hk)).mono (J := fun k => k < wx.heap.size) fun k hk => Nat.lt_of_lt_of_le hk hb.size
      rw [HM.out] at h
      exact h)) (by rw [← HM.out]; have := HCL.out; omega)
    have o2 := fun (lv : Int) (wx : World) (hb : Below w8.heap.size w8 wx) => once_any f8 wx A cap lv T.list (fun k => k < w8.heap.size) (fun k hk => Nat.lt_of_lt_of_le hk hb.size) (SQ8.out.keep (Same.ofBelow hb fun k hk => hk)) (((hrd.mono (J := fun k => k < w8.heap.size) hlt8).keep (Same.ofBelow hb fun k hk => hk)).mono (J := fun k => k < wx.heap.size) fun k hk => Nat.lt_of_lt_of_le hk hb.size) (by have := HSM.out; omega)
    have o3 := fun (wx : World) (hb : Below w8.heap.size w8 wx) => len_any tb _ _ _ wx (hkt.below hb hkt.lt)
    have o4 := fun (wx : World) (hb : Below w8.heap.size w8 wx) => C7.out wx (HB8.out.trans (hb.mono HB8.out.size))
    have o5 := fun (wx : World) (hb : Below w8.heap.size w8 wx) => C8.out wx (HB8.out.trans (hb.mono HB8.out.size))
    obtain ⟨n, hn⟩ : ∃ n, n = T.list.length := ⟨_, rfl⟩
    obtain ⟨kn, hkn⟩ : ∃ kn, kn = T.keys.length := ⟨_, rfl⟩
    rw [← HM.out] at o1
    rw [← hn] at o2 o3 hkw
    rw [← hkn] at o4 o5
    have O1 := Lib.hid o1
    have O2 := Lib.hid o2
    have O3 := Lib.hid o3
    have O4 := Lib.hid o4
    have O5 := Lib.hid o5
    have t0 : w8.cell? ⟨db, 0, none⟩ = some (.slice A n cap) := hkw.cell 0
    clear o1 o2 o3 o4 o5 hn hkn hkw hkt hrd hcap hlt8
    refine wp_region_stages [(true, 44)] (by kernel_rfl) (by kernel_rfl) fun wz hz hz2 => ?_
    have tz : wz.cell? ⟨db, 0, none⟩ = some (.slice A n cap) := (hz.cell (p := ⟨db, 0, none⟩) (block_lt_of_cell t0)).trans t0
    have xt := cell_regrown tz
    have HZ := Lib.hid hz
    have k1 := fun (lv : Int) (d : Nat) (os : Array Obj) => Calls.regrown_of (O1.out lv (grow (redrawn wz d) os) (HZ.out.trans ((below_regrown wz d os).mono HZ.out.size)))
    have k2 := fun (lv : Int) (d : Nat) (os : Array Obj) => Calls.regrown_of (O2.out lv (grow (redrawn wz d) os) (HZ.out.trans ((below_regrown wz d os).mono HZ.out.size)))
    have k3 := fun (d : Nat) (os : Array Obj) => num_regrown (O3.out (grow (redrawn wz d) os) (HZ.out.trans ((below_regrown wz d os).mono HZ.out.size)))
    have k4 := fun (d : Nat) (os : Array Obj) => Calls.regrown_of (O4.out (grow (redrawn wz d) os) (HZ.out.trans ((below_regrown wz d os).mono HZ.out.size)))
    have k5 := fun (d : Nat) (os : Array Obj) => Calls.regrown_of (O5.out (grow (redrawn wz d) os) (HZ.out.trans ((below_regrown wz d os).mono HZ.out.size)))
    clear hz hz2 t0 tz
    refine wpSt_q ?_
    simp only [List.take_succ_cons, List.take_zero, List.drop_succ_cons, List.drop_zero]
    repeat (go_big_quiet_step (first | with_reducible exact k1 _ _ _ | with_reducible exact k2 _ _ _ | with_reducible exact k3 _ _ | with_reducible exact k4 _ _ | with_reducible exact k5 _ _))
    refine wpQuiet_nil ?_
    intro _ hw'
    obtain ⟨⟨dq, osq⟩, hw''⟩ := hw'
    subst hw''
    have hbq := below_regrown wz dq osq
    generalize grow (redrawn wz dq) osq = wq at hbq ⊢
    clear k1 k2 k3 k4 k5 xt
    refine wpSt_end ?_
    have HQ := Lib.hid (HB8.out.trans ((HZ.out.trans (hbq.mono HZ.out.size)).mono HB8.out.size))
    clear hbq
    go_wp2_with fail
    go_ret
    exact ⟨rfl, HQ.out⟩
  | succ m =>
    obtain rfl : bb = true := by
      rw [HBB.out]
      cases C with
      | nil => have := HM.out; cases this
      | cons _ _ => rfl
    have hlast := last_cells HM.out.symm
    obtain ⟨e0, e1', e2⟩ := entC_get C m (lastE C) hlast
    obtain ⟨ad, rfl, _, hadl, hc⟩ := HR5.out.2 (by omega)
    have hcc0 : w5.cell? (ad.add (m * 3)) = some (.int .u32 (qa : Int)) := by rw [HQA.out]; exact hc _ _ e0
    have hcc1 : w5.cell? ⟨(ad.add (m * 3)).block, (ad.add (m * 3)).off + 1, none⟩ = some (.int .i64 (qn : Int)) := by
      rw [← add_after ad (m * 3) 1 (by omega), HQN.out]
      exact hc _ _ e1'
    have hcc2 : w5.cell? ⟨(ad.add (m * 3)).block, (ad.add (m * 3)).off + 2, none⟩ = some (.int .i64 qv) := by
      rw [← add_after ad (m * 3) 2 (by omega), HQV.out]
      exact hc _ _ e2
    clear hlast e0 e1' e2 hc e1
    have hw1 : IntKind.i64.wrap (((m + 1 : Nat) : Int) - 1) = (m : Int) := by rw [IntWalk.i64_in _ (by have := HCL.out; omega)]; omega
    have hw2 : IntKind.i64.wrap ((m : Int) + 1 - 1) = (m : Int) := by rw [IntWalk.i64_in _ (by have := HCL.out; omega)]; omega
    have hw3 : wrap64 (m : Int) = (m : Int) := IntWalk.wrap64_in _ (by have := HCL.out; omega)
    have hm0 : (0 : Int) ≤ m := by omega
    have hm1 : (m : Int) < ((m + 1 : Nat) : Int) := by omega
    have hm2 : (m : Int) < (m : Int) + 1 := by omega
    have hd1 : decide ((0 : Int) < ((m + 1 : Nat) : Int)) = true := decide_eq_true (by omega)
    have hd2 : decide ((0 : Int) < (m : Int) + 1) = true := decide_eq_true (by omega)
    go_wp2_with fail
    go_quiet (fail)
    have hdr : Below w5.heap.size w5 (w5.drewN nq) := ⟨rfl, rfl, rfl, Nat.le_refl _, fun _ _ => rfl⟩
    generalize w5.drewN nq = w6 at hdr ⊢
    have HB6 := Lib.hid (HB5.out.trans (hdr.mono HB5.out.size))
    have HR6 := Lib.hid ((HR5.out.keep (Same.ofBelow hdr fun k hk => hk)).mono (J := fun k => k < w6.heap.size) fun k hk => Nat.lt_of_lt_of_le hk hdr.size)
    clear hdr z0 z1 n1 hcc0 hcc1 hcc2 hw1 hw2 hw3 hm0 hm1 hm2 hd1 hd2
    go_wp2_with fail
    refine (C5.out _ HB6.out).mono ?_
    rintro e w7 ⟨f7, rfl, hsq7, hb7⟩
    have SQ7 := Lib.hid (seq_below hsq7)
    have HB7 := Lib.hid (HB6.out.trans (hb7.mono HB6.out.size))
    have HR7 := Lib.hid ((HR6.out.keep (Same.ofBelow hb7 fun k hk => hk)).mono (J := fun k => k < w7.heap.size) fun k hk => Nat.lt_of_lt_of_le hk hb7.size)
    clear hsq7 hb7
    go_wp2_with fail
    refine (C6.out _ HB7.out).mono ?_
    rintro e w8 ⟨f8, rfl, hsq8, hb8⟩
    have HB8 := Lib.hid (HB7.out.trans (hb8.mono HB7.out.size))
    have SQ8 := Lib.hid (seq_below hsq8)
    have SQ7' := Lib.hid ((SQ7.out.keep (Same.ofBelow hb8 fun k hk => hk)).mono (J := fun k => k < w8.heap.size) fun k hk => Nat.lt_of_lt_of_le hk hb8.size)
    have HR8 := Lib.hid ((HR7.out.keep (Same.ofBelow hb8 fun k hk => hk)).mono (J := fun k => k < w8.heap.size) fun k hk => Nat.lt_of_lt_of_le hk hb8.size)
    clear hsq8 hb8
    go_wp2_with fail
    obtain ⟨A, cap, hkw, hcap, _, hrd, _⟩ := (HTB.out _ HB8.out).form
    obtain ⟨pv, hkt, _⟩ := (HTR.out _ HB8.out).ex
    have hlt8 := (HTB.out _ HB8.out).lt
    have o1 := fun (lv : Int) (wx : World) (hb : Below w8.heap.size w8 wx) => once_any f7 wx (some ad) cl lv C (fun k => k < w8.heap.size) (fun k hk => Nat.lt_of_lt_of_le hk hb.size) (SQ7'.out.keep (Same.ofBelow hb fun k hk => hk)) ((by
      have h := (HR8.out.keep (Same.ofBelow hb fun k hk => hk)).mono (J := fun k => k < wx.heap.size) fun k hk => Nat.lt_of_lt_of_le hk hb.size
      rw [HM.out] at h
      exact h)) (by rw [← HM.out]; have := HCL.out; omega)
    have o2 := fun (lv : Int) (wx : World) (hb : Below w8.heap.size w8 wx) => once_any f8 wx A cap lv T.list (fun k => k < w8.heap.size) (fun k hk => Nat.lt_of_lt_of_le hk hb.size) (SQ8.out.keep (Same.ofBelow hb fun k hk => hk)) (((hrd.mono (J := fun k => k < w8.heap.size) hlt8).keep (Same.ofBelow hb fun k hk => hk)).mono (J := fun k => k < wx.heap.size) fun k hk => Nat.lt_of_lt_of_le hk hb.size) (by have := HSM.out; omega)
    have o3 := fun (wx : World) (hb : Below w8.heap.size w8 wx) => len_any tb _ _ _ wx (hkt.below hb hkt.lt)
    have o4 := fun (wx : World) (hb : Below w8.heap.size w8 wx) => C7.out wx (HB8.out.trans (hb.mono HB8.out.size))
    have o5 := fun (wx : World) (hb : Below w8.heap.size w8 wx) => C8.out wx (HB8.out.trans (hb.mono HB8.out.size))
    obtain ⟨n, hn⟩ : ∃ n, n = T.list.length := ⟨_, rfl⟩
    obtain ⟨kn, hkn⟩ : ∃ kn, kn = T.keys.length := ⟨_, rfl⟩
    rw [← HM.out] at o1
    rw [← hn] at o2 o3 hkw
    rw [← hkn] at o4 o5
    have O1 := Lib.hid o1
    have O2 := Lib.hid o2
    have O3 := Lib.hid o3
    have O4 := Lib.hid o4
    have O5 := Lib.hid o5
    have t0 : w8.cell? ⟨db, 0, none⟩ = some (.slice A n cap) := hkw.cell 0
    clear o1 o2 o3 o4 o5 hn hkn hkw hkt hrd hcap hlt8
    refine wp_region_stages [(true, 44)] (by kernel_rfl) (by kernel_rfl) fun wz hz hz2 => ?_
    have tz : wz.cell? ⟨db, 0, none⟩ = some (.slice A n cap) := (hz.cell (p := ⟨db, 0, none⟩) (block_lt_of_cell t0)).trans t0
    have xt := cell_regrown tz
    have HZ := Lib.hid hz
    have k1 := fun (lv : Int) (d : Nat) (os : Array Obj) => Calls.regrown_of (O1.out lv (grow (redrawn wz d) os) (HZ.out.trans ((below_regrown wz d os).mono HZ.out.size)))
    have k2 := fun (lv : Int) (d : Nat) (os : Array Obj) => Calls.regrown_of (O2.out lv (grow (redrawn wz d) os) (HZ.out.trans ((below_regrown wz d os).mono HZ.out.size)))
    have k3 := fun (d : Nat) (os : Array Obj) => num_regrown (O3.out (grow (redrawn wz d) os) (HZ.out.trans ((below_regrown wz d os).mono HZ.out.size)))
    have k4 := fun (d : Nat) (os : Array Obj) => Calls.regrown_of (O4.out (grow (redrawn wz d) os) (HZ.out.trans ((below_regrown wz d os).mono HZ.out.size)))
    have k5 := fun (d : Nat) (os : Array Obj) => Calls.regrown_of (O5.out (grow (redrawn wz d) os) (HZ.out.trans ((below_regrown wz d os).mono HZ.out.size)))
    clear hz hz2 t0 tz
    refine wpSt_q ?_
    simp only [List.take_succ_cons, List.take_zero, List.drop_succ_cons, List.drop_zero]
    repeat (go_big_quiet_step (first | with_reducible exact k1 _ _ _ | with_reducible exact k2 _ _ _ | with_reducible exact k3 _ _ | with_reducible exact k4 _ _ | with_reducible exact k5 _ _))
    refine wpQuiet_nil ?_
    intro _ hw'
    obtain ⟨⟨dq, osq⟩, hw''⟩ := hw'
    subst hw''
    have hbq := below_regrown wz dq osq
    generalize grow (redrawn wz dq) osq = wq at hbq ⊢
    clear k1 k2 k3 k4 k5 xt
    refine wpSt_end ?_
    have HQ := Lib.hid (HB8.out.trans ((HZ.out.trans (hbq.mono HZ.out.size)).mono HB8.out.size))
    clear hbq
    go_wp2_with fail
    go_ret
    exact ⟨rfl, HQ.out⟩
end Go.Proofs.Ytejiecebckjflaa
