/- Layer 12: LfiRests, the walk. -/
import Derived.Test.YtahdjfegihnolaaLwO
import Derived.Test.YtahdjfegihnolaaLwG
namespace Go.Proofs.Ytahdjfegihnolaa
open Go.RowKit Go.Sort
theorem owedNx_ok {S : Lc} (h : LcOk S) {W : List Tl} (hi : OI S W) (e : Ev) : OI (doF S e).1 (owedNx W S e) ∧ (doF S e).2.1.length ≤ 100000 ∧ (doF S e).1.all.length ≤ S.all.length + 1 := by
  unfold owedNx
  by_cases hn : (doF S e).2.2 = 0
  · rw [if_pos hn]
    have h1 := owed_law h hi (e := e) (c' := (doF S e).1) (o := (doF S e).2.1) (by rw [← hn])
    have h2 := oi_len (do_ok h e) h1
    have h3 := (do_ok h e).len
    refine ⟨h1, ?_, do_len h⟩
    unfold owedDo at h2
    dsimp only at h2
    rw [List.length_append] at h2
    omega
  · rw [if_neg hn]
    have := do_no hn
    rw [this]
    exact ⟨hi, Nat.zero_le _, Nat.le_succ _⟩
theorem oi_may {w0 wx : World} {M : Nat → Prop} {cb mb : Nat} {S : Lc} (h : Core w0 wx M cb mb S) {W : List Tl} (hi : OI S W) {t : Tl} (ht : t ∈ W) : t.2.1.1 < 2 ^ 32 := by
  have h2 : cntO W t.1 t.2.1 ≠ 0 := by
    unfold cntO
    have := (List.countP_pos_iff (p := fun u : Tl => u.1 == t.1 && u.2.1 == t.2.1) (l := W)).2 ⟨t, ht, by simp⟩
    omega
  rw [hi.h] at h2
  cases hf : findE S.all t.2.1 with
  | none => rw [hf] at h2; exact absurd rfl h2
  | some x =>
    obtain ⟨hm, hp⟩ := find_mem hf
    rw [← hp]
    exact (h.mayx x hm).2
theorem pas_law {S : Lc} (h : LcOk S) (hi : OI S []) : pasF S.all = true ∧ ∀ x ∈ S.all, actF x = false ∧ x.told = distF S.pc x ∧ x.feas = distF S.pc x := by
  have h1 := oi_pas h hi
  refine ⟨?_, fun x hx => ⟨h1 x hx, ((h.e x hx).pas (h1 x hx)).1, ?_⟩⟩
  · unfold pasF
    rw [List.all_eq_true]
    intro x hx
    rw [h1 x hx]
    rfl
  · have h2 := (h.e x hx).pas (h1 x hx)
    rw [h2.2, h2.1]
theorem bd_ack (w : World) (q a n : Int) : (Instr.build 38 #[(0, .int .i64 5), (1, .int .i64 q), (3, .agg #[.int .u32 a, .int .i64 n])]).run Try.prog w = .ok (.agg #[.int .i64 5, .int .i64 q, .int .i64 0, .int .u32 a, .int .i64 n, .int .i64 0]) w := by kernel_rfl
theorem bd_nx2 (w : World) (q d : Int) : (Instr.build 61 #[(0, .int .i64 q), (1, .int .i64 d)]).run Try.prog w = .ok (.agg #[.int .i64 q, .int .i64 d]) w := by kernel_rfl
theorem neq_nx (a b : Int) (w : World) : (binOp .neq 61 (.agg #[.int .i64 a, .int .i64 b]) (.agg #[.int .i64 a, .int .i64 b])).run Try.prog w = .ok (.bool false) w := by
  go_simp
theorem st_cp_new (wx : World) (b : Nat) : (Instr.storeAt 25 (.pointer (some ⟨wx.heap.size, 0, none⟩)) (.pointer (some ⟨b, 0, none⟩))).run Try.prog (wx.alloc (.cells #[.pointer none] 25)) = .ok () (wx.alloc (.cells #[.pointer (some ⟨b, 0, none⟩)] 25)) := by
  go_simp
theorem st_cp_nil (wx : World) : (Instr.storeAt 25 (.pointer (some ⟨wx.heap.size, 0, none⟩)) (.pointer none)).run Try.prog (wx.alloc (.cells #[.pointer none] 25)) = .ok () (wx.alloc (.cells #[.pointer none] 25)) := by
  go_simp
theorem viC_one {c : Pc} {x : Le} : (viC c x).all (·.oneCell') = true := by simp [viC, Value.oneCell']
theorem viC_said (c : Pc) (x : Le) {p : Nat} (h : p < 8) : (viC c x)[8 + p]? = some (.int .i64 (x.said p)) := by rcases lt8 h with rfl | rfl | rfl | rfl | rfl | rfl | rfl | rfl <;> rfl
def EtΦ (cb gr q cr i B : Nat) (x : Le) (c : Pc) : Nat → Value → Value → World → Prop
  | 0, u, _, _ => u = .pointer (some ⟨cb, 0, none⟩)
  | 1, u, _, _ => u = .slice (some ⟨gr, 0, none⟩) q cr
  | 2, u, _, _ => u = .int .i64 (i : Int)
  | 3, u, _, _ => u = .pointer (some ⟨gr, i * 6, none⟩)
  | 4, u, _, _ => u = .pointer (some ⟨gr, i * 6, none⟩)
  | 5, u, _, _ => u = .agg #[.int .u32 (x.p.1 : Int), .int .i64 x.p.2]
  | 6, u, _, _ => u = .tuple #[.agg (viC c x), .bool true]
  | 7, u, _, _ => u = .tuple #[.agg (viC c x), .bool true]
  | 8, u, _, _ => u = .agg (viC c x)
  | 9, u, _, _ => u = .bool true
  | 10, u, _, w => ∃ b, u = .pointer (some ⟨b, 0, none⟩) ∧ Blk w b 43 viZ ∧ B ≤ b
  | 11, _, o, w => ∃ b, o = .pointer (some ⟨b, 0, none⟩) ∧ Blk w b 43 (viC c x) ∧ B ≤ b
  | 12, u, _, _ => u = .bool true
  | _, _, _, _ => True
def etDead (i j : Nat) : Bool := i == 11 && j == 10
theorem EtΦ.keep {cb gr q cr i B : Nat} {x : Le} {c : Pc} {wx wy : World} (hb : Below wx.heap.size wx wy) : ∀ j u o, EtΦ cb gr q cr i B x c j u o wx → EtΦ cb gr q cr i B x c j u o wy := by
  intro j u o h
  unfold EtΦ at h ⊢
  split at h
  all_goals first
    | exact h
    | (obtain ⟨b, h1, h2, h3⟩ := h; exact ⟨b, h1, h2.below hb h2.lt, h3⟩)
theorem EtΦ.keep10 {cb gr q cr i B : Nat} {x : Le} {c : Pc} {wx wy : World} (_hb : Below wx.heap.size wx wy) : ∀ j, j ≠ 10 → j ≠ 11 → ∀ u o {o2 : Value}, EtΦ cb gr q cr i B x c j u o wx → EtΦ cb gr q cr i B x c j u o2 wy := by
  intro j h10 h11 u o o2 h
  unfold EtΦ at h ⊢
  split at h
  all_goals first
    | exact h
    | exact absurd rfl h10
    | exact absurd rfl h11
theorem EtΦ.keep11 {cb gr q cr i B : Nat} {x : Le} {c : Pc} {wx wy : World} : ∀ j, j ≠ 11 → j ≠ 10 → ∀ u o {o2 : Value}, EtΦ cb gr q cr i B x c j u o wx → EtΦ cb gr q cr i B x c j u o2 wy := by
  intro j h11 h10 u o o2 h
  unfold EtΦ at h ⊢
  split at h
  all_goals first
    | exact h
    | exact absurd rfl h10
    | exact absurd rfl h11
set_option maxRecDepth 100000 in
set_option maxHeartbeats 16000000 in
attribute [-go_sem] Instr.storeAt Instr.loadAt Instr.build in
theorem rests_any (room : Int) (A : Option Addr) (n c : Nat) (lo : List Pf) (B : Option Addr) (m d : Nat) (le : List Ev) (w : World) (r : Reads w (fun k => k < w.heap.size) 2 A n (flatP lo)) (hl : lo.length = n) (hp : ∀ p ∈ lo, p.1 < 2 ^ 32)
    (r2 : Reads w (fun k => k < w.heap.size) 6 B m (le.flatMap evC)) (hl2 : le.length = m) (hp2 : ∀ e ∈ le, e.p.1 < 2 ^ 32) :
    Calls Try.prog 5 #[.int .i64 room, .slice A n c, .slice B m d] w fun e w' => e = .returned (.bool true) ∧ Below w.heap.size w w' := by
  have HN := Lib.hid (core_new room A n c lo w r hl hp)
  have HR2 := Lib.hid r2
  have HL2 := Lib.hid hl2
  have HP2 := Lib.hid hp2
  clear r hl hp r2 hl2 hp2
  by_cases hbig : 150 < m
  · have hd : decide (150 < (m : Int)) = true := decide_eq_true (by omega)
    go_enter Try.func5, Try.ntmps5
    go_wp2_with (go_at_call 10; refine (known12_any _).mono ?_; rintro e w' ⟨rfl, hb⟩)
    go_ret
    exact ⟨rfl, hb⟩
  by_cases hbig2 : 8 < n
  · have hd : decide (150 < (m : Int)) = false := decide_eq_false (by omega)
    have hd2 : decide (8 < (n : Int)) = true := decide_eq_true (by omega)
    go_enter Try.func5, Try.ntmps5
    go_wp2_with (go_at_call 10; refine (known12_any _).mono ?_; rintro e w' ⟨rfl, hb⟩)
    go_ret
    exact ⟨rfl, hb⟩
  have hd : decide (150 < (m : Int)) = false := decide_eq_false (by omega)
  have hd2 : decide (8 < (n : Int)) = false := decide_eq_false (by omega)
  have hn := HN.out
  unfold MadeC at hn
  cases hnf : newF room lo with
  | none =>
    rw [hnf] at hn
    have HN' := Lib.hid hn
    clear hn hnf
    go_enter Try.func5, Try.ntmps5
    go_wp2_with (first
      | (go_at_call 11; refine HN'.out.mono ?_; rintro e w1 ⟨rfl, hb1⟩; have HB1 := Lib.hid hb1; have st := st_cp_nil w1; clear hb1)
      | (go_at_call 10; refine (known12_any _).mono ?_; rintro e w' ⟨rfl, hb⟩))
    go_ret
    exact ⟨rfl, (HB1.out.alloc HB1.out.size _).trans (hb.mono (Nat.le_trans HB1.out.size (by simp)))⟩
  | some all =>
    rw [hnf] at hn
    have HN' := Lib.hid hn
    have HOI := Lib.hid (oi_new hnf)
    have HAL := Lib.hid (newF_ok hnf).2
    clear hn hnf
    go_enter Try.func5, Try.ntmps5
    go_upto_region 4 with (go_at_call 11; refine HN'.out.mono ?_; rintro e w1 ⟨cb, mb, M, rfl, hc⟩; have HC := Lib.hid hc; have st := st_cp_new w1 cb; clear hc)
    clear st
    obtain ⟨kc, hkc⟩ : ∃ b, b = w1.heap.size := ⟨_, rfl⟩
    obtain ⟨W2, hW2⟩ : ∃ Z, Z = w1.alloc (.cells #[.pointer (some ⟨cb, 0, none⟩)] 25) := ⟨_, rfl⟩
    rw [← hW2, ← hkc]
    have hb2 : Below w1.heap.size w1 W2 := by rw [hW2]; exact (Below.refl _ _).alloc (Nat.le_refl _) _
    have hkc2 : Blk W2 kc 25 #[.pointer (some ⟨cb, 0, none⟩)] := by rw [hW2, hkc]; exact Blk.new _ _ _
    obtain ⟨ko, hko⟩ : ∃ b, b = W2.heap.size := ⟨_, rfl⟩
    obtain ⟨W3, hW3⟩ : ∃ Z, Z = W2.alloc (.cells #[.slice none 0 0] 29) := ⟨_, rfl⟩
    have hb3 : Below W2.heap.size W2 W3 := by rw [hW3]; exact (Below.refl _ _).alloc (Nat.le_refl _) _
    have HRS := Lib.hid (show RsS w W3 kc ko cb ⟨room, pc0, all⟩ [] from ⟨⟨M, mb, (HC.out.later hb2).later hb3⟩, hkc2.below hb3 hkc2.lt, ⟨_, by rw [hW3, hko]; exact Blk.new _ _ _, World.ownsRow_nil _ _ _ _⟩, by rw [hkc]; exact HC.out.bel.size, by rw [hko]; exact Nat.le_trans HC.out.bel.size hb2.size⟩)
    have HW3 := Lib.hid hW3
    have HKO := Lib.hid hko
    clear hkc hW2 hb2 hkc2 hb3 hW3 hko
    go_upto_region 7 with (fail)
    rw [← HW3.out, ← HKO.out]
    clear HKO HW3 HC
    go_wp2_with fail
    go_loopw [11] (fun s11 wr => ∃ (k : Nat) (S : Lc) (W : List Tl), k ≤ m ∧ s11 = .int .i64 (k : Int) ∧ RsS w wr kc ko cb S W ∧ OI S W ∧ S.all.length ≤ 8 + k) (fun s11 _ => m - (intOf s11).toNat)
    case atStart => exact ⟨0, _, [], Nat.zero_le _, rfl, HRS.out, HOI.out, HAL.out⟩
    case round =>
      clear HRS HOI HAL
      obtain ⟨k, S, W, hk, rfl, hS, hO, hA⟩ := hrel
      have HS := Lib.hid hS
      have HO := Lib.hid hO
      have HA := Lib.hid hA
      obtain ⟨M1, mb1, hC1⟩ := hS.core
      have HSTEP := Lib.hid (fun e => owedNx_ok hC1.ok hO e)
      have HWL := Lib.hid (show W.length ≤ 100000 by have := oi_len hC1.ok hO; have := hC1.ok.len; omega)
      by_cases hlt : k < m
      · obtain ⟨e, hek⟩ : ∃ e, le[k]? = some e := ⟨_, List.getElem?_eq_getElem (by rw [HL2.out]; exact hlt)⟩
        obtain ⟨ad, rfl, lv⟩ := ld_evR HR2.out HL2.out hC1.bel hek
        have HCL := Lib.hid (clos_any hS HWL.out e (HP2.out e (List.mem_of_getElem? hek)) (HSTEP.out e).2.1)
        have k0 : (0 : Int) ≤ k := by omega
        have k1 : (k : Int) < m := by omega
        clear hS hO hA hC1 hek
        go_wp2_with (go_at_call 16; refine HCL.out.mono ?_; rintro en w3 ⟨rfl, hs3⟩; have HS3 := Lib.hid hs3; clear hs3)
        go_roundw
        case rel => exact ⟨k + 1, _, _, by omega, by go_num, HS3.out, (HSTEP.out e).1, by have := (HSTEP.out e).2.2; have := HA.out; omega⟩
        case measure => simp [intOf]; omega
      · obtain rfl : k = m := by omega
        have HPH := Lib.hid (show Phi S.pc S.all ≤ 2528 by have := Phi_le hC1.ok.e; omega)
        clear hS hO hA hC1
        go_wp2_with fail
        go_loopw [12] (fun s12 wr => ∃ (j : Nat) (S : Lc) (W : List Tl), s12 = .int .i64 (j : Int) ∧ RsS w wr kc ko cb S W ∧ OI S W ∧ j + Phi S.pc S.all ≤ 2528) (fun s12 _ => 2528 - (intOf s12).toNat)
        case atStart => exact ⟨0, S, W, rfl, HS.out, HO.out, by have := HPH.out; omega⟩
        case round =>
          clear HS HO HA HPH HSTEP HWL
          obtain ⟨j, S, W, rfl, hS, hO, hA⟩ := hrel
          have HS := Lib.hid hS
          have HO := Lib.hid hO
          have HA := Lib.hid hA
          obtain ⟨M1, mb1, hC1⟩ := hS.core
          obtain ⟨v0, hko0, hrow0⟩ := hS.bo
          obtain ⟨A0, c0, rfl, _⟩ := own_form hrow0
          have HC1 := Lib.hid hC1
          have HKO0 := Lib.hid hko0
          have HROW0 := Lib.hid hrow0
          have HWL := Lib.hid (show W.length ≤ 100000 by have := oi_len hC1.ok hO; have := hC1.ok.len; omega)
          have lo := ld_tlC (w := wr) (hko0.cell 0)
          cases hW : W with
          | cons t WR =>
            subst hW
            obtain ⟨c1, o1, hd1, hphi⟩ := ack_law hC1.ok hO (List.mem_cons_self ..)
            have hpt := oi_may hC1 hO (List.mem_cons_self ..)
            obtain ⟨q1, q2, q3⟩ := owedNx_ok hC1.ok hO ⟨5, (t.1 : Int), 0, t.2.1, 0⟩
            have HCL := Lib.hid (fun wx (h : RsS w wx kc ko cb S (t :: WR)) => clos_any h HWL.out ⟨5, (t.1 : Int), 0, t.2.1, 0⟩ hpt q2)
            have HNX := Lib.hid (show OI (doF S ⟨5, (t.1 : Int), 0, t.2.1, 0⟩).1 (owedNx (t :: WR) S ⟨5, (t.1 : Int), 0, t.2.1, 0⟩) ∧ Phi (doF S ⟨5, (t.1 : Int), 0, t.2.1, 0⟩).1.pc (doF S ⟨5, (t.1 : Int), 0, t.2.1, 0⟩).1.all + 1 ≤ Phi S.pc S.all from ⟨q1, by rw [hd1]; exact hphi⟩)
            obtain ⟨b0, cq, e8, _⟩ := own_form1 hrow0 (by simp)
            obtain ⟨rfl, rfl⟩ : A0 = some ⟨b0, 0, none⟩ ∧ c0 = cq := by cases e8; exact ⟨rfl, rfl⟩
            obtain ⟨nW, hnW⟩ : ∃ z, z = (t :: WR).length := ⟨_, rfl⟩
            have hpos : 0 < nW := by rw [hnW]; simp
            have hposI : (0 : Int) < (nW : Int) := by omega
            have hj : ¬ (5000 : Int) < (j : Int) := by omega
            have hjb : j < 2528 := by omega
            rw [← hnW] at lo
            have HNW := Lib.hid hnW
            have lq0 := fun (dd : Nat) (os : Array Obj) => ld_tlC (w := grow (redrawn wr dd) os) ((HKO0.out.below (below_regrown wr dd os) HKO0.out.lt).cell 0)
            rw [← hnW] at lq0
            have lq1 : ∀ (dd : Nat) (os : Array Obj), (Instr.loadAt 3 (.pointer (some ⟨b0, 0, none⟩))).run Try.prog (grow (redrawn wr dd) os) = .ok (.int .i64 (t.1 : Int)) (grow (redrawn wr dd) os) := fun dd os => tl_port (k := 0) (own_below HROW0.out (below_regrown wr dd os)) rfl
            have lq2 : ∀ (dd : Nat) (os : Array Obj), (Instr.loadAt 36 (.pointer (some ⟨b0, 1, none⟩))).run Try.prog (grow (redrawn wr dd) os) = .ok (.agg #[.int .u32 (t.2.1.1 : Int), .int .i64 t.2.1.2]) (grow (redrawn wr dd) os) := fun dd os => tl_pf (k := 0) (own_below HROW0.out (below_regrown wr dd os)) rfl
            have bd := fun wx => bd_ack wx (t.1 : Int) (t.2.1.1 : Int) t.2.1.2
            have HQ := Lib.hid (And.intro lq0 (And.intro lq1 (And.intro lq2 bd)))
            clear hS hO hA hC1 hko0 hrow0 hd1 hphi hpt q1 q2 q3 e8 hnW lq0 lq1 lq2 bd
            go_upto_region 17 with (fail)
            clear lo
            refine wp_region_mix [(true, 11), (false, 1)] 0 (by kernel_rfl) (fun wx => Below wr.heap.size wr wx) (fun _ _ h k => h.trans (k.mono h.size)) (by kernel_rfl) (Below.refl _ _) (a' := ?_) (fun wz hz => ?_) fun wz hz => ?_
            rotate_left
            · have lz0 := fun (dd : Nat) (os : Array Obj) => ld_tlC (w := grow (redrawn wz dd) os) ((HKO0.out.below (hz.trans ((below_regrown wz dd os).mono hz.size)) HKO0.out.lt).cell 0)
              rw [← HNW.out] at lz0
              have lz1 : ∀ (dd : Nat) (os : Array Obj), (Instr.loadAt 3 (.pointer (some ⟨b0, 0, none⟩))).run Try.prog (grow (redrawn wz dd) os) = .ok (.int .i64 (t.1 : Int)) (grow (redrawn wz dd) os) := fun dd os => tl_port (k := 0) (own_below HROW0.out (hz.trans ((below_regrown wz dd os).mono hz.size))) rfl
              have lz2 : ∀ (dd : Nat) (os : Array Obj), (Instr.loadAt 36 (.pointer (some ⟨b0, 1, none⟩))).run Try.prog (grow (redrawn wz dd) os) = .ok (.agg #[.int .u32 (t.2.1.1 : Int), .int .i64 t.2.1.2]) (grow (redrawn wz dd) os) := fun dd os => tl_pf (k := 0) (own_below HROW0.out (hz.trans ((below_regrown wz dd os).mono hz.size))) rfl
              have bd := fun wx => bd_ack wx (t.1 : Int) (t.2.1.1 : Int) t.2.1.2
              clear hz
              simp only [pick_nil, pick_tt, pick_ft, List.take_succ_cons, List.take_zero, List.drop_succ_cons, List.drop_zero, List.append_nil]
              repeat (go_big_quiet_step (fail))
              refine wpQuiet_nil ?_
              rfl
            simp only [pick_nil, pick_ff, pick_tf, List.take_succ_cons, List.take_zero, List.drop_succ_cons, List.drop_zero, List.append_nil]
            have HZ := Lib.hid hz
            clear hz HQ
            refine wpMix_step HZ.out fun wa ha => ?_
            have hcl := HCL.out wa ((HS.out.later HZ.out).later ha)
            dsimp only at hcl
            have HCW := Lib.hid hcl
            clear ha hcl
            go_wp2_with (go_at_call 16; refine HCW.out.mono ?_; rintro en w3 ⟨rfl, hs3⟩; have HS3 := Lib.hid hs3; clear hs3)
            refine wpMix_plain ?_
            go_wp2_with fail
            go_roundw
            case rel => exact ⟨j + 1, _, _, by go_num, HS3.out, HNX.out.1, by have := HNX.out.2; have := HA.out; omega⟩
            case measure => simp [intOf]; omega
          | nil =>
            subst hW
            obtain ⟨hpas, hlaw⟩ := pas_law hC1.ok hO
            have HLAW := Lib.hid hlaw
            have lc := ld_cpC (w := wr) (hS.bc.cell 0)
            have hcp := core_passive hC1
            rw [hpas] at hcp
            have HCP := Lib.hid hcp
            have HKC := Lib.hid hS.bc
            clear hS hO hA hko0 hrow0 hC1 hpas hlaw hcp
            go_upto_region 20 with (go_at_call 17; refine HCP.out.mono ?_; rintro en w5 ⟨rfl, hb5⟩; have HB5 := Lib.hid hb5; clear hb5)
            clear lo lc
            have HC5 := Lib.hid (HC1.out.later HB5.out)
            have HKC5 := Lib.hid (HKC.out.below HB5.out HKC.out.lt)
            have HRC := Lib.hid (core_routes HC5.out)
            have lc := ld_cpC (w := w5) (HKC5.out.cell 0)
            go_upto_region 21 with (go_at_call 13; refine HRC.out.mono ?_; rintro en w6 ⟨v6, rfl, hr6, hb6⟩; obtain ⟨L, hL, hrl⟩ := hr6; obtain ⟨Ar, cr, rfl, _⟩ := own_form hrl.1; have HRL := Lib.hid hrl; have HL4 := Lib.hid hL; have HB6 := Lib.hid hb6; clear hb6 hL hrl)
            clear lc
            have HC6 := Lib.hid (HC5.out.later HB6.out)
            have HKC6 := Lib.hid (HKC5.out.below HB6.out HKC5.out.lt)
            obtain ⟨q, hq⟩ : ∃ q, q = L.length := ⟨_, rfl⟩
            rw [← hq]
            have hrl := HRL.out
            rw [← hq] at hrl
            have HR6 := Lib.hid hrl
            have HQ := Lib.hid hq
            have hq9 : q ≤ 1024 := by
              have h1 := congrArg List.length HL4.out
              rw [List.length_map, ← hq] at h1
              have := HC6.out.ok.len
              omega
            clear hq hrl HRL HC1 HC5 HKC HKC5 HS HO HA HKO0 HROW0 HB5 HB6
            obtain ⟨r0, hr0⟩ : ∃ r, r = w5.heap.size := ⟨_, rfl⟩
            rw [← hr0] at HR6
            clear hr0
            go_wp2_with fail
            go_loopw [14] (fun s14 wx => ∃ i : Nat, i ≤ q ∧ s14 = .int .i64 (i : Int) ∧ Below w6.heap.size w6 wx) (fun s14 _ => q - (intOf s14).toNat)
            case atStart => exact ⟨0, Nat.zero_le _, rfl, Below.refl _ _⟩
            case round =>
              obtain ⟨i, hi, rfl, hB⟩ := hrel
              have HB := Lib.hid hB
              have HCr := Lib.hid (HC6.out.later hB)
              clear hB
              by_cases hli : i < q
              · obtain ⟨a, hai⟩ : ∃ a, L[i]? = some a := ⟨_, List.getElem?_eq_getElem (by rw [← HQ.out]; exact hli)⟩
                obtain ⟨x, sv⟩ := a
                have hxi : S.all[i]? = some x := by rw [← HL4.out, List.getElem?_map, hai]; rfl
                have hxm := List.mem_of_getElem? hxi
                obtain ⟨gr, cq, e8, _⟩ := own_form1 HR6.out.1 (by rw [← HQ.out]; omega)
                obtain ⟨rfl, rfl⟩ : Ar = some ⟨gr, 0, none⟩ ∧ cr = cq := by cases e8; exact ⟨rfl, rfl⟩
                have HXM := Lib.hid hxm
                have HAI := Lib.hid hai
                have i0 : (0 : Int) ≤ i := by omega
                have i1 : (i : Int) < q := by omega
                have HXS := Lib.hid (fun (wx : World) (hb : Below w6.heap.size w6 wx) => by
                  have h := core_entry (HC6.out.later hb) (may_ok (HC6.out.mayx x hxm))
                  unfold EnF at h
                  rw [find_sorted HC6.out.ok.srt hxm] at h
                  exact h)
                clear e8 hxm hai hxi
                go_upto_region 24 with (fail)
                refine J.wp_region_psj (by kernel_rfl) (fun a b => Below wr.heap.size a b) 10 (EtΦ cb gr q cr i wr.heap.size x S.pc) 13 (fun _ _ => True) etDead (fun _ _ => True) (by kernel_rfl) (fun p => Below.refl _ p) (fun h k => h.trans k) (fun j => trivial) (J.oblp_of ?_) (fun o h => by cases h) ?_
                · refine ⟨fun _ => ?_, fun _ => ?_, fun _ => ?_, fun _ => ?_, fun _ => ?_, fun _ => ?_, fun _ => ?_, fun _ => ?_, fun _ => ?_, fun _ => ?_, fun _ => ?_, fun _ => ?_, fun _ => ?_, trivial⟩
                  · -- 0
                    intro val wx hg hψ hd hb hs K hK
                    generalize hρ : rhoV _ _ val = ρ
                    have cc : ∀ u, ρ (.const u) = u := fun u => by rw [← hρ]; rfl
                    have ff : ∀ u, ρ (.func u) = .func (.func u) #[] #[] := fun u => by rw [← hρ]; rfl
                    have r7 : ρ (.tmp 7) = .pointer (some ⟨kc, 0, none⟩) := by rw [← hρ]; rfl
                    have hbw : Below wr.heap.size wr wx := ⟨hg.os, hg.tape, hg.output, hg.size, hg.block⟩
                    have hbx := HB.out.trans (hbw.mono HB.out.size)
                    have hl := ld_cpC (w := wx) ((HKC6.out.below hbx HKC6.out.lt).cell 0)
                    clear hbx
                    clear hρ hd hb hs hψ
                    refine ifv rfl ?_
                    go_simp
                    exact hK _ _ (Below.refl _ _) rfl (fun _ _ _ _ h => h) fun _ _ _ h => h
                  · -- 1
                    intro val wx hg hψ hd hb hs K hK
                    generalize hρ : rhoV _ _ val = ρ
                    have cc : ∀ u, ρ (.const u) = u := fun u => by rw [← hρ]; rfl
                    have ff : ∀ u, ρ (.func u) = .func (.func u) #[] #[] := fun u => by rw [← hρ]; rfl
                    have r13 : ρ (.tmp 13) = .slice (some ⟨gr, 0, none⟩) q cr := by rw [← hρ]; rfl
                    clear hρ hd hb hs hψ
                    refine ifv rfl ?_
                    go_simp
                    exact hK _ _ (Below.refl _ _) rfl (fun _ _ _ _ h => h) fun _ _ _ h => h
                  · -- 2
                    intro val wx hg hψ hd hb hs K hK
                    generalize hρ : rhoV _ _ val = ρ
                    have cc : ∀ u, ρ (.const u) = u := fun u => by rw [← hρ]; rfl
                    have ff : ∀ u, ρ (.func u) = .func (.func u) #[] #[] := fun u => by rw [← hρ]; rfl
                    have r14 : ρ (.tmp 14) = .int .i64 (i : Int) := by rw [← hρ]; rfl
                    clear hρ hd hb hs hψ
                    refine ifv rfl ?_
                    go_simp
                    exact hK _ _ (Below.refl _ _) rfl (fun _ _ _ _ h => h) fun _ _ _ h => h
                  · -- 3
                    intro val wx hg hψ hd hb hs K hK
                    generalize hρ : rhoV _ _ val = ρ
                    have cc : ∀ u, ρ (.const u) = u := fun u => by rw [← hρ]; rfl
                    have ff : ∀ u, ρ (.func u) = .func (.func u) #[] #[] := fun u => by rw [← hρ]; rfl
                    have r84 : ρ (.tmp 84) = .slice (some ⟨gr, 0, none⟩) q cr := by rw [← hρ]; exact hd 1 rfl rfl
                    have r85 : ρ (.tmp 85) = .int .i64 (i : Int) := by rw [← hρ]; exact hd 2 rfl rfl
                    clear hρ hd hb hs hψ
                    refine ifv rfl ?_
                    go_simp
                    exact hK _ _ (Below.refl _ _) rfl (fun _ _ _ _ h => h) fun _ _ _ h => h
                  · -- 4
                    intro val wx hg hψ hd hb hs K hK
                    generalize hρ : rhoV _ _ val = ρ
                    have cc : ∀ u, ρ (.const u) = u := fun u => by rw [← hρ]; rfl
                    have ff : ∀ u, ρ (.func u) = .func (.func u) #[] #[] := fun u => by rw [← hρ]; rfl
                    have r86 : ρ (.tmp 86) = .pointer (some ⟨gr, i * 6, none⟩) := by rw [← hρ]; exact hd 3 rfl rfl
                    clear hρ hd hb hs hψ
                    refine ifv rfl ?_
                    go_simp
                    exact hK _ _ (Below.refl _ _) rfl (fun _ _ _ _ h => h) fun _ _ _ h => h
                  · -- 5
                    intro val wx hg hψ hd hb hs K hK
                    generalize hρ : rhoV _ _ val = ρ
                    have cc : ∀ u, ρ (.const u) = u := fun u => by rw [← hρ]; rfl
                    have ff : ∀ u, ρ (.func u) = .func (.func u) #[] #[] := fun u => by rw [← hρ]; rfl
                    have r87 : ρ (.tmp 87) = .pointer (some ⟨gr, i * 6, none⟩) := by rw [← hρ]; exact hd 4 rfl rfl
                    have hbw : Below wr.heap.size wr wx := ⟨hg.os, hg.tape, hg.output, hg.size, hg.block⟩
                    have hbx := HB.out.trans (hbw.mono HB.out.size)
                    have hl := rt_p (HR6.out.below hbx) HAI.out
                    dsimp only at hl
                    clear hbx
                    clear hρ hd hb hs hψ
                    refine ifv rfl ?_
                    go_simp
                    exact hK _ _ (Below.refl _ _) rfl (fun _ _ _ _ h => h) fun _ _ _ h => h
                  · -- 6
                    intro val wx hg hψ hd hb hs K hK
                    generalize hρ : rhoV _ _ val = ρ
                    have cc : ∀ u, ρ (.const u) = u := fun u => by rw [← hρ]; rfl
                    have ff : ∀ u, ρ (.func u) = .func (.func u) #[] #[] := fun u => by rw [← hρ]; rfl
                    have r83 : ρ (.tmp 83) = .pointer (some ⟨cb, 0, none⟩) := by rw [← hρ]; exact hd 0 rfl rfl
                    have r88 : ρ (.tmp 88) = .agg #[.int .u32 (x.p.1 : Int), .int .i64 x.p.2] := by rw [← hρ]; exact hd 5 rfl rfl
                    have hbw : Below wr.heap.size wr wx := ⟨hg.os, hg.tape, hg.output, hg.size, hg.block⟩
                    have hc := HXS.out wx (HB.out.trans (hbw.mono HB.out.size))
                    clear hρ hd hb hs hψ
                    refine ifv rfl ?_
                    go_simp
                    refine hc.mono ?_
                    rintro e w2 ⟨rfl, hb2⟩
                    exact ⟨_, rfl, hK _ _ (hb2.mono hbw.size) rfl (fun j _ _ _ h => EtΦ.keep hb2 j _ _ h) fun _ _ _ h => h⟩
                  · -- 7
                    intro val wx hg hψ hd hb hs K hK
                    generalize hρ : rhoV _ _ val = ρ
                    have cc : ∀ u, ρ (.const u) = u := fun u => by rw [← hρ]; rfl
                    have ff : ∀ u, ρ (.func u) = .func (.func u) #[] #[] := fun u => by rw [← hρ]; rfl
                    have r89 : ρ (.tmp 89) = .tuple #[.agg (viC S.pc x), .bool true] := by rw [← hρ]; exact hd 6 rfl rfl
                    clear hρ hd hb hs hψ
                    refine ifv rfl ?_
                    go_simp
                    exact hK _ _ (Below.refl _ _) rfl (fun _ _ _ _ h => h) fun _ _ _ h => h
                  · -- 8
                    intro val wx hg hψ hd hb hs K hK
                    generalize hρ : rhoV _ _ val = ρ
                    have cc : ∀ u, ρ (.const u) = u := fun u => by rw [← hρ]; rfl
                    have ff : ∀ u, ρ (.func u) = .func (.func u) #[] #[] := fun u => by rw [← hρ]; rfl
                    have r82 : ρ (.tmp 82) = .tuple #[.agg (viC S.pc x), .bool true] := by rw [← hρ]; exact hd 7 rfl rfl
                    clear hρ hd hb hs hψ
                    refine ifv rfl ?_
                    go_simp
                    exact hK _ _ (Below.refl _ _) rfl (fun _ _ _ _ h => h) fun _ _ _ h => h
                  · -- 9
                    intro val wx hg hψ hd hb hs K hK
                    generalize hρ : rhoV _ _ val = ρ
                    have cc : ∀ u, ρ (.const u) = u := fun u => by rw [← hρ]; rfl
                    have ff : ∀ u, ρ (.func u) = .func (.func u) #[] #[] := fun u => by rw [← hρ]; rfl
                    have r82 : ρ (.tmp 82) = .tuple #[.agg (viC S.pc x), .bool true] := by rw [← hρ]; exact hd 7 rfl rfl
                    clear hρ hd hb hs hψ
                    refine ifv rfl ?_
                    go_simp
                    exact hK _ _ (Below.refl _ _) rfl (fun _ _ _ _ h => h) fun _ _ _ h => h
                  · -- 10
                    intro val wx hg hψ hd hb hs K hK
                    generalize hρ : rhoV _ _ val = ρ
                    have cc : ∀ u, ρ (.const u) = u := fun u => by rw [← hρ]; rfl
                    have ff : ∀ u, ρ (.func u) = .func (.func u) #[] #[] := fun u => by rw [← hρ]; rfl
                    have hbw : Below wr.heap.size wr wx := ⟨hg.os, hg.tape, hg.output, hg.size, hg.block⟩
                    have hal : Below wx.heap.size wx (wx.alloc (.cells viZ 43)) := (Below.refl _ _).alloc (Nat.le_refl _) _
                    have hsz : wr.heap.size ≤ wx.heap.size := hbw.size
                    clear hρ hd hb hs hψ
                    refine ifv rfl ?_
                    go_simp
                    refine hK _ _ (hal.mono hsz) ⟨_, rfl, Blk.new _ _ _, hsz⟩ (fun j hj hdd hbk h => ?_) fun _ _ _ h => h
                    by_cases hj11 : j = 11
                    · subst hj11; exact Bool.noConfusion ((hbk _ rfl).symm.trans rfl)
                    · exact EtΦ.keep10 hal j hj hj11 _ _ h
                  · -- 11
                    intro val wx hg hψ hd hb hs K hK
                    generalize hρ : rhoV _ _ val = ρ
                    have cc : ∀ u, ρ (.const u) = u := fun u => by rw [← hρ]; rfl
                    have ff : ∀ u, ρ (.func u) = .func (.func u) #[] #[] := fun u => by rw [← hρ]; rfl
                    have r15 : ρ (.tmp 15) = val 10 := by rw [← hρ]; rfl
                    have p10 := hd 10 rfl rfl
                    have r90 : ρ (.tmp 90) = .agg (viC S.pc x) := by rw [← hρ]; exact hd 8 rfl rfl
                    obtain ⟨b, hbe, hbk, hbb⟩ : ∃ b, val 10 = .pointer (some ⟨b, 0, none⟩) ∧ Blk wx b 43 viZ ∧ wr.heap.size ≤ b := p10
                    rw [hbe] at r15
                    have hst := stc_store vi_info hbk rfl (vs := viC S.pc x) rfl viC_one
                    clear hd hb hs hψ
                    refine ifv rfl ?_
                    go_simp
                    refine hK _ _ (below_setCells hbb _ _ _ (Below.refl _ _)) ⟨b, hbe, blk_setCells hbk rfl, hbb⟩ (fun j hj hdd hbk2 h => ?_) fun _ _ _ h => h
                    by_cases hj10 : j = 10
                    · subst hj10; exact absurd hdd (by decide)
                    · exact EtΦ.keep11 j hj hj10 _ _ h
                  · -- 12
                    intro val wx hg hψ hd hb hs K hK
                    generalize hρ : rhoV _ _ val = ρ
                    have cc : ∀ u, ρ (.const u) = u := fun u => by rw [← hρ]; rfl
                    have ff : ∀ u, ρ (.func u) = .func (.func u) #[] #[] := fun u => by rw [← hρ]; rfl
                    have r91 : ρ (.tmp 91) = .bool true := by rw [← hρ]; exact hd 9 rfl rfl
                    clear hρ hd hb hs hψ
                    refine ifv rfl ?_
                    go_simp
                    exact hK _ _ (Below.refl _ _) rfl (fun _ _ _ _ h => h) fun _ _ _ h => h
                intro val V h9
                rw [if_neg (by decide)] at h9
                obtain ⟨hgV, h9⟩ := h9
                have p11 : ∃ b, val 10 = .pointer (some ⟨b, 0, none⟩) ∧ Blk V b 43 (viC S.pc x) ∧ wr.heap.size ≤ b := h9 11 (by decide) fun i hi => by
                  unfold etDead
                  simp
                have p9 : val 12 = .bool true := h9 12 (by decide) fun i hi => by
                  unfold etDead
                  simp
                obtain ⟨eb, p10, hkv, hbe⟩ := p11
                have HKV := Lib.hid hkv
                have HBV := Lib.hid (HB.out.trans (Below.mono (show Below wr.heap.size wr V from ⟨hgV.os, hgV.tape, hgV.output, hgV.size, hgV.block⟩) HB.out.size))
                simp only [putAll, p10, p9]
                simp only [Act.put, List.setIfInBounds_toArray, List.set_cons_succ, List.set_cons_zero]
                clear h9 p10 p9 hkv hbe hgV
                generalize val 0 = x0, val 1 = x1, val 2 = x2, val 3 = x3, val 4 = x4, val 5 = x5, val 6 = x6, val 7 = x7, val 8 = x8, val 9 = x9
                go_upto_region 25 with (fail)
                obtain ⟨hac, hto, hfe⟩ := HLAW.out x HXM.out
                obtain ⟨D, hD⟩ : ∃ z, z = distF S.pc x := ⟨_, rfl⟩
                have HC1 := Lib.hid (show ∀ j : Nat, nxB S.pc x j = (x.tk && !x.own && S.pc.up j && decide (x.said j < D) && decide (x.said j + S.pc.cost j < 255)) from fun j => by unfold nxB; rw [hfe, hD])
                have v4 := ld_bC (w := V) (b := eb) (o := 4) (z := false) (by rw [HKV.out.cell, ← hac]; rfl)
                have v5 := ld_iC (w := V) (b := eb) (o := 5) (z := D) (by rw [HKV.out.cell, hD]; rfl)
                have v6 := ld_iC (w := V) (b := eb) (o := 6) (z := D) (by rw [HKV.out.cell, hD, ← hto]; rfl)
                have v7 := ld_iC (w := V) (b := eb) (o := 7) (z := D) (by rw [HKV.out.cell, hD, ← hfe]; rfl)
                have HD := Lib.hid hD
                clear hac hto hfe hD
                go_wp2_with fail
                clear v4 v5 v6 v7
                have HSD := Lib.hid (fun j => HC6.out.said x HXM.out j)
                have HCO := Lib.hid HC6.out.ok.pc.b
                have HBI := Lib.hid (Below.refl V.heap.size V)
                obtain ⟨An, qn, hsv, hnx, hln⟩ := rt_nx (HR6.out.below HBV.out) HAI.out
                dsimp only at hnx hln hsv
                have HSV := Lib.hid hsv
                have HNX := Lib.hid hnx
                have HLN := Lib.hid hln
                clear hnx hln hsv
                go_loopw [17, 18] (fun s17 s18 wy => ∃ j : Nat, j ≤ 8 ∧ s18 = .int .i64 (j : Int) ∧ s17 = .int .i64 (((nxK S.pc x j).length : Nat) : Int) ∧ Below V.heap.size V wy) (fun _ s18 _ => 8 - (intOf s18).toNat)
                case atStart => exact ⟨0, by omega, rfl, rfl, HBI.out⟩
                case round =>
                  clear HBI
                  obtain ⟨j, hj, rfl, rfl, hB2⟩ := hrel
                  have HB2 := Lib.hid hB2
                  have HBW := Lib.hid (HBV.out.trans (hB2.mono HBV.out.size))
                  clear hB2
                  by_cases hlj : j < 8
                  · have hup := core_up (HC6.out.later HBW.out) (j : Int)
                    have lc := ld_cpC (w := wr) ((HKC6.out.below HBW.out HKC6.out.lt).cell 0)
                    obtain ⟨s0, s1⟩ := HSD.out j
                    obtain ⟨d0, d1⟩ := HCO.out j
                    have j0 : (0 : Int) ≤ j := by omega
                    have j1 : (j : Int) < 8 := by omega
                    have HSUC := Lib.hid (nxK_succ S.pc x j)
                    have HNB := Lib.hid (HC1.out j)
                    have hlen := nxK_len S.pc x j
                    have HAT := Lib.hid (fun h => nxK_at (c := S.pc) (x := x) hlj h)
                    have HLT := Lib.hid (fun h => nxK_lt (c := S.pc) (x := x) hlj h)
                    have e1 := fun (dd : Nat) (os : Array Obj) => ld_bC (w := grow (redrawn wr dd) os) (b := eb) (o := 3) (z := x.tk) ((HKV.out.below (HB2.out.trans ((below_regrown wr dd os).mono HB2.out.size)) HKV.out.lt).cell 3)
                    have e2 := fun (dd : Nat) (os : Array Obj) => ld_bC (w := grow (redrawn wr dd) os) (b := eb) (o := 2) (z := x.own) ((HKV.out.below (HB2.out.trans ((below_regrown wr dd os).mono HB2.out.size)) HKV.out.lt).cell 2)
                    have e3 := fun (dd : Nat) (os : Array Obj) => ld_iC (w := grow (redrawn wr dd) os) (b := eb) (o := 5) (z := D) (by rw [(HKV.out.below (HB2.out.trans ((below_regrown wr dd os).mono HB2.out.size)) HKV.out.lt).cell 5, HD.out]; rfl)
                    have e4 := fun (dd : Nat) (os : Array Obj) => ld_iC (w := grow (redrawn wr dd) os) (b := eb) (o := 8 + j) (z := x.said j) (((HKV.out.below (HB2.out.trans ((below_regrown wr dd os).mono HB2.out.size)) HKV.out.lt).cell (8 + j)).trans (viC_said S.pc x hlj))
                    obtain ⟨N, hN⟩ : ∃ z, z = (nxK S.pc x j).length := ⟨_, rfl⟩
                    rw [← hN] at hlen HAT HLT ⊢
                    have HNN := Lib.hid hN
                    clear hN
                    obtain ⟨cst, hcst⟩ : ∃ z, z = S.pc.cost j := ⟨_, rfl⟩
                    obtain ⟨z, hz⟩ : ∃ z, z = x.said j := ⟨_, rfl⟩
                    rw [← hcst] at d0 d1 HNB HAT
                    rw [← hz] at s0 s1 HNB HAT e4
                    have HCZ := Lib.hid (And.intro hcst hz)
                    have hwr : IntKind.i64.wrap (z + cst) = z + cst := IntWalk.i64_in _ ⟨by omega, by omega⟩
                    have HF := Lib.hid (And.intro e1 (And.intro e2 (And.intro e3 (And.intro e4 hwr))))
                    clear e1 e2 e3 e4 hwr
                    cases hu : S.pc.up j with
                    | false =>
                      have hur : upsR S.pc (j : Int) = (0, false) := by unfold upsR; rw [if_neg (fun e => by rw [show S.pc.up (j : Int).toNat = false from hu] at e; cases e.2.2)]
                      rw [hur] at hup
                      have HUP := Lib.hid hup
                      have HNO := Lib.hid (show (nxK S.pc x (j + 1)).length = N by rw [HSUC.out, if_neg (by rw [HNB.out, hu]; simp), List.append_nil, HNN.out])
                      clear hup hur hu hcst hz
                      go_upto_region 32 with (go_at_call 15; refine HUP.out.mono ?_; rintro en w' ⟨rfl, rfl⟩)
                      clear lc
                      obtain ⟨e1, e2, e3, e4, hwr⟩ := HF.out
                      refine wp_region_quiet_below (by kernel_rfl) (by kernel_rfl) ?_
                      repeat (go_big_quiet_step (fail))
                      refine wpQuiet_nil ?_
                      intro _ hw'
                      obtain ⟨⟨dq, osq⟩, hw''⟩ := hw'
                      subst hw''
                      have HB2q := Lib.hid (HB2.out.trans ((below_regrown wr dq osq).mono HB2.out.size))
                      generalize grow (redrawn wr dq) osq = wq at HB2q ⊢
                      clear e1 e2 e3 e4 hwr
                      go_wp2_with fail
                      go_roundw
                      case rel => exact ⟨j + 1, by omega, by go_num, by rw [HNO.out], HB2q.out⟩
                      case measure => simp [intOf]; omega
                    | true =>
                      have hur : upsR S.pc (j : Int) = (S.pc.cost j, true) := by unfold upsR; rw [if_pos ⟨j0, j1, hu⟩]; rfl
                      rw [hur, ← hcst] at hup
                      have HUP := Lib.hid hup
                      rw [hu] at HNB
                      clear hup hur hu hcst hz
                      go_upto_region 32 with (go_at_call 15; refine HUP.out.mono ?_; rintro en w' ⟨rfl, rfl⟩)
                      clear lc
                      obtain ⟨t, ht⟩ : ∃ o, o = x.tk := ⟨_, rfl⟩
                      obtain ⟨o, ho⟩ : ∃ o, o = x.own := ⟨_, rfl⟩
                      obtain ⟨e1, e2, e3, e4, hwr⟩ := HF.out
                      rw [← ht] at e1 HNB
                      rw [← ho] at e2 HNB
                      clear ht ho
                      have hno : (t && !o && true && decide (z < D) && decide (z + cst < 255)) = false → (nxK S.pc x (j + 1)).length = N := fun h => by rw [HSUC.out, if_neg (by rw [HNB.out, h]; simp), List.append_nil, HNN.out]
                      cases t with
                      | false =>
                        have HNO := Lib.hid (hno (by simp))
                        clear hno
                        refine wp_region_quiet_below (by kernel_rfl) (by kernel_rfl) ?_
                        repeat (go_big_quiet_step (fail))
                        refine wpQuiet_nil ?_
                        intro _ hw'
                        obtain ⟨⟨dq, osq⟩, hw''⟩ := hw'
                        subst hw''
                        have HB2q := Lib.hid (HB2.out.trans ((below_regrown wr dq osq).mono HB2.out.size))
                        generalize grow (redrawn wr dq) osq = wq at HB2q ⊢
                        clear e1 e2 e3 e4 hwr
                        go_wp2_with fail
                        go_roundw
                        case rel => exact ⟨j + 1, by omega, by go_num, by rw [HNO.out], HB2q.out⟩
                        case measure => simp [intOf]; omega
                      | true =>
                        cases o with
                        | true =>
                          have HNO := Lib.hid (hno (by simp))
                          clear hno
                          refine wp_region_quiet_below (by kernel_rfl) (by kernel_rfl) ?_
                          repeat (go_big_quiet_step (fail))
                          refine wpQuiet_nil ?_
                          intro _ hw'
                          obtain ⟨⟨dq, osq⟩, hw''⟩ := hw'
                          subst hw''
                          have HB2q := Lib.hid (HB2.out.trans ((below_regrown wr dq osq).mono HB2.out.size))
                          generalize grow (redrawn wr dq) osq = wq at HB2q ⊢
                          clear e1 e2 e3 e4 hwr
                          go_wp2_with fail
                          go_roundw
                          case rel => exact ⟨j + 1, by omega, by go_num, by rw [HNO.out], HB2q.out⟩
                          case measure => simp [intOf]; omega
                        | false =>
                          by_cases h1 : z < D
                          · have b1 : decide (z < D) = true := decide_eq_true h1
                            by_cases h2 : z + cst < 255
                            · have b2 : decide (z + cst < 255) = true := decide_eq_true h2
                              have hyes : nxB S.pc x j = true := by rw [HNB.out, b1, b2]; rfl
                              have hat := HAT.out hyes
                              have hlt := HLT.out hyes
                              have HYES := Lib.hid (show (nxK S.pc x (j + 1)).length = N + 1 by rw [HSUC.out, if_pos hyes, List.length_append, ← HNN.out]; rfl)
                              have HAT2 := Lib.hid hat
                              have HLT2 := Lib.hid hlt
                              clear hno h1 h2 hyes hat hlt HAT HLT
                              refine wp_region_quiet_below (by kernel_rfl) (by kernel_rfl) ?_
                              repeat (go_big_quiet_step (fail))
                              refine wpQuiet_nil ?_
                              intro _ hw'
                              obtain ⟨⟨dq, osq⟩, hw''⟩ := hw'
                              subst hw''
                              have HB2q := Lib.hid (HB2.out.trans ((below_regrown wr dq osq).mono HB2.out.size))
                              generalize grow (redrawn wr dq) osq = wq at HB2q ⊢
                              clear e1 e2 e3 b1 b2
                              go_upto_region 33 with (fail)
                              obtain ⟨nq, hnq⟩ : ∃ z, z = (nextF S.pc x).length := ⟨_, rfl⟩
                              have hlt := HLT2.out
                              rw [← hnq] at hlt
                              obtain ⟨gn, cn, en, _⟩ := own_form1 HNX.out (by rw [← hnq]; omega)
                              have HNX2 := HNX.out
                              rw [en] at HNX2
                              have HNX3 := Lib.hid HNX2
                              have HSV2 := Lib.hid (show sv = .slice (some ⟨gn, 0, none⟩) nq cn by rw [HSV.out, en, hnq])
                              have hbq := fun (dd : Nat) (os : Array Obj) => HB2q.out.trans ((below_regrown wq dd os).mono HB2q.out.size)
                              have f1 := fun (dd : Nat) (os : Array Obj) => ld_sNx (w := grow (redrawn wq dd) os) (b := gr) (o := i * 6 + 5) (A := some ⟨gn, 0, none⟩) (m := nq) (q := cn) (by
                                rw [(HR6.out.below (HBV.out.trans ((hbq dd os).mono HBV.out.size))).cell HAI.out (j := 5) (by omega), ← HSV2.out]
                                rfl)
                              have f2 := fun (dd : Nat) (os : Array Obj) => nx_ld (own_below HNX3.out (hbq dd os)) HAT2.out
                              have f3 := fun (dd : Nat) (os : Array Obj) => ld_iC (w := grow (redrawn wq dd) os) (b := eb) (o := 8 + j) (z := z) (by
                                rw [(HKV.out.below (hbq dd os) HKV.out.lt).cell (8 + j), viC_said S.pc x hlj, HCZ.out.2])
                              have f4 := fun wx => bd_nx2 wx (j : Int) (z + cst)
                              have f5 := fun wx => neq_nx (j : Int) (z + cst) wx
                              have g1 : decide ((nq : Int) ≤ (N : Int)) = false := decide_eq_false (by omega)
                              have g2 : decide (nq ≤ N) = false := decide_eq_false (by omega)
                              have g3 : (0 : Int) ≤ (N : Int) := by omega
                              have g4 : (N : Int) < (nq : Int) := by omega
                              clear hnq en HNX2 hbq hlt e4
                              refine wp_region_quiet_below (by kernel_rfl) (by kernel_rfl) ?_
                              repeat (go_big_quiet_step (fail))
                              refine wpQuiet_nil ?_
                              intro _ hw'
                              obtain ⟨⟨dp, osp⟩, hw''⟩ := hw'
                              subst hw''
                              have HB3 := Lib.hid (HB2q.out.trans ((below_regrown wq dp osp).mono HB2q.out.size))
                              generalize grow (redrawn wq dp) osp = wp at HB3 ⊢
                              clear f1 f2 f3 f4 f5 g1 g2 g3 g4 hwr
                              go_wp2_with fail
                              go_roundw
                              case rel => exact ⟨j + 1, by omega, by go_num, by rw [HYES.out]; go_num, HB3.out⟩
                              case measure => simp [intOf]; omega
                            · have b2 : decide (z + cst < 255) = false := decide_eq_false h2
                              have HNO := Lib.hid (hno (by rw [b2]; simp))
                              clear hno h2
                              refine wp_region_quiet_below (by kernel_rfl) (by kernel_rfl) ?_
                              repeat (go_big_quiet_step (fail))
                              refine wpQuiet_nil ?_
                              intro _ hw'
                              obtain ⟨⟨dq, osq⟩, hw''⟩ := hw'
                              subst hw''
                              have HB2q := Lib.hid (HB2.out.trans ((below_regrown wr dq osq).mono HB2.out.size))
                              generalize grow (redrawn wr dq) osq = wq at HB2q ⊢
                              clear e1 e2 e3 e4 hwr
                              go_wp2_with fail
                              go_roundw
                              case rel => exact ⟨j + 1, by omega, by go_num, by rw [HNO.out], HB2q.out⟩
                              case measure => simp [intOf]; omega
                          · have b1 : decide (z < D) = false := decide_eq_false h1
                            have HNO := Lib.hid (hno (by rw [b1]; simp))
                            clear hno h1
                            refine wp_region_quiet_below (by kernel_rfl) (by kernel_rfl) ?_
                            repeat (go_big_quiet_step (fail))
                            refine wpQuiet_nil ?_
                            intro _ hw'
                            obtain ⟨⟨dq, osq⟩, hw''⟩ := hw'
                            subst hw''
                            have HB2q := Lib.hid (HB2.out.trans ((below_regrown wr dq osq).mono HB2.out.size))
                            generalize grow (redrawn wr dq) osq = wq at HB2q ⊢
                            clear e1 e2 e3 e4 hwr
                            go_wp2_with fail
                            go_roundw
                            case rel => exact ⟨j + 1, by omega, by go_num, by rw [HNO.out], HB2q.out⟩
                            case measure => simp [intOf]; omega
                  · obtain rfl : j = 8 := by omega
                    rw [← nxK_all]
                    obtain ⟨nq, hnq⟩ : ∃ z, z = (nextF S.pc x).length := ⟨_, rfl⟩
                    rw [← hnq]
                    have f1 := ld_sNx (w := wr) (b := gr) (o := i * 6 + 5) (A := An) (m := nq) (q := qn) (by
                      rw [(HR6.out.below HBW.out).cell HAI.out (j := 5) (by omega), hnq, ← HSV.out]
                      rfl)
                    have HNQ := Lib.hid hnq
                    clear hnq
                    go_wp2_with fail
                    go_roundw
                    case rel => exact ⟨i + 1, by omega, by go_num, HBW.out⟩
                    case measure => simp [intOf]; omega
              · obtain rfl : i = q := by omega
                go_wp2_with (go_at_call 10; refine (known12_any _).mono ?_; rintro e w' ⟨rfl, hb⟩)
                go_ret
                exact ⟨rfl, HCr.out.bel.trans (hb.mono HCr.out.bel.size)⟩
end Go.Proofs.Ytahdjfegihnolaa
