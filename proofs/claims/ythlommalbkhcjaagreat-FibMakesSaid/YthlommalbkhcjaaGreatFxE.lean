/- The document's table as a row of entries: Ports; rows of numbers compared. -/
import Derived.Test.YthlommalbkhcjaaGreatFxD
namespace Go.Proofs.YthlommalbkhcjaaGreat
open Go.RowKit Go.Sort
attribute [local go_sem] comesV_value comesV_skip comesV_enter
variable {dc : Int → Array Value}
theorem up_ext : ∀ {L M : List Int}, L.Pairwise (· < ·) → M.Pairwise (· < ·) → (∀ e, e ∈ L ↔ e ∈ M) → L = M
  | [], [], _, _, _ => rfl
  | [], b :: M, _, _, h => absurd ((h b).2 (by simp)) (by simp)
  | a :: L, [], _, _, h => absurd ((h a).1 (by simp)) (by simp)
  | a :: L, b :: M, h1, h2, h => by
    obtain ⟨p1, p2⟩ := List.pairwise_cons.1 h1
    obtain ⟨q1, q2⟩ := List.pairwise_cons.1 h2
    have hab : a = b := by
      have ha := (h a).1 (by simp)
      have hb := (h b).2 (by simp)
      rcases List.mem_cons.1 ha with e | ha
      · exact e
      · rcases List.mem_cons.1 hb with e | hb
        · exact e.symm
        · have := q1 a ha
          have := p1 b hb
          omega
    subst hab
    congr 1
    refine up_ext p2 q2 fun e => ⟨fun he => ?_, fun he => ?_⟩
    · rcases List.mem_cons.1 ((h e).1 (List.mem_cons_of_mem _ he)) with e2 | he2
      · have := p1 e he
        omega
      · exact he2
    · rcases List.mem_cons.1 ((h e).2 (List.mem_cons_of_mem _ he)) with e2 | he2
      · have := q1 e he
        omega
      · exact he2
theorem ld_iX {w : World} {ad : Addr} {x : Int} (h : w.cell? ad = some (.int .i64 x)) : (Instr.loadAt 3 (.pointer (some ad))).run Tryz.prog w = .ok (.int .i64 x) w := by
  simp [go_sem, h]
/-- The ports below k that stand in the row. -/
def prt (zs : List Int) (k : Nat) : List Int := ((List.range k).map fun (i : Nat) => (i : Int)).filter fun x => decide (x ∈ zs)
theorem prt_succ (zs : List Int) (k : Nat) : prt zs (k + 1) = prt zs k ++ if (k : Int) ∈ zs then [(k : Int)] else [] := by
  unfold prt
  rw [List.range_succ, List.map_append, List.filter_append]
  congr 1
  by_cases h : (k : Int) ∈ zs <;> simp [h]
theorem prt_len (zs : List Int) : ∀ k, (prt zs k).length ≤ k
  | 0 => by simp [prt]
  | k + 1 => by
    have := prt_len zs k
    rw [prt_succ, List.length_append]
    split <;> simp <;> omega
theorem prt_ports {wz : Int × List Int} (h : WkOk wz) (h3 : wz.1 = 3) : prt wz.2 8 = portsOf wz := by
  refine up_ext ?_ (ports_up _) fun e => ?_
  · unfold prt
    refine List.Pairwise.filter _ ?_
    rw [List.pairwise_map]
    exact List.pairwise_lt_range.imp fun h => by omega
  · rw [ports_mem]
    unfold prt
    rw [List.mem_filter, List.mem_map]
    constructor
    · rintro ⟨_, h2⟩
      exact ⟨h3, of_decide_eq_true h2⟩
    · rintro ⟨_, h2⟩
      obtain ⟨p1, p2⟩ := h.port e h2
      exact ⟨⟨e.toNat, List.mem_range.2 (by omega), by omega⟩, decide_eq_true h2⟩
theorem own_laterJ {w w' : World} {base : Nat} {e : TypeId} {size n : Nat} {v : Value} {xs : List Value} (h : w.ownsRow base e size v n xs) (hb : Below w.heap.size w w') : w'.ownsRow base e size v n xs := own_below h hb
set_option maxRecDepth 20000 in
set_option maxHeartbeats 8000000 in
attribute [-go_sem] Instr.storeAt Instr.loadAt Instr.alloc Instr.build in
theorem rports14_any (hd : Dc dc) {wk : Int → Int × List Int} (hwk : ∀ v, dc v = wayC (wk v) ∧ (wk v).2.length = 256) (hok : ∀ v, WkOk (wk v)) (A : Option Addr) (n c a : Nat) (L : List (Bs × Int)) (w : World) (hL : SortedB L) (h32 : ∀ e ∈ L, e.1.length ≤ 32) (hn : L.length = n) (hsm : n ≤ 1000000) (hw : WantL dc A L w) (ha : a < 2 ^ 32) (wz : Int × List Int) (hwz : wz = wk (lastE (covS (bitsB a 32) L)).2) :
    Calls Tryz.prog 20 #[.slice A n c, .int .u32 (a : Int)] w (PortsPost w (portsOf wz)) := by
  have HL := Lib.hid (rlook14_any hd A n c a L w hL h32 hn hsm hw ha)
  obtain ⟨E, hE⟩ : ∃ E, E = covS (bitsB a 32) L := ⟨_, rfl⟩
  rw [← hE] at HL hwz
  obtain ⟨pa, hpa⟩ : ∃ z, z = padB (lastE E).1 := ⟨_, rfl⟩
  obtain ⟨pn, hpn⟩ : ∃ z, z = (lastE E).1.length := ⟨_, rfl⟩
  obtain ⟨cs, hcs⟩ : ∃ z, z = dc (lastE E).2 := ⟨_, rfl⟩
  obtain ⟨em, hem⟩ : ∃ z, z = E.isEmpty := ⟨_, rfl⟩
  have hc1 : cs.size = 257 := by rw [hcs]; exact hd.sz _
  have hc2 : cs.all (·.oneCell') = true := by rw [hcs]; exact hd.one _
  have hcw : cs = wyC wz.1 wz.2 := by rw [hcs, hwz]; exact (hwk _).1
  have hz2 : wz.2.length = 256 := by rw [hwz]; exact (hwk _).2
  have hz3 : WkOk wz := by rw [hwz]; exact hok _
  unfold MatchPost at HL
  rw [← hpa, ← hpn, ← hcs, ← hem] at HL
  have HZ2 := Lib.hid hz2
  have HZ3 := Lib.hid hz3
  have HCW := Lib.hid hcw
  obtain ⟨kd, hkd⟩ : ∃ z, z = wz.1 := ⟨_, rfl⟩
  have HKD := Lib.hid hkd
  have a1 := px_alloc
  have a2 := way_alloc
  clear hE hsm hd hwk hok hw ha hn h32 hL hpa hpn hcs hem hwz hcw hz2 hz3 hkd
  go_enter Tryz.func20, Tryz.ntmps20
  go_wp2_with fail
  refine HL.out.mono ?_
  rintro e w1 ⟨rfl, hb1⟩
  obtain ⟨w3, w4, st1, st2, hp4, hv4, hb4⟩ := box_pw w1 (pa : Int) (pn : Int) cs hc1 hc2
  have HV4 := Lib.hid (show Blk w4 (w1.heap.size + 1) 41 (wyC wz.1 wz.2) by rw [← HCW.out]; exact hv4)
  have HB4 := Lib.hid (hb1.trans (hb4.mono hb1.size))
  clear hb1 hp4 hv4 hb4 hc1 hc2
  go_upto_region 2 with (fail)
  clear st1 st2 a1 a2
  have lk := ld_kd HV4.out
  rw [← HKD.out] at lk
  by_cases h3 : kd = 3
  · subst h3
    have HKK := Lib.hid (show wz.1 = 3 from HKD.out.symm)
    go_wp2_with fail
    clear lk
    go_loopw [8, 9] (fun v i wr => ∃ k : Nat, k ≤ 8 ∧ i = .int .i64 (k : Int) ∧ wr.ownsRow w4.heap.size 3 1 v (prt wz.2 k).length (inV (prt wz.2 k)) ∧ Below w4.heap.size w4 wr) (fun _ i _ => 8 - (intOf i).toNat)
    case atStart => exact ⟨0, by omega, rfl, (by rw [show prt wz.2 0 = [] from rfl]; exact World.ownsRow_nil _ _ _ _), Below.refl _ _⟩
    case round =>
      obtain ⟨k, hk, rfl, ho, hbk⟩ := hrel
      obtain ⟨RA, cap, rfl, hcap⟩ := own_form ho
      have HO := Lib.hid ho
      have HBK := Lib.hid hbk
      clear ho hbk
      obtain ⟨wo, rfl⟩ : ∃ z, z = wr := ⟨_, rfl⟩
      by_cases hk8 : k < 8
      · have hd0 : decide ((k : Int) < 8) = true := decide_eq_true (by omega)
        go_wp2_with fail
        go_loopw [8, 10] (fun v j wj => ∃ jn : Nat, v = .slice RA (prt wz.2 k).length cap ∧ jn ≤ 256 ∧ j = .int .i64 (jn : Int) ∧ (∀ i, i < jn → wz.2.getD i 0 ≠ (k : Int)) ∧ Below wo.heap.size wo wj) (fun _ j _ => 256 - (intOf j).toNat)
        case atStart => exact ⟨0, rfl, by omega, rfl, fun i hi => by omega, Below.refl _ _⟩
        case round =>
          obtain ⟨jn, rfl, hj, rfl, hno, hbj⟩ := hrel
          obtain ⟨wj, rfl⟩ : ∃ z, z = wr := ⟨_, rfl⟩
          have HNO := Lib.hid hno
          have HBJ := Lib.hid hbj
          clear hno hbj
          by_cases hj2 : jn < 256
          · have hdj : decide ((jn : Int) < 256) = true := decide_eq_true (by omega)
            have hi0 : (0 : Int) ≤ jn := by omega
            have hi1 : (jn : Int) < 256 := by omega
            have hvj := HV4.out.below (HBK.out.trans (HBJ.out.mono HBK.out.size)) HV4.out.lt
            have l1 := ld_bki hvj HZ2.out hj2
            obtain ⟨x, hx⟩ : ∃ x, x = wz.2.getD jn 0 := ⟨_, rfl⟩
            rw [← hx] at l1
            have HX := Lib.hid hx
            clear hx hvj
            by_cases hxk : x = (k : Int)
            · subst hxk
              have HIN := Lib.hid (show (k : Int) ∈ wz.2 by
                have h1 := HX.out
                rw [List.getD_eq_getElem?_getD, List.getElem?_eq_getElem (show jn < wz.2.length by rw [HZ2.out]; exact hj2)] at h1
                rw [h1]
                exact List.getElem_mem _)
              obtain ⟨W, hW⟩ : ∃ Z, Z = wj.alloc (.cells #[.int .i64 (k : Int)] 3) := ⟨_, rfl⟩
              have hBW : Below wo.heap.size wo W := by rw [hW]; exact HBJ.out.alloc HBJ.out.size _
              have hk1 : Blk W wj.heap.size 3 #[.int .i64 (k : Int)] := by rw [hW]; exact Blk.new _ _ _
              have hrd : Reads W (fun g => g = wj.heap.size) 1 (some ⟨wj.heap.size, 0, none⟩) 1 [.int .i64 (k : Int)] := ⟨rfl, fun _ => ⟨_, rfl, rfl, hk1.lt, fun j u hu => by
                rw [add_off, Nat.zero_add, hk1.cell]
                simpa using hu⟩⟩
              have hro := own_laterJ HO.out hBW
              have HRD := Lib.hid hrd
              have HRO := Lib.hid hro
              have HBW := Lib.hid hBW
              have HW := Lib.hid hW
              clear hW hBW hk1 hrd hro
              obtain ⟨i0, hi, hz0, hz1, hz2⟩ := info_parts info_i64
              have hln := prt_len wz.2 k
              obtain ⟨m, hm⟩ : ∃ m, m = (prt wz.2 k).length := ⟨_, rfl⟩
              rw [← hm] at HRO hln ⊢
              have HM := Lib.hid hm
              clear hm
              have hmx : m + 1 ≤ maxLen := by unfold maxLen; omega
              have hmb : (m + 1) * 8 ≤ 140737488355328 := by omega
              have hone : ∀ u ∈ [Value.int .i64 (k : Int)], u.oneCell' = true := by simp [Value.oneCell']
              have hbs : w4.heap.size ≤ W.heap.size := Nat.le_trans HBK.out.size HBW.out.size
              go_wp2_with (at_builtin; refine wpList_append_any _ rfl (.tmp 35) (.tmp 37) _ rfl w4.heap.size 3 i0 _ 1 8 Tryz.underlying49 hi hz0 hz1 hz2 rfl (by decide) (.slice RA m cap) m _ rfl (by rw [← HW.out]; exact HRO.out) (fun g => g = wj.heap.size) (some ⟨wj.heap.size, 0, none⟩) 1 1 [.int .i64 (k : Int)] rfl (by rw [← HW.out]; exact HRD.out) hone hmx hmb (by rw [← HW.out]; exact hbs) ?_; intro v2 w2 h2 hg2 _; rw [← HW.out] at hg2; have H2 := Lib.hid h2; have HG2 := Lib.hid hg2; clear h2 hg2)
              exact ⟨⟨k + 1, by omega, by go_num, (by
                rw [prt_succ, if_pos HIN.out, inV_snoc, List.length_append, ← HM.out]
                exact H2.out), HBK.out.grown (grown_of_below HBW.out HG2.out) HBK.out.size fun j hj => (own_lt HRO.out hj).1⟩, by simp [intOf]; omega⟩
            · have hxk2 : (x == (k : Int)) = false := beq_eq_false_iff_ne.2 hxk
              have HXK := Lib.hid hxk
              clear hxk
              go_wp2_with fail
              go_roundw
              case rel => exact ⟨jn + 1, rfl, by omega, by go_num, fun i hi => by
                rcases Nat.lt_or_ge i jn with h | h
                · exact HNO.out i h
                · have e : i = jn := by omega
                  subst e
                  rw [← HX.out]
                  exact HXK.out, HBJ.out⟩
              case measure => simp [intOf]; omega
          · have hj3 : jn = 256 := by omega
            subst hj3
            have HNI := Lib.hid (show ¬ (k : Int) ∈ wz.2 from fun h => by
              obtain ⟨i, hi, e⟩ := List.getElem_of_mem h
              have := HNO.out i (by rw [HZ2.out] at hi; exact hi)
              rw [List.getD_eq_getElem?_getD, List.getElem?_eq_getElem hi] at this
              exact this e)
            go_wp2_with fail
            go_roundw
            case rel => exact ⟨k + 1, by omega, by go_num, (by
              rw [prt_succ, if_neg HNI.out, List.append_nil]
              exact own_laterJ HO.out HBJ.out), HBK.out.trans (HBJ.out.mono HBK.out.size)⟩
            case measure => simp [intOf]; omega
      · have hk9 : k = 8 := by omega
        subst hk9
        go_wp2_with fail
        go_ret
        rw [← prt_ports HZ3.out HKK.out]
        exact ⟨_, rfl, own_base HO.out HB4.out.size, HB4.out.trans (HBK.out.mono HB4.out.size)⟩
  · have h4 : (kd == 3) = false := beq_eq_false_iff_ne.2 h3
    have h5 : (kd != 3) = true := by simpa using h3
    have HPO := Lib.hid (show portsOf wz = [] by unfold portsOf; rw [if_neg (by rw [← HKD.out]; exact h3)])
    clear h3
    go_wp2_with fail
    go_ret
    rw [HPO.out]
    exact ⟨_, rfl, World.ownsRow_nil _ _ _ _, HB4.out⟩
set_option maxRecDepth 20000 in
set_option maxHeartbeats 8000000 in
attribute [-go_sem] Instr.storeAt Instr.loadAt Instr.alloc in
/-- The same row twice. -/
theorem same14_any (A B : Option Addr) (c d : Nat) (P : List Int) (I J : Nat → Prop) (w : World) (hp : P.length ≤ 1000) (hI : ∀ k, I k → k < w.heap.size) (hJ : ∀ k, J k → k < w.heap.size) (h1 : Reads w I 1 A P.length (inV P)) (h2 : Reads w J 1 B P.length (inV P)) :
    Calls Tryz.prog 18 #[.slice A P.length c, .slice B P.length d] w fun e w' => e = .returned (.bool true) ∧ Below w.heap.size w w' := by
  obtain ⟨n, hn⟩ : ∃ n, n = P.length := ⟨_, rfl⟩
  rw [← hn] at h1 h2 hp ⊢
  have HN := Lib.hid hn
  have H1 := Lib.hid h1
  have H2 := Lib.hid h2
  have HI := Lib.hid hI
  have HJ := Lib.hid hJ
  clear hn h1 h2 hI hJ
  go_enter Tryz.func18, Tryz.ntmps18
  go_wp2_with fail
  go_loopw [5] (fun i wr => ∃ k : Nat, k ≤ n ∧ i = .int .i64 (k : Int) ∧ Below w.heap.size w wr) (fun i _ => n - (intOf i).toNat)
  case atStart => exact ⟨0, Nat.zero_le _, rfl, Below.refl _ _⟩
  case round =>
    obtain ⟨k, hk, rfl, hb⟩ := hrel
    have HB := Lib.hid hb
    clear hb
    by_cases hkn : k < n
    · have hd0 : decide ((k : Int) < n) = true := decide_eq_true (by omega)
      have hki : ¬ (k : Int) < 0 ∧ (k : Int) < n := ⟨by omega, by omega⟩
      obtain ⟨x, hx⟩ : ∃ x, P[k]? = some x := ⟨_, List.getElem?_eq_getElem (by rw [← HN.out]; exact hkn)⟩
      have hv : (inV P)[k]? = some (.int .i64 x) := by simp [inV, hx]
      obtain ⟨ad, rfl, hi1, _, hc1⟩ := H1.out.2 (by omega)
      obtain ⟨bd, rfl, hj1, _, hc2⟩ := H2.out.2 (by omega)
      have e1 := hc1 k _ hv
      have e2 := hc2 k _ hv
      have HE := Lib.hid (fun (wx : World) (hw : Below w.heap.size w wx) => (show (Instr.loadAt 3 (.pointer (some (ad.add k)))).run Tryz.prog wx = .ok (.int .i64 x) wx ∧ (Instr.loadAt 3 (.pointer (some (bd.add k)))).run Tryz.prog wx = .ok (.int .i64 x) wx from by
        have f1 := (hw.cell (p := ad.add k) (by rw [block_of_add]; exact HI.out _ hi1)).trans e1
        have f2 := (hw.cell (p := bd.add k) (by rw [block_of_add]; exact HJ.out _ hj1)).trans e2
        exact ⟨ld_iX f1, ld_iX f2⟩))
      clear hx hv hi1 hc1 hj1 hc2 e1 e2
      go_wp2_with fail
      refine wp_region_stages [(true, 9)] (by kernel_rfl) (by kernel_rfl) fun wy hy hy2 => ?_
      have HY := Lib.hid (HB.out.trans (hy.mono HB.out.size))
      clear hy hy2
      have q0 := fun (dd : Nat) (os : Array Obj) => (HE.out _ (HY.out.trans ((below_regrown wy dd os).mono HY.out.size))).1
      have q1 := fun (dd : Nat) (os : Array Obj) => (HE.out _ (HY.out.trans ((below_regrown wy dd os).mono HY.out.size))).2
      refine wpSt_q ?_
      simp only [List.take_succ_cons, List.take_zero, List.drop_succ_cons, List.drop_zero]
      repeat (go_big_quiet_step (fail))
      refine wpQuiet_nil ?_
      intro _ hw'
      obtain ⟨⟨dq, osq⟩, hw''⟩ := hw'
      subst hw''
      have HBQ := Lib.hid (HY.out.trans ((below_regrown wy dq osq).mono HY.out.size))
      clear q0 q1
      refine wpSt_end ?_
      go_wp2_with fail
      go_roundw
      case rel => exact ⟨k + 1, by omega, by go_num, HBQ.out⟩
      case measure => simp [intOf]; omega
    · have e1 : k = n := by omega
      subst e1
      go_wp2_with fail
      go_ret
      exact ⟨rfl, HB.out⟩
end Go.Proofs.YthlommalbkhcjaaGreat
