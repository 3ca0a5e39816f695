/- The document's table as a row of entries: Pick, Ports; rows of numbers compared. -/
import Derived.Test.YthlommalbkhcjaaGreatFxB
import Derived.Deep.CutRange
import Derived.Deep.CutBlock
import Derived.Deep.LoopGhost
namespace Go.Proofs.YthlommalbkhcjaaGreat
open Go.RowKit Go.Sort
attribute [local go_sem] comesV_value comesV_skip comesV_enter
variable {dc : Int → Array Value}
theorem bk_cell {w : World} {b : Nat} {k : Int} {zs : List Int} (h : Blk w b 41 (wyC k zs)) (hz : zs.length = 256) {i : Nat} (hi : i < 256) : w.cell? ⟨b, 1 + i, none⟩ = some (.int .i64 (zs.getD i 0)) := by
  rw [h.cell]
  unfold wyC arrV
  rw [List.getElem?_toArray]
  rw [List.getElem?_append_right (by simp)]
  simp [List.getD_eq_getElem?_getD, List.getElem?_eq_getElem (show i < zs.length by omega)]
theorem ld_bki {w : World} {b : Nat} {k : Int} {zs : List Int} (h : Blk w b 41 (wyC k zs)) (hz : zs.length = 256) {i : Nat} (hi : i < 256) : (Instr.loadAt 3 (.pointer (some ⟨b, 1 + i, none⟩))).run Tryz.prog w = .ok (.int .i64 (zs.getD i 0)) w := by
  have := bk_cell h hz hi
  simp [go_sem, this]
set_option maxRecDepth 20000 in
set_option maxHeartbeats 8000000 in
attribute [-go_sem] Instr.storeAt Instr.loadAt Instr.alloc Instr.build in
theorem rpick14_any (hd : Dc dc) {wk : Int → Int × List Int} (hwk : ∀ v, dc v = wayC (wk v) ∧ (wk v).2.length = 256) (hok : ∀ v, WkOk (wk v)) (A : Option Addr) (n c a hash : Nat) (L : List (Bs × Int)) (w : World) (hL : SortedB L) (h32 : ∀ e ∈ L, e.1.length ≤ 32) (hn : L.length = n) (hsm : n ≤ 1000000) (hw : WantL dc A L w) (ha : a < 2 ^ 32) :
    Calls Tryz.prog 17 #[.slice A n c, .int .u32 (a : Int), .int .u32 (hash : Int)] w fun e w' => e = .returned (pickV wk (covS (bitsB a 32) L) hash) ∧ Below w.heap.size w w' := by
  have HL := Lib.hid (rlook14_any hd A n c a L w hL h32 hn hsm hw ha)
  obtain ⟨E, hE⟩ : ∃ E, E = covS (bitsB a 32) L := ⟨_, rfl⟩
  rw [← hE] at HL ⊢
  obtain ⟨pa, hpa⟩ : ∃ z, z = padB (lastE E).1 := ⟨_, rfl⟩
  obtain ⟨pn, hpn⟩ : ∃ z, z = (lastE E).1.length := ⟨_, rfl⟩
  obtain ⟨cs, hcs⟩ : ∃ z, z = dc (lastE E).2 := ⟨_, rfl⟩
  obtain ⟨em, hem⟩ : ∃ z, z = E.isEmpty := ⟨_, rfl⟩
  have hc1 : cs.size = 257 := by rw [hcs]; exact hd.sz _
  have hc2 : cs.all (·.oneCell') = true := by rw [hcs]; exact hd.one _
  obtain ⟨wz, hwz⟩ : ∃ z, z = wk (lastE E).2 := ⟨_, rfl⟩
  have hcw : cs = wyC wz.1 wz.2 := by rw [hcs, hwz]; exact (hwk _).1
  have hz2 : wz.2.length = 256 := by rw [hwz]; exact (hwk _).2
  have hz3 : WkOk wz := by rw [hwz]; exact hok _
  unfold MatchPost at HL
  rw [← hpa, ← hpn, ← hcs, ← hem] at HL
  have HPV := Lib.hid (show pickV wk E hash = if em = true then .tuple #[.int .i64 0, .int .i64 0] else .tuple #[.int .i64 wz.1, .int .i64 (wz.2.getD (hash % 256) 0)] by rw [hem, hwz]; rfl)
  have HZ0 := Lib.hid (show em = true → wz.1 = 0 from fun he => by
    rw [hem] at he
    have : E = [] := List.isEmpty_iff.1 he
    have h0 : (lastE E).2 = 0 := by rw [this]; rfl
    have h1 : cs = wy0 := by rw [hcs, h0]; exact hd.z
    have h2 := wyC_0 wz.1 wz.2
    rw [← hcw, h1] at h2
    have h3 : wy0[0]? = some (.int .i64 0) := by rw [← wyC_zero]; exact wyC_0 _ _
    rw [h3] at h2
    injection h2 with h2
    injection h2 with _ h2
    exact h2.symm)
  have HZ2 := Lib.hid hz2
  have HZ3 := Lib.hid hz3
  have HCW := Lib.hid hcw
  obtain ⟨kd, hkd⟩ : ∃ z, z = wz.1 := ⟨_, rfl⟩
  have HKD := Lib.hid hkd
  have a1 := px_alloc
  have a2 := way_alloc
  clear hE hsm hd hwk hok hw ha hn h32 hL hpa hpn hcs hem hwz hcw hz2 hz3 hkd
  go_enter Tryz.func17, Tryz.ntmps17
  go_wp2_with fail
  refine HL.out.mono ?_
  rintro e w1 ⟨rfl, hb1⟩
  obtain ⟨w3, w4, st1, st2, hp4, hv4, hb4⟩ := box_pw w1 (pa : Int) (pn : Int) cs hc1 hc2
  have HV4 := Lib.hid (show Blk w4 (w1.heap.size + 1) 41 (wyC wz.1 wz.2) by rw [← HCW.out]; exact hv4)
  have HB4 := Lib.hid (hb1.trans (hb4.mono hb1.size))
  clear hb1 hp4 hv4 hb4 hc1 hc2
  go_upto_region 2 with (fail)
  clear st1 st2 a1 a2
  have lk := ld_kd HV4.out
  rw [← HKD.out] at lk
  cases em with
  | true =>
    have h0 := HZ0.out rfl
    rw [← HKD.out] at h0
    subst h0
    go_wp2_with fail
    go_ret2
    exact ⟨by rw [HPV.out]; rfl, HB4.out⟩
  | false =>
    by_cases h3 : kd = 3
    · subst h3
      have HKK := Lib.hid (show wz.1 = 3 from HKD.out.symm)
      obtain ⟨i, hi⟩ : ∃ i, i = hash % 256 := ⟨_, rfl⟩
      have hil : i < 256 := by rw [hi]; omega
      obtain ⟨x, hx⟩ : ∃ x, x = wz.2.getD i 0 := ⟨_, rfl⟩
      have HX := Lib.hid hx
      have HI := Lib.hid hi
      have he : ((hash : Int) % 256) = (i : Int) := by omega
      have hi1 : (i : Int) < 256 := by omega
      have hi0 : (0 : Int) ≤ i := by omega
      have h0 : (0 : Int) ≤ hash := by omega
      clear hx hi
      go_wp2_with fail
      refine wp_region_stages [(true, 10)] (by kernel_rfl) (by kernel_rfl) fun wy hy hy2 => ?_
      have ZV := Lib.hid (HV4.out.below hy HV4.out.lt)
      have ZB := Lib.hid (HB4.out.trans (hy.mono HB4.out.size))
      clear hy hy2 lk
      have q0 := fun (dd : Nat) (os : Array Obj) => ld_kd (ZV.out.below (below_regrown wy dd os) ZV.out.lt)
      have q1 := fun (dd : Nat) (os : Array Obj) => ld_bki (ZV.out.below (below_regrown wy dd os) ZV.out.lt) HZ2.out hil
      rw [HKK.out] at q0
      rw [← HX.out] at q1
      refine wpSt_q ?_
      simp only [List.take_succ_cons, List.take_zero, List.drop_succ_cons, List.drop_zero]
      repeat (go_big_quiet_step (fail))
      refine wpQuiet_nil ?_
      intro _ hw'
      obtain ⟨⟨dq, osq⟩, hw''⟩ := hw'
      subst hw''
      have HBQ := Lib.hid (ZB.out.trans ((below_regrown wy dq osq).mono ZB.out.size))
      clear q0 q1
      refine wpSt_end ?_
      go_wp2_with fail
      go_ret2
      exact ⟨by rw [HPV.out, HKK.out, ← HI.out, ← HX.out]; rfl, HBQ.out⟩
    · have h4 : (kd == 3) = false := beq_eq_false_iff_ne.2 h3
      have HX := Lib.hid (show wz.2.getD (hash % 256) 0 = 0 from HZ3.out.at_no (by rw [← HKD.out]; exact h3) _)
      clear h3
      go_wp2_with fail
      go_ret2
      exact ⟨by rw [HPV.out, HX.out, ← HKD.out]; rfl, HB4.out⟩
end Go.Proofs.YthlommalbkhcjaaGreat
