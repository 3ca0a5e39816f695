/- Pick. -/
import Derived.Test.YthlommalbkhcjaaFuH
namespace Go.Proofs.Ythlommalbkhcjaa
open Go.RowKit Go.Sort
variable {dc : Int → Array Value}
theorem ld_kd {w : World} {b : Nat} {k : Int} {zs : List Int} (h : Blk w b 33 (wyC k zs)) : (Instr.loadAt 30 (.pointer (some ⟨b, 0, none⟩))).run Try.prog w = .ok (.int .i64 k) w := by
  have h0 : w.cell? ⟨b, 0, none⟩ = some (.int .i64 k) := (h.cell 0).trans (by simp [wyC])
  simp [go_sem, h0]
theorem ld_bk {w : World} {b : Nat} {k : Int} {zs : List Int} (h : Blk w b 33 (wyC k zs)) (hz : zs.length = 256) : (Instr.loadAt 31 (.pointer (some ⟨b, 1, none⟩))).run Try.prog w = .ok (.agg (arrV zs)) w := by
  have := run_loadAt_mid (P := Try.prog) w b 1 31 (arrV zs).toList _ (fun j v hj => by
    rw [h.cell]
    unfold wyC
    rw [List.getElem?_toArray, List.getElem?_append_right (by simp), ← hj]
    congr 1
    simp) Try.underlying31 rfl (by simpa [arrV_size, hz] using arr_info)
  simpa using this
/-- What Pick answers, of the ways that have an address. -/
def pickV (wk : Int → Int × List Int) (E : List (Bs × Int)) (hash : Nat) : Value := if E.isEmpty = true then .tuple #[.int .i64 0, .int .i64 0] else .tuple #[.int .i64 (wk (lastE E).2).1, .int .i64 ((wk (lastE E).2).2.getD (hash % 256) 0)]
set_option maxRecDepth 20000 in
set_option maxHeartbeats 8000000 in
attribute [-go_sem] Instr.storeAt Instr.loadAt Instr.alloc in
theorem fpick_any (hd : Dc dc) {wk : Int → Int × List Int} (hwk : ∀ v, dc v = wayC (wk v) ∧ (wk v).2.length = 256) (a hash fb tb : Nat) (M : Nat → Prop) (limit : Int) (T : TT) (w : World) (h : FbM dc w M fb tb limit T) (ha : a < 2 ^ 32) (hsm : T.list.length ≤ 1000000) :
    Calls Try.prog 19 #[.pointer (some ⟨fb, 0, none⟩), .int .u32 (a : Int), .int .u32 (hash : Int)] w fun e w' => e = .returned (pickV wk (T.cov (bitsB a 32)) hash) ∧ Below w.heap.size w w' := by
  have HL := Lib.hid (look_any hd a fb tb M limit T w h ha hsm)
  obtain ⟨E, hE⟩ : ∃ E, E = T.cov (bitsB a 32) := ⟨_, rfl⟩
  rw [← hE] at HL ⊢
  have a1 := px_alloc
  have a2 := way_alloc
  obtain ⟨hw1, hw2⟩ := hwk (lastE E).2
  have hc1 := hd.sz (lastE E).2
  have hc2 := hd.one (lastE E).2
  clear h hE hsm hd hwk
  go_enter Try.func19, Try.ntmps19
  go_wp2_with fail
  refine HL.out.mono ?_
  rintro e w1 ⟨rfl, hb1⟩
  obtain ⟨W2, hW2⟩ : ∃ Z, Z = (w1.alloc (.cells #[.int .u32 0, .int .i64 0] 25)).alloc (.cells wy0 33) := ⟨_, rfl⟩
  have hz1 : (w1.alloc (.cells #[.int .u32 0, .int .i64 0] 25)).heap.size = w1.heap.size + 1 := by simp
  have hb2 : Below w1.heap.size w1 W2 := by rw [hW2]; exact ((Below.refl _ _).alloc (Nat.le_refl _) _).alloc (by simp) _
  have hp2 : Blk W2 w1.heap.size 25 #[.int .u32 0, .int .i64 0] := by rw [hW2]; exact (Blk.new w1 _ _).alloc _
  have hv2 : Blk W2 (w1.heap.size + 1) 33 wy0 := by
    rw [hW2]
    have := Blk.new (w1.alloc (.cells #[.int .u32 0, .int .i64 0] 25)) 33 wy0
    rwa [hz1] at this
  have st1 : (Instr.storeAt 25 (.pointer (some ⟨w1.heap.size, 0, none⟩)) (.agg #[.int .u32 (padB (lastE E).1 : Int), .int .i64 ((lastE E).1.length : Int)])).run Try.prog W2 = .ok () (W2.setCells w1.heap.size 0 (#[Value.int .u32 (padB (lastE E).1 : Int), .int .i64 ((lastE E).1.length : Int)] : Array Value).toList) := stc_store px_info hp2 rfl rfl (by simp [Value.oneCell'])
  obtain ⟨w3, hw3⟩ : ∃ Z, Z = W2.setCells w1.heap.size 0 (#[Value.int .u32 (padB (lastE E).1 : Int), .int .i64 ((lastE E).1.length : Int)] : Array Value).toList := ⟨_, rfl⟩
  rw [← hw3] at st1
  have hv3 : Blk w3 (w1.heap.size + 1) 33 wy0 := by rw [hw3]; exact blk_far_setCells (by omega) _ _ _ hv2
  have hb3 : Below w1.heap.size w1 w3 := by rw [hw3]; exact below_setCells (Nat.le_refl _) _ _ _ hb2
  have st2 := st_wyB (vs := dc (lastE E).2) hv3 wy0_size hc1 hc2
  obtain ⟨w4, hw4⟩ : ∃ Z, Z = w3.setCells (w1.heap.size + 1) 0 (dc (lastE E).2).toList := ⟨_, rfl⟩
  rw [← hw4] at st2
  have hv4 : Blk w4 (w1.heap.size + 1) 33 (wyC (wk (lastE E).2).1 (wk (lastE E).2).2) := by
    rw [hw4]
    have := blk_setCells hv3 (show wy0.size = (dc (lastE E).2).size by rw [hc1, wy0_size])
    rw [hw1] at this ⊢
    exact this
  have hb4 : Below w1.heap.size w1 w4 := by rw [hw4]; exact below_setCells (Nat.le_succ _) _ _ _ hb3
  have HV4 := Lib.hid hv4
  have HB4 := Lib.hid (hb1.trans (hb4.mono hb1.size))
  rw [hW2] at st1
  clear hb1 hW2 hb2 hp2 hv2 hw3 hv3 hb3 hw4 hv4 hb4 hw1
  cases hem : E.isEmpty with
  | true =>
    go_wp2_with fail
    go_ret2
    exact ⟨by unfold pickV; simp [hem], HB4.out⟩
  | false =>
    have hpk := fun (wx : World) => pick_any (wk (lastE E).2).2 hw2 hash wx
    have HPK := Lib.hid hpk
    clear hpk
    go_wp2_with fail
    refine wp_region_stages [(true, 8)] (by kernel_rfl) (by kernel_rfl) fun wz hz hz2 => ?_
    have ZV := Lib.hid (HV4.out.below hz HV4.out.lt)
    have ZB := Lib.hid (HB4.out.trans (hz.mono HB4.out.size))
    clear hz hz2
    have q0 := fun (dd : Nat) (os : Array Obj) => ld_kd (ZV.out.below (below_regrown wz dd os) ZV.out.lt)
    have q1 := fun (dd : Nat) (os : Array Obj) => ld_bk (ZV.out.below (below_regrown wz dd os) ZV.out.lt) hw2
    have q2 := fun (dd : Nat) (os : Array Obj) => Calls.regrown_of (HPK.out (grow (redrawn wz dd) os))
    refine wpSt_q ?_
    simp only [List.take_succ_cons, List.take_zero, List.drop_succ_cons, List.drop_zero]
    repeat (go_big_quiet_step (with_reducible exact q2 _ _))
    refine wpQuiet_nil ?_
    intro _ hw'
    obtain ⟨⟨dq, osq⟩, hw''⟩ := hw'
    subst hw''
    have HBQ := Lib.hid (ZB.out.trans ((below_regrown wz dq osq).mono ZB.out.size))
    clear q0 q1 q2
    refine wpSt_end ?_
    go_wp2_with fail
    go_ret2
    exact ⟨by unfold pickV; simp [hem], HBQ.out⟩
end Go.Proofs.Ythlommalbkhcjaa
