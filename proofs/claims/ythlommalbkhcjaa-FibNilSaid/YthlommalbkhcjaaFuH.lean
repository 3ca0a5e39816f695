/- A table in memory; Lookup. -/
import Derived.Test.YthlommalbkhcjaaFuG
import Derived.Test.YthlommalbkhcjaaFtH
import Derived.Test.YthlommalbkhcjaaFtW
import Derived.Test.YthlommalbkhcjaaFtJ
namespace Go.Proofs.Ythlommalbkhcjaa
open Go.RowKit Go.Sort
variable {dc : Int → Array Value}
/-- A table: its block, its trie. -/
structure FbM (dc : Int → Array Value) (w : World) (M : Nat → Prop) (fb tb : Nat) (limit : Int) (T : TT) : Prop where
  f : Blk w fb 62 #[.pointer (some ⟨tb, 0, none⟩)]
  t : IsTr dc w M tb limit T
  ne : ¬ M fb
theorem FbM.below {w w' : World} {M : Nat → Prop} {fb tb : Nat} {limit : Int} {T : TT} (h : FbM dc w M fb tb limit T) (hb : Below w.heap.size w w') : FbM dc w' M fb tb limit T := ⟨h.f.below hb h.f.lt, h.t.keep ⟨hb.size, fun k hm _ => hb.block k (h.t.lt k hm)⟩, h.ne⟩
theorem ld_trp {w : World} {b : Nat} {u : Option Addr} (h : w.cell? ⟨b, 0, none⟩ = some (.pointer u)) : (Instr.loadAt 60 (.pointer (some ⟨b, 0, none⟩))).run Try.prog w = .ok (.pointer u) w := by simp [go_sem, h]
theorem fthere_any {w : World} {fb tb : Nat} (h : Blk w fb 62 #[.pointer (some ⟨tb, 0, none⟩)]) : Calls Try.prog 33 #[.pointer (some ⟨fb, 0, none⟩)] w fun e w' => e = .returned (.bool true) ∧ w = w' := by
  have hc : w.cell? ⟨fb, 0, none⟩ = some (.pointer (some ⟨tb, 0, none⟩)) := h.cell 0
  clear h
  go_enter Try.func33, Try.ntmps33
  go_wp2
  go_ret
  exact ⟨rfl, rfl⟩
theorem res_px_wy {w : World} {gp gv : Nat} {a n : Int} {cs : Array Value} {fn : Func} {p u k : Tmp} (hf : fn.results = #[.cell p 25, .cell u 33, .tmp k]) (tmps : Array Value) (e1 : tmps.getD p undef = .pointer (some ⟨gp, 0, none⟩)) (e2 : tmps.getD u undef = .pointer (some ⟨gv, 0, none⟩))
    (b1 : Blk w gp 25 #[.int .u32 a, .int .i64 n]) (b2 : Blk w gv 33 cs) (hc : cs.size = 257) : (results fn tmps).run Try.prog w = .ok (.tuple #[.agg #[.int .u32 a, .int .i64 n], .agg cs, tmps.getD k undef]) w := by
  have h1 := stc_loadVar Try.underlying25 rfl px_info b1 rfl
  have h2 := stc_loadVar Try.underlying33 rfl wy_info b2 hc
  have e1' : tmps[p]?.getD undef = .pointer (some ⟨gp, 0, none⟩) := by simpa using e1
  have e2' : tmps[u]?.getD undef = .pointer (some ⟨gv, 0, none⟩) := by simpa using e2
  simp only [results, hf]
  simp [Result.andThen, e1', e2', asAddr, h1, h2]
set_option maxRecDepth 20000 in
set_option maxHeartbeats 8000000 in
attribute [-go_sem] Instr.storeAt Instr.loadAt Instr.alloc Instr.build in
theorem look_any (hd : Dc dc) (a fb tb : Nat) (M : Nat → Prop) (limit : Int) (T : TT) (w : World) (h : FbM dc w M fb tb limit T) (ha : a < 2 ^ 32) (hsm : T.list.length ≤ 1000000) :
    Calls Try.prog 15 #[.pointer (some ⟨fb, 0, none⟩), .int .u32 (a : Int)] w (MatchPost dc w (T.cov (bitsB a 32))) := by
  obtain ⟨W0, hW0⟩ : ∃ Z, Z = (w.alloc (.cells #[.int .u32 0, .int .i64 0] 25)).alloc (.cells wy0 33) := ⟨_, rfl⟩
  have hz1 : (w.alloc (.cells #[.int .u32 0, .int .i64 0] 25)).heap.size = w.heap.size + 1 := by simp
  have hb0 : Below w.heap.size w W0 := by rw [hW0]; exact ((Below.refl _ _).alloc (Nat.le_refl _) _).alloc (by simp) _
  have hp0 : Blk W0 w.heap.size 25 #[.int .u32 0, .int .i64 0] := by rw [hW0]; exact (Blk.new w _ _).alloc _
  have hv0 : Blk W0 (w.heap.size + 1) 33 wy0 := by
    rw [hW0]
    have := Blk.new (w.alloc (.cells #[.int .u32 0, .int .i64 0] 25)) 33 wy0
    rwa [hz1] at this
  have h0 := h.below hb0
  have HT := Lib.hid (fthere_any h0.f)
  have HM := Lib.hid (match_any hd a tb M limit T W0 h0.t ha hsm)
  have lf := ld_trp (h0.f.cell 0)
  have a1 := px_alloc
  have a2 := way_alloc
  obtain ⟨E, hE⟩ : ∃ E, E = T.cov (bitsB a 32) := ⟨_, rfl⟩
  rw [← hE] at HM ⊢
  have HP0 := Lib.hid hp0
  have HV0 := Lib.hid hv0
  have HB0 := Lib.hid hb0
  have HW0 := Lib.hid hW0
  have hc1 := hd.sz (lastE E).2
  have hc2 := hd.one (lastE E).2
  clear h h0 hp0 hv0 hb0 hW0 hE hsm hd
  go_enter Try.func15, Try.ntmps15
  go_upto_region 1 with (fail)
  rw [← HW0.out]
  clear a1 a2 hz1
  go_wp2_with (go_at_call 33; refine HT.out.mono ?_; rintro e w' ⟨rfl, rfl⟩)
  refine HM.out.mono ?_
  rintro e w1 ⟨rfl, hb1⟩
  have hp1 := HP0.out.below hb1 HP0.out.lt
  have hv1 := HV0.out.below hb1 HV0.out.lt
  obtain ⟨pa, hpa⟩ : ∃ z : Int, z = (padB (lastE E).1 : Int) := ⟨_, rfl⟩
  obtain ⟨pn, hpn⟩ : ∃ z : Int, z = ((lastE E).1.length : Int) := ⟨_, rfl⟩
  have st1 : (Instr.storeAt 25 (.pointer (some ⟨w.heap.size, 0, none⟩)) (.agg #[.int .u32 (padB (lastE E).1 : Int), .int .i64 ((lastE E).1.length : Int)])).run Try.prog w1 = .ok () (w1.setCells w.heap.size 0 (#[Value.int .u32 (padB (lastE E).1 : Int), .int .i64 ((lastE E).1.length : Int)] : Array Value).toList) := stc_store px_info hp1 rfl rfl (by simp [Value.oneCell'])
  obtain ⟨w2, hw2⟩ : ∃ Z, Z = w1.setCells w.heap.size 0 (#[Value.int .u32 (padB (lastE E).1 : Int), .int .i64 ((lastE E).1.length : Int)] : Array Value).toList := ⟨_, rfl⟩
  rw [← hw2] at st1
  have hp2 : Blk w2 w.heap.size 25 #[.int .u32 (padB (lastE E).1 : Int), .int .i64 ((lastE E).1.length : Int)] := by rw [hw2]; exact blk_setCells hp1 rfl
  have hv2 : Blk w2 (w.heap.size + 1) 33 wy0 := by rw [hw2]; exact blk_far_setCells (by omega) _ _ _ hv1
  have hb2 : Below w.heap.size w w2 := by rw [hw2]; exact below_setCells (Nat.le_refl _) _ _ _ (HB0.out.trans (hb1.mono HB0.out.size))
  have st2 := st_wyB (vs := dc (lastE E).2) hv2 wy0_size hc1 hc2
  have HP2 := Lib.hid hp2
  have HV2 := Lib.hid hv2
  have HB2 := Lib.hid hb2
  clear hb1 hp1 hv1 hw2 hp2 hv2 hb2 hpa hpn
  go_wp2_with fail
  have hp9 : Blk (w2.setCells (w.heap.size + 1) 0 (dc (lastE E).2).toList) w.heap.size 25 #[.int .u32 (padB (lastE E).1 : Int), .int .i64 ((lastE E).1.length : Int)] := blk_far_setCells (by omega) _ _ _ HP2.out
  have hv9 := blk_setCells HV2.out (show wy0.size = (dc (lastE E).2).size by rw [hc1, wy0_size])
  refine bodyPost_ret_by (res_px_wy rfl _ rfl rfl hp9 hv9 hc1) rfl ?_
  exact ⟨rfl, below_setCells (Nat.le_succ _) _ _ _ HB2.out⟩
end Go.Proofs.Ythlommalbkhcjaa
