/- Icmp: messages in memory; icmp.Bytes. -/
import Derived.Test.YtihfihehiifdkaaIcL
import Derived.Test.YtihfihehiifdkaaIcA
import Derived.Test.YtihfihehiifdkaaIpT
namespace Go.Proofs.Ytihfihehiifdkaa
open Go.RowKit Go.Sort Go.BigFrame
/-- A message's cells. -/
def icC (m : Ic) (v : Value) : Array Value := #[.int .u8 (m.ty.toNat : Int), .int .u8 (m.co.toNat : Int), .int .u8 (m.r0.toNat : Int), .int .u8 (m.r1.toNat : Int), .int .u8 (m.r2.toNat : Int), .int .u8 (m.r3.toNat : Int), v]
def icV (m : Ic) (v : Value) : Value := .agg (icC m v)
theorem ic_info : (Try.prog.info? 45).map (·.size) = some 7 := by kernel_rfl
section
variable {w : World} {g : Nat} {cs vs : Array Value}
theorem ic_store (h : Blk w g 45 cs) (hc : cs.size = 7) (hv : vs.size = 7) (h1 : vs.all (·.oneCell') = true) : (Instr.storeAt 45 (.pointer (some ⟨g, 0, none⟩)) (.agg vs)).run Try.prog w = .ok () (w.setCells g 0 vs.toList) :=
  run_storeAt_mid w g 0 _ vs (by have := blk_there h; rwa [hc, ← hv] at this) (by rw [hv]; exact ic_info) h1
theorem ic_load (h : Blk w g 45 cs) (hc : cs.size = 7) : (Instr.loadAt 45 (.pointer (some ⟨g, 0, none⟩))).run Try.prog w = .ok (.agg cs) w := by
  have := run_loadAt_mid (P := Try.prog) w g 0 45 cs.toList _ (blk_range h) Try.underlying45 rfl (by simpa [hc] using ic_info)
  simpa using this
theorem res_ic {fn : Func} {p u : Tmp} (hf : fn.results = #[.cell p 45, .tmp u]) (tmps : Array Value) (hp : tmps.getD p undef = .pointer (some ⟨g, 0, none⟩)) (h : Blk w g 45 cs) (hc : cs.size = 7) :
    (results fn tmps).run Try.prog w = .ok (.tuple #[.agg cs, tmps.getD u undef]) w := by
  have hl := run_loadVar_mid (P := Try.prog) w g 0 45 cs.toList _ (blk_range h) Try.underlying45 rfl (by simpa [hc] using ic_info)
  have e1 : tmps[p]?.getD undef = .pointer (some ⟨g, 0, none⟩) := by simpa using hp
  simp only [results, hf]
  simp [Result.andThen, e1, asAddr, hl]
/-- A piece of an array of four bytes within a block, as a slice. -/
theorem sl_arr4 (w : World) (a : Addr) : (Instr.sliceAt 43 (.pointer (some a)) none none none).run Try.prog w = .ok (.slice (some a) 4 4) w := by
  have h4 : Try.prog.arrayLen 43 = 4 := by kernel_rfl
  have hz : (sizeOf (Try.prog.elem 43)).run Try.prog w = .ok 1 w := by kernel_rfl
  rw [run_sliceAt_array_all w 43 a (by kernel_rfl), hz, h4]
  simp [Result.andThen, slicedAt, Addr.add]
theorem rest_sl {m : Ic} {v : Value} (h : Blk w g 45 (icC m v)) : Sl8 w (fun _ => True) (.slice (some ⟨g, 2, none⟩) 4 4) [m.r0, m.r1, m.r2, m.r3] := by
  refine ⟨some ⟨g, 2, none⟩, 4, rfl, Nat.le_refl _, by simp [bytesV], fun _ => ⟨⟨g, 2, none⟩, rfl, trivial, h.lt, fun j u hu => ?_⟩⟩
  rw [add_off, h.cell]
  match j, hu with
  | 0, hu => simpa [bytesV, icC] using hu
  | 1, hu => simpa [bytesV, icC] using hu
  | 2, hu => simpa [bytesV, icC] using hu
  | 3, hu => simpa [bytesV, icC] using hu
  | j + 4, hu => simp [bytesV] at hu
theorem lit4_sl {x0 x1 x2 x3 : UInt8} {b : Nat} (h : Blk w b 5 #[.int .u8 (x0.toNat : Int), .int .u8 (x1.toNat : Int), .int .u8 (x2.toNat : Int), .int .u8 (x3.toNat : Int)]) : Sl8 w (fun _ => True) (.slice (some ⟨b, 0, none⟩) 4 4) [x0, x1, x2, x3] := by
  refine ⟨some ⟨b, 0, none⟩, 4, rfl, Nat.le_refl _, by simp [bytesV], fun _ => ⟨⟨b, 0, none⟩, rfl, trivial, h.lt, fun j u hu => ?_⟩⟩
  rw [add_off, Nat.zero_add, h.cell]
  match j, hu with
  | 0, hu => simpa [bytesV] using hu
  | 1, hu => simpa [bytesV] using hu
  | 2, hu => simpa [bytesV] using hu
  | 3, hu => simpa [bytesV] using hu
  | j + 4, hu => simp [bytesV] at hu
end
/-- copy of a number's two bytes into a row of the call's own. -/
theorem copy2 {w : World} {B C g n cap off k d c3 ck : Nat} {x : By} {a3 : Option Addr} (h : Row8 B w (.slice (some ⟨g, 0, none⟩) n cap) x) (hl : x.length = n) (ho : off + 2 ≤ n) (hk : 2 ≤ k) (hv : Row8 C w (.slice a3 2 c3) (putF ck 2)) :
    ∃ w2, (Builtin.copy_ #[22, 22] 3 #[.slice (some ⟨g, off, none⟩) k d, .slice a3 2 c3]).run Try.prog w = .ok (.int .i64 2) w2 ∧
      Row8 B w2 (.slice (some ⟨g, 0, none⟩) n cap) ((x.set off (u8 (ck / 256))).set (off + 1) (u8 ck)) ∧ Upd (only g) w w2 := by
  obtain ⟨ad, rfl, _, _, hs3⟩ := (hv.reads).2.2 (by decide)
  obtain ⟨g2', cap', ev, _, _, cur, hbk, hcur⟩ := h.blk (by omega)
  injection ev with ev ev2 ev3
  clear ev2 ev3
  injection ev with ev
  injection ev with ev ev2 ev3
  clear ev2 ev3
  subst ev
  have hex : ∀ i, i < n → (w.cell? ⟨g, i, none⟩).isSome = true := fun i hi => by
    rw [hbk.cell, hcur i _ (List.getElem?_eq_getElem (by rw [bytesV_len, hl]; exact hi))]
    rfl
  have hcp := run_copy_cells (P := Try.prog) w 22 22 3 5 g off k d ad 2 c3 (bytesV (putF ck 2)) Try.underlying22 (by kernel_rfl) (by rw [bytesV_len, putF_len]; exact (Nat.min_eq_left (by omega)).symm) hs3 (fun j hj => hex _ (by rw [bytesV_len, putF_len] at hj; omega)) (fun j hj => hbk.frozen _) (bytesV_one _)
  have e9 : bytesV (putF ck 2) = [.int .u8 ((u8 (ck / 256)).toNat : Int), .int .u8 ((u8 ck).toNat : Int)] := by rw [put2]; rfl
  rw [e9] at hcp
  have f1 := Row8.set (i := off) (b := u8 (ck / 256)) h
  have f2 := Row8.set (i := off + 1) (b := u8 ck) f1
  exact ⟨_, hcp, f2, ((Upd.refl (only g) w).set_ off _).set_ (off + 1) _⟩
def IcBPost (w : World) (y : By) (e : Ending) (w' : World) : Prop := ∃ v, e = .returned v ∧ Row8 w.heap.size w' v y ∧ Below w.heap.size w w'
attribute [-go_sem] Instr.storeAt Instr.loadAt in
set_option maxRecDepth 100000 in
set_option maxHeartbeats 4000000 in
theorem icbytes_any (m : Ic) (v : Value) (I : Nat → Prop) (w : World) (hv : Sl8 w I v m.body) (hsm : m.body.length ≤ 900000) :
    Calls Try.prog 25 #[icV m v] w (IcBPost w (icB m)) := by
  obtain ⟨A, c, rfl, hc, hr⟩ := hv
  obtain ⟨n, hn⟩ : ∃ n, n = m.body.length := ⟨_, rfl⟩
  rw [← hn] at hc hr hsm ⊢
  obtain ⟨W, hW⟩ : ∃ W, W = w.alloc (.cells (icC m (.slice A n c)) 45) := ⟨_, rfl⟩
  have hb0 : Below w.heap.size w W := by rw [hW]; exact (Below.refl _ _).alloc (Nat.le_refl _) _
  have hk0 : Blk W w.heap.size 45 (icC m (.slice A n c)) := by rw [hW]; exact Blk.new _ _ _
  have hs0 : Sl8 W (fun _ => True) (.slice A n c) m.body := ⟨A, c, by rw [hn], by omega, by rw [← hn]; exact ((hr.lt).keep (Same.ofBelow hb0 fun k hk => hk.2)).mono fun _ _ => trivial⟩
  have HW := Lib.hid hW
  have HB0 := Lib.hid hb0
  have HK0 := Lib.hid hk0
  have HS0 := Lib.hid hs0
  have HN := Lib.hid hn
  obtain ⟨ty, hty⟩ : ∃ z : Int, z = (m.ty.toNat : Int) := ⟨_, rfl⟩
  obtain ⟨co, hco⟩ : ∃ z : Int, z = (m.co.toNat : Int) := ⟨_, rfl⟩
  have HTY := Lib.hid hty
  have HCO := Lib.hid hco
  clear hW hb0 hk0 hs0 hc hr hn hty hco
  unfold icV
  go_enter Try.func25, Try.ntmps25
  go_upto_region 1 with (fail)
  rw [← HW.out]
  have HCC := Lib.hid (fun (a b : World) (ha : Blk a w.heap.size 45 (icC m (.slice A n c)) ∧ Sl8 a (fun _ => True) (.slice A n c) m.body ∧ Below w.heap.size w a) (hb : Below a.heap.size a b) => (⟨ha.1.below hb ha.1.lt, ha.2.1.below hb, ha.2.2.trans (hb.mono ha.2.2.size)⟩ : Blk b w.heap.size 45 (icC m (.slice A n c)) ∧ Sl8 b (fun _ => True) (.slice A n c) m.body ∧ Below w.heap.size w b))
  refine wp_region_mix [(true, 4), (false, 1), (true, 4), (false, 3)] 1 (by kernel_rfl) (fun a => Blk a w.heap.size 45 (icC m (.slice A n c)) ∧ Sl8 a (fun _ => True) (.slice A n c) m.body ∧ Below w.heap.size w a) HCC.out (by kernel_rfl) ⟨HK0.out, HS0.out, HB0.out⟩ (a' := ?_) (fun wz hz => ?_) fun wz hz => ?_
  rotate_left
  · obtain ⟨hk, _, _⟩ := hz
    have x0 := fun (dd : Nat) (os : Array Obj) => ld_u8s (z := ty) (by rw [HTY.out]; exact (hk.below (below_regrown wz dd os) hk.lt).cell 0)
    have x1 := fun (dd : Nat) (os : Array Obj) => ld_u8s (z := co) (by rw [HCO.out]; exact (hk.below (below_regrown wz dd os) hk.lt).cell 1)
    have x2 := fun (wx : World) => sl_arr4 wx ⟨w.heap.size, 2, none⟩
    have x3 := fun (dd : Nat) (os : Array Obj) => ld8s ((hk.below (below_regrown wz dd os) hk.lt).cell 6)
    clear hk
    simp only [pick_nil, pick_tt, pick_ft, List.take_succ_cons, List.take_zero, List.drop_succ_cons, List.drop_zero, List.append_nil, List.cons_append, List.nil_append]
    repeat (go_big_quiet_step (fail))
    refine wpQuiet_nil ?_
    rfl
  · simp only [pick_nil, pick_ff, pick_tf, List.take_succ_cons, List.take_zero, List.drop_succ_cons, List.drop_zero, List.append_nil, List.cons_append, List.nil_append]
    have S1 := Lib.hid (HCC.out _ _ ⟨HK0.out, HS0.out, HB0.out⟩ hz)
    clear hz
    refine wpMix_step S1.out fun wa ha => ?_
    obtain ⟨W1, hW1⟩ : ∃ W, W = wa.alloc (.cells #[.int .u8 ty, .int .u8 co, .int .u8 0, .int .u8 0] 5) := ⟨_, rfl⟩
    have hb1 : Below wa.heap.size wa W1 := by rw [hW1]; exact (Below.refl _ _).alloc (Nat.le_refl _) _
    have S2 := Lib.hid (HCC.out _ _ (HCC.out _ _ S1.out ha) hb1)
    have K2 := Lib.hid (show Blk W1 wa.heap.size 5 #[.int .u8 (m.ty.toNat : Int), .int .u8 (m.co.toNat : Int), .int .u8 ((0 : UInt8).toNat : Int), .int .u8 ((0 : UInt8).toNat : Int)] by rw [hW1, HTY.out, HCO.out]; exact Blk.new _ _ _)
    have HW1 := Lib.hid hW1
    clear ha hb1 hW1
    go_wp2_with fail
    rw [← HW1.out]
    obtain ⟨gb, hgb⟩ : ∃ g, g = wa.heap.size := ⟨_, rfl⟩
    rw [← hgb] at K2 ⊢
    clear hgb HW1
    refine wpMix_step S2.out fun wb hb => ?_
    obtain ⟨W2, hW2⟩ : ∃ W, W = wb.alloc (.cells #[.slice (some ⟨gb, 0, none⟩) 4 4, .slice (some ⟨w.heap.size, 2, none⟩) 4 4, .slice A n c] 22) := ⟨_, rfl⟩
    have hb2 : Below wb.heap.size wb W2 := by rw [hW2]; exact (Below.refl _ _).alloc (Nat.le_refl _) _
    have s3 := HCC.out _ _ (HCC.out _ _ S2.out hb) hb2
    have k3 := (K2.out.below hb K2.out.lt).below hb2 (K2.out.below hb K2.out.lt).lt
    have hj := wjoin_any (some ⟨wb.heap.size, 0, none⟩) 3 3 [.slice (some ⟨gb, 0, none⟩) 4 4, .slice (some ⟨w.heap.size, 2, none⟩) 4 4, .slice A n c] [[m.ty, m.co, 0, 0], [m.r0, m.r1, m.r2, m.r3], m.body] _ W2 (by rw [hW2]; exact reads_lit wb 22 _ 3 1 (0, 0) rfl) ⟨lit4_sl k3, rest_sl s3.1, s3.2.1, trivial⟩ (by have := HN.out; simp only [List.flatten_cons, List.flatten_nil, List.length_append, List.length_cons, List.length_nil]; omega) (by omega)
    have hfl : [[m.ty, m.co, 0, 0], [m.r0, m.r1, m.r2, m.r3], m.body].flatten = icW m 0 0 := by simp [icW]
    rw [hfl] at hj
    have HJ := Lib.hid hj
    have HBB := Lib.hid s3.2.2
    have HW2 := Lib.hid hW2
    clear hb hb2 s3 k3 hj hfl hW2
    go_wp2_with fail
    rw [← HW2.out]
    refine wpMix_plain ?_
    go_wp2_with fail
    refine HJ.out.mono ?_
    rintro e w3 ⟨v3, rfl, h3, hb3⟩
    obtain ⟨x, hx⟩ : ∃ x, x = icW m 0 0 := ⟨_, rfl⟩
    rw [← hx] at h3
    have hxl : x.length = 8 + n := by rw [hx]; unfold icW; have := HN.out; simp only [List.length_cons]; omega
    obtain ⟨g, cap, rfl, hcap, hgB, _⟩ := h3.blk (by omega)
    obtain ⟨q, hq⟩ : ∃ q, q = x.length := ⟨_, rfl⟩
    rw [← hq] at hcap hxl h3 ⊢
    have HX := Lib.hid hx
    have HQ := Lib.hid hq
    have H3 := Lib.hid h3
    have HB3 := Lib.hid (HBB.out.trans (hb3.mono HBB.out.size))
    have HG := Lib.hid (Nat.le_trans HBB.out.size hgB)
    have hq8 : 8 ≤ q := by omega
    have hqn : q ≤ 900008 := by omega
    clear h3 hb3 hx hq hgB hxl
    obtain ⟨W4, hW4⟩ : ∃ W, W = w3.alloc (.cells #[.slice (some ⟨g, 0, none⟩) q cap] 22) := ⟨_, rfl⟩
    have hb4 : Below w3.heap.size w3 W4 := by rw [hW4]; exact (Below.refl _ _).alloc (Nat.le_refl _) _
    have k4 : Blk W4 w3.heap.size 22 #[.slice (some ⟨g, 0, none⟩) q cap] := by rw [hW4]; exact Blk.new _ _ _
    have h4 := H3.out.below hb4
    have hck := check_any ⟨w3.heap.size, 0, none⟩ 1 (some ⟨g, 0, none⟩) q cap x _ W4 (k4.cell 0) ((h4.reads).2) HQ.out.symm (by omega)
    obtain ⟨ck, hckk⟩ : ∃ k, k = checkF x := ⟨_, rfl⟩
    rw [← hckk] at hck
    have hc16 : ck < 65536 := by rw [hckk]; unfold checkF; omega
    have HCK := Lib.hid hck
    have HCKK := Lib.hid hckk
    have H4 := Lib.hid h4
    have HB4 := Lib.hid (HB3.out.trans (hb4.mono HB3.out.size))
    have HW4 := Lib.hid hW4
    clear hb4 k4 h4 hck hckk hW4
    go_wp2_with fail
    rw [← HW4.out]
    refine HCK.out.mono ?_
    rintro e w5 ⟨rfl, hb5⟩
    have H5 := Lib.hid (H4.out.below hb5)
    have HB5 := Lib.hid (HB4.out.trans (hb5.mono HB4.out.size))
    have HPU := Lib.hid (fun (wx : World) => wput2_any ck wx hc16)
    have hwr : IntKind.u64.wrap (ck : Int) = (ck : Int) := wraps_u64 _ (by omega) (by omega)
    clear hb5
    go_wp2_with fail
    refine (HPU.out _).mono ?_
    rintro e w6 ⟨v6, rfl, h6, hb6⟩
    obtain ⟨A6, c6, rfl, _⟩ := h6.form
    rw [putF_len] at h6 ⊢
    obtain ⟨w7, hcp, h7, hu7⟩ := copy2 (off := 2) (k := q - 2) (d := cap - 2) (H5.out.below hb6) HQ.out.symm (by omega) (by omega) h6
    have HB6 := Lib.hid (HB5.out.trans (hb6.mono HB5.out.size))
    have hb7 := HB6.out.trans (hu7.below (B := w.heap.size) (fun k (hk : k = g) => by have := HG.out; omega) HB6.out.size)
    have hs2 := sl_lo (some ⟨g, 0, none⟩) q cap w6 2 (by omega)
    have H7 := Lib.hid h7
    have HB7 := Lib.hid hb7
    have hcp2 : cap ≠ 2 := by omega
    rw [if_neg hcp2, Option.map_some, add_off] at hs2
    clear h6 hb6 h7 hu7 hb7
    go_wp2_with fail
    go_ret
    refine ⟨_, rfl, ?_, HB7.out⟩
    have hres : icB m = (x.set 2 (u8 (ck / 256))).set 3 (u8 ck) := by
      rw [HCKK.out, HX.out]
      rfl
    have hl : (icB m).length = q := by rw [hres, List.length_set, List.length_set, HQ.out]
    unfold Row8
    rw [hl, hres]
    have h7 := H7.out
    unfold Row8 at h7
    rw [List.length_set, List.length_set, ← HQ.out] at h7
    exact own_base h7 HBB.out.size
end Go.Proofs.Ytihfihehiifdkaa
