/- Layer 12: All, and what goes over it. -/
import Derived.Test.YtahdjfegihnolaaRcU
import Derived.Test.YtahdjfegihnolaaLzF
namespace Go.Proofs.Ytahdjfegihnolaa
open Go.RowKit Go.Sort
attribute [local go_sem] Oper.semAt_some
def flatV (c : Pc) (L : List Le) : List Value := L.flatMap fun x => (viC c x).toList
theorem viC_len (c : Pc) (x : Le) : (viC c x).toList.length = 16 := rfl
theorem flatV_get (c : Pc) : ∀ {L : List Le} {i : Nat} {x : Le}, L[i]? = some x → ∀ {j : Nat}, j < 16 → (flatV c L)[i * 16 + j]? = (viC c x).toList[j]?
  | [], i, x, h, _, _ => by simp at h
  | a :: L, 0, x, h, j, hj => by
    simp at h
    subst h
    unfold flatV
    rw [List.flatMap_cons, Nat.zero_mul, Nat.zero_add, List.getElem?_append_left (by rw [viC_len]; exact hj)]
  | a :: L, i + 1, x, h, j, hj => by
    have := flatV_get c (L := L) (i := i) (x := x) (by simpa using h) hj
    unfold flatV at this ⊢
    rw [List.flatMap_cons, List.getElem?_append_right (by rw [viC_len]; omega), viC_len, ← this]
    congr 1
    omega
theorem flatV_take {c : Pc} {L : List Le} {k : Nat} {x : Le} (h : L[k]? = some x) : flatV c (L.take (k + 1)) = flatV c (L.take k) ++ (viC c x).toList := by
  unfold flatV
  rw [List.take_add_one, h, List.flatMap_append]
  simp
theorem vi_one (c : Pc) (x : Le) : ∀ u ∈ (viC c x).toList, u.oneCell' = true := by
  intro u hu
  unfold viC at hu
  simp only [List.mem_cons, List.not_mem_nil, or_false] at hu
  rcases hu with rfl | rfl | rfl | rfl | rfl | rfl | rfl | rfl | rfl | rfl | rfl | rfl | rfl | rfl | rfl | rfl <;> rfl
theorem info_vi : (Try.prog.info? 43).map (fun i => (i.zero, i.size, i.bytes)) = some (some (.agg viZ), 16, 112) := by kernel_rfl
theorem bs_vi (c : Pc) (x : Le) (w : World) : (Instr.buildSlice 104 1 #[(0, .agg (viC c x))]).run Try.prog w = .ok (.slice (some ⟨w.heap.size, 0, none⟩) 1 1) (w.alloc (.cells (viC c x) 43)) := by kernel_rfl
theorem ld_slV {w : World} {b : Nat} {A : Option Addr} {n c : Nat} (hu : w.cell? ⟨b, 0, none⟩ = some (.slice A n c)) : (Instr.loadAt 104 (.pointer (some ⟨b, 0, none⟩))).run Try.prog w = .ok (.slice A n c) w := by simp [go_sem, hu]
theorem st_slV {w : World} {g : Nat} {u : Value} (hu : w.cell? ⟨g, 0, none⟩ = some u) (hf : w.frozen? ⟨g, 0, none⟩ = false) (A : Option Addr) (n c : Nat) : (Instr.storeAt 104 (.pointer (some ⟨g, 0, none⟩)) (.slice A n c)).run Try.prog w = .ok () (w.setCell ⟨g, 0, none⟩ (.slice A n c)) := by simp [go_sem, hu, hf]
/-- An entry in the row. -/
theorem vi_row {w : World} {B g n cap : Nat} {c : Pc} {L : List Le} (h : w.ownsRow B 43 16 (.slice (some ⟨g, 0, none⟩) n cap) n (flatV c L)) {k : Nat} {x : Le} (hx : L[k]? = some x) : (Instr.loadAt 43 (.pointer (some ⟨g, k * 16, none⟩))).run Try.prog w = .ok (.agg (viC c x)) w := by
  obtain ⟨_, _, cur, hk, hc⟩ := rown_blk h
  have := run_loadAt_mid (P := Try.prog) w g (k * 16) 43 (viC c x).toList _ (fun j v hv => by
    rw [hk.cell]
    have hj : j < 16 := by
      have := (List.getElem?_eq_some_iff.1 hv).1
      rwa [viC_len] at this
    exact hc _ _ ((flatV_get c hx hj).trans hv)) Try.underlying43 rfl vi_info
  simpa using this
set_option maxRecDepth 100000 in
set_option maxHeartbeats 4000000 in
attribute [-go_sem] Instr.storeAt Instr.loadAt in
theorem all12_in (F : Fence) (nn : Nat) (hf : F.fn 45) (hro : F.round = none) (hn : 1 ≤ nn) (l Bx : Nat) (I : Nat → Prop) (A : Option Addr) (cap : Nat) (c : Pc) (L : List Le) (hsm : L.length ≤ 1000000) (J Jx : List Le → World → Prop)
    (W : World) (hI : ∀ k, I k → k < W.heap.size) (hJa : AbidesFrom W.heap.size J)
    (hY : ∀ pre x W, J pre W → pre ++ [x] <+: L → YieldAt F (nn - 1) Try.prog l #[.agg #[.int .u32 (x.p.1 : Int), .int .i64 x.p.2], .agg (viC c x)] W fun e W' =>
      (e = .returned (.bool true) ∧ J (pre ++ [x]) W' ∧ Same I W W') ∨ (e = .returned (.bool false) ∧ Jx (pre ++ [x]) W'))
    (hBs : W.cell? ⟨Bx, 0, none⟩ = some (.slice A L.length cap)) (hr : W.ownsRow 0 43 16 (.slice A L.length cap) L.length (flatV c L)) (hri : ∀ g, (Value.slice A L.length cap).ownBlock = some g → I g) (h0 : J [] W) :
    CallsIn F nn Try.prog 45 #[.func (.yield l) #[] #[], .pointer (some ⟨Bx, 0, none⟩)] W fun e W' => (∃ v, e = .returned v) ∧
      ((∃ ys, ys = L ∧ J ys W') ∨ (∃ pre, pre <+: L ∧ Jx pre W')) := by
  have R := Lib.hid hr
  have RI := Lib.hid hri
  obtain ⟨m, hm⟩ : ∃ m, m = L.length := ⟨_, rfl⟩
  rw [← hm] at hBs hsm
  have HM := Lib.hid hm
  have lb := ld_slV hBs
  have HI := Lib.hid hI
  clear hr hm hBs hri hI
  refine callsIn_of_wp Try.func45 rfl hf ?_ hro
  simp only [Try.ntmps45, List.size_toArray, List.length_cons, List.length_nil, Nat.reduceAdd, Nat.reduceSub, Array.replicate_succ, Array.replicate_zero, List.push_toArray, List.append_toArray, List.nil_append, List.cons_append]
  gi_wp2
  clear lb
  gi_loopw [7] (fun i wr => ∃ k : Nat, k ≤ m ∧ i = .int .i64 (k : Int) ∧ J (L.take k) wr ∧ Same I W wr) (fun i _ => m - (intOf i).toNat)
  case atStart => exact ⟨0, Nat.zero_le _, rfl, h0, Same.refl _ _⟩
  case round =>
    obtain ⟨k, hk, rfl, hJs, hnx⟩ := hrel
    by_cases hlt : k < m
    · obtain ⟨x, hx⟩ : ∃ x, L[k]? = some x := ⟨_, List.getElem?_eq_getElem (by rw [← HM.out]; exact hlt)⟩
      have hrw := own_keep R.out hnx RI.out
      obtain ⟨g, cq, e8, _⟩ := own_form1 hrw (by rw [← HM.out]; omega)
      injection e8 with e8 em e9
      subst e8
      subst e9
      clear em
      have lv := vi_row hrw hx
      obtain ⟨w3, st, hk3, hb3⟩ := vi_copy wr c x
      have lp := vi_p hk3
      have lw := vi_load hk3
      have hsz : W.heap.size ≤ wr.heap.size := hnx.1
      have hJ3 := hJa _ _ _ _ hJs (⟨hb3.os, hb3.tape, hb3.output, hb3.size, fun k hk _ => hb3.block k hk⟩ : wr.grownBy w3 none) (fun r hr => by cases hr)
      have hyy := hY _ x w3 hJ3 (by rw [← take_snoc hx]; exact List.take_prefix _ _)
      obtain ⟨fn, tmps, assign, body, hy, hR⟩ := hyy
      have hi0 : (0 : Int) ≤ k := by omega
      have hi1 : (k : Int) < m := by omega
      have HNX := Lib.hid hnx
      have HX := Lib.hid hx
      have HS3 := Lib.hid (show Same I wr w3 from Same.ofBelow hb3 fun k hk => Nat.lt_of_lt_of_le (HI.out k hk) hsz)
      clear hJ3 hJs hJa hY hnx hx hrw hk3 hb3
      gi_wp2
      refine hR.mono ?_
      rintro e3 W3 (⟨rfl, hJ3, hk3⟩ | ⟨rfl, hJx3⟩)
      · gi_wp2
        go_roundw
        case rel => exact ⟨k + 1, by omega, by simp, by rw [take_snoc HX.out]; exact hJ3, (HNX.out.trans HS3.out).trans hk3⟩
        case measure => simp [intOf]; omega
      · gi_wp2
        refine bodyPost_ret (results_none rfl _ _ _) rfl ?_
        exact ⟨⟨_, rfl⟩, .inr ⟨_, by rw [← take_snoc HX.out]; exact List.take_prefix _ _, hJx3⟩⟩
    · obtain rfl : k = m := by omega
      gi_wp2
      go_end0
      exact ⟨⟨_, rfl⟩, .inl ⟨_, List.take_of_length_le (by rw [HM.out]; exact Nat.le_refl _), hJs⟩⟩
/-- What All answers. -/
def All12 (wx : World) (S : Lc) (e : Ending) (w' : World) : Prop := ∃ Bx v, e = .returned (.func (.func 45) #[] #[.pointer (some ⟨Bx, 0, none⟩)]) ∧ Blk w' Bx 104 #[v] ∧ w'.ownsRow wx.heap.size 43 16 v S.all.length (flatV S.pc S.all) ∧ wx.heap.size ≤ Bx ∧ Below wx.heap.size wx w'
set_option maxRecDepth 100000 in
set_option maxHeartbeats 8000000 in
attribute [-go_sem] Instr.storeAt Instr.loadAt Instr.buildSlice in
theorem lall_any {w0 wx : World} {M : Nat → Prop} {cb mb : Nat} {S : Lc} (h : Core w0 wx M cb mb S) : Calls Try.prog 23 #[.pointer (some ⟨cb, 0, none⟩)] wx (All12 wx S) := by
  obtain ⟨W1, hW1⟩ : ∃ Z, Z = wx.alloc (.cells #[.slice none 0 0] 104) := ⟨_, rfl⟩
  have hb1 : Below wx.heap.size wx W1 := by rw [hW1]; exact (Below.refl _ _).alloc (Nat.le_refl _) _
  have hk1 : Blk W1 wx.heap.size 104 #[.slice none 0 0] := by rw [hW1]; exact Blk.new _ _ _
  have hc1 := h.later hb1
  obtain ⟨ov, G, h1, h2, h3⟩ := hc1.ex
  have hth := cthere_any h1.blk
  have hkw := h1.keysW
  have hpx : G.map (·.x.p) = S.all.map (·.p) := by rw [← h2, List.map_map]; rfl
  have hgl : G.length = S.all.length := by rw [← h2, List.length_map]
  rw [hpx, hgl] at hkw
  obtain ⟨i0, hi, hz0, hz1, hz2⟩ := info_parts info_vi
  obtain ⟨n, hn⟩ : ∃ n, n = S.all.length := ⟨_, rfl⟩
  have hn9 : n ≤ 1024 := by rw [hn]; exact h.ok.len
  rw [← hn] at hkw
  have HN := Lib.hid hn
  have h0x := Lib.hid h.bel.size
  have HTH := Lib.hid hth
  have HKW := Lib.hid hkw
  have HC1 := Lib.hid hc1
  have HB1 := Lib.hid hb1
  have HK1 := Lib.hid hk1
  have HW1 := Lib.hid hW1
  have HBF := Lib.hid (fun (x : Le) (wz : World) => bs_vi S.pc x wz)
  clear hth hkw hpx hgl h1 h2 h3 hc1 hb1 hk1 hW1 hn h
  go_enter Try.func23, Try.ntmps23
  go_upto_region 2 with (fail)
  rw [← HW1.out]
  obtain ⟨Bx, hBx⟩ : ∃ b, b = wx.heap.size := ⟨_, rfl⟩
  rw [← hBx] at HK1 ⊢
  have HBX := Lib.hid hBx
  clear hBx
  go_wp2_with (first
    | (go_at_call 27; refine HTH.out.mono ?_; rintro e w' ⟨rfl, rfl⟩)
    | (go_at_call 31; refine HKW.out.mono ?_; rintro e w2 ⟨v, rfl, hr, hb⟩; obtain ⟨A, cp, rfl, _⟩ := own_form hr; have HR := Lib.hid hr; have HB2 := Lib.hid hb; clear hr hb))
  have HK2 := Lib.hid (HK1.out.below HB2.out HK1.out.lt)
  have HB02 := Lib.hid (HB1.out.trans (HB2.out.mono HB1.out.size))
  obtain ⟨rb, hrb⟩ : ∃ b, b = W1.heap.size := ⟨_, rfl⟩
  rw [← hrb] at HR
  clear hrb
  go_loopw [13] (fun s13 wr => ∃ (k : Nat) (v : Value), k ≤ n ∧ s13 = .int .i64 (k : Int) ∧ Blk wr Bx 104 #[v] ∧ wr.ownsRow wx.heap.size 43 16 v k (flatV S.pc (S.all.take k)) ∧ Below wx.heap.size wx wr ∧ wr.ownsRow rb 36 2 (.slice A n cp) n (flatP (S.all.map (·.p))) ∧ Core w0 wr M cb mb S) (fun s13 _ => n - (intOf s13).toNat)
  case atStart => exact ⟨0, _, Nat.zero_le _, rfl, HK2.out, World.ownsRow_nil _ _ _ _, HB02.out, HR.out, HC1.out.later HB2.out⟩
  case round =>
    obtain ⟨k, v, hk, rfl, hKB, hV, hB, hP, hC⟩ := hrel
    obtain ⟨Av, cv, rfl, _⟩ := own_form hV
    have HC := Lib.hid hC
    have HKB := Lib.hid hKB
    have HV := Lib.hid hV
    have HB := Lib.hid hB
    have HP := Lib.hid hP
    have k0 : (0 : Int) ≤ k := by omega
    by_cases hlt : k < n
    · obtain ⟨x, hx⟩ : ∃ x, S.all[k]? = some x := ⟨_, List.getElem?_eq_getElem (by rw [← HN.out]; exact hlt)⟩
      obtain ⟨gr, cq, e8, _⟩ := own_form1 hP (by omega)
      injection e8 with e8 em e9
      subst e8
      subst e9
      clear em
      have lp := ld_pfrow hP (by rw [List.length_map]; exact HN.out.symm) (k := k) (p := x.p) (by rw [List.getElem?_map, hx]; rfl)
      have st := st_pf_new wr (x.p.1 : Int) x.p.2
      obtain ⟨W3, hW3⟩ : ∃ Z, Z = wr.alloc (.cells #[.int .u32 (x.p.1 : Int), .int .i64 x.p.2] 36) := ⟨_, rfl⟩
      rw [← hW3] at st
      have hb3 : Below wr.heap.size wr W3 := by rw [hW3]; exact (Below.refl _ _).alloc (Nat.le_refl _) _
      have hk3 : Blk W3 wr.heap.size 36 (pfC x.p) := by rw [hW3]; exact Blk.new _ _ _
      have l3 := ld_pf hk3
      have HB3 := Lib.hid (hB.trans (hb3.mono hB.size))
      have HB33 := Lib.hid hb3
      have hxm := List.mem_of_getElem? hx
      have HEN := Lib.hid (show Calls Try.prog 14 #[.pointer (some ⟨cb, 0, none⟩), .agg #[.int .u32 (x.p.1 : Int), .int .i64 x.p.2]] W3 fun e w' => e = .returned (.tuple #[.agg (viC S.pc x), .bool true]) ∧ Below W3.heap.size W3 w' by
        have hc3 := hC.later hb3
        have hen := core_entry hc3 (may_ok (hc3.mayx x hxm))
        unfold EnF at hen
        rw [find_sorted hc3.ok.srt hxm] at hen
        exact hen)
      have HX := Lib.hid hx
      have k1 : (k : Int) < n := by omega
      have hmx : k + 1 ≤ maxLen := by unfold maxLen; omega
      have hmb : (k + 1) * 112 ≤ 140737488355328 := by omega
      clear hW3 hb3 hk3 hxm hx hKB hV hB hP hC
      go_upto_region 7 with (go_at_call 14; refine HEN.out.mono ?_; rintro en w4 ⟨rfl, hb4⟩; have HB4 := Lib.hid (HB33.out.trans (hb4.mono HB33.out.size)); obtain ⟨w5, st5, hk5, hb5⟩ := vi_copy w4 S.pc x; have HK5 := Lib.hid hk5; have HB5 := Lib.hid hb5; clear hb4 hk5 hb5)
      clear st st5 lp l3
      have HB45 := Lib.hid (HB4.out.trans (HB5.out.mono HB4.out.size))
      have HKB5 := Lib.hid (HKB.out.below HB45.out HKB.out.lt)
      have HV5 := Lib.hid (own_below HV.out HB45.out)
      have HP5 := Lib.hid (own_below HP.out HB45.out)
      have HB05 := Lib.hid (HB.out.trans (HB45.out.mono HB.out.size))
      have HC5 := Lib.hid (HC.out.later HB45.out)
      have l5 := ld_slV (HKB5.out.cell 0)
      have lv := vi_load HK5.out
      have bsx := HBF.out x w5
      have hbs : wx.heap.size ≤ w5.heap.size := HB05.out.size
      go_wp2_with (at_builtin; refine wpList_pushN w5 rfl (.tmp 23) (.tmp 25) _ 43 rfl rfl i0 _ 16 112 Try.underlying104 hi hz0 hz1 hz2 rfl (by decide) wx.heap.size _ _ _ (viC S.pc x).toList rfl (vi_one S.pc x) rfl HV5.out rfl hmx hmb hbs ?_; intro v2 w6 h2 hg2 hat2; have hkb6 := HKB5.out.grown hg2 (own_blk_ne HV5.out HKB5.out (by decide)); have HKB6 := Lib.hid hkb6; obtain ⟨A2, c2, rfl, _⟩ := own_form h2; have st := st_slV (hkb6.cell 0) (hkb6.frozen 0) A2 (k + 1) c2; have H2 := Lib.hid h2; have HG2 := Lib.hid hg2; clear h2 hg2 hat2 hkb6)
      have hne := own_blk_ne H2.out HKB6.out (by decide)
      have hu6 : Upd (fun j => (Value.slice Av k cv).ownBlock = some j) w5 w6 := (Upd.refl _ w5).grown HG2.out fun j hj => .inl hj
      have hP6 := own_keep HP5.out (hu6.same (I := fun j => (Value.slice (some ⟨gr, 0, none⟩) n cp).ownBlock = some j) fun j h1 h2 => by
        obtain ⟨cs1, b1⟩ := own_blk HV5.out h1
        obtain ⟨cs2, b2⟩ := own_blk HP5.out h2
        exact b1.ne_ b2 (by decide) rfl) fun _ e => e
      have hC6 := HC5.out.keep hu6 (fun j hj => by
        obtain ⟨cs1, b1⟩ := own_blk HV5.out hj
        exact HC5.out.apart b1 (by decide) (by decide)) fun j hj => Nat.le_trans h0x.out (own_lt HV5.out hj).1
      have hu7 := upd_set w6 Bx 0 (.slice A2 (k + 1) c2)
      have HK7 := Lib.hid (HKB6.out.set_ 0 (.slice A2 (k + 1) c2))
      have HV7 := Lib.hid (ownsRow_setCell_other (a := ⟨Bx, 0, none⟩) H2.out hne (.slice A2 (k + 1) c2))
      have HP7 := Lib.hid (ownsRow_setCell_other (a := ⟨Bx, 0, none⟩) hP6 (own_blk_ne hP6 HKB6.out (by decide)) (.slice A2 (k + 1) c2))
      have HC7 := Lib.hid (hC6.keep hu7 (fun j (e : j = Bx) => e ▸ hC6.apart HKB6.out (by decide) (by decide)) fun j (e : j = Bx) => by rw [e, HBX.out]; exact h0x.out)
      have HB7 := Lib.hid ((HB05.out.grown HG2.out HB05.out.size fun g hg => (own_lt HV5.out hg).1).trans (hu7.below (B := wx.heap.size) (fun j (e : j = Bx) => by rw [e, HBX.out]; exact Nat.le_refl _) (Nat.le_trans HB05.out.size HG2.out.size)))
      clear hne hu6 hP6 hC6 hu7 st
      go_roundw
      case rel => exact ⟨k + 1, _, by omega, by go_num, HK7.out, by rw [flatV_take HX.out]; exact HV7.out, HB7.out, HP7.out, HC7.out⟩
      case measure => simp [intOf]; omega
    · obtain rfl : k = n := by omega
      clear hKB hV hB hP hC
      go_wp2_with fail
      go_ret
      have hv9 := HV.out
      rw [List.take_of_length_le (by rw [HN.out]; exact Nat.le_refl _), HN.out] at hv9
      exact ⟨Bx, _, rfl, HKB.out, by rw [HN.out] at *; exact hv9, by rw [HBX.out]; exact Nat.le_refl _, HB.out⟩
end Go.Proofs.Ytahdjfegihnolaa
