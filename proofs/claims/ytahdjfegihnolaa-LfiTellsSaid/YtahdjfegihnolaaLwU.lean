/- Layer 12: LfiTells' loop over the routes (printed by gen_lwu.py). -/
import Derived.Test.YtahdjfegihnolaaLwT
namespace Go.Proofs.Ytahdjfegihnolaa
open Go.RowKit Go.Sort
theorem TsK.entT {w wx : World} {cb cbw : Nat} {T S : Lc} {Av : Option Addr} {no cv : Nat} {o : List Tl} (h : TsK w wx cb cbw T S Av no cv o) {x : Le} (hx : x ∈ T.all) : Calls Try.prog 14 #[.pointer (some ⟨cb, 0, none⟩), .agg #[.int .u32 (x.p.1 : Int), .int .i64 x.p.2]] wx fun e w' => e = .returned (.tuple #[.agg (viC T.pc x), .bool true]) ∧ Below wx.heap.size wx w' := by
  obtain ⟨M, mb, h1⟩ := h.core
  have := core_entry h1 (may_ok (h1.mayx x hx))
  unfold EnF at this
  rw [find_sorted h1.ok.srt hx] at this
  exact this
set_option maxRecDepth 100000 in
set_option maxHeartbeats 8000000 in
attribute [-go_sem] Instr.storeAt Instr.loadAt Instr.build in
theorem tells5 {u0 u1 u2 u3 u4 u5 u6 u8 u9 u10 u12 u13 u14 u15 u16 u17 u18 u19 u20 u21 u22 u23 u24 u27 u28 u29 u30 u31 u32 u33 u34 u35 u36 u37 u38 u39 u40 u41 u42 u43 u44 u45 u46 u47 u48 u49 u50 u51 u52 u53 u54 u55 u56 u57 u58 u59 u60 u61 u62 u63 u64 u65 u66 u67 u68 u69 u70 u71 u72 u73 u74 u75 u76 u77 u78 u79 u80 u81 u82 u83 u84 u85 u86 u87 u88 u89 u90 u91 u92 u93 u94 u95 u96 u97 u98 u99 u100 u101 u102 u103 u104 u105 u106 u107 u108 u109 u110 u111 u112 u113 u114 u115 u116 u117 u118 u119 u120 u121 u122 u123 u124 u125 u126 u127 u128 u129 u130 u131 u132 u133 u134 u135 u136 u137 u138 u139 u140 u141 u142 u143 u144 u145 u146 u147 u148 u149 u150 u151 u152 u153 u154 u155 u156 u157 u158 u159 u160 u161 u162 u163 u164 u165 u166 u167 u168 u169 u170 u171 u172 u173 u174 u175 u176 u177 u178 u179 u180 u181 u182 u183 u184 u185 u186 u187 u188 u189 u190 u191 u192 u193 u194 u195 u196 u197 u198 u199 u200 u201 u202 u203 u204 u205 u206 u207 u208 u209 u210 u211 u212 u213 u214 u215 u216 u217 u218 u219 u220 u221 u222 u223 u224 u225 u226 u227 u228 u229 u230 u231 u232 u233 u234 u235 u236 u237 u238 u239 u240 u241 u242 u243 u244 u245 u246 u247 : Value} {Q : Exit → Act → World → Prop} {ds : List Deferred} {w wr : World} {cb cbw B q cr : Nat} {T S : Lc} {Av Ar : Option Addr} {no cv : Nat} {o : List Tl} {e : Ev} {L : List Rx}
    (h : TsK w wr cb cbw T S Av no cv o) (hR : RtL wr B (.slice Ar q cr) T.pc L) (hL : L.map (·.1) = T.all) (hq : q = L.length) (hP : TlP S T e o)
    (hK : ∀ (y6 y26 y27 y28 y29 y30 y31 y200 y201 y202 y203 y204 y205 y206 y207 y208 y209 y210 y211 y212 y213 y214 y215 y216 y217 y218 y219 y220 y221 y222 y223 y224 y225 y226 y227 y228 y229 y230 y231 y232 y233 y234 y235 y236 y237 y238 y239 y240 y241 y242 y243 y244 y245 y246 : Value) (wx : World), Below wr.heap.size wr wx → Q .normal ⟨#[u0, u1, u2, u3, u4, u5, y6, .pointer (some ⟨cb, 0, none⟩), u8, u9, u10, .slice Av no cv, u12, u13, u14, u15, u16, u17, u18, u19, u20, u21, u22, u23, u24, .slice Ar q cr, y26, y27, y28, y29, y30, y31, u32, u33, u34, u35, u36, u37, u38, u39, u40, u41, u42, u43, u44, u45, u46, u47, u48, u49, u50, u51, u52, u53, u54, u55, u56, u57, u58, u59, u60, u61, u62, u63, u64, u65, u66, u67, u68, u69, u70, u71, u72, u73, u74, u75, u76, u77, u78, u79, u80, u81, u82, u83, u84, u85, u86, u87, u88, u89, u90, u91, u92, u93, u94, u95, u96, u97, u98, u99, u100, u101, u102, u103, u104, u105, u106, u107, u108, u109, u110, u111, u112, u113, u114, u115, u116, u117, u118, u119, u120, u121, u122, u123, u124, u125, u126, u127, u128, u129, u130, u131, u132, u133, u134, u135, u136, u137, u138, u139, u140, u141, u142, u143, u144, u145, u146, u147, u148, u149, u150, u151, u152, u153, u154, u155, u156, u157, u158, u159, u160, u161, u162, u163, u164, u165, u166, u167, u168, u169, u170, u171, u172, u173, u174, u175, u176, u177, u178, u179, u180, u181, u182, u183, u184, u185, u186, u187, u188, u189, u190, u191, u192, u193, u194, u195, u196, u197, u198, u199, y200, y201, y202, y203, y204, y205, y206, y207, y208, y209, y210, y211, y212, y213, y214, y215, y216, y217, y218, y219, y220, y221, y222, y223, y224, y225, y226, y227, y228, y229, y230, y231, y232, y233, y234, y235, y236, y237, y238, y239, y240, y241, y242, y243, y244, y245, y246, u247], ds⟩ wx) :
    Code.wp Try.prog (tlBlk 8) Q ⟨#[u0, u1, u2, u3, u4, u5, u6, .pointer (some ⟨cb, 0, none⟩), u8, u9, u10, .slice Av no cv, u12, u13, u14, u15, u16, u17, u18, u19, u20, u21, u22, u23, u24, .slice Ar q cr, .int .i64 0, u27, u28, u29, u30, u31, u32, u33, u34, u35, u36, u37, u38, u39, u40, u41, u42, u43, u44, u45, u46, u47, u48, u49, u50, u51, u52, u53, u54, u55, u56, u57, u58, u59, u60, u61, u62, u63, u64, u65, u66, u67, u68, u69, u70, u71, u72, u73, u74, u75, u76, u77, u78, u79, u80, u81, u82, u83, u84, u85, u86, u87, u88, u89, u90, u91, u92, u93, u94, u95, u96, u97, u98, u99, u100, u101, u102, u103, u104, u105, u106, u107, u108, u109, u110, u111, u112, u113, u114, u115, u116, u117, u118, u119, u120, u121, u122, u123, u124, u125, u126, u127, u128, u129, u130, u131, u132, u133, u134, u135, u136, u137, u138, u139, u140, u141, u142, u143, u144, u145, u146, u147, u148, u149, u150, u151, u152, u153, u154, u155, u156, u157, u158, u159, u160, u161, u162, u163, u164, u165, u166, u167, u168, u169, u170, u171, u172, u173, u174, u175, u176, u177, u178, u179, u180, u181, u182, u183, u184, u185, u186, u187, u188, u189, u190, u191, u192, u193, u194, u195, u196, u197, u198, u199, u200, u201, u202, u203, u204, u205, u206, u207, u208, u209, u210, u211, u212, u213, u214, u215, u216, u217, u218, u219, u220, u221, u222, u223, u224, u225, u226, u227, u228, u229, u230, u231, u232, u233, u234, u235, u236, u237, u238, u239, u240, u241, u242, u243, u244, u245, u246, u247], ds⟩ wr := by
  have H := Lib.hid h
  have HR := Lib.hid hR
  have HL := Lib.hid hL
  have HQ := Lib.hid hq
  have HP := Lib.hid hP
  have HK := Lib.hid hK
  have hqb : q ≤ 1024 := by
    obtain ⟨M, mb, h1⟩ := h.core
    have := h1.ok.len
    rw [← hL, List.length_map, ← hq] at this
    exact this
  have hnb := h.hn.2
  have HW0 := Lib.hid (show ∃ w0, w0 = wr from ⟨_, rfl⟩)
  obtain ⟨w0, hw0⟩ := HW0.out
  have HW := Lib.hid (show Below w0.heap.size w0 wr by rw [hw0]; exact Below.refl _ _)
  rw [← hw0] at H HR HK
  clear h hR hL hq hP hK hw0 HW0
  refine wp_of_calm ?_
  conv => arg 2; whnf
  go_wp2_with fail
  go_loopw [26] (fun s26 wy => ∃ j : Nat, j ≤ q ∧ s26 = .int .i64 (j : Int) ∧ Below w0.heap.size w0 wy) (fun s26 _ => q - (intOf s26).toNat)
  case atStart => exact ⟨0, Nat.zero_le _, rfl, HW.out⟩
  case round =>
    clear HW
    obtain ⟨j, hj, rfl, hB⟩ := hrel
    have HB := Lib.hid hB
    have HKR := Lib.hid (H.out.later hB)
    have HRR := Lib.hid (HR.out.below hB)
    clear hB
    by_cases hlj : j < q
    · obtain ⟨a, haj⟩ : ∃ a, L[j]? = some a := ⟨_, List.getElem?_eq_getElem (by rw [← HQ.out]; exact hlj)⟩
      obtain ⟨x, sv⟩ := a
      have hxj : T.all[j]? = some x := by rw [← HL.out, List.getElem?_map, haj]; rfl
      have hxm := List.mem_of_getElem? hxj
      obtain ⟨gr, cq, e8, _⟩ := own_form1 HRR.out.1 (by rw [← HQ.out]; omega)
      obtain ⟨rfl, rfl⟩ : Ar = some ⟨gr, 0, none⟩ ∧ cr = cq := by cases e8; exact ⟨rfl, rfl⟩
      have lp := rt_p HRR.out haj
      dsimp only at lp
      have HEN := Lib.hid (HKR.out.entT hxm)
      have HXM := Lib.hid hxm
      have HAJ := Lib.hid haj
      have j0 : (0 : Int) ≤ j := by omega
      have j1 : (j : Int) < q := by omega
      clear hxm haj hxj e8
      go_upto_region 43 with (go_at_call 14; refine HEN.out.mono ?_; rintro en w5 ⟨rfl, hb5⟩; have HB5 := Lib.hid hb5; have st := stc_store vi_info (Blk.new w5 43 viZ) rfl (vs := viC T.pc x) rfl (by simp [viC, Value.oneCell']); obtain ⟨V5, hV5⟩ : ∃ Z, Z = (w5.alloc (.cells viZ 43)).setCells w5.heap.size 0 (viC T.pc x).toList := ⟨_, rfl⟩; rw [← hV5] at st; unfold viZ at st; have HV5 := Lib.hid hV5; clear hb5 hV5)
      clear st lp
      obtain ⟨xb, hxb⟩ : ∃ b, b = w5.heap.size := ⟨_, rfl⟩
      have hbv5 : Below w5.heap.size w5 V5 := by
        rw [HV5.out]
        exact below_setCells (Nat.le_refl _) _ _ _ ((Below.refl _ _).alloc (Nat.le_refl _) _)
      have HK5 := Lib.hid (show Blk V5 xb 43 (viC T.pc x) by
        rw [HV5.out, hxb]
        exact blk_setCells (Blk.new w5 43 viZ) rfl)
      have HB6 := Lib.hid (HB.out.trans ((HB5.out.trans (hbv5.mono HB5.out.size)).mono HB.out.size))
      have HBV := Lib.hid (Below.refl V5.heap.size V5)
      rw [← hxb]
      clear hxb hbv5
      go_wp2_with fail
      go_loopw [29, 30, 31] (fun s29 s30 s31 wz => ∃ g : Nat, g ≤ no ∧ s31 = .int .i64 (g : Int) ∧ s29 = .int .i64 (lasV o x.p g) ∧ s30 = .bool (lasB o x.p g) ∧ Below w0.heap.size w0 wz ∧ Below V5.heap.size V5 wz) (fun _ _ s31 _ => no - (intOf s31).toNat)
      case atStart => exact ⟨0, Nat.zero_le _, rfl, rfl, rfl, HB6.out, HBV.out⟩
      case round =>
        clear HBV
        obtain ⟨g, hg, rfl, rfl, rfl, hBz, hVz⟩ := hrel
        have HBz := Lib.hid hBz
        have HVz := Lib.hid hVz
        clear hBz hVz
        by_cases hlg : g < no
        · obtain ⟨t, htg⟩ : ∃ t, o[g]? = some t := ⟨_, List.getElem?_eq_getElem (by have := HKR.out.hn.1; omega)⟩
          obtain ⟨go, cg, e8, _⟩ := own_form1 (H.out.later HBz.out).out (by have := HKR.out.hn.1; omega)
          obtain ⟨rfl, rfl⟩ : Av = some ⟨go, 0, none⟩ ∧ cv = cg := by cases e8; exact ⟨rfl, rfl⟩
          have g0 : (0 : Int) ≤ g := by omega
          have g1 : (g : Int) < no := by omega
          have hbq := fun (dd : Nat) (os : Array Obj) => HBz.out.trans ((below_regrown wr dd os).mono HBz.out.size)
          have l1 := fun (dd : Nat) (os : Array Obj) => tl_pf (H.out.later (hbq dd os)).out htg
          have l2 := fun (dd : Nat) (os : Array Obj) => rt_p (HR.out.below (hbq dd os)) HAJ.out
          dsimp only at l2
          have l3 := fun wx => eq_pf t.2.1.1 x.p.1 t.2.1.2 x.p.2 wx
          have HTG := Lib.hid htg
          clear hbq e8 htg
          go_upto_region 47 with (fail)
          by_cases hp : t.2.1 = x.p
          · rw [decide_eq_true (show (t.2.1.1, t.2.1.2) = (x.p.1, x.p.2) from by rw [← hp])] at l3
            have HY := Lib.hid (las_yes HTG.out hp)
            clear hp
            refine wp_region_quiet_below (by kernel_rfl) (by kernel_rfl) ?_
            repeat (go_big_quiet_step (fail))
            refine wpQuiet_nil ?_
            intro _ hw'
            obtain ⟨⟨dq, osq⟩, hw''⟩ := hw'
            subst hw''
            have HBq := Lib.hid (HBz.out.trans ((below_regrown wr dq osq).mono HBz.out.size))
            have HB9 := Lib.hid (below_regrown wr dq osq)
            generalize grow (redrawn wr dq) osq = wq at HBq HB9 ⊢
            clear l1 l2 l3
            have HVq := Lib.hid (HVz.out.trans ((HB9.out).mono HVz.out.size))
            have ld := tl_d (H.out.later HBq.out).out HTG.out
            go_wp2_with fail
            go_roundw
            case rel => exact ⟨g + 1, by omega, by go_num, by rw [HY.out.1], by rw [HY.out.2], HBq.out, HVq.out⟩
            case measure => simp [intOf]; omega
          · rw [decide_eq_false (show ¬ (t.2.1.1, t.2.1.2) = (x.p.1, x.p.2) from hp)] at l3
            have HN := Lib.hid (las_no HTG.out hp)
            clear hp
            refine wp_region_quiet_below (by kernel_rfl) (by kernel_rfl) ?_
            repeat (go_big_quiet_step (fail))
            refine wpQuiet_nil ?_
            intro _ hw'
            obtain ⟨⟨dq, osq⟩, hw''⟩ := hw'
            subst hw''
            have HBq := Lib.hid (HBz.out.trans ((below_regrown wr dq osq).mono HBz.out.size))
            have HB9 := Lib.hid (below_regrown wr dq osq)
            generalize grow (redrawn wr dq) osq = wq at HBq HB9 ⊢
            clear l1 l2 l3
            have HVq := Lib.hid (HVz.out.trans ((HB9.out).mono HVz.out.size))
            go_wp2_with fail
            go_roundw
            case rel => exact ⟨g + 1, by omega, by go_num, by rw [HN.out.1], by rw [HN.out.2], HBq.out, HVq.out⟩
            case measure => simp [intOf]; omega
        · obtain rfl : g = no := by omega
          have le := ld_iC (w := wr) (b := xb) (o := 6) (z := x.told) ((HK5.out.below HVz.out HK5.out.lt).cell 6)
          obtain ⟨bb, hbb⟩ : ∃ b, b = lasB o x.p g := ⟨_, rfl⟩
          have hend : bb = true → lasV o x.p g = x.told := fun h => by
            have h1 := HKR.out.hn.1
            rw [h1]
            exact las_end HP.out HXM.out (by rw [← h1, ← hbb]; exact h)
          rw [← hbb]
          clear hbb
          cases bb with
          | false =>
            clear hend
            go_wp2_with fail
            go_roundw
            case rel => exact ⟨j + 1, by omega, by go_num, HBz.out⟩
            case measure => simp [intOf]; omega
          | true =>
            rw [hend rfl]
            clear hend
            go_wp2_with fail
            go_roundw
            case rel => exact ⟨j + 1, by omega, by go_num, HBz.out⟩
            case measure => simp [intOf]; omega
    · obtain rfl : j = q := by omega
      go_wp2_with fail
      exact HK.out _ _ _ _ _ _ _ _ _ _ _ _ _ _ _ _ _ _ _ _ _ _ _ _ _ _ _ _ _ _ _ _ _ _ _ _ _ _ _ _ _ _ _ _ _ _ _ _ _ _ _ _ _ _ _ HB.out
end Go.Proofs.Ytahdjfegihnolaa
