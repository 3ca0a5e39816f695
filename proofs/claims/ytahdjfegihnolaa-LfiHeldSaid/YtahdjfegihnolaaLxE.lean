/- Layer 12: LfiHeld's loop over the routes (printed by gen_lxe.py). -/
import Derived.Test.YtahdjfegihnolaaLxD
namespace Go.Proofs.Ytahdjfegihnolaa
open Go.RowKit Go.Sort
set_option maxRecDepth 100000 in
set_option maxHeartbeats 8000000 in
attribute [-go_sem] Instr.storeAt Instr.loadAt Instr.build in
theorem held4 {u0 u1 u2 u3 u4 u5 u6 u8 u10 u11 u12 u13 u14 u15 u16 u17 u20 u21 u22 u23 u24 u25 u26 u27 u28 u29 u30 u31 u32 u33 u34 u35 u36 u37 u38 u39 u40 u41 u42 u43 u44 u45 u46 u47 u48 u49 u50 u51 u52 u53 u54 u55 u56 u57 u58 u59 u60 u61 u62 u63 u64 u65 u66 u67 u68 u69 u70 u71 u72 u73 u74 u75 u76 u77 u78 u79 u80 u81 u82 u83 u84 u85 u86 u87 u88 u89 u90 u91 u92 u93 u94 u95 u96 u97 u98 u99 u100 u101 u102 u103 u104 u105 u106 u107 u108 u109 u110 u111 u112 u113 u114 u115 u116 u117 u118 u119 u120 u121 u122 u123 u124 u125 u126 u127 u128 u129 u130 u131 u132 u133 u134 u135 u136 u137 u138 u139 u140 u141 u142 u143 u144 u145 u146 u147 u148 u149 u150 u151 u152 u153 u154 u155 u156 u157 u158 u159 u160 u161 u162 u163 u164 u165 u166 u167 u168 u169 u170 u171 u172 u173 u174 u175 u176 u177 u178 u179 u180 u181 u182 u183 u184 u185 u186 u187 u188 u189 u190 u191 u192 u193 u194 u195 u196 u197 u198 u199 u200 u201 u202 u203 u204 u205 u206 u207 u208 u209 u210 u211 u212 u213 u214 u215 u216 u217 u218 u219 u220 u221 u222 u223 u224 u225 u226 u227 u228 u229 u230 u231 u232 u233 u234 u235 u236 u237 u238 u239 u240 u241 u242 u243 u244 u245 u246 u247 u248 u249 u250 u251 u252 u253 u254 u255 u256 u257 u258 u259 u260 u261 u262 u263 u264 u265 u266 u267 u268 u269 u270 u271 u272 u273 u274 u275 : Value} {Q : Exit → Act → World → Prop} {ds : List Deferred} {w wr : World} {cb hb q cr B : Nat} {Ar : Option Addr} {mq : Nat → Option Nat} {H : Held} {N : Nat} {T : Lc} {L : List Rx}
    (h : HrK w wr cb hb mq H N T) (hR : RtL wr B (.slice Ar q cr) T.pc L) (hL : L.map (·.1) = T.all) (hq : q = L.length)
    (hK : ∀ (y6 y19 y20 y21 y22 y23 y24 y25 y26 y169 y170 y171 y172 y173 y174 y175 y176 y177 y178 y179 y180 y181 y182 y183 y184 y185 y186 y187 y188 y189 y190 y191 y192 y193 y194 y195 y196 y197 y198 y199 y200 y201 y202 y203 y204 y205 y206 y207 y208 y209 y210 y211 y212 y213 y214 y215 y216 y217 y218 y219 y220 y221 y222 y223 y224 y225 y226 y227 y228 y229 y230 y231 : Value) (wx : World), Below wr.heap.size wr wx → Q .normal ⟨#[u0, u1, u2, u3, u4, u5, y6, .pointer (some ⟨cb, 0, none⟩), u8, .pointer (some ⟨hb, 0, none⟩), u10, u11, u12, u13, u14, u15, u16, u17, .slice Ar q cr, y19, y20, y21, y22, y23, y24, y25, y26, u27, u28, u29, u30, u31, u32, u33, u34, u35, u36, u37, u38, u39, u40, u41, u42, u43, u44, u45, u46, u47, u48, u49, u50, u51, u52, u53, u54, u55, u56, u57, u58, u59, u60, u61, u62, u63, u64, u65, u66, u67, u68, u69, u70, u71, u72, u73, u74, u75, u76, u77, u78, u79, u80, u81, u82, u83, u84, u85, u86, u87, u88, u89, u90, u91, u92, u93, u94, u95, u96, u97, u98, u99, u100, u101, u102, u103, u104, u105, u106, u107, u108, u109, u110, u111, u112, u113, u114, u115, u116, u117, u118, u119, u120, u121, u122, u123, u124, u125, u126, u127, u128, u129, u130, u131, u132, u133, u134, u135, u136, u137, u138, u139, u140, u141, u142, u143, u144, u145, u146, u147, u148, u149, u150, u151, u152, u153, u154, u155, u156, u157, u158, u159, u160, u161, u162, u163, u164, u165, u166, u167, u168, y169, y170, y171, y172, y173, y174, y175, y176, y177, y178, y179, y180, y181, y182, y183, y184, y185, y186, y187, y188, y189, y190, y191, y192, y193, y194, y195, y196, y197, y198, y199, y200, y201, y202, y203, y204, y205, y206, y207, y208, y209, y210, y211, y212, y213, y214, y215, y216, y217, y218, y219, y220, y221, y222, y223, y224, y225, y226, y227, y228, y229, y230, y231, u232, u233, u234, u235, u236, u237, u238, u239, u240, u241, u242, u243, u244, u245, u246, u247, u248, u249, u250, u251, u252, u253, u254, u255, u256, u257, u258, u259, u260, u261, u262, u263, u264, u265, u266, u267, u268, u269, u270, u271, u272, u273, u274, u275], ds⟩ wx) :
    Code.wp Try.prog (hdBlk 4) Q ⟨#[u0, u1, u2, u3, u4, u5, u6, .pointer (some ⟨cb, 0, none⟩), u8, .pointer (some ⟨hb, 0, none⟩), u10, u11, u12, u13, u14, u15, u16, u17, .slice Ar q cr, .int .i64 0, u20, u21, u22, u23, u24, u25, u26, u27, u28, u29, u30, u31, u32, u33, u34, u35, u36, u37, u38, u39, u40, u41, u42, u43, u44, u45, u46, u47, u48, u49, u50, u51, u52, u53, u54, u55, u56, u57, u58, u59, u60, u61, u62, u63, u64, u65, u66, u67, u68, u69, u70, u71, u72, u73, u74, u75, u76, u77, u78, u79, u80, u81, u82, u83, u84, u85, u86, u87, u88, u89, u90, u91, u92, u93, u94, u95, u96, u97, u98, u99, u100, u101, u102, u103, u104, u105, u106, u107, u108, u109, u110, u111, u112, u113, u114, u115, u116, u117, u118, u119, u120, u121, u122, u123, u124, u125, u126, u127, u128, u129, u130, u131, u132, u133, u134, u135, u136, u137, u138, u139, u140, u141, u142, u143, u144, u145, u146, u147, u148, u149, u150, u151, u152, u153, u154, u155, u156, u157, u158, u159, u160, u161, u162, u163, u164, u165, u166, u167, u168, u169, u170, u171, u172, u173, u174, u175, u176, u177, u178, u179, u180, u181, u182, u183, u184, u185, u186, u187, u188, u189, u190, u191, u192, u193, u194, u195, u196, u197, u198, u199, u200, u201, u202, u203, u204, u205, u206, u207, u208, u209, u210, u211, u212, u213, u214, u215, u216, u217, u218, u219, u220, u221, u222, u223, u224, u225, u226, u227, u228, u229, u230, u231, u232, u233, u234, u235, u236, u237, u238, u239, u240, u241, u242, u243, u244, u245, u246, u247, u248, u249, u250, u251, u252, u253, u254, u255, u256, u257, u258, u259, u260, u261, u262, u263, u264, u265, u266, u267, u268, u269, u270, u271, u272, u273, u274, u275], ds⟩ wr := by
  have HH := Lib.hid h
  have HR := Lib.hid hR
  have HL := Lib.hid hL
  have HQ := Lib.hid hq
  have HK := Lib.hid hK
  have hq9 : q ≤ 1024 := by
    have h1 := congrArg List.length hL
    rw [List.length_map, ← hq] at h1
    have := h.ok.len
    omega
  have HW0 := Lib.hid (show ∃ w0, w0 = wr from ⟨_, rfl⟩)
  obtain ⟨w0, hw0⟩ := HW0.out
  have HW := Lib.hid (show Below w0.heap.size w0 wr by rw [hw0]; exact Below.refl _ _)
  rw [← hw0] at HH HR HK
  clear h hR hL hq hK hw0 HW0
  refine wp_of_calmH ?_
  conv => arg 2; whnf
  go_wp2_with fail
  go_loopw [19] (fun s19 wy => ∃ i : Nat, i ≤ q ∧ s19 = .int .i64 (i : Int) ∧ Below w0.heap.size w0 wy) (fun s19 _ => q - (intOf s19).toNat)
  case atStart => exact ⟨0, Nat.zero_le _, rfl, HW.out⟩
  case round =>
    clear HW
    obtain ⟨i, hi, rfl, hB⟩ := hrel
    have HB := Lib.hid hB
    have HKR := Lib.hid (HH.out.later hB)
    have HRR := Lib.hid (HR.out.below hB)
    clear hB
    by_cases hli : i < q
    · obtain ⟨a, haj⟩ : ∃ a, L[i]? = some a := ⟨_, List.getElem?_eq_getElem (by rw [← HQ.out]; exact hli)⟩
      obtain ⟨x, sv⟩ := a
      have hxi : T.all[i]? = some x := by rw [← HL.out, List.getElem?_map, haj]; rfl
      have hxm := List.mem_of_getElem? hxi
      obtain ⟨gr, cq, e8, _⟩ := own_form1 HRR.out.1 (by rw [← HQ.out]; omega)
      obtain ⟨rfl, rfl⟩ : Ar = some ⟨gr, 0, none⟩ ∧ cr = cq := by cases e8; exact ⟨rfl, rfl⟩
      have lp := rt_p HRR.out haj
      have HEN := Lib.hid (HKR.out.ent hxm)
      have HXM := Lib.hid hxm
      have HAJ := Lib.hid haj
      have i0 : (0 : Int) ≤ i := by omega
      have i1 : (i : Int) < q := by omega
      clear e8 hxm haj hxi
      go_upto_region 33 with (go_at_call 14; refine HEN.out.mono ?_; rintro en w5 ⟨rfl, hb5⟩; have HB5 := Lib.hid hb5; have st := stc_store vi_info (Blk.new w5 43 viZ) rfl (vs := viC T.pc x) rfl (by simp [viC, Value.oneCell']); obtain ⟨V, hV⟩ : ∃ Z, Z = (w5.alloc (.cells viZ 43)).setCells w5.heap.size 0 (viC T.pc x).toList := ⟨_, rfl⟩; rw [← hV] at st; unfold viZ at st; have HV := Lib.hid hV; clear hb5 hV)
      clear st lp
      obtain ⟨eb, heb⟩ : ∃ b, b = w5.heap.size := ⟨_, rfl⟩
      rw [← heb] at HV ⊢
      have hb5v : Below w5.heap.size w5 V := by
        rw [HV.out, ← heb]
        exact below_setCells (Nat.le_refl _) _ _ _ ((Below.refl _ _).alloc (by rw [heb]; exact Nat.le_refl _) _)
      have hbv : Below wr.heap.size wr V := HB5.out.trans (hb5v.mono HB5.out.size)
      have hkv : Blk V eb 43 (viC T.pc x) := by
        rw [HV.out, heb]
        exact blk_setCells (Blk.new w5 43 viZ) rfl
      have HKV := Lib.hid (HKR.out.later hbv)
      have HRV := Lib.hid (HRR.out.below hbv)
      have HBV := Lib.hid (HB.out.trans (hbv.mono HB.out.size))
      have HXB := Lib.hid hkv
      clear hb5v hbv hkv heb HV
      go_upto_block 6 with fail
      refine held6 HKV.out HRV.out HAJ.out HQ.out hq9 HXM.out HXB.out ?_
      intro z0 z1 z2 z3 z4 z5 z6 z7 z8 z9 z10 z11 z12 z13 z14 z15 z16 z17 z18 z19 z20 z21 z22 z23 z24 z25 z26 z27 z28 z29 z30 z31 z32 z33 z34 z35 z36 z37 z38 z39 z40 w6 hb6
      have hk6 := HXB.out.below hb6 HXB.out.lt
      have HB6 := Lib.hid (HBV.out.trans (hb6.mono HBV.out.size))
      have l4 := ld_bC (w := w6) (b := eb) (o := 4) (z := actF x) (hk6.cell 4)
      have l5 := ld_iC (w := w6) (b := eb) (o := 5) (z := distF T.pc x) (hk6.cell 5)
      have l7 := ld_iC (w := w6) (b := eb) (o := 7) (z := x.feas) (hk6.cell 7)
      clear hb6 hk6
      cases ha : actF x with
      | true =>
        rw [ha] at l4
        clear ha
        go_wp2_with fail
        go_roundw
        case rel => exact ⟨i + 1, by omega, by go_num, HB6.out⟩
        case measure => simp [intOf]; omega
      | false =>
        have hg : decide (distF T.pc x < x.feas) = false := decide_eq_false (pas_feas HKV.out.ok HXM.out ha)
        rw [ha] at l4
        clear ha
        go_wp2_with fail
        go_roundw
        case rel => exact ⟨i + 1, by omega, by go_num, HB6.out⟩
        case measure => simp [intOf]; omega
    · obtain rfl : i = q := by omega
      go_wp2_with fail
      exact HK.out _ _ _ _ _ _ _ _ _ _ _ _ _ _ _ _ _ _ _ _ _ _ _ _ _ _ _ _ _ _ _ _ _ _ _ _ _ _ _ _ _ _ _ _ _ _ _ _ _ _ _ _ _ _ _ _ _ _ _ _ _ _ _ _ _ _ _ _ _ _ _ _ _ HB.out
end Go.Proofs.Ytahdjfegihnolaa
