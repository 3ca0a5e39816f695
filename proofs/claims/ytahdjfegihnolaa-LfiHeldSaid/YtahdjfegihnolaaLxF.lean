/- Layer 12: LfiHeld's loop over the ports' maps (printed by gen_lxf.py). -/
import Derived.Test.YtahdjfegihnolaaLxE
namespace Go.Proofs.Ytahdjfegihnolaa
open Go.RowKit Go.Sort
/-- What Entry answers, in parts. -/
def heX (S : Lc) (p : Pf) : Array Value := match findE S.all p with
  | none => viZ
  | some x => viC S.pc x
def heB (S : Lc) (p : Pf) : Bool := match findE S.all p with
  | none => false
  | some _ => true
theorem EnF_he (S : Lc) (p : Pf) : EnF S p = .tuple #[.agg (heX S p), .bool (heB S p)] := by
  unfold EnF heX heB
  cases findE S.all p <;> rfl
theorem heX_size (S : Lc) (p : Pf) : (heX S p).size = 16 := by
  unfold heX
  cases findE S.all p <;> rfl
theorem heX_one (S : Lc) (p : Pf) : (heX S p).all (·.oneCell') = true := by
  unfold heX
  cases findE S.all p with
  | none => simp [viZ, Value.oneCell']
  | some x => simp [viC, Value.oneCell']
theorem HrK.enz {w wx : World} {cb hb : Nat} {mq : Nat → Option Nat} {H : Held} {N : Nat} {T : Lc} (h : HrK w wx cb hb mq H N T) {p : Pf} (hp : pfOk p) : Calls Try.prog 14 #[.pointer (some ⟨cb, 0, none⟩), .agg #[.int .u32 (p.1 : Int), .int .i64 p.2]] wx fun e w' => e = .returned (.tuple #[.agg (heX T p), .bool (heB T p)]) ∧ Below wx.heap.size wx w' := by
  obtain ⟨M, mb, h1⟩ := h.core
  have := core_entry h1 hp
  rwa [EnF_he] at this
set_option maxRecDepth 100000 in
set_option maxHeartbeats 8000000 in
attribute [-go_sem] Instr.storeAt Instr.loadAt Instr.build in
theorem held10 {u0 u1 u2 u3 u4 u5 u6 u8 u10 u11 u12 u13 u14 u15 u16 u17 u18 u19 u20 u21 u22 u23 u24 u25 u26 u28 u29 u30 u31 u32 u33 u34 u35 u36 u37 u38 u39 u40 u41 u42 u43 u44 u45 u46 u47 u48 u49 u50 u51 u52 u53 u54 u55 u56 u57 u58 u59 u60 u61 u62 u63 u64 u65 u66 u67 u68 u69 u70 u71 u72 u73 u74 u75 u76 u77 u78 u79 u80 u81 u82 u83 u84 u85 u86 u87 u88 u89 u90 u91 u92 u93 u94 u95 u96 u97 u98 u99 u100 u101 u102 u103 u104 u105 u106 u107 u108 u109 u110 u111 u112 u113 u114 u115 u116 u117 u118 u119 u120 u121 u122 u123 u124 u125 u126 u127 u128 u129 u130 u131 u132 u133 u134 u135 u136 u137 u138 u139 u140 u141 u142 u143 u144 u145 u146 u147 u148 u149 u150 u151 u152 u153 u154 u155 u156 u157 u158 u159 u160 u161 u162 u163 u164 u165 u166 u167 u168 u169 u170 u171 u172 u173 u174 u175 u176 u177 u178 u179 u180 u181 u182 u183 u184 u185 u186 u187 u188 u189 u190 u191 u192 u193 u194 u195 u196 u197 u198 u199 u200 u201 u202 u203 u204 u205 u206 u207 u208 u209 u210 u211 u212 u213 u214 u215 u216 u217 u218 u219 u220 u221 u222 u223 u224 u225 u226 u227 u228 u229 u230 u231 u232 u233 u234 u235 u236 u237 u238 u239 u240 u241 u242 u243 u244 u245 u246 u247 u248 u249 u250 u251 u252 u253 u254 u255 u256 u257 u258 u259 u260 u261 u262 u263 u264 u265 u266 u267 u268 u269 u270 u271 u272 u273 u274 u275 : Value} {Q : Exit → Act → World → Prop} {ds : List Deferred} {w wr : World} {cb hb : Nat} {mq : Nat → Option Nat} {H : Held} {N : Nat} {T : Lc}
    (h : HrK w wr cb hb mq H N T)
    (hK : ∀ (y6 y27 y28 y29 y30 y31 y32 y33 y34 y232 y233 y234 y235 y236 y237 y238 y239 y240 y241 y242 y243 y244 y245 y246 y247 y248 y249 y250 y251 y252 y253 y254 y255 y256 y257 y258 y259 y260 y261 y262 y263 y264 y265 y266 y267 y268 y269 y270 y271 y272 y273 y274 : Value) (wx : World), Below wr.heap.size wr wx → Q .normal ⟨#[u0, u1, u2, u3, u4, u5, y6, .pointer (some ⟨cb, 0, none⟩), u8, .pointer (some ⟨hb, 0, none⟩), u10, u11, u12, u13, u14, u15, u16, u17, u18, u19, u20, u21, u22, u23, u24, u25, u26, y27, y28, y29, y30, y31, y32, y33, y34, u35, u36, u37, u38, u39, u40, u41, u42, u43, u44, u45, u46, u47, u48, u49, u50, u51, u52, u53, u54, u55, u56, u57, u58, u59, u60, u61, u62, u63, u64, u65, u66, u67, u68, u69, u70, u71, u72, u73, u74, u75, u76, u77, u78, u79, u80, u81, u82, u83, u84, u85, u86, u87, u88, u89, u90, u91, u92, u93, u94, u95, u96, u97, u98, u99, u100, u101, u102, u103, u104, u105, u106, u107, u108, u109, u110, u111, u112, u113, u114, u115, u116, u117, u118, u119, u120, u121, u122, u123, u124, u125, u126, u127, u128, u129, u130, u131, u132, u133, u134, u135, u136, u137, u138, u139, u140, u141, u142, u143, u144, u145, u146, u147, u148, u149, u150, u151, u152, u153, u154, u155, u156, u157, u158, u159, u160, u161, u162, u163, u164, u165, u166, u167, u168, u169, u170, u171, u172, u173, u174, u175, u176, u177, u178, u179, u180, u181, u182, u183, u184, u185, u186, u187, u188, u189, u190, u191, u192, u193, u194, u195, u196, u197, u198, u199, u200, u201, u202, u203, u204, u205, u206, u207, u208, u209, u210, u211, u212, u213, u214, u215, u216, u217, u218, u219, u220, u221, u222, u223, u224, u225, u226, u227, u228, u229, u230, u231, y232, y233, y234, y235, y236, y237, y238, y239, y240, y241, y242, y243, y244, y245, y246, y247, y248, y249, y250, y251, y252, y253, y254, y255, y256, y257, y258, y259, y260, y261, y262, y263, y264, y265, y266, y267, y268, y269, y270, y271, y272, y273, y274, u275], ds⟩ wx) :
    Code.wp Try.prog (hdBlk 10) Q ⟨#[u0, u1, u2, u3, u4, u5, u6, .pointer (some ⟨cb, 0, none⟩), u8, .pointer (some ⟨hb, 0, none⟩), u10, u11, u12, u13, u14, u15, u16, u17, u18, u19, u20, u21, u22, u23, u24, u25, u26, .int .i64 0, u28, u29, u30, u31, u32, u33, u34, u35, u36, u37, u38, u39, u40, u41, u42, u43, u44, u45, u46, u47, u48, u49, u50, u51, u52, u53, u54, u55, u56, u57, u58, u59, u60, u61, u62, u63, u64, u65, u66, u67, u68, u69, u70, u71, u72, u73, u74, u75, u76, u77, u78, u79, u80, u81, u82, u83, u84, u85, u86, u87, u88, u89, u90, u91, u92, u93, u94, u95, u96, u97, u98, u99, u100, u101, u102, u103, u104, u105, u106, u107, u108, u109, u110, u111, u112, u113, u114, u115, u116, u117, u118, u119, u120, u121, u122, u123, u124, u125, u126, u127, u128, u129, u130, u131, u132, u133, u134, u135, u136, u137, u138, u139, u140, u141, u142, u143, u144, u145, u146, u147, u148, u149, u150, u151, u152, u153, u154, u155, u156, u157, u158, u159, u160, u161, u162, u163, u164, u165, u166, u167, u168, u169, u170, u171, u172, u173, u174, u175, u176, u177, u178, u179, u180, u181, u182, u183, u184, u185, u186, u187, u188, u189, u190, u191, u192, u193, u194, u195, u196, u197, u198, u199, u200, u201, u202, u203, u204, u205, u206, u207, u208, u209, u210, u211, u212, u213, u214, u215, u216, u217, u218, u219, u220, u221, u222, u223, u224, u225, u226, u227, u228, u229, u230, u231, u232, u233, u234, u235, u236, u237, u238, u239, u240, u241, u242, u243, u244, u245, u246, u247, u248, u249, u250, u251, u252, u253, u254, u255, u256, u257, u258, u259, u260, u261, u262, u263, u264, u265, u266, u267, u268, u269, u270, u271, u272, u273, u274, u275], ds⟩ wr := by
  have HH := Lib.hid h
  have HK := Lib.hid hK
  have HW0 := Lib.hid (show ∃ w0, w0 = wr from ⟨_, rfl⟩)
  obtain ⟨w0, hw0⟩ := HW0.out
  have HW := Lib.hid (show Below w0.heap.size w0 wr by rw [hw0]; exact Below.refl _ _)
  rw [← hw0] at HH HK
  clear h hK hw0 HW0
  refine wp_of_calmH ?_
  conv => arg 2; whnf
  go_wp2_with fail
  go_loopw [27] (fun s27 wy => ∃ r : Nat, r ≤ 8 ∧ s27 = .int .i64 (r : Int) ∧ Below w0.heap.size w0 wy) (fun s27 _ => 8 - (intOf s27).toNat)
  case atStart => exact ⟨0, by omega, rfl, HW.out⟩
  case round =>
    clear HW
    obtain ⟨r, hr, rfl, hBz⟩ := hrel
    have HBz := Lib.hid hBz
    have HKR := Lib.hid (HH.out.later hBz)
    clear hBz
    by_cases hlr : r < 8
    · have hup := HKR.out.up (r : Int)
      have r0 : (0 : Int) ≤ r := by omega
      have r1 : (r : Int) < 8 := by omega
      have lm := HKR.out.hd.ldm hlr
      obtain ⟨bu, hbu⟩ : ∃ b, b = T.pc.up r := ⟨_, rfl⟩
      obtain ⟨cst, hcst⟩ : ∃ z, z = (upsR T.pc (r : Int)).1 := ⟨_, rfl⟩
      have hur : (upsR T.pc (r : Int)).2 = bu := by
        unfold upsR
        rw [hbu]
        cases hu : T.pc.up r with
        | true => rw [if_pos ⟨r0, r1, hu⟩]
        | false => rw [if_neg (fun e => by rw [show T.pc.up (r : Int).toNat = false from hu] at e; cases e.2.2)]
      rw [← hcst, hur] at hup
      have HUP := Lib.hid hup
      have HBU := Lib.hid hbu
      have HL8 := Lib.hid hlr
      clear hup hur hbu hcst
      cases hm : mq r with
      | none =>
        rw [hm] at lm
        have hr := run_range_nilMap (P := Try.prog) wr 50 _ _ Try.underlying50
        obtain ⟨ro, hro⟩ : ∃ b, b = wr.heap.size := ⟨_, rfl⟩
        obtain ⟨W1, hW1⟩ : ∃ Z, Z = wr.alloc (.mapIter none 0 #[] 0) := ⟨_, rfl⟩
        have hnx := run_next_nilMap (P := Try.prog) wr 0 0 0 #[]
        rw [← hro, ← hW1] at hr hnx
        have HB1 := Lib.hid (show Below w0.heap.size w0 W1 by rw [hW1]; exact HBz.out.alloc HBz.out.size _)
        have HNX := Lib.hid hnx
        clear hm hro hW1 hnx
        go_upto_region 51 with (go_at_call 15; refine HUP.out.mono ?_; rintro en w' ⟨rfl, rfl⟩)
        go_wp2_with fail
        clear lm hr
        go_loopw [] (fun wz => wz = W1) (fun _ => 0)
        case atStart => rfl
        case round =>
          obtain rfl := hrel
          have hnx := HNX.out
          go_wp2_with fail
          go_roundw
          case rel => exact ⟨r + 1, by omega, by go_num, HB1.out⟩
          case measure => simp [intOf]; omega
      | some mb =>
        rw [hm] at lm
        obtain ⟨_, F, s, _, hmv, hdf⟩ := HKR.out.hd.map r hlr mb hm
        obtain ⟨W1, lf, hr, hra, hl, hb1, hs1⟩ := hmv.range pfKeyed Try.underlying50
        obtain ⟨ro, hro⟩ : ∃ b, b = wr.heap.size := ⟨_, rfl⟩
        have HMB := Lib.hid hmv.lt
        rw [← hro] at hr hra
        have HRO := Lib.hid hro
        have HDF := Lib.hid hdf
        have HRA := Lib.hid hra
        have HB1 := Lib.hid hb1
        clear hm hro hmv hdf hra hl hb1 hs1
        go_upto_region 51 with (go_at_call 15; refine HUP.out.mono ?_; rintro en w' ⟨rfl, rfl⟩)
        go_wp2_with fail
        clear lm hr
        go_loopw [] (fun wz => ∃ (left : Lit → Bool) (cnt : Nat), RangeV Try.prog 36 wz mb ro s F left cnt ∧ Below wr.heap.size wr wz) (fun wz => wz.rangeLeft mb ro)
        case atStart => exact ⟨_, _, HRA.out, HB1.out⟩
        case round =>
          clear HRA HB1
          obtain ⟨left, cnt, hR, hB⟩ := hrel
          rcases hR.next pfKeyed 0 with ⟨_, _, hrun⟩ | ⟨key, v, kl, w2, cnt2, a1, a2, a3, a4, hrun, hR2, hlt, hg2, hs2, hent⟩
          · have HBE := Lib.hid (HBz.out.trans (hB.mono HBz.out.size))
            clear hR hB
            go_wp2_with fail
            go_roundw
            case rel => exact ⟨r + 1, by omega, by go_num, HBE.out⟩
            case measure => simp [intOf]; omega
          · obtain ⟨p, hp, rfl⟩ := HDF.out.keys kl v a4 a2
            obtain rfl : key = pfV p := pfKeyed.inj a1 (pfL_key hp)
            have hv := HDF.out.at_ p hp
            rw [a4] at hv
            obtain ⟨A, n, c, rfl, hn, hc, hrd⟩ := hv
            have hB2 := hB.grown hg2 hB.size fun j e => by injection e with e; have := HRO.out; omega
            obtain ⟨V, hV⟩ : ∃ Z, Z = w2.alloc (.cells #[.int .u32 (p.1 : Int), .int .i64 p.2] 36) := ⟨_, rfl⟩
            have sp := st_pf_new w2 (p.1 : Int) p.2
            obtain ⟨pb, hpb⟩ : ∃ b, b = w2.heap.size := ⟨_, rfl⟩
            rw [← hV] at sp
            have hbv : Below w2.heap.size w2 V := by rw [hV]; exact (Below.refl _ _).alloc (Nat.le_refl _) _
            have HKP := Lib.hid (show Blk V pb 36 (pfC p) by rw [hV, hpb]; exact Blk.new _ _ _)
            have hbV := hB2.trans (hbv.mono hB2.size)
            have HBV := Lib.hid hbV
            have HKV := Lib.hid (HKR.out.later hbV)
            have HRV := Lib.hid (hR2.below hbv)
            have HRD := Lib.hid (And.intro hn (And.intro hc (hrd.below hbV)))
            have HLT := Lib.hid (show cnt2 < wr.rangeLeft mb ro by rw [hR.left_eq]; exact hlt)
            have HPO := Lib.hid hp
            have HPB := Lib.hid hpb
            have HEN := Lib.hid (HKV.out.enz hp)
            unfold pfV pfC at hrun hent
            have hn9 : n ≤ 100000000 := by rw [hn]; exact HH.out.hl _ _
            clear hR hB a1 a2 a3 a4 hR2 hlt hg2 hs2 hp hn hc hrd hB2 hV hbv hbV hpb
            go_upto_region 54 with (fail)
            rw [← HPB.out]
            clear sp hrun hent
            have lpf := ld_pf HKP.out
            go_upto_region 55 with (go_at_call 14; refine HEN.out.mono ?_; rintro en w5 ⟨rfl, hb5⟩; have HB5 := Lib.hid hb5; have st := stc_store vi_info (Blk.new w5 43 viZ) rfl (vs := heX T p) (heX_size _ _) (heX_one _ _); obtain ⟨V5, hV5⟩ : ∃ Z, Z = (w5.alloc (.cells viZ 43)).setCells w5.heap.size 0 (heX T p).toList := ⟨_, rfl⟩; rw [← hV5] at st; unfold viZ at st; have HV5 := Lib.hid hV5; clear hb5 hV5)
            clear st lpf
            obtain ⟨xb, hxb⟩ : ∃ b, b = w5.heap.size := ⟨_, rfl⟩
            have hbv5 : Below w5.heap.size w5 V5 := by
              rw [HV5.out]
              exact below_setCells (Nat.le_refl _) _ _ _ ((Below.refl _ _).alloc (Nat.le_refl _) _)
            have hbc5 := HB5.out.trans (hbv5.mono HB5.out.size)
            have HB6 := Lib.hid (HBV.out.trans (hbc5.mono HBV.out.size))
            have HR6 := Lib.hid (HRV.out.below hbc5)
            have HD6 := Lib.hid (HRD.out.2.2.below hbc5)
            rw [← hxb]
            obtain ⟨bI, hbI⟩ : ∃ b, b = heB T p := ⟨_, rfl⟩
            rw [← hbI]
            have HBI := Lib.hid hbI
            clear hbv5 hbc5 hxb hbI
            go_wp2_with fail
            go_loopw [34] (fun s34 wz => ∃ j : Nat, j ≤ n ∧ s34 = .int .i64 (j : Int) ∧ Below V5.heap.size V5 wz) (fun s34 _ => n - (intOf s34).toNat)
            case atStart => exact ⟨0, Nat.zero_le _, rfl, Below.refl _ _⟩
            case round =>
              obtain ⟨j, hj, rfl, hBz2⟩ := hrel
              have HB7 := Lib.hid hBz2
              clear hBz2
              by_cases hlj : j < n
              · have hd2 : decide ((j : Int) < (n : Int)) = true := decide_eq_true (by omega)
                cases bu with
                | false =>
                  go_wp2_with fail
                  go_roundw
                  case rel => exact ⟨_, _, HR6.out.below HB7.out, HB6.out.trans (HB7.out.mono HB6.out.size)⟩
                  case measure => rw [(HR6.out.below HB7.out).left_eq]; exact HLT.out
                | true =>
                  cases bI with
                  | true =>
                    go_wp2_with fail
                    go_roundw
                    case rel => exact ⟨_, _, HR6.out.below HB7.out, HB6.out.trans (HB7.out.mono HB6.out.size)⟩
                    case measure => rw [(HR6.out.below HB7.out).left_eq]; exact HLT.out
                  | false =>
                    obtain ⟨z, hz⟩ : ∃ z, (H r p)[j]? = some z := ⟨_, List.getElem?_eq_getElem (by have := HRD.out.1; omega)⟩
                    have hnf : findE T.all p = none := by
                      have := HBI.out
                      unfold heB at this
                      cases hf : findE T.all p with
                      | none => rfl
                      | some x => rw [hf] at this; cases this
                    have h255 := held_none HKR.out.hi HBU.out.symm hnf z (List.mem_of_getElem? hz)
                    obtain ⟨ad, rfl, l1⟩ := (HD6.out.below HB7.out).ld hz
                    rw [h255] at l1
                    have j0 : (0 : Int) ≤ j := by omega
                    have j1 : (j : Int) < n := by omega
                    clear hz hnf h255
                    go_wp2_with fail
                    go_roundw
                    case rel => exact ⟨j + 1, by omega, by go_num, HB7.out⟩
                    case measure => simp [intOf]; omega
              · obtain rfl : j = n := by omega
                go_wp2_with fail
                go_roundw
                case rel => exact ⟨_, _, HR6.out.below HB7.out, HB6.out.trans (HB7.out.mono HB6.out.size)⟩
                case measure => rw [(HR6.out.below HB7.out).left_eq]; exact HLT.out
    · obtain rfl : r = 8 := by omega
      go_wp2_with fail
      exact HK.out _ _ _ _ _ _ _ _ _ _ _ _ _ _ _ _ _ _ _ _ _ _ _ _ _ _ _ _ _ _ _ _ _ _ _ _ _ _ _ _ _ _ _ _ _ _ _ _ _ _ _ _ _ HBz.out
end Go.Proofs.Ytahdjfegihnolaa
