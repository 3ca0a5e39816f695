/- RelWhole: both ends have their turns. -/
import Derived.Test.YtmkjnblmgofoeaaWho49
import Derived.Test.YtmkjnblmgofoeaaWho9
namespace Go.Proofs.Ytmkjnblmgofoeaa
open Go.RowKit

set_option maxRecDepth 100000 in
set_option maxHeartbeats 16000000 in
theorem who_7 {u1 u2 u3 u4 u5 u6 u12 u13 u14 u15 u16 u17 u18 u20 u21 u22 u23 u24 u25 u26 u27 u28 u29 u30 u31 u32 u33 u34 u35 u36 u37 u38 u39 u40 u41 u42 u43 u44 u45 u46 u47 u48 u49 u50 u51 u52 u53 u54 u55 u56 u57 u58 u59 u60 u61 u62 u63 u64 u65 u66 u67 u68 u69 u70 u71 u72 u73 u74 u75 u76 u77 u78 u79 u80 u81 u82 u83 u84 u85 u86 u87 u88 u89 u90 u91 u92 u93 u94 u95 u96 u97 u98 u99 u100 u101 u102 u103 u104 u105 u106 u107 u108 u109 u110 u111 u112 u113 u114 u115 u116 u117 u118 u119 u120 u121 u122 u123 u124 u125 u126 u127 u128 u129 u130 u131 u132 u133 u134 u135 u136 u137 u138 u139 u140 u141 u142 u143 u144 u145 u146 u147 u148 u149 u150 u151 u152 u153 u154 u155 u156 u157 u158 u159 u160 u161 u162 u163 u164 u165 u166 u167 u168 u169 u170 u171 u172 u173 u174 u175 u176 u177 u178 u179 u180 u181 u182 u183 u184 u185 u186 u187 u188 u189 u190 u191 u192 u193 u194 u195 u196 u197 u198 u199 u200 u201 u202 u203 u204 u205 u206 u207 u208 u209 u210 u211 u212 u213 u214 u215 u216 u217 u218 u219 u220 u221 u222 u223 u224 u225 u226 u227 u228 u229 u230 u231 u232 u233 u234 u235 u236 u237 u238 u239 u240 u241 u242 u243 u244 u245 u246 u247 u248 u249 u250 u251 u252 u253 u254 u255 u256 u257 u258 u259 u260 u261 u262 u263 u264 u265 u266 u267 u268 u269 u270 u271 u272 u273 u274 u275 u276 u277 u278 u279 u280 u281 u282 u283 u284 u285 u286 u287 u288 u289 u290 u291 u292 u293 u294 u295 u296 u297 u298 u299 u300 u301 u302 u303 u304 : Value} {K K4 K5 : Act → World → Prop} {R : Ending → World → Prop} {w wc : World} {ad : Option Addr} {n c k : Nat} {lab : Nat → Nat} {q : Fs} {v : Vv} (md : Mid w wc lab q v k) (hF : ∀ f, f < 2 → (q.F f).length ≤ 4200) (hk : k ≤ 300)
    (hK : ∀ (x2 x19 x20 x21 x243 x244 x245 x246 x247 x248 x249 x250 x251 x252 x253 x254 x255 x256 x257 x258 x259 x260 x261 x262 x263 x264 x265 x266 x267 x268 x269 x270 x271 x272 x273 x274 x275 : Value) (wx : World), (∃ lab2 q2 v2, Mid w wx lab2 q2 v2 k ∧ (∀ f, f < 2 → (q2.F f).length ≤ 4200) ∧ q2.y 0 = (q.y 0).round) → K ⟨#[.slice ad n c, u1, x2, u3, u4, u5, u6, .pointer (some ⟨w.heap.size + 1 + 1, 0, none⟩), .pointer (some ⟨w.heap.size + 1 + 1 + 1, 0, none⟩), .pointer (some ⟨w.heap.size + 1 + 1 + 1 + 1, 0, none⟩), .pointer (some ⟨w.heap.size + 1 + 1 + 1 + 1 + 1, 0, none⟩), .func (.func 12) #[] #[.pointer (some ⟨w.heap.size + 1 + 1, 0, none⟩), .pointer (some ⟨w.heap.size + 1 + 1 + 1 + 1 + 1, 0, none⟩)], u12, u13, u14, u15, u16, u17, u18, x19, x20, x21, u22, u23, u24, u25, u26, u27, u28, u29, u30, u31, u32, u33, u34, u35, u36, u37, u38, u39, u40, u41, u42, u43, u44, u45, u46, u47, u48, u49, u50, u51, u52, u53, u54, u55, u56, u57, u58, u59, u60, u61, u62, u63, u64, u65, u66, u67, u68, u69, u70, u71, u72, u73, u74, u75, u76, u77, u78, u79, u80, u81, u82, u83, u84, u85, u86, u87, u88, u89, u90, u91, u92, u93, u94, u95, u96, u97, u98, u99, u100, u101, u102, u103, u104, u105, u106, u107, u108, u109, u110, u111, u112, u113, u114, u115, u116, u117, u118, u119, u120, u121, u122, u123, u124, u125, u126, u127, u128, u129, u130, u131, u132, u133, u134, u135, u136, u137, u138, u139, u140, u141, u142, u143, u144, u145, u146, u147, u148, u149, u150, u151, u152, u153, u154, u155, u156, u157, u158, u159, u160, u161, u162, u163, u164, u165, u166, u167, u168, u169, u170, u171, u172, u173, u174, u175, u176, u177, u178, u179, u180, u181, u182, u183, u184, u185, u186, u187, u188, u189, u190, u191, u192, u193, u194, u195, u196, u197, u198, u199, u200, u201, u202, u203, u204, u205, u206, u207, u208, u209, u210, u211, u212, u213, u214, u215, u216, u217, u218, u219, u220, u221, u222, u223, u224, u225, u226, u227, u228, u229, u230, u231, u232, u233, u234, u235, u236, u237, u238, u239, u240, u241, u242, x243, x244, x245, x246, x247, x248, x249, x250, x251, x252, x253, x254, x255, x256, x257, x258, x259, x260, x261, x262, x263, x264, x265, x266, x267, x268, x269, x270, x271, x272, x273, x274, x275, u276, u277, u278, u279, u280, u281, u282, u283, u284, u285, u286, u287, u288, u289, u290, u291, u292, u293, u294, u295, u296, u297, u298, u299, u300, u301, u302, u303, u304], []⟩ wx) :
    Code.wp Try.prog (whoBlk 7) (Exit.inBlock 6 (Exit.then K (Exit.then K4 (Exit.inBlock 5 (Exit.then K5 (bodyPost Try.prog Try.f4 R)))))) ⟨#[.slice ad n c, u1, u2, u3, u4, u5, u6, .pointer (some ⟨w.heap.size + 1 + 1, 0, none⟩), .pointer (some ⟨w.heap.size + 1 + 1 + 1, 0, none⟩), .pointer (some ⟨w.heap.size + 1 + 1 + 1 + 1, 0, none⟩), .pointer (some ⟨w.heap.size + 1 + 1 + 1 + 1 + 1, 0, none⟩), .func (.func 12) #[] #[.pointer (some ⟨w.heap.size + 1 + 1, 0, none⟩), .pointer (some ⟨w.heap.size + 1 + 1 + 1 + 1 + 1, 0, none⟩)], u12, u13, u14, u15, u16, u17, u18, .int .i64 0, u20, u21, u22, u23, u24, u25, u26, u27, u28, u29, u30, u31, u32, u33, u34, u35, u36, u37, u38, u39, u40, u41, u42, u43, u44, u45, u46, u47, u48, u49, u50, u51, u52, u53, u54, u55, u56, u57, u58, u59, u60, u61, u62, u63, u64, u65, u66, u67, u68, u69, u70, u71, u72, u73, u74, u75, u76, u77, u78, u79, u80, u81, u82, u83, u84, u85, u86, u87, u88, u89, u90, u91, u92, u93, u94, u95, u96, u97, u98, u99, u100, u101, u102, u103, u104, u105, u106, u107, u108, u109, u110, u111, u112, u113, u114, u115, u116, u117, u118, u119, u120, u121, u122, u123, u124, u125, u126, u127, u128, u129, u130, u131, u132, u133, u134, u135, u136, u137, u138, u139, u140, u141, u142, u143, u144, u145, u146, u147, u148, u149, u150, u151, u152, u153, u154, u155, u156, u157, u158, u159, u160, u161, u162, u163, u164, u165, u166, u167, u168, u169, u170, u171, u172, u173, u174, u175, u176, u177, u178, u179, u180, u181, u182, u183, u184, u185, u186, u187, u188, u189, u190, u191, u192, u193, u194, u195, u196, u197, u198, u199, u200, u201, u202, u203, u204, u205, u206, u207, u208, u209, u210, u211, u212, u213, u214, u215, u216, u217, u218, u219, u220, u221, u222, u223, u224, u225, u226, u227, u228, u229, u230, u231, u232, u233, u234, u235, u236, u237, u238, u239, u240, u241, u242, u243, u244, u245, u246, u247, u248, u249, u250, u251, u252, u253, u254, u255, u256, u257, u258, u259, u260, u261, u262, u263, u264, u265, u266, u267, u268, u269, u270, u271, u272, u273, u274, u275, u276, u277, u278, u279, u280, u281, u282, u283, u284, u285, u286, u287, u288, u289, u290, u291, u292, u293, u294, u295, u296, u297, u298, u299, u300, u301, u302, u303, u304], []⟩ wc := by
  have MD := Lib.hid md
  have HF := Lib.hid hF
  have HKK := Lib.hid hK
  clear md hF hK
  conv => arg 2; whnf
  go_wp2_with fail
  go_loopg [19] 2 (fun g s19 wr => ∃ (d : Nat) (lab2 : Nat → Nat) (q2 : Fs) (v2 : Vv), d + g = 2 ∧ s19 = .int .i64 (d : Int) ∧ Mid w wr lab2 q2 v2 k ∧ (∀ f, f < 2 → (q2.F f).length ≤ 4200) ∧ q2.y 0 = (if d = 0 then q.y 0 else if d = 1 then (q.y 0).turn else (q.y 0).round))
  case atStart => exact ⟨0, lab, q, v, rfl, rfl, MD.out, HF.out, rfl⟩
  case round =>
    obtain ⟨f, lab2, q2, v2, hfg, rfl, mr, hF2, hy⟩ := hrel
    by_cases hf : f < 2
    · obtain ⟨o, hfo⟩ : ∃ o, f + o = 1 := ⟨1 - f, by omega⟩
      have hne : o ≠ f := by omega
      have MR := Lib.hid mr
      have HF2 := Lib.hid hF2
      have HY := Lib.hid hy
      have f0 : (0 : Int) ≤ f := by omega
      have f1 : (f : Int) < 2 := by omega
      have hd2 : decide ((f : Int) < 2) = true := decide_eq_true f1
      clear mr hF2 hy
      go_upto_region 49 with fail
      refine who_49 (f := f) (o := o) MR.out hfo (HF2.out f hf) hk ?_
      intro x20 x247 x248 x249 x250 x251 x252 x253 x254 x255 x256 x257 x258 x259 w5 ⟨lab5, v5, A5, m5, c5, hx, hm5, W5, hv5, ha5, hg5, hb5, hc5⟩
      subst hx
      have cc5 := W5.af.cell hf
      obtain ⟨A6, m6, c6, hold, _⟩ := fly_form MR.out.st hf
      rw [ha5, MR.out.e1, hold] at cc5
      have cf5 := W5.af.1.frozen f
      obtain ⟨lab6, hp6, W6⟩ := W5.outF hf
      rw [hv5] at hp6
      have W6' := Lib.hid W6
      have HP6 := Lib.hid hp6
      have e6 : up v5.av f (.slice none 0 0) = up v5.fv f (.slice none 0 0) := by
        funext g
        by_cases e : g = f
        · subst e; rw [up_same, up_same]
        · rw [up_other _ _ e, up_other _ _ e, ha5, MR.out.e1, hg5 g e]
      have E6 := Lib.hid e6
      have HB5 := Lib.hid (And.intro hb5 hc5)
      clear W5 W6 hp6 hv5 ha5 hg5 hb5 hc5 e6 hm5 hold
      go_upto_block 9 with fail
      refine who_9 (f := f) (o := o) (q := sentQ q2 f) W6'.out E6.out HB5.out.1 HB5.out.2 (MR.out.ok.sent hfo) (fun g hg => Nat.le_trans (MR.out.s g hg) hk) rfl HP6.out hfo ?_
      intro x2 x21 x262 x263 x264 x265 x266 x267 x268 x269 x270 x271 x272 x273 x274 x275 w7 ⟨lab7, v7, W7, z1, z2, z3⟩
      have M7 : Mid w w7 lab7 (turnQ q2 f o) v7 k := ⟨W7, z1, z2, z3, MR.out.ok.turn hfo, MR.out.s⟩
      have HM7 := Lib.hid M7
      clear W7 z1 z2 z3 M7
      go_wp2_with fail
      go_roundg (gk - 1)
      case measure => omega
      case rel =>
        refine ⟨f + 1, lab7, turnQ q2 f o, v7, by omega, by simp, HM7.out, fun g hg => ?_, ?_⟩
        · show (up (sentQ q2 f).F f [] g).length ≤ 4200
          by_cases e : g = f
          · subst e; rw [up_same]; exact Nat.zero_le _
          · rw [up_other _ _ e, (sentQ_o q2 e).2.1]; exact HF2.out g hg
        · have ht := turnQ_y q2 hfo
          have hy := HY.out
          rcases (show f = 0 ∨ f = 1 by omega) with rfl | rfl
          · rw [if_pos rfl] at hy
            rw [if_neg (by omega), if_pos rfl, ht, hy]
          · obtain rfl : o = 0 := by omega
            rw [if_neg (by omega), if_pos rfl] at hy
            rw [if_neg (by omega), if_neg (by omega)]
            have h1 : (turnQ q2 1 0).y 0 = ((turnQ q2 1 0).y 1).swap := rfl
            have h2 : q2.y 1 = (q2.y 0).swap := rfl
            rw [h1, ht, h2, hy]
            rfl
    · obtain rfl : f = 2 := by omega
      go_wp2_with fail
      exact HKK.out _ _ _ _ _ _ _ _ _ _ _ _ _ _ _ _ _ _ _ _ _ _ _ _ _ _ _ _ _ _ _ _ _ _ _ _ _ _ ⟨lab2, q2, v2, mr, hF2, by rw [hy]; rfl⟩

end Go.Proofs.Ytmkjnblmgofoeaa
