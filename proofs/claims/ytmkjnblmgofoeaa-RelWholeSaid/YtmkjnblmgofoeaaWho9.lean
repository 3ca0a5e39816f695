/- RelWhole: each of those that come is taken. -/
import Derived.Test.YtmkjnblmgofoeaaWhoE
namespace Go.Proofs.Ytmkjnblmgofoeaa
open Go.RowKit

theorem own_max {w : World} {base : Nat} {e : TypeId} {size n : Nat} {v : Value} {xs : List Value} (h : w.ownsRow base e size v n xs) : n ≤ maxLen := by
  rcases h.2 with ⟨_, h⟩ | ⟨g, cap, cur, _, _, _, hnc, hcm, _⟩
  · have h0 := h
    first | omega | (subst h0; exact Nat.zero_le _)
  · omega

set_option maxRecDepth 100000 in
set_option maxHeartbeats 16000000 in
theorem who_9 {u1 u2 u3 u4 u5 u6 u12 u13 u14 u15 u16 u17 u18 u22 u23 u24 u25 u26 u27 u28 u29 u30 u31 u32 u33 u34 u35 u36 u37 u38 u39 u40 u41 u42 u43 u44 u45 u46 u47 u48 u49 u50 u51 u52 u53 u54 u55 u56 u57 u58 u59 u60 u61 u62 u63 u64 u65 u66 u67 u68 u69 u70 u71 u72 u73 u74 u75 u76 u77 u78 u79 u80 u81 u82 u83 u84 u85 u86 u87 u88 u89 u90 u91 u92 u93 u94 u95 u96 u97 u98 u99 u100 u101 u102 u103 u104 u105 u106 u107 u108 u109 u110 u111 u112 u113 u114 u115 u116 u117 u118 u119 u120 u121 u122 u123 u124 u125 u126 u127 u128 u129 u130 u131 u132 u133 u134 u135 u136 u137 u138 u139 u140 u141 u142 u143 u144 u145 u146 u147 u148 u149 u150 u151 u152 u153 u154 u155 u156 u157 u158 u159 u160 u161 u162 u163 u164 u165 u166 u167 u168 u169 u170 u171 u172 u173 u174 u175 u176 u177 u178 u179 u180 u181 u182 u183 u184 u185 u186 u187 u188 u189 u190 u191 u192 u193 u194 u195 u196 u197 u198 u199 u200 u201 u202 u203 u204 u205 u206 u207 u208 u209 u210 u211 u212 u213 u214 u215 u216 u217 u218 u219 u220 u221 u222 u223 u224 u225 u226 u227 u228 u229 u230 u231 u232 u233 u234 u235 u236 u237 u238 u239 u240 u241 u242 u243 u244 u245 u246 u247 u248 u249 u250 u251 u252 u253 u254 u255 u256 u257 u258 u259 u260 u261 u262 u263 u264 u265 u266 u267 u268 u269 u270 u271 u272 u273 u274 u275 u276 u277 u278 u279 u280 u281 u282 u283 u284 u285 u286 u287 u288 u289 u290 u291 u292 u293 u294 u295 u296 u297 u298 u299 u300 u301 u302 u303 u304 : Value} {K K2 K3 K4 K5 : Act → World → Prop} {R : Ending → World → Prop} {w wc : World} {ad A : Option Addr} {n c f o m c2 : Nat} {lab : Nat → Nat} {q : Fs} {v : Vv} {l : List Seg} (st : WSt w wc lab { q with F := up q.F f [] } v) (e1 : v.av = v.fv) (e2 : v.sa = v.sv) (e3 : v.ta = v.tv) (ok : OkF q) (hs : ∀ g, g < 2 → (q.sn g).length ≤ 300) (hl : q.F f = l) (hp : PFl lab wc 14 (.slice A m c2) l) (hfo : f + o = 1)
    (hK : ∀ (x2 x21 x262 x263 x264 x265 x266 x267 x268 x269 x270 x271 x272 x273 x274 x275 : Value) (wx : World), (∃ lab2 v2, WSt w wx lab2 { gotQ q o l with F := up q.F f [] } v2 ∧ v2.av = v2.fv ∧ v2.sa = v2.sv ∧ v2.ta = v2.tv) → K ⟨#[.slice ad n c, u1, x2, u3, u4, u5, u6, .pointer (some ⟨w.heap.size + 1 + 1, 0, none⟩), .pointer (some ⟨w.heap.size + 1 + 1 + 1, 0, none⟩), .pointer (some ⟨w.heap.size + 1 + 1 + 1 + 1, 0, none⟩), .pointer (some ⟨w.heap.size + 1 + 1 + 1 + 1 + 1, 0, none⟩), .func (.func 12) #[] #[.pointer (some ⟨w.heap.size + 1 + 1, 0, none⟩), .pointer (some ⟨w.heap.size + 1 + 1 + 1 + 1 + 1, 0, none⟩)], u12, u13, u14, u15, u16, u17, u18, .int .i64 (f : Int), .slice A m c2, x21, u22, u23, u24, u25, u26, u27, u28, u29, u30, u31, u32, u33, u34, u35, u36, u37, u38, u39, u40, u41, u42, u43, u44, u45, u46, u47, u48, u49, u50, u51, u52, u53, u54, u55, u56, u57, u58, u59, u60, u61, u62, u63, u64, u65, u66, u67, u68, u69, u70, u71, u72, u73, u74, u75, u76, u77, u78, u79, u80, u81, u82, u83, u84, u85, u86, u87, u88, u89, u90, u91, u92, u93, u94, u95, u96, u97, u98, u99, u100, u101, u102, u103, u104, u105, u106, u107, u108, u109, u110, u111, u112, u113, u114, u115, u116, u117, u118, u119, u120, u121, u122, u123, u124, u125, u126, u127, u128, u129, u130, u131, u132, u133, u134, u135, u136, u137, u138, u139, u140, u141, u142, u143, u144, u145, u146, u147, u148, u149, u150, u151, u152, u153, u154, u155, u156, u157, u158, u159, u160, u161, u162, u163, u164, u165, u166, u167, u168, u169, u170, u171, u172, u173, u174, u175, u176, u177, u178, u179, u180, u181, u182, u183, u184, u185, u186, u187, u188, u189, u190, u191, u192, u193, u194, u195, u196, u197, u198, u199, u200, u201, u202, u203, u204, u205, u206, u207, u208, u209, u210, u211, u212, u213, u214, u215, u216, u217, u218, u219, u220, u221, u222, u223, u224, u225, u226, u227, u228, u229, u230, u231, u232, u233, u234, u235, u236, u237, u238, u239, u240, u241, u242, u243, u244, u245, u246, u247, u248, u249, u250, u251, u252, u253, u254, u255, u256, u257, u258, u259, u260, u261, x262, x263, x264, x265, x266, x267, x268, x269, x270, x271, x272, x273, x274, x275, u276, u277, u278, u279, u280, u281, u282, u283, u284, u285, u286, u287, u288, u289, u290, u291, u292, u293, u294, u295, u296, u297, u298, u299, u300, u301, u302, u303, u304], []⟩ wx) :
    Code.wp Try.prog (whoBlk 9) (Exit.inBlock 8 (Exit.then K (Exit.then K2 (Exit.inBlock 7 (Exit.inBlock 6 (Exit.then K3 (Exit.then K4 (Exit.inBlock 5 (Exit.then K5 (bodyPost Try.prog Try.f4 R)))))))))) ⟨#[.slice ad n c, u1, u2, u3, u4, u5, u6, .pointer (some ⟨w.heap.size + 1 + 1, 0, none⟩), .pointer (some ⟨w.heap.size + 1 + 1 + 1, 0, none⟩), .pointer (some ⟨w.heap.size + 1 + 1 + 1 + 1, 0, none⟩), .pointer (some ⟨w.heap.size + 1 + 1 + 1 + 1 + 1, 0, none⟩), .func (.func 12) #[] #[.pointer (some ⟨w.heap.size + 1 + 1, 0, none⟩), .pointer (some ⟨w.heap.size + 1 + 1 + 1 + 1 + 1, 0, none⟩)], u12, u13, u14, u15, u16, u17, u18, .int .i64 (f : Int), .slice A m c2, .int .i64 0, u22, u23, u24, u25, u26, u27, u28, u29, u30, u31, u32, u33, u34, u35, u36, u37, u38, u39, u40, u41, u42, u43, u44, u45, u46, u47, u48, u49, u50, u51, u52, u53, u54, u55, u56, u57, u58, u59, u60, u61, u62, u63, u64, u65, u66, u67, u68, u69, u70, u71, u72, u73, u74, u75, u76, u77, u78, u79, u80, u81, u82, u83, u84, u85, u86, u87, u88, u89, u90, u91, u92, u93, u94, u95, u96, u97, u98, u99, u100, u101, u102, u103, u104, u105, u106, u107, u108, u109, u110, u111, u112, u113, u114, u115, u116, u117, u118, u119, u120, u121, u122, u123, u124, u125, u126, u127, u128, u129, u130, u131, u132, u133, u134, u135, u136, u137, u138, u139, u140, u141, u142, u143, u144, u145, u146, u147, u148, u149, u150, u151, u152, u153, u154, u155, u156, u157, u158, u159, u160, u161, u162, u163, u164, u165, u166, u167, u168, u169, u170, u171, u172, u173, u174, u175, u176, u177, u178, u179, u180, u181, u182, u183, u184, u185, u186, u187, u188, u189, u190, u191, u192, u193, u194, u195, u196, u197, u198, u199, u200, u201, u202, u203, u204, u205, u206, u207, u208, u209, u210, u211, u212, u213, u214, u215, u216, u217, u218, u219, u220, u221, u222, u223, u224, u225, u226, u227, u228, u229, u230, u231, u232, u233, u234, u235, u236, u237, u238, u239, u240, u241, u242, u243, u244, u245, u246, u247, u248, u249, u250, u251, u252, u253, u254, u255, u256, u257, u258, u259, u260, u261, u262, u263, u264, u265, u266, u267, u268, u269, u270, u271, u272, u273, u274, u275, u276, u277, u278, u279, u280, u281, u282, u283, u284, u285, u286, u287, u288, u289, u290, u291, u292, u293, u294, u295, u296, u297, u298, u299, u300, u301, u302, u303, u304], []⟩ wc := by
  have hf : f < 2 := by omega
  have ho2 : o < 2 := by omega
  have hml : m = l.length := by
    obtain ⟨gs, hg, ho, _, _⟩ := hp
    obtain ⟨A2, c3, e, _⟩ := own_form ho
    injection e with _ e
    rw [e, ← hg, List.length_map]
  have ST := Lib.hid st
  have E123 := Lib.hid (And.intro e1 (And.intro e2 e3))
  have OK := Lib.hid ok
  have HS := Lib.hid hs
  have HL := Lib.hid hl
  have HP := Lib.hid hp
  have HML := Lib.hid hml
  have HKK := Lib.hid hK
  have hbig : m ≤ 9223372036854775807 := by
    obtain ⟨gs, _, ho, _, _⟩ := hp
    obtain ⟨A3, c3, e, _⟩ := own_form ho
    injection e with _ e
    have := own_max ho
    unfold maxLen at this
    omega
  clear st e1 e2 e3 ok hs hl hp hml hK
  conv => arg 2; whnf
  go_wp2_with fail
  go_loopg [21] m (fun g s21 wr => ∃ (j : Nat) (lab2 : Nat → Nat) (v2 : Vv), j + g = m ∧ s21 = .int .i64 (j : Int) ∧ WSt w wr lab2 { gotQ q o (l.take j) with F := up q.F f [] } v2 ∧ v2.av = v2.fv ∧ v2.sa = v2.sv ∧ v2.ta = v2.tv ∧ PFl lab2 wr 14 (.slice A m c2) l)
  case atStart =>
    refine ⟨0, lab, v, by omega, rfl, ?_, E123.out.1, E123.out.2.1, E123.out.2.2, HP.out⟩
    have e : gotQ q o (l.take 0) = q := by
      unfold gotQ
      rw [List.take_zero, show recvAll (q.S o) [] = q.S o from rfl, show tookAll (q.S o) [] = [] from rfl, List.append_nil, up_self, up_self]
    rw [e]; exact ST.out
  case round =>
    obtain ⟨j, lab2, v2, hjg, rfl, st2, x1, x2, x3, hp2⟩ := hrel
    by_cases hj : j < m
    · obtain ⟨gs, hgs, hrow, hsk, hlb⟩ := hp2
      have hgm : m = gs.length := by
        obtain ⟨A3, c3, e, _⟩ := own_form hrow
        injection e
      have hlj : l[j]? = some (l[j]'(by have := HML.out; omega)) := List.getElem?_eq_getElem _
      subst hgm
      obtain ⟨ga, sq, ak, x, Ab, cb, hAg, hgc, hgj, d0, d1, d2, hxr⟩ := row_at hrow hsk hj
      subst hAg
      have hgt : l[j]? = some (sq, ak, x) := by rw [← hgs, List.getElem?_map, hgj]; rfl
      have okj := OK.out.got hfo (l.take j) fun g hg => by rw [HL.out]; exact List.mem_of_mem_take hg
      have hmem : (sq, ak, x) ∈ (gotQ q o (l.take j)).F f := by show (sq, ak, x) ∈ q.F f; rw [HL.out]; exact List.mem_of_getElem? hgt
      obtain ⟨r1, r2, r3⟩ := okj.recv hfo hmem
      have hss := okj.ss (f := o) (o := f) (by omega) (by have := HS.out o ho2; show (q.sn o).length ≤ 1000; omega) (by have := HS.out f hf; show (q.sn f).length ≤ 1000; omega)
      have htk : ((gotQ q o (l.take j)).tk o).length ≤ 1000 := by
        have a1 := (okj.check hfo).1
        have a2 := HS.out f hf
        have a3 : ((gotQ q o (l.take j)).sn f).length = (q.sn f).length := rfl
        omega
      have HCL := Lib.hid (clos_w (sq := sq) (a := ak) (c := cb) st2 x3 hfo hss.1 hxr r3 r2 htk)
      have hst : l.take (j + 1) = l.take j ++ [(sq, ak, x)] := by rw [List.take_add_one, hgt]; rfl
      have HST := Lib.hid hst
      have HPR := Lib.hid (show PFl lab2 wr 14 (.slice (some ⟨ga, 0, none⟩) gs.length c2) l from ⟨gs, hgs, hrow, hsk, hlb⟩)
      have X1 := Lib.hid x1
      have X2 := Lib.hid x2
      have j0 : (0 : Int) ≤ j := by omega
      have j1 : (j : Int) < gs.length := by omega
      clear st2 x1 x2 x3 hgs hrow hsk hlb hlj hgj hxr hgt okj hmem r1 r2 r3 hss htk hst
      go_wp2_with fail
      refine HCL.out.mono ?_
      rintro e w6 ⟨lab6, v6, rfl, W6, y1, y2, y3, y4, y5, kp⟩
      go_wp2_with fail
      go_roundg (gk - 1)
      case measure => omega
      case rel =>
        refine ⟨j + 1, lab6, v6, by omega, by simp, ?_, by rw [y2, y1]; exact X1.out, by rw [y4, y3]; exact X2.out, y5, kp _ _ HPR.out⟩
        rw [HST.out, gotQ_snoc]
        exact W6
    · obtain rfl : j = m := by omega
      have hlt : l.take j = l := List.take_of_length_le (by have := HML.out; omega)
      rw [hlt] at st2
      go_wp2_with fail
      exact HKK.out _ _ _ _ _ _ _ _ _ _ _ _ _ _ _ _ _ ⟨lab2, v2, st2, x1, x2, x3⟩

end Go.Proofs.Ytmkjnblmgofoeaa
