/- RelWhole: what is checked behind each act. -/
import Derived.Test.YtmkjnblmgofoeaaWhoA
import Derived.IntWalk
import Derived.Deep.QuietTactic
import Derived.BigQuiet
namespace Go.Proofs.Ytmkjnblmgofoeaa
open Go.RowKit

theorem quiet_left3 {P : Program} {f : FuncId} {args : Array Value} {w : World} {n : Nat} {v : Value}
    (h : Calls P f args (w.drewN n) fun e w' => e = .returned v ∧ w.drewN n = w') : Calls P f args (w.drewN n) fun e w'' => e = .returned v ∧ ∃ m, w'' = w.drewN m :=
  h.mono fun _ _ ⟨he, hm⟩ => ⟨he, n, hm.symm⟩

set_option maxRecDepth 100000 in
set_option maxHeartbeats 16000000 in
theorem who_3 {u1 u2 u3 u4 u5 u6 u12 u13 u14 u15 u16 u18 u19 u20 u21 u22 u23 u24 u25 u26 u27 u28 u29 u30 u31 u32 u33 u34 u35 u36 u37 u38 u39 u40 u41 u42 u43 u44 u45 u46 u47 u48 u49 u50 u51 u52 u53 u54 u55 u56 u57 u58 u59 u60 u61 u62 u63 u64 u65 u66 u67 u68 u69 u70 u71 u72 u73 u74 u75 u76 u77 u78 u79 u80 u81 u82 u83 u84 u85 u86 u87 u88 u89 u90 u91 u92 u93 u94 u95 u96 u97 u98 u99 u100 u101 u102 u103 u104 u105 u106 u107 u108 u109 u110 u111 u112 u113 u114 u115 u116 u117 u118 u119 u120 u121 u122 u123 u124 u125 u126 u127 u128 u129 u130 u131 u132 u133 u134 u135 u136 u137 u138 u139 u140 u141 u142 u143 u144 u145 u146 u147 u148 u149 u150 u151 u152 u153 u154 u155 u156 u157 u158 u159 u160 u161 u162 u163 u164 u165 u166 u167 u168 u169 u170 u171 u172 u173 u174 u175 u176 u177 u178 u179 u180 u181 u182 u183 u184 u185 u186 u187 u188 u189 u190 u191 u192 u193 u194 u195 u196 u197 u198 u199 u200 u201 u202 u203 u204 u205 u206 u207 u208 u209 u210 u211 u212 u213 u214 u215 u216 u217 u218 u219 u220 u221 u222 u223 u224 u225 u226 u227 u228 u229 u230 u231 u232 u233 u234 u235 u236 u237 u238 u239 u240 u241 u242 u243 u244 u245 u246 u247 u248 u249 u250 u251 u252 u253 u254 u255 u256 u257 u258 u259 u260 u261 u262 u263 u264 u265 u266 u267 u268 u269 u270 u271 u272 u273 u274 u275 u276 u277 u278 u279 u280 u281 u282 u283 u284 u285 u286 u287 u288 u289 u290 u291 u292 u293 u294 u295 u296 u297 u298 u299 u300 u301 u302 u303 u304 : Value} {K K2 K3 : Act → World → Prop} {R : Ending → World → Prop} {w wc : World} {ad : Addr} {n c k : Nat} {lab : Nat → Nat} {q : Fs} {v : Vv} (md : Mid w wc lab q v k) (hk : k ≤ 300)
    (hK : ∀ (x2 x17 x181 x182 x183 x184 x185 x186 x187 x188 x189 x190 x191 x192 x193 x194 x195 x196 x197 x198 x199 x200 x201 x202 x203 x204 x205 x206 x207 x208 x209 x210 x211 x212 x213 x214 x215 x216 x217 x218 x219 x220 x221 x222 x223 x224 x225 x226 x227 x228 x229 x230 x231 x232 x233 x234 x235 x236 x237 x238 : Value) (wx : World), (Mid w wx lab q v k) → K ⟨#[.slice (some ad) n c, u1, x2, u3, u4, u5, u6, .pointer (some ⟨w.heap.size + 1 + 1, 0, none⟩), .pointer (some ⟨w.heap.size + 1 + 1 + 1, 0, none⟩), .pointer (some ⟨w.heap.size + 1 + 1 + 1 + 1, 0, none⟩), .pointer (some ⟨w.heap.size + 1 + 1 + 1 + 1 + 1, 0, none⟩), .func (.func 12) #[] #[.pointer (some ⟨w.heap.size + 1 + 1, 0, none⟩), .pointer (some ⟨w.heap.size + 1 + 1 + 1 + 1 + 1, 0, none⟩)], u12, u13, u14, u15, u16, x17, u18, u19, u20, u21, u22, u23, u24, u25, u26, u27, u28, u29, u30, u31, u32, u33, u34, u35, u36, u37, u38, u39, u40, u41, u42, u43, u44, u45, u46, u47, u48, u49, u50, u51, u52, u53, u54, u55, u56, u57, u58, u59, u60, u61, u62, u63, u64, u65, u66, u67, u68, u69, u70, u71, u72, u73, u74, u75, u76, u77, u78, u79, u80, u81, u82, u83, u84, u85, u86, u87, u88, u89, u90, u91, u92, u93, u94, u95, u96, u97, u98, u99, u100, u101, u102, u103, u104, u105, u106, u107, u108, u109, u110, u111, u112, u113, u114, u115, u116, u117, u118, u119, u120, u121, u122, u123, u124, u125, u126, u127, u128, u129, u130, u131, u132, u133, u134, u135, u136, u137, u138, u139, u140, u141, u142, u143, u144, u145, u146, u147, u148, u149, u150, u151, u152, u153, u154, u155, u156, u157, u158, u159, u160, u161, u162, u163, u164, u165, u166, u167, u168, u169, u170, u171, u172, u173, u174, u175, u176, u177, u178, u179, u180, x181, x182, x183, x184, x185, x186, x187, x188, x189, x190, x191, x192, x193, x194, x195, x196, x197, x198, x199, x200, x201, x202, x203, x204, x205, x206, x207, x208, x209, x210, x211, x212, x213, x214, x215, x216, x217, x218, x219, x220, x221, x222, x223, x224, x225, x226, x227, x228, x229, x230, x231, x232, x233, x234, x235, x236, x237, x238, u239, u240, u241, u242, u243, u244, u245, u246, u247, u248, u249, u250, u251, u252, u253, u254, u255, u256, u257, u258, u259, u260, u261, u262, u263, u264, u265, u266, u267, u268, u269, u270, u271, u272, u273, u274, u275, u276, u277, u278, u279, u280, u281, u282, u283, u284, u285, u286, u287, u288, u289, u290, u291, u292, u293, u294, u295, u296, u297, u298, u299, u300, u301, u302, u303, u304], []⟩ wx) :
    Code.wp Try.prog (whoBlk 3) (Exit.inBlock 1 (Exit.then K (Exit.then K2 (Exit.inBlock 0 (Exit.then K3 (bodyPost Try.prog Try.f4 R)))))) ⟨#[.slice (some ad) n c, u1, u2, u3, u4, u5, u6, .pointer (some ⟨w.heap.size + 1 + 1, 0, none⟩), .pointer (some ⟨w.heap.size + 1 + 1 + 1, 0, none⟩), .pointer (some ⟨w.heap.size + 1 + 1 + 1 + 1, 0, none⟩), .pointer (some ⟨w.heap.size + 1 + 1 + 1 + 1 + 1, 0, none⟩), .func (.func 12) #[] #[.pointer (some ⟨w.heap.size + 1 + 1, 0, none⟩), .pointer (some ⟨w.heap.size + 1 + 1 + 1 + 1 + 1, 0, none⟩)], u12, u13, u14, u15, u16, .int .i64 0, u18, u19, u20, u21, u22, u23, u24, u25, u26, u27, u28, u29, u30, u31, u32, u33, u34, u35, u36, u37, u38, u39, u40, u41, u42, u43, u44, u45, u46, u47, u48, u49, u50, u51, u52, u53, u54, u55, u56, u57, u58, u59, u60, u61, u62, u63, u64, u65, u66, u67, u68, u69, u70, u71, u72, u73, u74, u75, u76, u77, u78, u79, u80, u81, u82, u83, u84, u85, u86, u87, u88, u89, u90, u91, u92, u93, u94, u95, u96, u97, u98, u99, u100, u101, u102, u103, u104, u105, u106, u107, u108, u109, u110, u111, u112, u113, u114, u115, u116, u117, u118, u119, u120, u121, u122, u123, u124, u125, u126, u127, u128, u129, u130, u131, u132, u133, u134, u135, u136, u137, u138, u139, u140, u141, u142, u143, u144, u145, u146, u147, u148, u149, u150, u151, u152, u153, u154, u155, u156, u157, u158, u159, u160, u161, u162, u163, u164, u165, u166, u167, u168, u169, u170, u171, u172, u173, u174, u175, u176, u177, u178, u179, u180, u181, u182, u183, u184, u185, u186, u187, u188, u189, u190, u191, u192, u193, u194, u195, u196, u197, u198, u199, u200, u201, u202, u203, u204, u205, u206, u207, u208, u209, u210, u211, u212, u213, u214, u215, u216, u217, u218, u219, u220, u221, u222, u223, u224, u225, u226, u227, u228, u229, u230, u231, u232, u233, u234, u235, u236, u237, u238, u239, u240, u241, u242, u243, u244, u245, u246, u247, u248, u249, u250, u251, u252, u253, u254, u255, u256, u257, u258, u259, u260, u261, u262, u263, u264, u265, u266, u267, u268, u269, u270, u271, u272, u273, u274, u275, u276, u277, u278, u279, u280, u281, u282, u283, u284, u285, u286, u287, u288, u289, u290, u291, u292, u293, u294, u295, u296, u297, u298, u299, u300, u301, u302, u303, u304], []⟩ wc := by
  have MD := Lib.hid md
  have HKK := Lib.hid hK
  clear md hK
  conv => arg 2; whnf
  go_wp2_with fail
  go_loopg [17] 2 (fun g s17 wr => ∃ d : Nat, d + g = 2 ∧ s17 = .int .i64 (d : Int) ∧ Mid w wr lab q v k)
  case atStart => exact ⟨0, rfl, rfl, MD.out⟩
  case round =>
    obtain ⟨f, hfg, rfl, mr⟩ := hrel
    by_cases hf : f < 2
    · obtain ⟨o, hfo⟩ : ∃ o, f + o = 1 := ⟨1 - f, by omega⟩
      have ho2 : o < 2 := by omega
      have hsub : (1 : Int) - (f : Int) = (o : Int) := by omega
      obtain ⟨ck1, ck2, ck3, ck4⟩ := mr.ok.check hfo
      have hssf := mr.ok.ss hfo (by have := mr.s f hf; omega) (by have := mr.s o (by omega); omega)
      have hsso := mr.ok.ss (f := o) (o := f) (by omega) (by have := mr.s o (by omega); omega) (by have := mr.s f hf; omega)
      have hsl := mr.s f hf
      obtain ⟨At, ct, hAt, hct⟩ := own_form (mr.st.tk o ho2).1
      obtain ⟨As, cs, hAs, hcs⟩ := own_form (mr.st.sn f hf).1
      have ctk : wr.cell? ⟨w.heap.size + 5, o, none⟩ = some (.slice At (q.tk o).length ct) := by rw [← hAt, ← mr.e3]; exact mr.st.atk.cell ho2
      have csn : wr.cell? ⟨w.heap.size + 4, f, none⟩ = some (.slice As (q.sn f).length cs) := by rw [← hAs, ← mr.e2]; exact mr.st.asn.cell hf
      have cef : wr.cell? ⟨w.heap.size + 2, f, none⟩ = some (.pointer (some ⟨w.heap.size + f, 0, none⟩)) := mr.st.ae.cell hf
      have ceo : wr.cell? ⟨w.heap.size + 2, o, none⟩ = some (.pointer (some ⟨w.heap.size + o, 0, none⟩)) := mr.st.ae.cell ho2
      have rtk : Reads wr (fun _ => True) 1 At (q.tk o).length (bytesV (q.tk o)) := Reads.of_own (hAt ▸ (mr.st.tk o ho2).1) fun _ _ => trivial
      have rsn0 : Reads wr (fun _ => True) 1 As (q.sn f).length (bytesV (q.sn f)) := Reads.of_own (hAs ▸ (mr.st.sn f hf).1) fun _ _ => trivial
      have rsn : Reads wr (fun _ => True) 1 As (q.tk o).length (bytesV (q.tk o)) := by
        have h := rsn0.take_ (j := (q.tk o).length) ck1
        rw [Nat.mul_one] at h
        have e : (bytesV (q.sn f)).take (q.tk o).length = bytesV (q.tk o) := by
          rw [show bytesV (q.tk o) = bytesV ((q.sn f).take (q.tk o).length) from by rw [← ck2]]
          simp [bytesV]
        rwa [e] at h
      obtain ⟨_, _, isf, _⟩ := mr.st.st f hf
      obtain ⟨vf, _, bf, _⟩ := isf.ex
      obtain ⟨_, _, iso, _⟩ := mr.st.st o ho2
      obtain ⟨vo, _, bo, _⟩ := iso.ex
      have a1f := hssf.1.1
      have a1o := hsso.1.1
      have HQA := Lib.hid fun (nd : Nat) => quiet_left3 (acked_any _ _ vf (wr.drewN nd) (bf.drewN nd) a1f)
      have HQT := Lib.hid fun (nd : Nat) => quiet_left3 (taken_any _ _ vo (wr.drewN nd) (bo.drewN nd) a1o)
      have cv1 : ∀ nd, (convert 29 9 (.slice At (q.tk o).length ct)).run Try.prog (wr.drewN nd) = .ok (.string ⟨(q.tk o).toArray⟩) (wr.drewN nd) := fun nd => run_str _ _ _ _ _ (rtk.keep (Same.ofHeap _ rfl))
      have cv2 : ∀ nd, (convert 29 9 (.slice As (q.tk o).length cs)).run Try.prog (wr.drewN nd) = .ok (.string ⟨(q.tk o).toArray⟩) (wr.drewN nd) := fun nd => run_str _ _ _ _ _ (rsn.keep (Same.ofHeap _ rfl))
      have t1 : decide ((q.sn f).length < (q.tk o).length) = false := decide_eq_false (by omega)
      have t1' : decide (((q.sn f).length : Int) < ((q.tk o).length : Int)) = false := decide_eq_false (by omega)
      have t2 : decide ((q.S o).taken < (q.S f).acked) = false := decide_eq_false (by omega)
      have t2' : decide (((q.S o).taken : Int) < ((q.S f).acked : Int)) = false := decide_eq_false (by omega)
      have t3 : (((q.S o).taken : Int) != ((q.tk o).length : Int)) = false := by simp; omega
      have t3' : ((q.S o).taken != (q.tk o).length) = false := by simp; omega
      have b1 : ((q.tk o).length : Int) ≤ cs := by omega
      have b2 : ((q.tk o).length : Int) ≤ 1000 := by omega
      have b3 : (0 : Int) ≤ ((q.tk o).length : Int) := by omega
      have f0 : (0 : Int) ≤ f := by omega
      have f1 : (f : Int) < 2 := by omega
      have o0 : (0 : Int) ≤ o := by omega
      have o1 : (o : Int) < 2 := by omega
      have hd2 : decide ((f : Int) < 2) = true := decide_eq_true f1
      have MR := Lib.hid mr
      have hwo : IntKind.i64.wrap (o : Int) = (o : Int) := IntWalk.i64_in _ (by omega)
      clear mr ck1 ck2 ck3 ck4 hssf hsso hAt hAs rtk rsn rsn0 isf iso bf bo
      go_wp2_with fail
      go_quiet (first | (go_at_call 15; exact HQA.out _) | (go_at_call 16; exact HQT.out _))
      clear hwo
      go_wp2_with fail
      go_roundg (gk - 1)
      case measure => omega
      case rel => exact ⟨f + 1, by omega, by simp, MR.out.drewN _⟩
    · obtain rfl : f = 2 := by omega
      go_wp2_with fail
      exact HKK.out _ _ _ _ _ _ _ _ _ _ _ _ _ _ _ _ _ _ _ _ _ _ _ _ _ _ _ _ _ _ _ _ _ _ _ _ _ _ _ _ _ _ _ _ _ _ _ _ _ _ _ _ _ _ _ _ _ _ _ _ _ mr

end Go.Proofs.Ytmkjnblmgofoeaa
