/- RelWhole: a message is sent. -/
import Derived.Test.YtmkjnblmgofoeaaWhoA
namespace Go.Proofs.Ytmkjnblmgofoeaa
open Go.RowKit

set_option maxRecDepth 100000 in
set_option maxHeartbeats 16000000 in
theorem sw_4 {u1 u2 u3 u4 u5 u6 u16 u17 u18 u19 u20 u21 u22 u23 u24 u25 u26 u27 u28 u29 u30 u31 u32 u33 u34 u35 u36 u37 u38 u39 u40 u41 u42 u43 u44 u45 u46 u47 u48 u49 u50 u51 u52 u53 u54 u55 u56 u57 u58 u59 u60 u61 u62 u63 u64 u65 u66 u67 u68 u69 u70 u71 u72 u73 u74 u75 u76 u77 u78 u79 u80 u81 u82 u83 u84 u85 u87 u88 u89 u90 u91 u92 u93 u94 u95 u96 u97 u98 u99 u100 u101 u102 u103 u104 u105 u106 u107 u108 u109 u110 u111 u112 u113 u114 u115 u116 u117 u118 u119 u120 u121 u122 u123 u124 u125 u126 u127 u128 u129 u130 u131 u132 u133 u134 u135 u136 u137 u138 u139 u140 u141 u142 u143 u144 u145 u146 u147 u148 u149 u150 u151 u152 u153 u154 u155 u156 u157 u158 u159 u160 u161 u162 u163 u164 u165 u166 u167 u168 u169 u170 u171 u172 u173 u174 u175 u176 u177 u178 u179 u180 u181 u182 u183 u184 u185 u186 u187 u188 u189 u190 u191 u192 u193 u194 u195 u196 u197 u198 u199 u200 u201 u202 u203 u204 u205 u206 u207 u208 u209 u210 u211 u212 u213 u214 u215 u216 u217 u218 u219 u220 u221 u222 u223 u224 u225 u226 u227 u228 u229 u230 u231 u232 u233 u234 u235 u236 u237 u238 u239 u240 u241 u242 u243 u244 u245 u246 u247 u248 u249 u250 u251 u252 u253 u254 u255 u256 u257 u258 u259 u260 u261 u262 u263 u264 u265 u266 u267 u268 u269 u270 u271 u272 u273 u274 u275 u276 u277 u278 u279 u280 u281 u282 u283 u284 u285 u286 u287 u288 u289 u290 u291 u292 u293 u294 u295 u296 u297 u298 u299 u300 u301 u302 u303 u304 : Value} {K K1 K2 K3 : Act → World → Prop} {R : Ending → World → Prop} {w wc : World} {ad : Addr} {n c k f o m j : Nat} {lab : Nat → Nat} {q : Fs} {v : Vv} {N : Int} {back : Bool} (md : Mid w wc lab q v k) (hfo : f + o = 1) (hm : m = (q.F f).length) (hm2 : m ≤ 20 * k + 8) (hFo : (q.F o).length ≤ 20 * k) (hk : k < n) (hn : n ≤ 200) (hw : WayAt w ad k 4 N back) (hj : 0 < m → j < m)
    (hK : ∀ (x16 x87 x88 x89 x90 x91 x92 x93 x94 x95 x96 x97 x98 x99 x100 x101 x102 x103 x104 x105 x106 x107 x108 x109 x110 x111 x112 x113 x114 x115 x116 x117 x118 x119 x120 x121 x122 x123 x124 x125 x126 x127 x128 x129 x130 x131 x132 x133 x134 x135 x136 x137 x138 x139 x140 x141 x142 x143 x144 x145 x146 x147 x148 x149 x150 x151 x152 x153 x154 x155 x156 x157 x158 x159 x160 x161 x162 x163 x164 x165 x166 x167 x168 x169 x170 x171 x172 x173 x174 x175 x176 x177 x178 x179 x180 : Value) (wx : World), SwPost w k wx → K ⟨#[.slice (some ad) n c, u1, u2, u3, u4, u5, u6, .pointer (some ⟨w.heap.size + 1 + 1, 0, none⟩), .pointer (some ⟨w.heap.size + 1 + 1 + 1, 0, none⟩), .pointer (some ⟨w.heap.size + 1 + 1 + 1 + 1, 0, none⟩), .pointer (some ⟨w.heap.size + 1 + 1 + 1 + 1 + 1, 0, none⟩), .func (.func 12) #[] #[.pointer (some ⟨w.heap.size + 1 + 1, 0, none⟩), .pointer (some ⟨w.heap.size + 1 + 1 + 1 + 1 + 1, 0, none⟩)], .int .i64 (k : Int), .int .i64 (f : Int), .int .i64 (m : Int), .int .i64 (j : Int), x16, u17, u18, u19, u20, u21, u22, u23, u24, u25, u26, u27, u28, u29, u30, u31, u32, u33, u34, u35, u36, u37, u38, u39, u40, u41, u42, u43, u44, u45, u46, u47, u48, u49, u50, u51, u52, u53, u54, u55, u56, u57, u58, u59, u60, u61, u62, u63, u64, u65, u66, u67, u68, u69, u70, u71, u72, u73, u74, u75, u76, u77, u78, u79, u80, u81, u82, u83, u84, u85, .int .i64 4, x87, x88, x89, x90, x91, x92, x93, x94, x95, x96, x97, x98, x99, x100, x101, x102, x103, x104, x105, x106, x107, x108, x109, x110, x111, x112, x113, x114, x115, x116, x117, x118, x119, x120, x121, x122, x123, x124, x125, x126, x127, x128, x129, x130, x131, x132, x133, x134, x135, x136, x137, x138, x139, x140, x141, x142, x143, x144, x145, x146, x147, x148, x149, x150, x151, x152, x153, x154, x155, x156, x157, x158, x159, x160, x161, x162, x163, x164, x165, x166, x167, x168, x169, x170, x171, x172, x173, x174, x175, x176, x177, x178, x179, x180, u181, u182, u183, u184, u185, u186, u187, u188, u189, u190, u191, u192, u193, u194, u195, u196, u197, u198, u199, u200, u201, u202, u203, u204, u205, u206, u207, u208, u209, u210, u211, u212, u213, u214, u215, u216, u217, u218, u219, u220, u221, u222, u223, u224, u225, u226, u227, u228, u229, u230, u231, u232, u233, u234, u235, u236, u237, u238, u239, u240, u241, u242, u243, u244, u245, u246, u247, u248, u249, u250, u251, u252, u253, u254, u255, u256, u257, u258, u259, u260, u261, u262, u263, u264, u265, u266, u267, u268, u269, u270, u271, u272, u273, u274, u275, u276, u277, u278, u279, u280, u281, u282, u283, u284, u285, u286, u287, u288, u289, u290, u291, u292, u293, u294, u295, u296, u297, u298, u299, u300, u301, u302, u303, u304], []⟩ wx) :
    Code.wp Try.prog (whoBlk 2) (Exit.then K (Exit.inBlock 1 (Exit.then K1 (Exit.then K2 (Exit.inBlock 0 (Exit.then K3 (bodyPost Try.prog Try.f4 R))))))) ⟨#[.slice (some ad) n c, u1, u2, u3, u4, u5, u6, .pointer (some ⟨w.heap.size + 1 + 1, 0, none⟩), .pointer (some ⟨w.heap.size + 1 + 1 + 1, 0, none⟩), .pointer (some ⟨w.heap.size + 1 + 1 + 1 + 1, 0, none⟩), .pointer (some ⟨w.heap.size + 1 + 1 + 1 + 1 + 1, 0, none⟩), .func (.func 12) #[] #[.pointer (some ⟨w.heap.size + 1 + 1, 0, none⟩), .pointer (some ⟨w.heap.size + 1 + 1 + 1 + 1 + 1, 0, none⟩)], .int .i64 (k : Int), .int .i64 (f : Int), .int .i64 (m : Int), .int .i64 (j : Int), u16, u17, u18, u19, u20, u21, u22, u23, u24, u25, u26, u27, u28, u29, u30, u31, u32, u33, u34, u35, u36, u37, u38, u39, u40, u41, u42, u43, u44, u45, u46, u47, u48, u49, u50, u51, u52, u53, u54, u55, u56, u57, u58, u59, u60, u61, u62, u63, u64, u65, u66, u67, u68, u69, u70, u71, u72, u73, u74, u75, u76, u77, u78, u79, u80, u81, u82, u83, u84, u85, .int .i64 4, u87, u88, u89, u90, u91, u92, u93, u94, u95, u96, u97, u98, u99, u100, u101, u102, u103, u104, u105, u106, u107, u108, u109, u110, u111, u112, u113, u114, u115, u116, u117, u118, u119, u120, u121, u122, u123, u124, u125, u126, u127, u128, u129, u130, u131, u132, u133, u134, u135, u136, u137, u138, u139, u140, u141, u142, u143, u144, u145, u146, u147, u148, u149, u150, u151, u152, u153, u154, u155, u156, u157, u158, u159, u160, u161, u162, u163, u164, u165, u166, u167, u168, u169, u170, u171, u172, u173, u174, u175, u176, u177, u178, u179, u180, u181, u182, u183, u184, u185, u186, u187, u188, u189, u190, u191, u192, u193, u194, u195, u196, u197, u198, u199, u200, u201, u202, u203, u204, u205, u206, u207, u208, u209, u210, u211, u212, u213, u214, u215, u216, u217, u218, u219, u220, u221, u222, u223, u224, u225, u226, u227, u228, u229, u230, u231, u232, u233, u234, u235, u236, u237, u238, u239, u240, u241, u242, u243, u244, u245, u246, u247, u248, u249, u250, u251, u252, u253, u254, u255, u256, u257, u258, u259, u260, u261, u262, u263, u264, u265, u266, u267, u268, u269, u270, u271, u272, u273, u274, u275, u276, u277, u278, u279, u280, u281, u282, u283, u284, u285, u286, u287, u288, u289, u290, u291, u292, u293, u294, u295, u296, u297, u298, u299, u300, u301, u302, u303, u304], []⟩ wc := by
  have hf : f < 2 := by omega
  obtain ⟨gs, hgs, hown, hsk, hlab⟩ := md.st.fl f hf
  have hgm : gs.length = m := by rw [hm, ← hgs, List.length_map]
  obtain ⟨Ag, cg, hfv, _⟩ := own_form hown
  rw [hfv] at hown
  obtain rfl : gs.length = m := hgm
  have cfl : wc.cell? ⟨w.heap.size + 3, f, none⟩ = some (.slice Ag gs.length cg) := by rw [← hfv, ← md.e1]; exact md.st.af.cell hf
  obtain ⟨hcc0, hcc1, hcc2⟩ := hw wc md.st.below
  have ln1 : ∀ g, g < 2 → (q.F g).length ≤ 20 * (k + 1) := fun g hg => by
    rcases (show g = f ∨ g = o by omega) with rfl | rfl <;> omega
  have hgl : gs.length ≤ 4100 := by omega
  have MD := Lib.hid md
  have HW := Lib.hid hw
  have HGS := Lib.hid hgs
  have HOW := Lib.hid hown
  have HSK := Lib.hid hsk
  have HLB := Lib.hid hlab
  have HFV := Lib.hid hfv
  have HM := Lib.hid hm
  have HLN := Lib.hid ln1
  have HKK := Lib.hid hK
  have HJ := Lib.hid hj
  have f0 : (0 : Int) ≤ f := by omega
  have f1 : (f : Int) < 2 := by omega
  have i0 : (0 : Int) ≤ k := by omega
  have i1 : (k : Int) < n := by omega
  clear md hw hgs hown hsk hlab hfv hm ln1 hK hj
  have hss := MD.out.ok.ss hfo (by have := MD.out.s f hf; omega) (by have := MD.out.s o (by omega); omega)
  have ce : wc.cell? ⟨w.heap.size + 2, f, none⟩ = some (.pointer (some ⟨w.heap.size + f, 0, none⟩)) := MD.out.st.ae.cell hf
  have cea : ∀ ob, (wc.alloc ob).cell? ⟨w.heap.size + 2, f, none⟩ = some (.pointer (some ⟨w.heap.size + f, 0, none⟩)) := fun ob => (World.cell?_alloc_lt wc ob ⟨w.heap.size + 2, f, none⟩ MD.out.st.ae.1.lt).trans ce
  obtain ⟨b, hb⟩ : ∃ b : UInt8, IntKind.u8.wrap N = (b.toNat : Int) := by
    refine ⟨UInt8.ofNat (N % 256).toNat, ?_⟩
    rw [IntKind.wrap_u8, UInt8.toNat_ofNat']
    omega
  have HS := Lib.hid fun (wd : World) (hz : wd.heap = (wc.alloc (.cells #[.int .u8 b.toNat] 5)).heap) (ht : wd.tape = wc.tape ∧ wd.os = wc.os ∧ wd.output = wc.output) => send_f MD.out.st hf hss.1 b hz ht
  clear hss
  conv => arg 2; whnf
  go_upto_region 34 with fail
  go_region_law (go_simp; go_at_call 13; refine (HS.out _ (by rfl) (by exact ⟨rfl, rfl, rfl⟩)).mono ?_; rintro e w1 ⟨r1, lab1, rfl, W1⟩)
  all_goals
    clear ce cea hcc0 hcc1 hcc2 cfl
    obtain ⟨hcc0, hcc1, hcc2⟩ := HW.out w1 W1.below
    have cs := W1.asn.cell hf
    obtain ⟨As, cs0, hAs, _⟩ := own_form (W1.sn f hf).1
    have hrow := (W1.sn f hf).1
    rw [MD.out.e2, hAs] at cs
    rw [hAs] at hrow
    have csa : ∀ ob, (w1.alloc ob).cell? ⟨w.heap.size + 4, f, none⟩ = some (.slice As (q.sn f).length cs0) := fun ob => (World.cell?_alloc_lt w1 ob ⟨w.heap.size + 4, f, none⟩ W1.asn.1.lt).trans cs
    have HROW := Lib.hid hrow
    have HAS := Lib.hid hAs
    have HW1 := Lib.hid W1
    have hsl := MD.out.s f hf
    have h63 : (q.sn f).length + 1 ≤ maxLen := by unfold maxLen; omega
    have hmb : ((q.sn f).length + 1) * 1 ≤ 140737488355328 := by omega
    have hv1 : ∀ u ∈ [Value.int .u8 b.toNat], u.oneCell' = true := by simp [Value.oneCell']
    obtain ⟨i0_, hin, hz0, hz1, hz2⟩ := info_parts info_u8
    clear W1 hrow hAs
    go_wp2_with fail
    go_region_law (refine step_append_any _ (by rfl) (.tmp 159) (.tmp 166) 29 (by rfl) 0 5 i0_ _ 1 1 Try.underlying29 hin hz0 hz1 hz2 rfl Nat.one_pos (.slice As (q.sn f).length cs0) (q.sn f).length (bytesV (q.sn f)) (by rfl) (HROW.out.alloc _) (fun _ => True) (some ⟨w1.heap.size, 0, none⟩) 1 1 [.int .u8 b.toNat] (by rfl) (reads_new _ _ _) hv1 h63 hmb (Nat.zero_le _) ?_; intro v4 w4 hown4 hg4 hat4; obtain ⟨lab4, W4⟩ := sent_app HW1.out hf (by rfl) (by exact ⟨rfl, rfl, rfl⟩) HAS.out hown4 hg4 hat4; have cc4 := W4.asn.cell hf; have cf4 := W4.asn.1.frozen f; obtain ⟨A4, c4, rfl, _⟩ := own_form hown4)
    all_goals
      go_wp2_with fail
      refine HKK.out _ _ _ _ _ _ _ _ _ _ _ _ _ _ _ _ _ _ _ _ _ _ _ _ _ _ _ _ _ _ _ _ _ _ _ _ _ _ _ _ _ _ _ _ _ _ _ _ _ _ _ _ _ _ _ _ _ _ _ _ _ _ _ _ _ _ _ _ _ _ _ _ _ _ _ _ _ _ _ _ _ _ _ _ _ _ _ _ _ _ _ _ _ _ _ _ ⟨lab4, _, _, ⟨(W4.storeN hf _).ofHeap rfl ⟨rfl, rfl, rfl⟩, MD.out.e1, by rw [← MD.out.e2], MD.out.e3, MD.out.ok.send hfo b, fun g hg => ?_⟩, HLN.out⟩
      show (up q.sn f (q.sn f ++ [b]) g).length ≤ _
      by_cases e : g = f
      · subst e; rw [up_same, List.length_append, List.length_singleton]; omega
      · rw [up_other _ _ e]; exact Nat.le_succ_of_le (MD.out.s g hg)

end Go.Proofs.Ytmkjnblmgofoeaa
