/- RelWhole: one comes. -/
import Derived.Test.YtmkjnblmgofoeaaWhoA
import Derived.IntWalk
namespace Go.Proofs.Ytmkjnblmgofoeaa
open Go.RowKit

set_option maxRecDepth 100000 in
set_option maxHeartbeats 16000000 in
theorem sw_1 {u1 u2 u3 u4 u5 u6 u16 u17 u18 u19 u20 u21 u22 u23 u24 u25 u26 u27 u28 u29 u30 u31 u32 u33 u34 u35 u36 u37 u38 u39 u40 u41 u42 u43 u44 u45 u46 u47 u48 u49 u50 u51 u52 u53 u54 u55 u56 u57 u58 u59 u60 u61 u62 u63 u64 u65 u66 u67 u68 u69 u70 u71 u72 u73 u74 u75 u76 u77 u78 u79 u80 u81 u82 u83 u84 u85 u87 u88 u89 u90 u91 u92 u93 u94 u95 u96 u97 u98 u99 u100 u101 u102 u103 u104 u105 u106 u107 u108 u109 u110 u111 u112 u113 u114 u115 u116 u117 u118 u119 u120 u121 u122 u123 u124 u125 u126 u127 u128 u129 u130 u131 u132 u133 u134 u135 u136 u137 u138 u139 u140 u141 u142 u143 u144 u145 u146 u147 u148 u149 u150 u151 u152 u153 u154 u155 u156 u157 u158 u159 u160 u161 u162 u163 u164 u165 u166 u167 u168 u169 u170 u171 u172 u173 u174 u175 u176 u177 u178 u179 u180 u181 u182 u183 u184 u185 u186 u187 u188 u189 u190 u191 u192 u193 u194 u195 u196 u197 u198 u199 u200 u201 u202 u203 u204 u205 u206 u207 u208 u209 u210 u211 u212 u213 u214 u215 u216 u217 u218 u219 u220 u221 u222 u223 u224 u225 u226 u227 u228 u229 u230 u231 u232 u233 u234 u235 u236 u237 u238 u239 u240 u241 u242 u243 u244 u245 u246 u247 u248 u249 u250 u251 u252 u253 u254 u255 u256 u257 u258 u259 u260 u261 u262 u263 u264 u265 u266 u267 u268 u269 u270 u271 u272 u273 u274 u275 u276 u277 u278 u279 u280 u281 u282 u283 u284 u285 u286 u287 u288 u289 u290 u291 u292 u293 u294 u295 u296 u297 u298 u299 u300 u301 u302 u303 u304 : Value} {K K1 K2 K3 : Act → World → Prop} {R : Ending → World → Prop} {w wc : World} {ad : Addr} {n c k f o m j : Nat} {lab : Nat → Nat} {q : Fs} {v : Vv} {N : Int} {back : Bool} (md : Mid w wc lab q v k) (hfo : f + o = 1) (hm : m = (q.F f).length) (hm2 : m ≤ 20 * k + 8) (hFo : (q.F o).length ≤ 20 * k) (hk : k < n) (hn : n ≤ 200) (hw : WayAt w ad k 1 N back) (hj : 0 < m → j < m) (hpos : 0 < m)
    (hK : ∀ (x16 x87 x88 x89 x90 x91 x92 x93 x94 x95 x96 x97 x98 x99 x100 x101 x102 x103 x104 x105 x106 x107 x108 x109 x110 x111 x112 x113 x114 x115 x116 x117 x118 x119 x120 x121 x122 x123 x124 x125 x126 x127 x128 x129 x130 x131 x132 x133 x134 x135 x136 x137 x138 x139 x140 x141 x142 x143 x144 x145 x146 x147 x148 x149 x150 x151 x152 x153 x154 x155 x156 x157 x158 x159 x160 x161 x162 x163 x164 x165 x166 x167 x168 x169 x170 x171 x172 x173 x174 x175 x176 x177 x178 x179 x180 : Value) (wx : World), SwPost w k wx → K ⟨#[.slice (some ad) n c, u1, u2, u3, u4, u5, u6, .pointer (some ⟨w.heap.size + 1 + 1, 0, none⟩), .pointer (some ⟨w.heap.size + 1 + 1 + 1, 0, none⟩), .pointer (some ⟨w.heap.size + 1 + 1 + 1 + 1, 0, none⟩), .pointer (some ⟨w.heap.size + 1 + 1 + 1 + 1 + 1, 0, none⟩), .func (.func 12) #[] #[.pointer (some ⟨w.heap.size + 1 + 1, 0, none⟩), .pointer (some ⟨w.heap.size + 1 + 1 + 1 + 1 + 1, 0, none⟩)], .int .i64 (k : Int), .int .i64 (f : Int), .int .i64 (m : Int), .int .i64 (j : Int), x16, u17, u18, u19, u20, u21, u22, u23, u24, u25, u26, u27, u28, u29, u30, u31, u32, u33, u34, u35, u36, u37, u38, u39, u40, u41, u42, u43, u44, u45, u46, u47, u48, u49, u50, u51, u52, u53, u54, u55, u56, u57, u58, u59, u60, u61, u62, u63, u64, u65, u66, u67, u68, u69, u70, u71, u72, u73, u74, u75, u76, u77, u78, u79, u80, u81, u82, u83, u84, u85, .int .i64 1, x87, x88, x89, x90, x91, x92, x93, x94, x95, x96, x97, x98, x99, x100, x101, x102, x103, x104, x105, x106, x107, x108, x109, x110, x111, x112, x113, x114, x115, x116, x117, x118, x119, x120, x121, x122, x123, x124, x125, x126, x127, x128, x129, x130, x131, x132, x133, x134, x135, x136, x137, x138, x139, x140, x141, x142, x143, x144, x145, x146, x147, x148, x149, x150, x151, x152, x153, x154, x155, x156, x157, x158, x159, x160, x161, x162, x163, x164, x165, x166, x167, x168, x169, x170, x171, x172, x173, x174, x175, x176, x177, x178, x179, x180, u181, u182, u183, u184, u185, u186, u187, u188, u189, u190, u191, u192, u193, u194, u195, u196, u197, u198, u199, u200, u201, u202, u203, u204, u205, u206, u207, u208, u209, u210, u211, u212, u213, u214, u215, u216, u217, u218, u219, u220, u221, u222, u223, u224, u225, u226, u227, u228, u229, u230, u231, u232, u233, u234, u235, u236, u237, u238, u239, u240, u241, u242, u243, u244, u245, u246, u247, u248, u249, u250, u251, u252, u253, u254, u255, u256, u257, u258, u259, u260, u261, u262, u263, u264, u265, u266, u267, u268, u269, u270, u271, u272, u273, u274, u275, u276, u277, u278, u279, u280, u281, u282, u283, u284, u285, u286, u287, u288, u289, u290, u291, u292, u293, u294, u295, u296, u297, u298, u299, u300, u301, u302, u303, u304], []⟩ wx) :
    Code.wp Try.prog (whoBlk 2) (Exit.then K (Exit.inBlock 1 (Exit.then K1 (Exit.then K2 (Exit.inBlock 0 (Exit.then K3 (bodyPost Try.prog Try.f4 R))))))) ⟨#[.slice (some ad) n c, u1, u2, u3, u4, u5, u6, .pointer (some ⟨w.heap.size + 1 + 1, 0, none⟩), .pointer (some ⟨w.heap.size + 1 + 1 + 1, 0, none⟩), .pointer (some ⟨w.heap.size + 1 + 1 + 1 + 1, 0, none⟩), .pointer (some ⟨w.heap.size + 1 + 1 + 1 + 1 + 1, 0, none⟩), .func (.func 12) #[] #[.pointer (some ⟨w.heap.size + 1 + 1, 0, none⟩), .pointer (some ⟨w.heap.size + 1 + 1 + 1 + 1 + 1, 0, none⟩)], .int .i64 (k : Int), .int .i64 (f : Int), .int .i64 (m : Int), .int .i64 (j : Int), u16, u17, u18, u19, u20, u21, u22, u23, u24, u25, u26, u27, u28, u29, u30, u31, u32, u33, u34, u35, u36, u37, u38, u39, u40, u41, u42, u43, u44, u45, u46, u47, u48, u49, u50, u51, u52, u53, u54, u55, u56, u57, u58, u59, u60, u61, u62, u63, u64, u65, u66, u67, u68, u69, u70, u71, u72, u73, u74, u75, u76, u77, u78, u79, u80, u81, u82, u83, u84, u85, .int .i64 1, u87, u88, u89, u90, u91, u92, u93, u94, u95, u96, u97, u98, u99, u100, u101, u102, u103, u104, u105, u106, u107, u108, u109, u110, u111, u112, u113, u114, u115, u116, u117, u118, u119, u120, u121, u122, u123, u124, u125, u126, u127, u128, u129, u130, u131, u132, u133, u134, u135, u136, u137, u138, u139, u140, u141, u142, u143, u144, u145, u146, u147, u148, u149, u150, u151, u152, u153, u154, u155, u156, u157, u158, u159, u160, u161, u162, u163, u164, u165, u166, u167, u168, u169, u170, u171, u172, u173, u174, u175, u176, u177, u178, u179, u180, u181, u182, u183, u184, u185, u186, u187, u188, u189, u190, u191, u192, u193, u194, u195, u196, u197, u198, u199, u200, u201, u202, u203, u204, u205, u206, u207, u208, u209, u210, u211, u212, u213, u214, u215, u216, u217, u218, u219, u220, u221, u222, u223, u224, u225, u226, u227, u228, u229, u230, u231, u232, u233, u234, u235, u236, u237, u238, u239, u240, u241, u242, u243, u244, u245, u246, u247, u248, u249, u250, u251, u252, u253, u254, u255, u256, u257, u258, u259, u260, u261, u262, u263, u264, u265, u266, u267, u268, u269, u270, u271, u272, u273, u274, u275, u276, u277, u278, u279, u280, u281, u282, u283, u284, u285, u286, u287, u288, u289, u290, u291, u292, u293, u294, u295, u296, u297, u298, u299, u300, u301, u302, u303, u304], []⟩ wc := by
  have hf : f < 2 := by omega
  obtain ⟨gs, hgs, hown, hsk, hlab⟩ := md.st.fl f hf
  have hgm : gs.length = m := by rw [hm, ← hgs, List.length_map]
  obtain ⟨Ag, cg, hfv, _⟩ := own_form hown
  rw [hfv] at hown
  obtain rfl : gs.length = m := hgm
  have cfl : wc.cell? ⟨w.heap.size + 3, f, none⟩ = some (.slice Ag gs.length cg) := by rw [← hfv, ← md.e1]; exact md.st.af.cell hf
  obtain ⟨hcc0, hcc1, hcc2⟩ := hw wc md.st.below
  have ln1 : ∀ g, g < 2 → (q.F g).length ≤ 20 * (k + 1) := fun g hg => by
    rcases (show g = f ∨ g = o by omega) with rfl | rfl <;> omega
  have hgl : gs.length ≤ 4100 := by omega
  have MD := Lib.hid md
  have HW := Lib.hid hw
  have HGS := Lib.hid hgs
  have HOW := Lib.hid hown
  have HSK := Lib.hid hsk
  have HLB := Lib.hid hlab
  have HFV := Lib.hid hfv
  have HM := Lib.hid hm
  have HLN := Lib.hid ln1
  have HKK := Lib.hid hK
  have HJ := Lib.hid hj
  have f0 : (0 : Int) ≤ f := by omega
  have f1 : (f : Int) < 2 := by omega
  have i0 : (0 : Int) ≤ k := by omega
  have i1 : (k : Int) < n := by omega
  clear md hw hgs hown hsk hlab hfv hm ln1 hK hj
  have hjl : j < gs.length := HJ.out (by omega)
  obtain ⟨ga, sq, ak, x, Ab, cb, hAg, hgc, hgj, d0, d1, d2, hxr⟩ := row_at HOW.out HSK.out hjl
  subst hAg
  have HGJ := Lib.hid hgj
  have HXR := Lib.hid hxr
  have j0 : (0 : Int) ≤ j := by omega
  have j1 : (j : Int) < gs.length := by omega
  have hn1 : decide ((0 : Int) < (gs.length : Int)) = true := decide_eq_true (by omega)
  clear hgj hxr
  have hmem : (sq, ak, x) ∈ q.F f := by
    rw [← HGS.out]
    exact List.mem_map.2 ⟨_, List.mem_of_getElem? HGJ.out, rfl⟩
  have HMEM := Lib.hid hmem
  clear hmem
  obtain ⟨wb, hwb⟩ : ∃ wb, wb = wc.alloc (.cells #[.int .u64 sq, .int .u64 ak, .slice Ab x.length cb] 33) := ⟨_, rfl⟩
  obtain ⟨labb, sb, Wb⟩ := MD.out.st.new_ (w2 := wb) (by rw [hwb]; exact (Upd.refl _ _).alloc _)
  have hbk : Blk wb wc.heap.size 33 #[.int .u64 sq, .int .u64 ak, .slice Ab x.length cb] := by rw [hwb]; exact Blk.new _ _ _
  have cflb : wb.cell? ⟨w.heap.size + 3, f, none⟩ = some (.slice (some ⟨ga, 0, none⟩) gs.length cg) := by rw [← HFV.out, ← MD.out.e1]; exact Wb.af.cell hf
  have hlt3 : w.heap.size + 3 < wb.heap.size := Wb.af.1.lt
  have ob := own_keep (I := fun k => lab k = 3 + f) HOW.out (sb.same fun k hk => by omega) (HFV.out ▸ HLB.out)
  have skb := HSK.out.step sb (by omega)
  have rb : Reads wb (fun _ => True) 3 (some ⟨ga, 0, none⟩) gs.length (sgCells gs) := Reads.of_own ob fun _ _ => trivial
  have r1 := rb.take_ (j := j) (by omega)
  rw [sgCells_take] at r1
  have r2 := rb.cut (k := j + 1) (cap := cg) (by omega) hgc
  rw [sgCells_drop] at r2
  obtain ⟨A2, hA2⟩ : ∃ A2 : Option Addr, A2 = (if cg = j + 1 then some ⟨ga, 0, none⟩ else (some (⟨ga, 0, none⟩ : Addr)).map (·.add ((j + 1) * 3))) := ⟨_, rfl⟩
  rw [← hA2] at r2
  have hst := fun wx => run_sl_take ga gs.length cg wx j (by omega)
  have hsd := fun wx => run_sl_drop ga gs.length cg wx ((j : Int) + 1) (j + 1) (by omega) (by omega)
  rw [← hA2] at hsd
  have one1 : ∀ u ∈ sgCells (gs.take j), u.oneCell' = true := sgCells_one (I := fun k => labb k = 2) (w := wb) fun g hg => skb g (List.mem_of_mem_take hg)
  have one2 : ∀ u ∈ sgCells (gs.drop (j + 1)), u.oneCell' = true := sgCells_one (I := fun k => labb k = 2) (w := wb) fun g hg => skb g (List.mem_of_mem_drop hg)
  obtain ⟨z0, hin, hz0, hz1, hz2⟩ := info_parts info_seg
  have h63a : 0 + j ≤ maxLen := by unfold maxLen; omega
  have hmba : (0 + j) * 40 ≤ 140737488355328 := by omega
  have h63b : j + (gs.length - (j + 1)) ≤ maxLen := by unfold maxLen; omega
  have hmbb : (j + (gs.length - (j + 1))) * 40 ≤ 140737488355328 := by omega
  have RD1 := Lib.hid fun (wd : World) (e : wd.heap = wb.heap) => r1.keep (Same.ofHeap (w2 := wd) _ e)
  have RD2 := Lib.hid fun (wd : World) (e : wd.heap = wb.heap) => r2.keep (Same.ofHeap (w2 := wd) _ e)
  have HWB := Lib.hid hwb
  have SB := Lib.hid sb
  have WB := Lib.hid fun (wd : World) (e : wd.heap = wb.heap) (ht : wd.tape = wb.tape ∧ wd.os = wb.os ∧ wd.output = wb.output) => Wb.ofHeap e ht
  have SKB := Lib.hid fun (wd : World) (e : wd.heap = wb.heap) => skb.keep (Same.ofHeap (w2 := wd) _ e)
  have HA2 := Lib.hid hA2
  have ONE1 := Lib.hid one1
  have ONE2 := Lib.hid one2
  have HBK := Lib.hid hbk
  clear hwb sb Wb skb ob rb r1 r2 hA2 one1 one2 hbk
  conv => arg 2; whnf
  go_upto_region 27 with fail
  rw [← HWB.out]
  clear hcc0 hcc1 hcc2 d0 d1 d2 cfl
  have hwj : IntKind.i64.wrap ((j : Int) + 1) = (j : Int) + 1 := IntWalk.i64_in _ (by omega)
  go_region_law (first
    | (refine step_append_any _ (by rfl) (.const (.slice none 0 0)) (.tmp 103) 22 (by rfl) wb.heap.size 33 z0 _ 3 40 Try.underlying22 hin hz0 hz1 hz2 rfl (Nat.succ_pos 2) (.slice none 0 0) 0 [] (by rfl) (World.ownsRow_nil _ _ _ _) (fun _ => True) (some ⟨ga, 0, none⟩) j cg (sgCells (gs.take j)) (by rfl) (RD1.out _ (by rfl)) ONE1.out h63a hmba (Nat.le_refl _) ?_; intro v1 w1 hown1 hg1 hat1; rw [Nat.zero_add, List.nil_append] at hown1; have cf1 := cell_none hg1 cflb hlt3; obtain ⟨A1, c1, rfl, _⟩ := own_form hown1)
    | (refine step_append_any _ (by rfl) (.tmp 104) (.tmp 110) 22 (by rfl) wb.heap.size 33 z0 _ 3 40 Try.underlying22 hin hz0 hz1 hz2 rfl (Nat.succ_pos 2) (.slice A1 j c1) j (sgCells (gs.take j)) (by rfl) hown1 (fun _ => True) A2 (gs.length - (j + 1)) (cg - (j + 1)) (sgCells (gs.drop (j + 1))) (by rfl) ((RD2.out _ (by rfl)).keep (same_none hg1)) ONE2.out h63b hmbb hg1.size ?_; intro v4 w4 hown4 hg4 hat4; obtain ⟨lab4, st4, W4⟩ := cut_w (WB.out wb.drew (by rfl) (by exact ⟨rfl, rfl, rfl⟩)) hf HGS.out (SKB.out wb.drew (by rfl)) hjl hg1 hat1 hown4 hg4; have cc4 := W4.af.cell hf; have cf4 := W4.af.1.frozen f; have kp := fun (i : Nat) (x : Value) => kept_none (a := ⟨wc.heap.size, i, none⟩) (x := x) hg1 hat1 hg4; obtain ⟨A4, c4, rfl, _⟩ := own_form hown4))
  all_goals
    clear hwj
    have W5 := W4.storeF hf (.slice A4 (j + (gs.length - (j + 1))) c4)
    obtain ⟨hcc0, hcc1, hcc2⟩ := HW.out _ W5.below
    have hbl : wc.heap.size < wb.heap.size := HBK.out.lt
    have hwn : wc.heap.size ≠ w.heap.size + 3 := fun e => by have := MD.out.st.af.1.lt; omega
    have far : ∀ (i : Nat) (x : Value), wb.cell? ⟨wc.heap.size, i, none⟩ = some x → (w4.setCell ⟨w.heap.size + 3, f, none⟩ (.slice A4 (j + (gs.length - (j + 1))) c4)).cell? ⟨wc.heap.size, i, none⟩ = some x := fun i x hx => (World.cell?_setCell_other w4 ⟨w.heap.size + 3, f, none⟩ ⟨wc.heap.size, i, none⟩ _ (fun e => hwn (congrArg Addr.block e).symm)).trans (kp i x hx hbl)
    have g0 := far 0 _ (HBK.out.cell 0)
    have g1 := far 1 _ (HBK.out.cell 1)
    have g2 := far 2 _ (HBK.out.cell 2)
    have hrd := reads3 (u := .slice A4 (j + (gs.length - (j + 1))) c4) hf HXR.out SB.out (step_of st4 (by rfl) ⟨rfl, rfl, rfl⟩) W4.af.2
    have HRD := Lib.hid hrd
    have HW5 := Lib.hid W5
    have hrecv := MD.out.ok.recv hfo HMEM.out
    have HRE := Lib.hid hrecv
    have hss := MD.out.ok.ss (f := o) (o := f) (by omega) (by have := MD.out.s o (by omega); omega) (by have := MD.out.s f hf; omega)
    have HSS := Lib.hid hss.1
    have htk : (q.tk o).length ≤ 1000 := by
      have a1 := (MD.out.ok.check hfo).1
      have a2 := MD.out.s f hf
      omega
    clear W5 hrd hrecv hss far kp hwn
    go_wp2_with fail
    refine (clos_w HW5.out MD.out.e3 hfo HSS.out HRD.out HRE.out.2.2 HRE.out.2.1 htk).mono ?_
    rintro e w6 ⟨lab6, v6, rfl, W6, x1, x2, x3, x4, x5, _⟩
    go_wp2_with fail
    refine HKK.out _ _ _ _ _ _ _ _ _ _ _ _ _ _ _ _ _ _ _ _ _ _ _ _ _ _ _ _ _ _ _ _ _ _ _ _ _ _ _ _ _ _ _ _ _ _ _ _ _ _ _ _ _ _ _ _ _ _ _ _ _ _ _ _ _ _ _ _ _ _ _ _ _ _ _ _ _ _ _ _ _ _ _ _ _ _ _ _ _ _ _ _ _ _ _ _ ⟨lab6, _, _, ⟨W6, by rw [x2, x1, ← MD.out.e1], by rw [x4, x3]; exact MD.out.e2, x5, HRE.out.1.sub (fun g hg => (List.mem_append.1 hg).elim List.mem_of_mem_take List.mem_of_mem_drop), fun g hg => Nat.le_succ_of_le (MD.out.s g hg)⟩, fun g hg => ?_⟩
    have hm3 := HM.out
    show (up q.F f ((q.F f).take j ++ (q.F f).drop (j + 1)) g).length ≤ _
    by_cases e : g = f
    · subst e; rw [up_same, List.length_append, List.length_take, List.length_drop]; omega
    · rw [up_other _ _ e]; exact HLN.out g hg

end Go.Proofs.Ytmkjnblmgofoeaa
