/- RelPlays: a segment is taken. -/
import Derived.Test.YtmkjnblmgofoeaaPlA
namespace Go.Proofs.Ytmkjnblmgofoeaa
open Go.RowKit

set_option maxRecDepth 100000 in
set_option maxHeartbeats 16000000 in
theorem pl_2l {u2 u3 u4 u12 u13 u14 u15 u16 u17 u18 u19 u20 u21 u22 u23 u24 u25 u26 u27 u28 u29 u30 u31 u32 u33 u34 u35 u36 u37 u38 u39 u40 u41 u42 u43 u44 u45 u46 u47 u48 u49 u50 u51 u52 u53 u54 u55 u56 u57 u58 u59 u60 u61 u62 u63 u64 u66 u67 u68 u69 u70 u71 u72 u73 u74 u75 u76 u77 u78 u79 u80 u81 u82 u83 u84 u85 u86 u87 u88 u89 u90 u91 u92 u93 u94 u95 u96 u97 u98 u99 u100 u101 u102 u103 u104 u105 u106 u107 u108 u109 u110 u111 u112 u113 u114 u115 u116 u117 u118 u119 u120 u121 u122 u123 u124 u125 u126 u127 u128 u129 u130 u131 u132 u133 u134 u135 u136 u137 u138 u139 u140 u141 u142 u143 u144 u145 u146 u147 u148 u149 u150 u151 u152 u153 u154 u155 u156 u157 u158 u159 u160 u161 u162 u163 u164 u165 u166 u167 u168 u169 u170 u171 u172 u173 u174 u175 u176 u177 u178 u179 u180 u181 u182 u183 u184 u185 u186 u187 u188 u189 u190 u191 u192 u193 u194 u195 u196 u197 u198 u199 u200 u201 u202 u203 u204 u205 u206 u207 u208 u209 : Value} {K K1 K2 K3 : Act → World → Prop} {R : Ending → World → Prop} {w wc : World} {ad : Addr} {n c k bg bc cb cg q a ag : Nat} {lab : Nat → Nat} {s s0 : SS} {v : Value} {al : List (List UInt8)} {x y : List UInt8} {Ab Ag : Option Addr} (pin : PIn w wc lab s v al k bc s0) (bx : BoxAt wc lab bg 2 (.slice Ab x.length cb) q a (.slice Ag y.length cg)) (hx : Reads wc (fun i => i < w.heap.size) 1 Ab x.length (bytesV x)) (hy : Reads wc (fun i => i < w.heap.size) 1 Ag y.length (bytesV y)) (hk : k < 200) (hlong : 1024 < y.length)
    (hK : ∀ (x12 x13 x14 x15 x16 x17 x18 x19 x20 x66 x67 x68 x69 x70 x71 x72 x73 x74 x75 x76 x77 x78 x79 x80 x81 x82 x83 x84 x85 x86 x87 x88 x89 x90 x91 x92 x93 x94 x95 x96 x97 x98 x99 x100 x101 x102 x103 x104 x105 x106 x107 x108 x109 x110 x111 x112 x113 x114 x115 x116 x117 x118 x119 x120 x121 x122 x123 x124 x125 x126 x127 x128 x129 x130 x131 x132 x133 x134 x135 x136 x137 x138 x139 x140 x141 x142 x143 x144 x145 x146 x147 x148 x149 x150 x151 x152 x153 x154 x155 x156 x157 x158 x159 x160 x161 x162 x163 x164 x165 x166 : Value) (wx : World), KPost w k bc s0 wx → K1 ⟨#[.int .i64 (ag : Int), .slice (some ad) n c, u2, u3, u4, .pointer (some ⟨w.heap.size, 0, none⟩), .int .i64 0, .pointer (some ⟨w.heap.size + 1, 0, none⟩), .int .i64 (k : Int), .pointer (some ⟨bg, 0, none⟩), .pointer (some ⟨bc, 0, none⟩), .int .i64 (s0.xs.length : Int), x12, x13, x14, x15, x16, x17, x18, x19, x20, u21, u22, u23, u24, u25, u26, u27, u28, u29, u30, u31, u32, u33, u34, u35, u36, u37, u38, u39, u40, u41, u42, u43, u44, u45, u46, u47, u48, u49, u50, u51, u52, u53, u54, u55, u56, u57, u58, u59, u60, u61, u62, u63, u64, .int .i64 2, x66, x67, x68, x69, x70, x71, x72, x73, x74, x75, x76, x77, x78, x79, x80, x81, x82, x83, x84, x85, x86, x87, x88, x89, x90, x91, x92, x93, x94, x95, x96, x97, x98, x99, x100, x101, x102, x103, x104, x105, x106, x107, x108, x109, x110, x111, x112, x113, x114, x115, x116, x117, x118, x119, x120, x121, x122, x123, x124, x125, x126, x127, x128, x129, x130, x131, x132, x133, x134, x135, x136, x137, x138, x139, x140, x141, x142, x143, x144, x145, x146, x147, x148, x149, x150, x151, x152, x153, x154, x155, x156, x157, x158, x159, x160, x161, x162, x163, x164, x165, x166, u167, u168, u169, u170, u171, u172, u173, u174, u175, u176, u177, u178, u179, u180, u181, u182, u183, u184, u185, u186, u187, u188, u189, u190, u191, u192, u193, u194, u195, u196, u197, u198, u199, u200, u201, u202, u203, u204, u205, u206, u207, u208, u209], []⟩ wx) :
    Code.wp Try.prog (plBlk 2) (Exit.then K (Exit.inBlock 1 (Exit.then K1 (Exit.then K2 (Exit.inBlock 0 (Exit.then K3 (bodyPost Try.prog Try.f6 R))))))) ⟨#[.int .i64 (ag : Int), .slice (some ad) n c, u2, u3, u4, .pointer (some ⟨w.heap.size, 0, none⟩), .int .i64 0, .pointer (some ⟨w.heap.size + 1, 0, none⟩), .int .i64 (k : Int), .pointer (some ⟨bg, 0, none⟩), .pointer (some ⟨bc, 0, none⟩), .int .i64 (s0.xs.length : Int), u12, u13, u14, u15, u16, u17, u18, u19, u20, u21, u22, u23, u24, u25, u26, u27, u28, u29, u30, u31, u32, u33, u34, u35, u36, u37, u38, u39, u40, u41, u42, u43, u44, u45, u46, u47, u48, u49, u50, u51, u52, u53, u54, u55, u56, u57, u58, u59, u60, u61, u62, u63, u64, .int .i64 2, u66, u67, u68, u69, u70, u71, u72, u73, u74, u75, u76, u77, u78, u79, u80, u81, u82, u83, u84, u85, u86, u87, u88, u89, u90, u91, u92, u93, u94, u95, u96, u97, u98, u99, u100, u101, u102, u103, u104, u105, u106, u107, u108, u109, u110, u111, u112, u113, u114, u115, u116, u117, u118, u119, u120, u121, u122, u123, u124, u125, u126, u127, u128, u129, u130, u131, u132, u133, u134, u135, u136, u137, u138, u139, u140, u141, u142, u143, u144, u145, u146, u147, u148, u149, u150, u151, u152, u153, u154, u155, u156, u157, u158, u159, u160, u161, u162, u163, u164, u165, u166, u167, u168, u169, u170, u171, u172, u173, u174, u175, u176, u177, u178, u179, u180, u181, u182, u183, u184, u185, u186, u187, u188, u189, u190, u191, u192, u193, u194, u195, u196, u197, u198, u199, u200, u201, u202, u203, u204, u205, u206, u207, u208, u209], []⟩ wc := by
  have PIN := Lib.hid pin
  have BX := Lib.hid bx
  have HX := Lib.hid hx
  have HY := Lib.hid hy
  have HKK := Lib.hid hK
  have OK := Lib.hid (pin.mid.ok.ok (k := k) (by omega))
  have b0 : wc.cell? ⟨bg, 0, none⟩ = some (.int .i64 2) := bx.1.cell 0
  have b1 : wc.cell? ⟨bg, 1, none⟩ = some (.slice Ab x.length cb) := bx.1.cell 1
  have b2 : wc.cell? ⟨bg, 2, none⟩ = some (.int .u64 q) := bx.1.cell 2
  have b3 : wc.cell? ⟨bg, 3, none⟩ = some (.int .u64 a) := bx.1.cell 3
  have b4 : wc.cell? ⟨bg, 4, none⟩ = some (.slice Ag y.length cg) := bx.1.cell 4
  clear pin bx hx hy hK
  conv => arg 2; whnf
  go_wp2_with fail
  refine (takelong_p PIN.out.mid.st OK.out.1 hlong).mono ?_
  rintro e w2 ⟨rfl, lab2, st2, P2⟩
  have BX2 := BX.out.keep st2 (by omega)
  have b20 : w2.cell? ⟨bg, 0, none⟩ = some (.int .i64 2) := BX2.1.cell 0
  have b21 : w2.cell? ⟨bg, 1, none⟩ = some (.slice Ab x.length cb) := BX2.1.cell 1
  have b22 : w2.cell? ⟨bg, 2, none⟩ = some (.int .u64 q) := BX2.1.cell 2
  have b23 : w2.cell? ⟨bg, 3, none⟩ = some (.int .u64 a) := BX2.1.cell 3
  have b24 : w2.cell? ⟨bg, 4, none⟩ = some (.slice Ag y.length cg) := BX2.1.cell 4
  have HP2 := Lib.hid P2
  have CP2 := Lib.hid (PIN.out.cp.keep st2 (by omega) (by omega))
  clear b0 b1 b2 b3 b4 P2 BX2 st2
  go_wp2_with fail
  exact HKK.out _ _ _ _ _ _ _ _ _ _ _ _ _ _ _ _ _ _ _ _ _ _ _ _ _ _ _ _ _ _ _ _ _ _ _ _ _ _ _ _ _ _ _ _ _ _ _ _ _ _ _ _ _ _ _ _ _ _ _ _ _ _ _ _ _ _ _ _ _ _ _ _ _ _ _ _ _ _ _ _ _ _ _ _ _ _ _ _ _ _ _ _ _ _ _ _ _ _ _ _ _ _ _ _ _ _ _ _ _ _ _ ⟨lab2, s, v, al, ⟨HP2.out, PIN.out.mid.ok.next⟩, CP2.out, PIN.out.a0⟩


set_option maxRecDepth 100000 in
set_option maxHeartbeats 16000000 in
theorem pl_2t {u2 u3 u4 u12 u13 u14 u15 u16 u17 u18 u19 u20 u21 u22 u23 u24 u25 u26 u27 u28 u29 u30 u31 u32 u33 u34 u35 u36 u37 u38 u39 u40 u41 u42 u43 u44 u45 u46 u47 u48 u49 u50 u51 u52 u53 u54 u55 u56 u57 u58 u59 u60 u61 u62 u63 u64 u66 u67 u68 u69 u70 u71 u72 u73 u74 u75 u76 u77 u78 u79 u80 u81 u82 u83 u84 u85 u86 u87 u88 u89 u90 u91 u92 u93 u94 u95 u96 u97 u98 u99 u100 u101 u102 u103 u104 u105 u106 u107 u108 u109 u110 u111 u112 u113 u114 u115 u116 u117 u118 u119 u120 u121 u122 u123 u124 u125 u126 u127 u128 u129 u130 u131 u132 u133 u134 u135 u136 u137 u138 u139 u140 u141 u142 u143 u144 u145 u146 u147 u148 u149 u150 u151 u152 u153 u154 u155 u156 u157 u158 u159 u160 u161 u162 u163 u164 u165 u166 u167 u168 u169 u170 u171 u172 u173 u174 u175 u176 u177 u178 u179 u180 u181 u182 u183 u184 u185 u186 u187 u188 u189 u190 u191 u192 u193 u194 u195 u196 u197 u198 u199 u200 u201 u202 u203 u204 u205 u206 u207 u208 u209 : Value} {K K1 K2 K3 : Act → World → Prop} {R : Ending → World → Prop} {w wc : World} {ad : Addr} {n c k bg bc cb cg q a ag : Nat} {lab : Nat → Nat} {s s0 : SS} {v : Value} {al : List (List UInt8)} {x y : List UInt8} {Ab Ag : Option Addr} (pin : PIn w wc lab s v al k bc s0) (bx : BoxAt wc lab bg 2 (.slice Ab x.length cb) q a (.slice Ag y.length cg)) (hx : Reads wc (fun i => i < w.heap.size) 1 Ab x.length (bytesV x)) (hy : Reads wc (fun i => i < w.heap.size) 1 Ag y.length (bytesV y)) (hk : k < 200) (hshort : ¬ 1024 < y.length) (hsi : seqI s q = true)
    (hK : ∀ (x12 x13 x14 x15 x16 x17 x18 x19 x20 x66 x67 x68 x69 x70 x71 x72 x73 x74 x75 x76 x77 x78 x79 x80 x81 x82 x83 x84 x85 x86 x87 x88 x89 x90 x91 x92 x93 x94 x95 x96 x97 x98 x99 x100 x101 x102 x103 x104 x105 x106 x107 x108 x109 x110 x111 x112 x113 x114 x115 x116 x117 x118 x119 x120 x121 x122 x123 x124 x125 x126 x127 x128 x129 x130 x131 x132 x133 x134 x135 x136 x137 x138 x139 x140 x141 x142 x143 x144 x145 x146 x147 x148 x149 x150 x151 x152 x153 x154 x155 x156 x157 x158 x159 x160 x161 x162 x163 x164 x165 x166 : Value) (wx : World), KPost w k bc s0 wx → K ⟨#[.int .i64 (ag : Int), .slice (some ad) n c, u2, u3, u4, .pointer (some ⟨w.heap.size, 0, none⟩), .int .i64 0, .pointer (some ⟨w.heap.size + 1, 0, none⟩), .int .i64 (k : Int), .pointer (some ⟨bg, 0, none⟩), .pointer (some ⟨bc, 0, none⟩), .int .i64 (s0.xs.length : Int), x12, x13, x14, x15, x16, x17, x18, x19, x20, u21, u22, u23, u24, u25, u26, u27, u28, u29, u30, u31, u32, u33, u34, u35, u36, u37, u38, u39, u40, u41, u42, u43, u44, u45, u46, u47, u48, u49, u50, u51, u52, u53, u54, u55, u56, u57, u58, u59, u60, u61, u62, u63, u64, .int .i64 2, x66, x67, x68, x69, x70, x71, x72, x73, x74, x75, x76, x77, x78, x79, x80, x81, x82, x83, x84, x85, x86, x87, x88, x89, x90, x91, x92, x93, x94, x95, x96, x97, x98, x99, x100, x101, x102, x103, x104, x105, x106, x107, x108, x109, x110, x111, x112, x113, x114, x115, x116, x117, x118, x119, x120, x121, x122, x123, x124, x125, x126, x127, x128, x129, x130, x131, x132, x133, x134, x135, x136, x137, x138, x139, x140, x141, x142, x143, x144, x145, x146, x147, x148, x149, x150, x151, x152, x153, x154, x155, x156, x157, x158, x159, x160, x161, x162, x163, x164, x165, x166, u167, u168, u169, u170, u171, u172, u173, u174, u175, u176, u177, u178, u179, u180, u181, u182, u183, u184, u185, u186, u187, u188, u189, u190, u191, u192, u193, u194, u195, u196, u197, u198, u199, u200, u201, u202, u203, u204, u205, u206, u207, u208, u209], []⟩ wx) :
    Code.wp Try.prog (plBlk 2) (Exit.then K (Exit.inBlock 1 (Exit.then K1 (Exit.then K2 (Exit.inBlock 0 (Exit.then K3 (bodyPost Try.prog Try.f6 R))))))) ⟨#[.int .i64 (ag : Int), .slice (some ad) n c, u2, u3, u4, .pointer (some ⟨w.heap.size, 0, none⟩), .int .i64 0, .pointer (some ⟨w.heap.size + 1, 0, none⟩), .int .i64 (k : Int), .pointer (some ⟨bg, 0, none⟩), .pointer (some ⟨bc, 0, none⟩), .int .i64 (s0.xs.length : Int), u12, u13, u14, u15, u16, u17, u18, u19, u20, u21, u22, u23, u24, u25, u26, u27, u28, u29, u30, u31, u32, u33, u34, u35, u36, u37, u38, u39, u40, u41, u42, u43, u44, u45, u46, u47, u48, u49, u50, u51, u52, u53, u54, u55, u56, u57, u58, u59, u60, u61, u62, u63, u64, .int .i64 2, u66, u67, u68, u69, u70, u71, u72, u73, u74, u75, u76, u77, u78, u79, u80, u81, u82, u83, u84, u85, u86, u87, u88, u89, u90, u91, u92, u93, u94, u95, u96, u97, u98, u99, u100, u101, u102, u103, u104, u105, u106, u107, u108, u109, u110, u111, u112, u113, u114, u115, u116, u117, u118, u119, u120, u121, u122, u123, u124, u125, u126, u127, u128, u129, u130, u131, u132, u133, u134, u135, u136, u137, u138, u139, u140, u141, u142, u143, u144, u145, u146, u147, u148, u149, u150, u151, u152, u153, u154, u155, u156, u157, u158, u159, u160, u161, u162, u163, u164, u165, u166, u167, u168, u169, u170, u171, u172, u173, u174, u175, u176, u177, u178, u179, u180, u181, u182, u183, u184, u185, u186, u187, u188, u189, u190, u191, u192, u193, u194, u195, u196, u197, u198, u199, u200, u201, u202, u203, u204, u205, u206, u207, u208, u209], []⟩ wc := by
  have PIN := Lib.hid pin
  have BX := Lib.hid bx
  have HX := Lib.hid hx
  have HY := Lib.hid hy
  have HKK := Lib.hid hK
  have OK := Lib.hid (pin.mid.ok.ok (k := k) (by omega))
  have b0 : wc.cell? ⟨bg, 0, none⟩ = some (.int .i64 2) := bx.1.cell 0
  have b1 : wc.cell? ⟨bg, 1, none⟩ = some (.slice Ab x.length cb) := bx.1.cell 1
  have b2 : wc.cell? ⟨bg, 2, none⟩ = some (.int .u64 q) := bx.1.cell 2
  have b3 : wc.cell? ⟨bg, 3, none⟩ = some (.int .u64 a) := bx.1.cell 3
  have b4 : wc.cell? ⟨bg, 4, none⟩ = some (.slice Ag y.length cg) := bx.1.cell 4
  clear pin bx hx hy hK
  have HSI := Lib.hid hsi
  clear hsi
  conv => arg 2; whnf
  go_wp2_with fail
  refine (take_pt PIN.out.mid.st OK.out (sq := q) (a := a) (c := cg) HY.out (by omega) HSI.out).mono ?_
  rintro e w2 ⟨Au, cu, lab2, rfl, hu, st2, P2⟩
  have BX2 := BX.out.keep st2 (by omega)
  have b20 : w2.cell? ⟨bg, 0, none⟩ = some (.int .i64 2) := BX2.1.cell 0
  have b21 : w2.cell? ⟨bg, 1, none⟩ = some (.slice Ab x.length cb) := BX2.1.cell 1
  have b22 : w2.cell? ⟨bg, 2, none⟩ = some (.int .u64 q) := BX2.1.cell 2
  have b23 : w2.cell? ⟨bg, 3, none⟩ = some (.int .u64 a) := BX2.1.cell 3
  have b24 : w2.cell? ⟨bg, 4, none⟩ = some (.slice Ag y.length cg) := BX2.1.cell 4
  have HY2 := Lib.hid (HY.out.keep (st2.same fun i hi => by rw [PIN.out.mid.st.low i hi]; omega))
  have HP2 := Lib.hid P2
  have CP2 := Lib.hid (PIN.out.cp.keep st2 (by omega) (by omega))
  have HU2 := Lib.hid hu
  clear hu
  have LOW2 := Lib.hid P2.low
  clear b0 b1 b2 b3 b4 P2 BX2 st2
  go_wp2_with fail
  refine (rtake_pt HP2.out OK.out (sq := q) (a := a) HSI.out).mono ?_
  rintro e w3 ⟨lab3, rfl, st3, P3⟩
  have HP3 := Lib.hid P3
  have CP3 := Lib.hid (CP2.out.keep st3 (by omega) (by omega))
  obtain ⟨z, hz⟩ : ∃ z, z = (ackS s a).acked := ⟨_, rfl⟩
  have hz2 : (seqS (ackS s a) q).acked = z := by rw [((PIN.out.mid.ok.ack a).1.seq q).2.1, hz]
  have hzb : z ≤ 1000 := by have := (PIN.out.mid.ok.ack a).1.sum; omega
  have hcz : w3.cell? ⟨w.heap.size + 1, 2, none⟩ = some (.int .i64 (z : Int)) := by rw [← hz2]; exact P3.rf.blk.cell 2
  have hcv1 : (convert 29 9 (.slice Au y.length cu)).run Try.prog w3 = .ok (.string ⟨y.toArray⟩) w3 := run_str _ _ _ _ _ (HU2.out.keep (st3.same fun i hi => hi))
  have hcv2 : (convert 29 9 (.slice Ag y.length cg)).run Try.prog w3 = .ok (.string ⟨y.toArray⟩) w3 := run_str _ _ _ _ _ (HY2.out.keep (st3.same fun i hi => by rw [LOW2.out i hi]; omega))
  rw [← hz]
  have HZ2 := Lib.hid hz2
  clear P3 st3 hz hz2
  go_wp2_with fail
  exact HKK.out _ _ _ _ _ _ _ _ _ _ _ _ _ _ _ _ _ _ _ _ _ _ _ _ _ _ _ _ _ _ _ _ _ _ _ _ _ _ _ _ _ _ _ _ _ _ _ _ _ _ _ _ _ _ _ _ _ _ _ _ _ _ _ _ _ _ _ _ _ _ _ _ _ _ _ _ _ _ _ _ _ _ _ _ _ _ _ _ _ _ _ _ _ _ _ _ _ _ _ _ _ _ _ _ _ _ _ _ _ _ _ ⟨lab3, _, v, al, ⟨HP3.out, ((PIN.out.mid.ok.ack a).1.seq q).1⟩, CP3.out, PIN.out.a0⟩


set_option maxRecDepth 100000 in
set_option maxHeartbeats 16000000 in
theorem pl_2f {u2 u3 u4 u12 u13 u14 u15 u16 u17 u18 u19 u20 u21 u22 u23 u24 u25 u26 u27 u28 u29 u30 u31 u32 u33 u34 u35 u36 u37 u38 u39 u40 u41 u42 u43 u44 u45 u46 u47 u48 u49 u50 u51 u52 u53 u54 u55 u56 u57 u58 u59 u60 u61 u62 u63 u64 u66 u67 u68 u69 u70 u71 u72 u73 u74 u75 u76 u77 u78 u79 u80 u81 u82 u83 u84 u85 u86 u87 u88 u89 u90 u91 u92 u93 u94 u95 u96 u97 u98 u99 u100 u101 u102 u103 u104 u105 u106 u107 u108 u109 u110 u111 u112 u113 u114 u115 u116 u117 u118 u119 u120 u121 u122 u123 u124 u125 u126 u127 u128 u129 u130 u131 u132 u133 u134 u135 u136 u137 u138 u139 u140 u141 u142 u143 u144 u145 u146 u147 u148 u149 u150 u151 u152 u153 u154 u155 u156 u157 u158 u159 u160 u161 u162 u163 u164 u165 u166 u167 u168 u169 u170 u171 u172 u173 u174 u175 u176 u177 u178 u179 u180 u181 u182 u183 u184 u185 u186 u187 u188 u189 u190 u191 u192 u193 u194 u195 u196 u197 u198 u199 u200 u201 u202 u203 u204 u205 u206 u207 u208 u209 : Value} {K K1 K2 K3 : Act → World → Prop} {R : Ending → World → Prop} {w wc : World} {ad : Addr} {n c k bg bc cb cg q a ag : Nat} {lab : Nat → Nat} {s s0 : SS} {v : Value} {al : List (List UInt8)} {x y : List UInt8} {Ab Ag : Option Addr} (pin : PIn w wc lab s v al k bc s0) (bx : BoxAt wc lab bg 2 (.slice Ab x.length cb) q a (.slice Ag y.length cg)) (hx : Reads wc (fun i => i < w.heap.size) 1 Ab x.length (bytesV x)) (hy : Reads wc (fun i => i < w.heap.size) 1 Ag y.length (bytesV y)) (hk : k < 200) (hshort : ¬ 1024 < y.length) (hsi : seqI s q = false)
    (hK : ∀ (x12 x13 x14 x15 x16 x17 x18 x19 x20 x66 x67 x68 x69 x70 x71 x72 x73 x74 x75 x76 x77 x78 x79 x80 x81 x82 x83 x84 x85 x86 x87 x88 x89 x90 x91 x92 x93 x94 x95 x96 x97 x98 x99 x100 x101 x102 x103 x104 x105 x106 x107 x108 x109 x110 x111 x112 x113 x114 x115 x116 x117 x118 x119 x120 x121 x122 x123 x124 x125 x126 x127 x128 x129 x130 x131 x132 x133 x134 x135 x136 x137 x138 x139 x140 x141 x142 x143 x144 x145 x146 x147 x148 x149 x150 x151 x152 x153 x154 x155 x156 x157 x158 x159 x160 x161 x162 x163 x164 x165 x166 : Value) (wx : World), KPost w k bc s0 wx → K ⟨#[.int .i64 (ag : Int), .slice (some ad) n c, u2, u3, u4, .pointer (some ⟨w.heap.size, 0, none⟩), .int .i64 0, .pointer (some ⟨w.heap.size + 1, 0, none⟩), .int .i64 (k : Int), .pointer (some ⟨bg, 0, none⟩), .pointer (some ⟨bc, 0, none⟩), .int .i64 (s0.xs.length : Int), x12, x13, x14, x15, x16, x17, x18, x19, x20, u21, u22, u23, u24, u25, u26, u27, u28, u29, u30, u31, u32, u33, u34, u35, u36, u37, u38, u39, u40, u41, u42, u43, u44, u45, u46, u47, u48, u49, u50, u51, u52, u53, u54, u55, u56, u57, u58, u59, u60, u61, u62, u63, u64, .int .i64 2, x66, x67, x68, x69, x70, x71, x72, x73, x74, x75, x76, x77, x78, x79, x80, x81, x82, x83, x84, x85, x86, x87, x88, x89, x90, x91, x92, x93, x94, x95, x96, x97, x98, x99, x100, x101, x102, x103, x104, x105, x106, x107, x108, x109, x110, x111, x112, x113, x114, x115, x116, x117, x118, x119, x120, x121, x122, x123, x124, x125, x126, x127, x128, x129, x130, x131, x132, x133, x134, x135, x136, x137, x138, x139, x140, x141, x142, x143, x144, x145, x146, x147, x148, x149, x150, x151, x152, x153, x154, x155, x156, x157, x158, x159, x160, x161, x162, x163, x164, x165, x166, u167, u168, u169, u170, u171, u172, u173, u174, u175, u176, u177, u178, u179, u180, u181, u182, u183, u184, u185, u186, u187, u188, u189, u190, u191, u192, u193, u194, u195, u196, u197, u198, u199, u200, u201, u202, u203, u204, u205, u206, u207, u208, u209], []⟩ wx) :
    Code.wp Try.prog (plBlk 2) (Exit.then K (Exit.inBlock 1 (Exit.then K1 (Exit.then K2 (Exit.inBlock 0 (Exit.then K3 (bodyPost Try.prog Try.f6 R))))))) ⟨#[.int .i64 (ag : Int), .slice (some ad) n c, u2, u3, u4, .pointer (some ⟨w.heap.size, 0, none⟩), .int .i64 0, .pointer (some ⟨w.heap.size + 1, 0, none⟩), .int .i64 (k : Int), .pointer (some ⟨bg, 0, none⟩), .pointer (some ⟨bc, 0, none⟩), .int .i64 (s0.xs.length : Int), u12, u13, u14, u15, u16, u17, u18, u19, u20, u21, u22, u23, u24, u25, u26, u27, u28, u29, u30, u31, u32, u33, u34, u35, u36, u37, u38, u39, u40, u41, u42, u43, u44, u45, u46, u47, u48, u49, u50, u51, u52, u53, u54, u55, u56, u57, u58, u59, u60, u61, u62, u63, u64, .int .i64 2, u66, u67, u68, u69, u70, u71, u72, u73, u74, u75, u76, u77, u78, u79, u80, u81, u82, u83, u84, u85, u86, u87, u88, u89, u90, u91, u92, u93, u94, u95, u96, u97, u98, u99, u100, u101, u102, u103, u104, u105, u106, u107, u108, u109, u110, u111, u112, u113, u114, u115, u116, u117, u118, u119, u120, u121, u122, u123, u124, u125, u126, u127, u128, u129, u130, u131, u132, u133, u134, u135, u136, u137, u138, u139, u140, u141, u142, u143, u144, u145, u146, u147, u148, u149, u150, u151, u152, u153, u154, u155, u156, u157, u158, u159, u160, u161, u162, u163, u164, u165, u166, u167, u168, u169, u170, u171, u172, u173, u174, u175, u176, u177, u178, u179, u180, u181, u182, u183, u184, u185, u186, u187, u188, u189, u190, u191, u192, u193, u194, u195, u196, u197, u198, u199, u200, u201, u202, u203, u204, u205, u206, u207, u208, u209], []⟩ wc := by
  have PIN := Lib.hid pin
  have BX := Lib.hid bx
  have HX := Lib.hid hx
  have HY := Lib.hid hy
  have HKK := Lib.hid hK
  have OK := Lib.hid (pin.mid.ok.ok (k := k) (by omega))
  have b0 : wc.cell? ⟨bg, 0, none⟩ = some (.int .i64 2) := bx.1.cell 0
  have b1 : wc.cell? ⟨bg, 1, none⟩ = some (.slice Ab x.length cb) := bx.1.cell 1
  have b2 : wc.cell? ⟨bg, 2, none⟩ = some (.int .u64 q) := bx.1.cell 2
  have b3 : wc.cell? ⟨bg, 3, none⟩ = some (.int .u64 a) := bx.1.cell 3
  have b4 : wc.cell? ⟨bg, 4, none⟩ = some (.slice Ag y.length cg) := bx.1.cell 4
  clear pin bx hx hy hK
  have HSI := Lib.hid hsi
  clear hsi
  conv => arg 2; whnf
  go_wp2_with fail
  refine (take_pf PIN.out.mid.st OK.out (sq := q) (a := a) (c := cg) HY.out (by omega) HSI.out).mono ?_
  rintro e w2 ⟨lab2, rfl, st2, P2⟩
  have BX2 := BX.out.keep st2 (by omega)
  have b20 : w2.cell? ⟨bg, 0, none⟩ = some (.int .i64 2) := BX2.1.cell 0
  have b21 : w2.cell? ⟨bg, 1, none⟩ = some (.slice Ab x.length cb) := BX2.1.cell 1
  have b22 : w2.cell? ⟨bg, 2, none⟩ = some (.int .u64 q) := BX2.1.cell 2
  have b23 : w2.cell? ⟨bg, 3, none⟩ = some (.int .u64 a) := BX2.1.cell 3
  have b24 : w2.cell? ⟨bg, 4, none⟩ = some (.slice Ag y.length cg) := BX2.1.cell 4
  have HY2 := Lib.hid (HY.out.keep (st2.same fun i hi => by rw [PIN.out.mid.st.low i hi]; omega))
  have HP2 := Lib.hid P2
  have CP2 := Lib.hid (PIN.out.cp.keep st2 (by omega) (by omega))
  have LOW2 := Lib.hid P2.low
  clear b0 b1 b2 b3 b4 P2 BX2 st2
  go_wp2_with fail
  refine (rtake_pf HP2.out OK.out (sq := q) (a := a) HSI.out).mono ?_
  rintro e w3 ⟨lab3, rfl, st3, P3⟩
  have HP3 := Lib.hid P3
  have CP3 := Lib.hid (CP2.out.keep st3 (by omega) (by omega))
  obtain ⟨z, hz⟩ : ∃ z, z = (ackS s a).acked := ⟨_, rfl⟩
  have hz2 : (seqS (ackS s a) q).acked = z := by rw [((PIN.out.mid.ok.ack a).1.seq q).2.1, hz]
  have hzb : z ≤ 1000 := by have := (PIN.out.mid.ok.ack a).1.sum; omega
  have hcz : w3.cell? ⟨w.heap.size + 1, 2, none⟩ = some (.int .i64 (z : Int)) := by rw [← hz2]; exact P3.rf.blk.cell 2
  have hcv1 : (convert 29 9 (.slice none 0 0)).run Try.prog w3 = .ok (.string ⟨#[]⟩) w3 := run_str w3 (fun _ => True) none [] 0 ⟨rfl, fun h => absurd h (by decide)⟩
  rw [← hz]
  have HZ2 := Lib.hid hz2
  clear P3 st3 hz hz2
  go_wp2_with fail
  exact HKK.out _ _ _ _ _ _ _ _ _ _ _ _ _ _ _ _ _ _ _ _ _ _ _ _ _ _ _ _ _ _ _ _ _ _ _ _ _ _ _ _ _ _ _ _ _ _ _ _ _ _ _ _ _ _ _ _ _ _ _ _ _ _ _ _ _ _ _ _ _ _ _ _ _ _ _ _ _ _ _ _ _ _ _ _ _ _ _ _ _ _ _ _ _ _ _ _ _ _ _ _ _ _ _ _ _ _ _ _ _ _ _ ⟨lab3, _, v, al, ⟨HP3.out, ((PIN.out.mid.ok.ack a).1.seq q).1⟩, CP3.out, PIN.out.a0⟩

end Go.Proofs.Ytmkjnblmgofoeaa
