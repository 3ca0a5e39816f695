/- RelPlays: what is asked at the end of a round. -/
import Derived.Test.YtmkjnblmgofoeaaPlA
namespace Go.Proofs.Ytmkjnblmgofoeaa
open Go.RowKit

set_option maxRecDepth 100000 in
set_option maxHeartbeats 16000000 in
theorem pl_38 {u2 u3 u4 u12 u13 u14 u15 u16 u17 u18 u19 u20 u21 u22 u23 u24 u25 u26 u27 u28 u29 u30 u31 u32 u33 u34 u35 u36 u37 u38 u39 u40 u41 u42 u43 u44 u45 u46 u47 u48 u49 u50 u51 u52 u53 u54 u55 u56 u57 u58 u59 u60 u61 u62 u63 u64 u65 u66 u67 u68 u69 u70 u71 u72 u73 u74 u75 u76 u77 u78 u79 u80 u81 u82 u83 u84 u85 u86 u87 u88 u89 u90 u91 u92 u93 u94 u95 u96 u97 u98 u99 u100 u101 u102 u103 u104 u105 u106 u107 u108 u109 u110 u111 u112 u113 u114 u115 u116 u117 u118 u119 u120 u121 u122 u123 u124 u125 u126 u127 u128 u129 u130 u131 u132 u133 u134 u135 u136 u137 u138 u139 u140 u141 u142 u143 u144 u145 u146 u147 u148 u149 u150 u151 u152 u153 u154 u155 u156 u157 u158 u159 u160 u161 u162 u163 u164 u165 u166 u167 u168 u169 u170 u171 u172 u173 u174 u175 u176 u177 u178 u179 u180 u181 u182 u183 u184 u185 u186 u187 u188 u189 u190 u191 u192 u193 u194 u195 u196 u197 u198 u199 u200 u201 u202 u203 u204 u205 u206 u207 u208 u209 : Value} {K K1 K2 K3 : Act → World → Prop} {R : Ending → World → Prop} {w wc : World} {ad : Addr} {n c k bg bc ag : Nat} {s0 : SS} (hp : KPost w k bc s0 wc) (hk : k < 200)
    (hK : ∀ (x167 x168 x169 x170 x171 x172 x173 x174 x175 x176 x177 x178 x179 x180 x181 x182 x183 x184 x185 x186 x187 x188 x189 x190 x191 x192 x193 x194 x195 x196 x197 x198 x199 x200 x201 x202 x203 x204 x205 x206 x207 : Value) (wx : World), KPost w k bc s0 wx → K ⟨#[.int .i64 (ag : Int), .slice (some ad) n c, u2, u3, u4, .pointer (some ⟨w.heap.size, 0, none⟩), .int .i64 0, .pointer (some ⟨w.heap.size + 1, 0, none⟩), .int .i64 (k : Int), .pointer (some ⟨bg, 0, none⟩), .pointer (some ⟨bc, 0, none⟩), .int .i64 (s0.xs.length : Int), u12, u13, u14, u15, u16, u17, u18, u19, u20, u21, u22, u23, u24, u25, u26, u27, u28, u29, u30, u31, u32, u33, u34, u35, u36, u37, u38, u39, u40, u41, u42, u43, u44, u45, u46, u47, u48, u49, u50, u51, u52, u53, u54, u55, u56, u57, u58, u59, u60, u61, u62, u63, u64, u65, u66, u67, u68, u69, u70, u71, u72, u73, u74, u75, u76, u77, u78, u79, u80, u81, u82, u83, u84, u85, u86, u87, u88, u89, u90, u91, u92, u93, u94, u95, u96, u97, u98, u99, u100, u101, u102, u103, u104, u105, u106, u107, u108, u109, u110, u111, u112, u113, u114, u115, u116, u117, u118, u119, u120, u121, u122, u123, u124, u125, u126, u127, u128, u129, u130, u131, u132, u133, u134, u135, u136, u137, u138, u139, u140, u141, u142, u143, u144, u145, u146, u147, u148, u149, u150, u151, u152, u153, u154, u155, u156, u157, u158, u159, u160, u161, u162, u163, u164, u165, u166, x167, x168, x169, x170, x171, x172, x173, x174, x175, x176, x177, x178, x179, x180, x181, x182, x183, x184, x185, x186, x187, x188, x189, x190, x191, x192, x193, x194, x195, x196, x197, x198, x199, x200, x201, x202, x203, x204, x205, x206, x207, .bool false, u209], []⟩ wx) :
    Code.wp Try.prog (plReg 38) (Exit.then K (Exit.inBlock 1 (Exit.then K1 (Exit.then K2 (Exit.inBlock 0 (Exit.then K3 (bodyPost Try.prog Try.f6 R))))))) ⟨#[.int .i64 (ag : Int), .slice (some ad) n c, u2, u3, u4, .pointer (some ⟨w.heap.size, 0, none⟩), .int .i64 0, .pointer (some ⟨w.heap.size + 1, 0, none⟩), .int .i64 (k : Int), .pointer (some ⟨bg, 0, none⟩), .pointer (some ⟨bc, 0, none⟩), .int .i64 (s0.xs.length : Int), u12, u13, u14, u15, u16, u17, u18, u19, u20, u21, u22, u23, u24, u25, u26, u27, u28, u29, u30, u31, u32, u33, u34, u35, u36, u37, u38, u39, u40, u41, u42, u43, u44, u45, u46, u47, u48, u49, u50, u51, u52, u53, u54, u55, u56, u57, u58, u59, u60, u61, u62, u63, u64, u65, u66, u67, u68, u69, u70, u71, u72, u73, u74, u75, u76, u77, u78, u79, u80, u81, u82, u83, u84, u85, u86, u87, u88, u89, u90, u91, u92, u93, u94, u95, u96, u97, u98, u99, u100, u101, u102, u103, u104, u105, u106, u107, u108, u109, u110, u111, u112, u113, u114, u115, u116, u117, u118, u119, u120, u121, u122, u123, u124, u125, u126, u127, u128, u129, u130, u131, u132, u133, u134, u135, u136, u137, u138, u139, u140, u141, u142, u143, u144, u145, u146, u147, u148, u149, u150, u151, u152, u153, u154, u155, u156, u157, u158, u159, u160, u161, u162, u163, u164, u165, u166, u167, u168, u169, u170, u171, u172, u173, u174, u175, u176, u177, u178, u179, u180, u181, u182, u183, u184, u185, u186, u187, u188, u189, u190, u191, u192, u193, u194, u195, u196, u197, u198, u199, u200, u201, u202, u203, u204, u205, u206, u207, u208, u209], []⟩ wc := by
  obtain ⟨lab, s, v, al, pin⟩ := hp
  have hok := pin.mid.ok.ok (k := k + 1) (by omega)
  have st := pin.mid.st
  have rf := st.rf
  obtain ⟨us, ho, hit⟩ := rf.row
  have hul := rf.len
  rw [← hit.len] at hul
  obtain ⟨Av, cv, rfl, _⟩ := own_form ho
  obtain ⟨U, hU⟩ : ∃ U, U = us.length := ⟨_, rfl⟩
  obtain ⟨X, hX⟩ : ∃ X, X = s.xs.length := ⟨_, rfl⟩
  obtain ⟨AK, hA⟩ : ∃ AK, AK = s.acked := ⟨_, rfl⟩
  obtain ⟨TK, hT⟩ : ∃ TK, TK = s.taken := ⟨_, rfl⟩
  obtain ⟨X0, hX0⟩ : ∃ X0, X0 = s0.xs.length := ⟨_, rfl⟩
  have c1 : wc.cell? ⟨w.heap.size + 1, 1, none⟩ = some (.slice Av U cv) := by rw [hU]; exact rf.blk.cell 1
  have c2 : wc.cell? ⟨w.heap.size + 1, 2, none⟩ = some (.int .i64 (AK : Int)) := by rw [hA]; exact rf.blk.cell 2
  have c4 : wc.cell? ⟨w.heap.size + 1, 4, none⟩ = some (.int .u64 (TK : Int)) := by rw [hT]; exact rf.blk.cell 4
  have hsum := pin.mid.ok.sum
  have htk := pin.mid.ok.taken
  have HL1 := Lib.hid (fun (nd : Nat) => quiet_leftP (left_st (st.st.ofHeapP (by omega) (w2 := wc.drewN nd) rfl ⟨rfl, rfl, rfl⟩) hok.1))
  have HA := Lib.hid (fun (nd : Nat) => quiet_leftP (acked_st (st.st.ofHeapP (by omega) (w2 := wc.drewN nd) rfl ⟨rfl, rfl, rfl⟩) hok.1))
  have HT := Lib.hid (fun (nd : Nat) => quiet_leftP (taken_st (st.st.ofHeapP (by omega) (w2 := wc.drewN nd) rfl ⟨rfl, rfl, rfl⟩) hok.1))
  have HL2 := Lib.hid (fun (nd : Nat) => quiet_leftP (left_st (pin.cp.ofHeapP (by omega) (w2 := wc.drewN nd) rfl ⟨rfl, rfl, rfl⟩) pin.a0))
  rw [← hX] at HL1
  rw [← hA] at HA
  rw [← hT] at HT
  rw [← hX0] at HL2 ⊢
  have b1 : (U : Int) = AK + X := by omega
  have b2 : AK + X ≤ 1000 := by omega
  have b3 : TK ≤ 1000 := by omega
  have wA : IntKind.i64.wrap ((U : Int) - (AK : Int)) = (U : Int) - (AK : Int) := IntWalk.i64_in _ (by omega)
  have wB : IntKind.u64.wrap (AK : Int) = (AK : Int) := by unfold IntKind.wrap; simp [IntKind.bits]; omega
  have e1 : ((X : Int) != (U : Int) - (AK : Int)) = false := by simp; omega
  have e2 : ((AK : Int) != (AK : Int)) = false := bne_self_eq_false _
  have e3 : ((TK : Int) != (TK : Int)) = false := bne_self_eq_false _
  have e4 : ((X0 : Int) != (X0 : Int)) = false := bne_self_eq_false _
  have PIN := Lib.hid pin
  have HX0 := Lib.hid hX0
  have HKK := Lib.hid hK
  clear hK pin st rf ho hit hul hok hU hX hA hT hX0 hsum htk b1 b2 b3 hk
  conv => arg 2; whnf
  go_quiet (first | (go_at_call 17; exact HL1.out _) | (go_at_call 17; exact HL2.out _) | (go_at_call 15; exact HA.out _) | (go_at_call 16; exact HT.out _))
  go_wp2_with fail
  rw [HX0.out]
  exact HKK.out _ _ _ _ _ _ _ _ _ _ _ _ _ _ _ _ _ _ _ _ _ _ _ _ _ _ _ _ _ _ _ _ _ _ _ _ _ _ _ _ _ (wc.drewN nq) ⟨lab, s, _, al, ⟨PIN.out.mid.st.ofHeap rfl ⟨rfl, rfl, rfl⟩, PIN.out.mid.ok⟩, PIN.out.cp.ofHeapP (by omega) rfl ⟨rfl, rfl, rfl⟩, PIN.out.a0⟩

end Go.Proofs.Ytmkjnblmgofoeaa
