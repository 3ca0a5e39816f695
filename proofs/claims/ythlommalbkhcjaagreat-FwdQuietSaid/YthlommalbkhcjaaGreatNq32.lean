/- Tries of ways: Insert: the fork's two children are stored. -/
import Derived.Test.YthlommalbkhcjaaGreatNq31
import Derived.Deep.RegionHeld3
import Derived.Outline
namespace Go.Proofs.YthlommalbkhcjaaGreat
open Go.RowKit Go.Sort Go.BigFrame
def findRegT (n:Nat):Code→Option Code
 | .region k o d=>if k=n then some (.region k o d) else none
 | .block _ c=>findRegT n c
 | .seq a b=>match findRegT n a with
   | some c=>some c
   | none=>findRegT n b
 | .cond _ a b=>match findRegT n a with
   | some c=>some c
   | none=>findRegT n b
 | .loop c=>findRegT n c
 | _=>none
noncomputable def insReg (n:Nat):Code:=(Tryz.f50.body.bind (findRegT n)).getD .skip
def ForkPost (w8:World) (kb:Nat) (cs:Array Value) (wx:World):Prop:=Blk wx kb 192 cs∧Upd (only kb) w8 wx
set_option maxRecDepth 100000 in
set_option maxHeartbeats 4000000 in
theorem reg26_f {u0 u1 u2 u3 u5 u6 u7 u12 u13 u14 u15 u16 u17 u18 u19 u20 u21 u22 u23 u24 u25 u26 u27 u28 u29 u30 u31 u32 u33 u34 u35 u36 u37 u38 u39 u40 u41 u42 u43 u44 u45 u46 u47 u48 u49 u50 u51 u52 u53 u54 u55 u56 u57 u58 u59 u60 u61 u62 u63 u64 u65 u66 u67 u68 u69 u70 u71 u72 u73 u74 u75 u76 u77 u78 u79 u80 u81 u82 u83 u84 u85 u86 u87 u88 u89 u90 u91 u92 u93 u94 u95 u96 u97 u98 u99 u100 u101 u102 u103 u104 u105 u106 u107 u108 u109 u110 u111 u112 u113 u114 u115 u116 u117 u118 u119 u120 u121 u122 u123 u124 u125 u126 u127 u128 u129 u130 u131 u132 u133 u134 u135 u136 u137 u138 u139 u140 u141:Value} {K:Act→World→Prop} {R:Ending→World→Prop} {w8:World} {pb b fb cb kb a qa ca cn:Nat}
  (x0:w8.cell? ⟨pb,0,none⟩=some (.int .u32 (a:Int))) (y0:w8.cell? ⟨b,0,none⟩=some (.int .u32 (qa:Int))) (c1:w8.cell? ⟨cb,1,none⟩=some (.int .i64 (cn:Int)))
  (hn8:Blk w8 kb 192 (ndX (ca:Int) (cn:Int) wy0 false (.pointer none) (.pointer none))) (hcn31:cn≤31) (ha32:a < 2 ^ 32) (hqa32:qa < 2 ^ 32)
  (he1:bitI a cn=0) (he2:bitI qa cn=1) (n1:pb≠kb) (n2:b≠kb) (n3:cb≠kb)
  (hK:∀ (x116 x117 x118 x119 x120 x121 x122 x123 x124 x125 x126 x127 x128 x129 x130 x131 x132 x133 x134 x135 x136 x137 x138:Value) (wx:World),ForkPost w8 kb (ndX (ca:Int) (cn:Int) wy0 false (.pointer (some ⟨fb,0,none⟩)) (.pointer (some ⟨b,0,none⟩))) wx→K ⟨#[u0,u1,u2,u3,.pointer (some ⟨pb,0,none⟩),u5,u6,u7,.pointer (some ⟨b,0,none⟩),.pointer (some ⟨fb,0,none⟩),.pointer (some ⟨cb,0,none⟩),.pointer (some ⟨kb,0,none⟩),u12,u13,u14,u15,u16,u17,u18,u19,u20,u21,u22,u23,u24,u25,u26,u27,u28,u29,u30,u31,u32,u33,u34,u35,u36,u37,u38,u39,u40,u41,u42,u43,u44,u45,u46,u47,u48,u49,u50,u51,u52,u53,u54,u55,u56,u57,u58,u59,u60,u61,u62,u63,u64,u65,u66,u67,u68,u69,u70,u71,u72,u73,u74,u75,u76,u77,u78,u79,u80,u81,u82,u83,u84,u85,u86,u87,u88,u89,u90,u91,u92,u93,u94,u95,u96,u97,u98,u99,u100,u101,u102,u103,u104,u105,u106,u107,u108,u109,u110,u111,u112,u113,u114,u115,x116,x117,x118,x119,x120,x121,x122,x123,x124,x125,x126,x127,x128,x129,x130,x131,x132,x133,x134,x135,x136,x137,x138,u139,u140,u141],[]⟩ wx) :
  Code.wp Tryz.prog (insReg 26) (Exit.then K (bodyPost Tryz.prog Tryz.f50 R)) ⟨#[u0,u1,u2,u3,.pointer (some ⟨pb,0,none⟩),u5,u6,u7,.pointer (some ⟨b,0,none⟩),.pointer (some ⟨fb,0,none⟩),.pointer (some ⟨cb,0,none⟩),.pointer (some ⟨kb,0,none⟩),u12,u13,u14,u15,u16,u17,u18,u19,u20,u21,u22,u23,u24,u25,u26,u27,u28,u29,u30,u31,u32,u33,u34,u35,u36,u37,u38,u39,u40,u41,u42,u43,u44,u45,u46,u47,u48,u49,u50,u51,u52,u53,u54,u55,u56,u57,u58,u59,u60,u61,u62,u63,u64,u65,u66,u67,u68,u69,u70,u71,u72,u73,u74,u75,u76,u77,u78,u79,u80,u81,u82,u83,u84,u85,u86,u87,u88,u89,u90,u91,u92,u93,u94,u95,u96,u97,u98,u99,u100,u101,u102,u103,u104,u105,u106,u107,u108,u109,u110,u111,u112,u113,u114,u115,u116,u117,u118,u119,u120,u121,u122,u123,u124,u125,u126,u127,u128,u129,u130,u131,u132,u133,u134,u135,u136,u137,u138,u139,u140,u141],[]⟩ w8:=by
 have HKK:=Lib.hid hK
 have HN8:=Lib.hid hn8
 have k4:w8.cell? ⟨kb,260,none⟩=some (.pointer none):=(hn8.cell 260).trans (ndX_l wy0_size)
 have k5:w8.cell? ⟨kb,261,none⟩=some (.pointer none):=(hn8.cell 261).trans (ndX_r wy0_size)
 have j4:w8.frozen? ⟨kb,260,none⟩=false:=hn8.frozen 260
 have j5:w8.frozen? ⟨kb,261,none⟩=false:=hn8.frozen 261
 have HB1:=Lib.hid (fun (wx:World)=>by have h:=tbit_any a cn wx hcn31 ha32; rw [he1] at h; exact h)
 have HB2:=Lib.hid (fun (wx:World)=>by have h:=tbit_any qa cn wx hcn31 hqa32; rw [he2] at h; exact h)
 have n1':kb≠pb:=fun e=>n1 e.symm
 have n2':kb≠b:=fun e=>n2 e.symm
 have n3':kb≠cb:=fun e=>n3 e.symm
 clear hK hn8 he1 he2
 conv=>arg 2; whnf
 go_region_held3 (fun w'=>w'.cell? ⟨pb,0,none⟩=some (.int .u32 (a:Int))∧w'.cell? ⟨b,0,none⟩=some (.int .u32 (qa:Int))∧w'.cell? ⟨cb,1,none⟩=some (.int .i64 (cn:Int))) (go_keep)
  (first
   | (go_at_call_of 107 (Value.int .u32 (a:Int)); refine (HB1.out _).mono ?_; rintro e w' ⟨rfl,rfl⟩)
   | (go_at_call_of 107 (Value.int .u32 (qa:Int)); refine (HB2.out _).mono ?_; rintro e w' ⟨rfl,rfl⟩))
 all_goals
  go_wp2_with fail
  refine HKK.out _ _ _ _ _ _ _ _ _ _ _ _ _ _ _ _ _ _ _ _ _ _ _ _ ⟨?_,?_⟩
  ·have h:=(HN8.out.set_ 260 (.pointer (some ⟨fb,0,none⟩))).set_ 261 (.pointer (some ⟨b,0,none⟩))
   have e:(((ndX (ca:Int) (cn:Int) wy0 false (.pointer none) (.pointer none)):Array Value).setIfInBounds 260 (.pointer (some ⟨fb,0,none⟩))).setIfInBounds 261 (.pointer (some ⟨b,0,none⟩))=(ndX (ca:Int) (cn:Int) wy0 false (.pointer (some ⟨fb,0,none⟩)) (.pointer (some ⟨b,0,none⟩))):=by rw [ndX_setL wy0_size,ndX_setR wy0_size]
   rw [e] at h
   exact h
  ·have u:=((Upd.refl (only kb) w8).set_ 260 (.pointer (some ⟨fb,0,none⟩))).set_ 261 (.pointer (some ⟨b,0,none⟩))
   exact ⟨u.os,u.tape,u.output,u.size,u.block⟩
set_option maxRecDepth 100000 in
set_option maxHeartbeats 4000000 in
theorem reg26_t {u0 u1 u2 u3 u5 u6 u7 u12 u13 u14 u15 u16 u17 u18 u19 u20 u21 u22 u23 u24 u25 u26 u27 u28 u29 u30 u31 u32 u33 u34 u35 u36 u37 u38 u39 u40 u41 u42 u43 u44 u45 u46 u47 u48 u49 u50 u51 u52 u53 u54 u55 u56 u57 u58 u59 u60 u61 u62 u63 u64 u65 u66 u67 u68 u69 u70 u71 u72 u73 u74 u75 u76 u77 u78 u79 u80 u81 u82 u83 u84 u85 u86 u87 u88 u89 u90 u91 u92 u93 u94 u95 u96 u97 u98 u99 u100 u101 u102 u103 u104 u105 u106 u107 u108 u109 u110 u111 u112 u113 u114 u115 u116 u117 u118 u119 u120 u121 u122 u123 u124 u125 u126 u127 u128 u129 u130 u131 u132 u133 u134 u135 u136 u137 u138 u139 u140 u141:Value} {K:Act→World→Prop} {R:Ending→World→Prop} {w8:World} {pb b fb cb kb a qa ca cn:Nat}
  (x0:w8.cell? ⟨pb,0,none⟩=some (.int .u32 (a:Int))) (y0:w8.cell? ⟨b,0,none⟩=some (.int .u32 (qa:Int))) (c1:w8.cell? ⟨cb,1,none⟩=some (.int .i64 (cn:Int)))
  (hn8:Blk w8 kb 192 (ndX (ca:Int) (cn:Int) wy0 false (.pointer none) (.pointer none))) (hcn31:cn≤31) (ha32:a < 2 ^ 32) (hqa32:qa < 2 ^ 32)
  (he1:bitI a cn=1) (he2:bitI qa cn=0) (n1:pb≠kb) (n2:b≠kb) (n3:cb≠kb)
  (hK:∀ (x116 x117 x118 x119 x120 x121 x122 x123 x124 x125 x126 x127 x128 x129 x130 x131 x132 x133 x134 x135 x136 x137 x138:Value) (wx:World),ForkPost w8 kb (ndX (ca:Int) (cn:Int) wy0 false (.pointer (some ⟨b,0,none⟩)) (.pointer (some ⟨fb,0,none⟩))) wx→K ⟨#[u0,u1,u2,u3,.pointer (some ⟨pb,0,none⟩),u5,u6,u7,.pointer (some ⟨b,0,none⟩),.pointer (some ⟨fb,0,none⟩),.pointer (some ⟨cb,0,none⟩),.pointer (some ⟨kb,0,none⟩),u12,u13,u14,u15,u16,u17,u18,u19,u20,u21,u22,u23,u24,u25,u26,u27,u28,u29,u30,u31,u32,u33,u34,u35,u36,u37,u38,u39,u40,u41,u42,u43,u44,u45,u46,u47,u48,u49,u50,u51,u52,u53,u54,u55,u56,u57,u58,u59,u60,u61,u62,u63,u64,u65,u66,u67,u68,u69,u70,u71,u72,u73,u74,u75,u76,u77,u78,u79,u80,u81,u82,u83,u84,u85,u86,u87,u88,u89,u90,u91,u92,u93,u94,u95,u96,u97,u98,u99,u100,u101,u102,u103,u104,u105,u106,u107,u108,u109,u110,u111,u112,u113,u114,u115,x116,x117,x118,x119,x120,x121,x122,x123,x124,x125,x126,x127,x128,x129,x130,x131,x132,x133,x134,x135,x136,x137,x138,u139,u140,u141],[]⟩ wx) :
  Code.wp Tryz.prog (insReg 26) (Exit.then K (bodyPost Tryz.prog Tryz.f50 R)) ⟨#[u0,u1,u2,u3,.pointer (some ⟨pb,0,none⟩),u5,u6,u7,.pointer (some ⟨b,0,none⟩),.pointer (some ⟨fb,0,none⟩),.pointer (some ⟨cb,0,none⟩),.pointer (some ⟨kb,0,none⟩),u12,u13,u14,u15,u16,u17,u18,u19,u20,u21,u22,u23,u24,u25,u26,u27,u28,u29,u30,u31,u32,u33,u34,u35,u36,u37,u38,u39,u40,u41,u42,u43,u44,u45,u46,u47,u48,u49,u50,u51,u52,u53,u54,u55,u56,u57,u58,u59,u60,u61,u62,u63,u64,u65,u66,u67,u68,u69,u70,u71,u72,u73,u74,u75,u76,u77,u78,u79,u80,u81,u82,u83,u84,u85,u86,u87,u88,u89,u90,u91,u92,u93,u94,u95,u96,u97,u98,u99,u100,u101,u102,u103,u104,u105,u106,u107,u108,u109,u110,u111,u112,u113,u114,u115,u116,u117,u118,u119,u120,u121,u122,u123,u124,u125,u126,u127,u128,u129,u130,u131,u132,u133,u134,u135,u136,u137,u138,u139,u140,u141],[]⟩ w8:=by
 have HKK:=Lib.hid hK
 have HN8:=Lib.hid hn8
 have k4:w8.cell? ⟨kb,260,none⟩=some (.pointer none):=(hn8.cell 260).trans (ndX_l wy0_size)
 have k5:w8.cell? ⟨kb,261,none⟩=some (.pointer none):=(hn8.cell 261).trans (ndX_r wy0_size)
 have j4:w8.frozen? ⟨kb,260,none⟩=false:=hn8.frozen 260
 have j5:w8.frozen? ⟨kb,261,none⟩=false:=hn8.frozen 261
 have HB1:=Lib.hid (fun (wx:World)=>by have h:=tbit_any a cn wx hcn31 ha32; rw [he1] at h; exact h)
 have HB2:=Lib.hid (fun (wx:World)=>by have h:=tbit_any qa cn wx hcn31 hqa32; rw [he2] at h; exact h)
 have n1':kb≠pb:=fun e=>n1 e.symm
 have n2':kb≠b:=fun e=>n2 e.symm
 have n3':kb≠cb:=fun e=>n3 e.symm
 clear hK hn8 he1 he2
 conv=>arg 2; whnf
 go_region_held3 (fun w'=>w'.cell? ⟨pb,0,none⟩=some (.int .u32 (a:Int))∧w'.cell? ⟨b,0,none⟩=some (.int .u32 (qa:Int))∧w'.cell? ⟨cb,1,none⟩=some (.int .i64 (cn:Int))) (go_keep)
  (first
   | (go_at_call_of 107 (Value.int .u32 (a:Int)); refine (HB1.out _).mono ?_; rintro e w' ⟨rfl,rfl⟩)
   | (go_at_call_of 107 (Value.int .u32 (qa:Int)); refine (HB2.out _).mono ?_; rintro e w' ⟨rfl,rfl⟩))
 all_goals
  go_wp2_with fail
  refine HKK.out _ _ _ _ _ _ _ _ _ _ _ _ _ _ _ _ _ _ _ _ _ _ _ _ ⟨?_,?_⟩
  ·have h:=(HN8.out.set_ 261 (.pointer (some ⟨fb,0,none⟩))).set_ 260 (.pointer (some ⟨b,0,none⟩))
   have e:(((ndX (ca:Int) (cn:Int) wy0 false (.pointer none) (.pointer none)):Array Value).setIfInBounds 261 (.pointer (some ⟨fb,0,none⟩))).setIfInBounds 260 (.pointer (some ⟨b,0,none⟩))=(ndX (ca:Int) (cn:Int) wy0 false (.pointer (some ⟨b,0,none⟩)) (.pointer (some ⟨fb,0,none⟩))):=by rw [ndX_setR wy0_size,ndX_setL wy0_size]
   rw [e] at h
   exact h
  ·have u:=((Upd.refl (only kb) w8).set_ 261 (.pointer (some ⟨fb,0,none⟩))).set_ 260 (.pointer (some ⟨b,0,none⟩))
   exact ⟨u.os,u.tape,u.output,u.size,u.block⟩
end Go.Proofs.YthlommalbkhcjaaGreat
