/- Nodes of tries of ways: their cells, what they are in memory, loads and stores. -/
import Derived.Test.YthlommalbkhcjaaGreatNq01
import Derived.Test.YthlommalbkhcjaaGreatNq08
import Derived.Test.YthlommalbkhcjaaGreatNq07
import Derived.Test.YthlommalbkhcjaaGreatNq06
import Derived.Laws.BitsLemmas
import Derived.IntWalk
import Derived.Lib.Strings
import Derived.Lib.Slices
import Derived.Lib.Small
import Derived.Lib.Walk
import Derived.Deep.RegionWith
namespace Go.Proofs.YthlommalbkhcjaaGreat
open Go.RowKit
theorem ret_intT {k:IntKind} {a b:Int} (h:a=b):Ending.returned (.int k a)=.returned (.int k b):=by rw [h]
theorem ret_boolT {a b:Bool} (h:a=b):Ending.returned (.bool a)=.returned (.bool b):=by rw [h]
/-! ### Bits of 32 -/
theorem twraps_u32 (n:Int) (h₀:0≤n) (h₁:n < 2 ^ 32):IntKind.u32.wrap n=n:=by
 simp [IntKind.wrap,IntKind.bits,IntKind.signed]; omega
theorem and_u32 (a b:Nat) (ha:a < 2 ^ 32) (hb:b < 2 ^ 32):bits .and .u32 (a:Int) (b:Int)=((a &&& b:Nat):Int) :=
 (bits_nat .u32 32 (by decide) twraps_u32 a b ha hb).1
theorem txor_u32 (a b:Nat) (ha:a < 2 ^ 32) (hb:b < 2 ^ 32):bits .xor .u32 (a:Int) (b:Int)=((a ^^^ b:Nat):Int):=by
 have h1:(BitVec.ofInt 32 (a:Int)).toNat=a:=by
  rw [BitVec.ofInt_natCast,BitVec.toNat_ofNat]; exact Nat.mod_eq_of_lt (by omega)
 have h2:(BitVec.ofInt 32 (b:Int)).toNat=b:=by
  rw [BitVec.ofInt_natCast,BitVec.toNat_ofNat]; exact Nat.mod_eq_of_lt (by omega)
 have hx:a ^^^ b < 2 ^ 32:=Nat.xor_lt_two_pow ha hb
 show IntKind.u32.wrap ((BitVec.ofInt 32 (a:Int) ^^^ BitVec.ofInt 32 (b:Int)).toNat:Int)=_
 rw [BitVec.toNat_xor,h1,h2]
 exact twraps_u32 _ (by omega) (by omega)
theorem andNot_u32 (a b:Nat) (ha:a < 2 ^ 32) (hb:b < 2 ^ 32):bits .andNot .u32 (a:Int) (b:Int)=((a &&& (2 ^ 32 - 1 - b):Nat):Int):=by
 have h1:(BitVec.ofInt 32 (a:Int)).toNat=a:=by
  rw [BitVec.ofInt_natCast,BitVec.toNat_ofNat]; exact Nat.mod_eq_of_lt (by omega)
 have h2:(BitVec.ofInt 32 (b:Int)).toNat=b:=by
  rw [BitVec.ofInt_natCast,BitVec.toNat_ofNat]; exact Nat.mod_eq_of_lt (by omega)
 have hx:a &&& (2 ^ 32 - 1 - b) < 2 ^ 32:=Nat.lt_of_le_of_lt Nat.and_le_left ha
 show IntKind.u32.wrap ((BitVec.ofInt 32 (a:Int) &&& ~~~BitVec.ofInt 32 (b:Int)).toNat:Int)=_
 rw [BitVec.toNat_and,BitVec.toNat_not,h1,h2]
 exact twraps_u32 _ (by omega) (by omega)
theorem maskN_eq:∀ n:Fin 33,IntKind.u64.wrap (18446744073709551615 * 2 ^ (32 - n.val)) % 4294967296=((2 ^ 32 - 2 ^ (32 - n.val):Nat):Int):=by decide +kernel
def maskN (n:Nat):Nat:=2 ^ 32 - 2 ^ (32 - n)
theorem maskN_lt {n:Nat} (_:n≤32):maskN n < 2 ^ 32:=by have:=Nat.two_pow_pos (32 - n); unfold maskN; omega
theorem and_maskN {a n:Nat} (ha:a < 2 ^ 32) (hn:n≤32):bits .and .u32 (a:Int) (maskN n:Int)=((firstB a n:Nat):Int):=by
 rw [and_u32 a _ ha (maskN_lt hn)]
 unfold maskN
 rw [and_mask ha hn]
theorem andNot_maskN {a n:Nat} (ha:a < 2 ^ 32) (hn:n≤32):bits .andNot .u32 (a:Int) (maskN n:Int)=((a % 2 ^ (32 - n):Nat):Int):=by
 rw [andNot_u32 a _ ha (maskN_lt hn)]
 have hle:2 ^ (32 - n)≤2 ^ 32:=Nat.pow_le_pow_right (by decide) (by omega)
 have h0:=Nat.two_pow_pos (32 - n)
 have e:2 ^ 32 - 1 - maskN n=2 ^ (32 - n) - 1:=by unfold maskN; omega
 rw [e,Nat.and_two_pow_sub_one_eq_mod]
theorem mask_any (n:Nat) (w:World) (hn:n≤32) :
  Calls Tryz.prog 153 #[.int .i64 n] w fun e w'=>e=.returned (.int .u32 (maskN n:Int))∧w=w':=by
 have he:=maskN_eq ⟨n,by omega⟩
 have HE:=Lib.hid he
 clear he
 go_enter Tryz.func153,Tryz.ntmps153
 go_wp2
 go_ret
 exact ⟨ret_intT HE.out,rfl⟩
def bitI (a n:Nat):Int:=if bitB a n then 1 else 0
theorem bitI_eq (a n:Nat) (ha:a < 2 ^ 32):wrap64 (bits .and .u32 ((a:Int) / 2 ^ (31 - n)) 1)=bitI a n:=by
 have e:((a:Int) / 2 ^ (31 - n))=((a / 2 ^ (31 - n):Nat):Int):=by simp
 have hd:a / 2 ^ (31 - n) < 2 ^ 32:=Nat.lt_of_le_of_lt (Nat.div_le_self _ _) ha
 have e2:=and_u32 (a / 2 ^ (31 - n)) 1 hd (by decide)
 rw [e,show (1:Int)=((1:Nat):Int) from rfl,e2,Nat.and_one_is_mod]
 unfold bitI bitB
 rw [Nat.testBit_eq_decide_div_mod_eq]
 have h2:a / 2 ^ (31 - n) % 2=0∨a / 2 ^ (31 - n) % 2=1:=by omega
 rcases h2 with h2 | h2 <;> rw [h2] <;> decide +kernel
theorem tbit_any (a n:Nat) (w:World) (hn:n≤31) (ha:a < 2 ^ 32) :
  Calls Tryz.prog 107 #[.int .u32 a,.int .i64 n] w fun e w'=>e=.returned (.int .i64 (bitI a n))∧w=w':=by
 have HE:=Lib.hid (bitI_eq a n ha)
 go_enter Tryz.func107,Tryz.ntmps107
 go_wp2
 go_ret
 exact ⟨ret_intT HE.out,rfl⟩
abbrev pxV (a:Nat) (n:Int):Value:=.agg #[.int .u32 (a:Int),.int .i64 n]
def mayB (a:Nat) (n:Int):Bool:=decide (0≤n∧n≤32∧a % 2 ^ (32 - n.toNat)=0)
theorem may_bits {a:Nat} {n:Int} (ha:a < 2 ^ 32) (h:mayB a n=true):∃ p:Bs,p.length≤32∧padB p=a∧(p.length:Int)=n:=by
 obtain ⟨h0,h1,h2⟩:=of_decide_eq_true h
 refine ⟨bitsB a n.toNat,by rw [bitsB_len]; omega,((mod_iff ha (by omega)).1 h2).symm,by rw [bitsB_len]; omega⟩
theorem bits_may {p:Bs} (h:p.length≤32):mayB (padB p) p.length=true:=by
 unfold mayB
 refine decide_eq_true ⟨by omega,by omega,?_⟩
 rw [Int.toNat_natCast,mod_iff (padB_lt p h) h,bits_pad p h]
theorem below_box (w:World) (o:Obj) (n:Nat):Below w.heap.size w ((w.alloc o).drewN n) :=
 let h:=(Below.refl w.heap.size w).alloc (Nat.le_refl _) o
 ⟨h.os,h.tape,h.output,h.size,h.block⟩
theorem tmay_any (a:Nat) (n:Int) (w:World) (ha:a < 2 ^ 32) :
  Calls Tryz.prog 104 #[pxV a n] w fun e w'=>e=.returned (.bool (mayB a n))∧∃ m,w'=(w.alloc (.cells #[.int .u32 (a:Int),.int .i64 n] 37)).drewN m:=by
 by_cases h0:0≤n
 case neg =>
  have hb:mayB a n=false:=decide_eq_false fun h=>h0 h.1
  rw [hb]
  have d0:decide ((0:Int)≤n)=false:=decide_eq_false h0
  clear hb
  go_enter Tryz.func104,Tryz.ntmps104
  go_wp2
  go_quiet (fail)
  go_wp2
  go_ret
  exact ⟨rfl,_,rfl⟩
 by_cases h1:n≤32
 case neg =>
  have hb:mayB a n=false:=decide_eq_false fun h=>h1 h.2.1
  rw [hb]
  have d1:decide (n≤32)=false:=decide_eq_false h1
  clear hb
  go_enter Tryz.func104,Tryz.ntmps104
  go_wp2
  go_quiet (fail)
  go_wp2
  go_ret
  exact ⟨rfl,_,rfl⟩
 obtain ⟨k,rfl⟩:∃ k:Nat,n=(k:Int):=⟨n.toNat,by omega⟩
 have hk:k≤32:=by omega
 have hm:mayB a k=((((a % 2 ^ (32 - k):Nat):Int)) == 0):=by
  unfold mayB
  rw [Bool.eq_iff_iff,decide_eq_true_iff,beq_iff_eq,Int.toNat_natCast]
  constructor
  ·intro h; omega
  ·intro h; exact ⟨by omega,by omega,by omega⟩
 have hb:=andNot_maskN ha hk
 have HM:=Lib.hid hm
 have HC:=Lib.hid (fun (w:World)=>mask_any k w hk)
 clear hm
 go_enter Tryz.func104,Tryz.ntmps104
 go_wp2
 go_quiet ((go_at_call 153; exact Calls.quiet_of_same ((HC.out _).mono fun _ _ ⟨h,hw⟩=>⟨h,hw.symm⟩)))
 go_wp2
 go_ret
 exact ⟨ret_boolT HM.out.symm,_,rfl⟩
end Go.Proofs.YthlommalbkhcjaaGreat
namespace Go.Proofs.YthlommalbkhcjaaGreat
open Go.RowKit
def lzN (x:Nat):Nat:=32 - Lib.bitLen x
theorem lz_any (x:Nat) (w:World) (h:x < 2 ^ 32) :
  Calls Tryz.prog 154 #[.int .u32 (x:Int)] w fun e w'=>e=.returned (.int .i64 (lzN x:Int))∧w'=w:=by
 have l:Lib.bitLen x≤32:=Lib.bitLen_le x 32 (by omega) h
 refine (lz32_any (x:Int) w (by omega) (by omega)).mono fun e w' ⟨he,hw⟩=>⟨?_,hw⟩
 rw [he]
 refine ret_intT ?_
 rw [Int.toNat_natCast]
 unfold lzN
 omega
set_option maxHeartbeats 1000000 in
theorem common_any (P Q:Bs) (w:World) (hP:P.length≤32) (hQ:Q.length≤32) :
  Calls Tryz.prog 106 #[pxV (padB P) P.length,pxV (padB Q) Q.length] w fun e w'=>e=.returned (pxV (padB (lcpB P Q)) (lcpB P Q).length)∧Below w.heap.size w w':=by
 obtain ⟨a,ha⟩:∃ a,a=padB P:=⟨_,rfl⟩
 obtain ⟨b,hb⟩:∃ b,b=padB Q:=⟨_,rfl⟩
 obtain ⟨m,hm⟩:∃ m,m=P.length:=⟨_,rfl⟩
 obtain ⟨n,hn⟩:∃ n,n=Q.length:=⟨_,rfl⟩
 obtain ⟨k,hk⟩:∃ k,k=(lcpB P Q).length:=⟨_,rfl⟩
 have la:a < 2 ^ 32:=by rw [ha]; exact padB_lt P hP
 have lb:b < 2 ^ 32:=by rw [hb]; exact padB_lt Q hQ
 have hx:bits .xor .u32 (a:Int) (b:Int)=((a ^^^ b:Nat):Int):=txor_u32 a b la lb
 have hx2:a ^^^ b < 2 ^ 32:=Nat.xor_lt_two_pow la lb
 obtain ⟨x,hxx⟩:∃ x,x=a ^^^ b:=⟨_,rfl⟩
 have hlen:min (min m n) (lzN x)=k:=by rw [hk,hm,hn,hxx,ha,hb]; exact common_len hP hQ
 have hfirst:firstB a k=padB (lcpB P Q):=by rw [ha,hk]; exact common_addr hP
 have hk32:k≤32:=by rw [← hlen]; omega
 have hand:=and_maskN la hk32
 rw [hfirst] at hand
 rw [← hxx] at hx hx2
 rw [← ha,← hb,← hm,← hn,← hk]
 obtain ⟨z,hz⟩:∃ z,z=lzN x:=⟨_,rfl⟩
 rw [← hz] at hlen
 have HL:=Lib.hid (fun (w:World)=>lz_any x w hx2)
 rw [← hz] at HL
 have HM:=Lib.hid (fun (w:World)=>mask_any k w hk32)
 have hm32:m≤32:=by omega
 have hn32:n≤32:=by omega
 have hz32:z≤32:=by unfold lzN at hz; omega
 have HLEN:=Lib.hid hlen
 have HZ:=Lib.hid hz
 clear ha hb hm hn hk hxx hfirst hlen hz
 go_enter Tryz.func106,Tryz.ntmps106
 go_wp2
 go_quiet ((go_at_call 154; exact Calls.quiet_of_same (HL.out _)))
 have hmin:(if (z:Int) < (if n < m then (n:Int) else (m:Int)) then (z:Int) else (if n < m then (n:Int) else (m:Int)))=(k:Int):=by
  rw [← HLEN.out]
  split <;> split <;> omega
 rw [hmin]
 clear hmin
 go_wp2_with fail
 go_region_with (go_at_call 153; refine (HM.out _).mono ?_; rintro e w' ⟨rfl,rfl⟩)
 all_goals
  go_wp2_with fail
  refine bodyPost_ret (v:=pxV (padB (lcpB P Q)) k) (by simp [results,Tryz.results106,go_sem]) rfl ⟨rfl,?_⟩
  exact (((((((Upd.refl (fun _=>False) w).alloc _).alloc _).alloc _).drewN _).setCell (p:=⟨w.heap.size+1+1,0,none⟩) (.inr (by show w.heap.size≤w.heap.size+1+1; omega)) _).setCell (p:=⟨w.heap.size+1+1,1,none⟩) (.inr (by show w.heap.size≤w.heap.size+1+1; omega)) _).below (fun _ h=>h.elim) (Nat.le_refl _)
end Go.Proofs.YthlommalbkhcjaaGreat
namespace Go.Proofs.YthlommalbkhcjaaGreat
open Go.RowKit
theorem blk_setCells_mid {g:Nat} {t:TypeId} {post:List Value}:∀ (us pre mid:List Value) (w:World),mid.length=us.length→Blk w g t (pre++mid++post).toArray→Blk (w.setCells g pre.length us) g t (pre++us++post).toArray
 | [],pre,mid,w,hl,hb=>by
   obtain rfl:=List.eq_nil_of_length_eq_zero hl
   exact hb
 | v :: us,pre,mid,w,hl,hb=>by
   match mid,hl with
   | x :: s,hl =>
     have h2:=hb.set_ pre.length v
     rw [List.setIfInBounds_toArray,List.append_assoc,List.set_append_right _ _ (Nat.le_refl _),Nat.sub_self,List.cons_append,List.set_cons_zero] at h2
     have h3:=blk_setCells_mid us (pre++[v]) s (w.setCell ⟨g,pre.length,none⟩ v) (by simpa using hl) (by simpa using h2)
     rw [List.length_append] at h3
     unfold World.setCells
     simpa using h3
end Go.Proofs.YthlommalbkhcjaaGreat
namespace Go.Proofs.YthlommalbkhcjaaGreat
open Go.RowKit
def wy0:Array Value:=(List.replicate 257 (Value.int .i64 0)).toArray
structure Dc (dc:Int→Array Value):Prop where
 sz:∀ v,(dc v).size=257
 one:∀ v,(dc v).all (·.oneCell')=true
 z:dc 0=wy0
def ndX (a n:Int) (cs:Array Value) (h:Bool) (l r:Value):Array Value:=(([Value.int .u32 a,.int .i64 n]++cs.toList)++[.bool h,l,r]).toArray
section
variable {a n:Int} {cs:Array Value} {h:Bool} {l r:Value}
theorem ndX_a:(ndX a n cs h l r)[0]?=some (.int .u32 a):=by simp [ndX]
theorem ndX_n:(ndX a n cs h l r)[1]?=some (.int .i64 n):=by simp [ndX]
theorem ndX_at (hc:cs.size=257) {i:Nat} (hi:i < 257):(ndX a n cs h l r)[2+i]?=cs[i]?:=by
 unfold ndX
 rw [List.getElem?_toArray,List.getElem?_append_left (by simp [hc]; omega),List.getElem?_append_right (by simp)]
 simp
theorem ndX_tail (hc:cs.size=257) (i:Nat):(ndX a n cs h l r)[259+i]?=[Value.bool h,l,r][i]?:=by
 unfold ndX
 rw [List.getElem?_toArray,List.getElem?_append_right (by simp [hc])]
 congr 1
 simp [hc]
theorem ndX_h (hc:cs.size=257):(ndX a n cs h l r)[259]?=some (.bool h):=ndX_tail hc 0
theorem ndX_l (hc:cs.size=257):(ndX a n cs h l r)[260]?=some l:=ndX_tail hc 1
theorem ndX_r (hc:cs.size=257):(ndX a n cs h l r)[261]?=some r:=ndX_tail hc 2
theorem ndX_set (hc:cs.size=257) (i:Nat) (z:Value):(ndX a n cs h l r).setIfInBounds (259+i) z=(([Value.int .u32 a,.int .i64 n]++cs.toList)++([Value.bool h,l,r].set i z)).toArray:=by
 unfold ndX
 rw [List.setIfInBounds_toArray,List.set_append_right _ _ (by simp [hc])]
 congr 2
 congr 1
 simp [hc]
theorem ndX_setH (hc:cs.size=257) (g:Bool):(ndX a n cs h l r).setIfInBounds 259 (.bool g)=ndX a n cs g l r:=ndX_set hc 0 _
theorem ndX_setL (hc:cs.size=257) (z:Value):(ndX a n cs h l r).setIfInBounds 260 z=ndX a n cs h z r:=ndX_set hc 1 _
theorem ndX_setR (hc:cs.size=257) (z:Value):(ndX a n cs h l r).setIfInBounds 261 z=ndX a n cs h l z:=ndX_set hc 2 _
theorem ndX_inj (hc:cs.size=257) {l2 r2:Value} (e:ndX a n cs h l r=ndX a n cs h l2 r2):l=l2∧r=r2:=by
 have e1:=ndX_l (a:=a) (n:=n) (h:=h) (l:=l) (r:=r) hc
 have e2:=ndX_r (a:=a) (n:=n) (h:=h) (l:=l) (r:=r) hc
 rw [e,ndX_l hc] at e1
 rw [e,ndX_r hc] at e2
 injection e1 with e1
 injection e2 with e2
 exact ⟨e1.symm,e2.symm⟩
end
section
variable {w:World} {b g:Nat} {a n:Int} {cs vs:Array Value} {h:Bool} {l r:Value} {t:TypeId}
theorem ndX_range (hb:Blk w b t (ndX a n cs h l r)) (hc:cs.size=257):w.rangeAt b 2 cs.toList:=fun j v hj=>by
 have hj':cs[j]?=some v:=by simpa using hj
 rw [hb.cell,ndX_at hc (by have:=(Array.getElem?_eq_some_iff.1 hj').1; omega)]
 exact hj'
theorem ndX_there (hb:Blk w b t (ndX a n cs h l r)) (hc:cs.size=257):w.there b 2 257:=fun j hj=>⟨by
 rw [hb.cell,ndX_at hc hj,Array.getElem?_eq_getElem (by omega)]
 rfl,hb.frozen _⟩
theorem blk_setWay (hb:Blk w b t (ndX a n cs h l r)) (hc:cs.size=257) (hv:vs.size=257):Blk (w.setCells b 2 vs.toList) b t (ndX a n vs h l r):=by
 exact blk_setCells_mid (post:=[.bool h,l,r]) vs.toList [Value.int .u32 a,.int .i64 n] cs.toList w (by simp [hc,hv]) hb
end
theorem wy0_size:wy0.size=257:=by kernel_rfl
theorem wy0_one:wy0.all (·.oneCell')=true:=by kernel_rfl
theorem wy_info:(Tryz.prog.info? 41).map (·.size)=some 257:=by kernel_rfl
theorem ld_way {w:World} {b:Nat} {a n:Int} {cs:Array Value} {h:Bool} {l r:Value} (hb:Blk w b 192 (ndX a n cs h l r)) (hc:cs.size=257):(Instr.loadAt 41 (.pointer (some ⟨b,2,none⟩))).run Tryz.prog w=.ok (.agg cs) w:=by
 have:=run_loadAt_mid (P:=Tryz.prog) w b 2 41 cs.toList _ (ndX_range hb hc) Tryz.underlying41 rfl (by simpa [hc] using wy_info)
 simpa using this
theorem st_way {w:World} {b:Nat} {a n:Int} {cs vs:Array Value} {h:Bool} {l r:Value} (hb:Blk w b 192 (ndX a n cs h l r)) (hc:cs.size=257) (hv:vs.size=257) (h1:vs.all (·.oneCell')=true) :
  (Instr.storeAt 41 (.pointer (some ⟨b,2,none⟩)) (.agg vs)).run Tryz.prog w=.ok () (w.setCells b 2 vs.toList) :=
 run_storeAt_mid w b 2 _ vs (by have:=ndX_there hb hc; rwa [← hv] at this) (by rw [hv]; exact wy_info) h1
theorem zero_way (w:World):(zeroValue 41).run Tryz.prog w=.ok (.agg wy0) w:=by kernel_rfl
theorem way_alloc (w:World):(Instr.alloc 41 true (.tuple #[])).run Tryz.prog w=.ok (.pointer (some ⟨w.heap.size,0,none⟩)) (w.alloc (.cells wy0 41)):=by
 unfold Instr.alloc
 rw [Sem.run_bind,zero_way]
 rfl
theorem cs_of (cs:Array Value) (hc:cs.size=257):cs=((List.range 257).map fun i=>cs.getD i undef).toArray:=by
 apply Array.ext
 ·simp [hc]
 ·intro i h1 h2
  simp [h1]
theorem bd_node' (w:World) (a n:Int) (f:Nat→Value) (h:Bool):(Instr.build 192 #[(0,.agg #[.int .u32 a,.int .i64 n]),(1,.agg ((List.range 257).map f).toArray),(2,.bool h)]).run Tryz.prog w=.ok (.agg (ndX a n ((List.range 257).map f).toArray h (.pointer none) (.pointer none))) w:=by kernel_rfl
theorem bd_node (w:World) (a n:Int) (cs:Array Value) (hc:cs.size=257) (h:Bool):(Instr.build 192 #[(0,.agg #[.int .u32 a,.int .i64 n]),(1,.agg cs),(2,.bool h)]).run Tryz.prog w=.ok (.agg (ndX a n cs h (.pointer none) (.pointer none))) w:=by
 rw [cs_of cs hc]
 exact bd_node' w a n _ h
end Go.Proofs.YthlommalbkhcjaaGreat
namespace Go.Proofs.YthlommalbkhcjaaGreat
open Go.RowKit
def ndC (dc:Int→Array Value) (p:Bs) (v:Int) (h:Bool) (l r:Value):Array Value:=ndX (padB p:Int) (p.length:Int) (dc v) h l r
def IsT (dc:Int→Array Value) (w:World):(Nat→Prop)→Value→TT→Prop
 | _,pv,.nil=>pv=.pointer none
 | M,pv,.node p v h l r=>∃ (b:Nat) (pl pr:Value) (Ml Mr:Nat→Prop),pv=.pointer (some ⟨b,0,none⟩)∧Blk w b 192 (ndC dc p v h pl pr)∧M b∧(∀ k,Ml k→M k∧k≠b)∧(∀ k,Mr k→M k∧k≠b)∧(∀ k,Ml k→¬ Mr k)∧IsT dc w Ml pl l∧IsT dc w Mr pr r
variable {dc:Int→Array Value}
theorem IsT.mono {w:World}:∀ {T:TT} {M N:Nat→Prop} {pv:Value},IsT dc w M pv T→(∀ k,M k→N k)→IsT dc w N pv T
 | .nil,_,_,_,h,_=>h
 | .node ..,_,_,_,⟨b,pl,pr,Ml,Mr,h1,h2,h3,h4,h5,h6,h7,h8⟩,hm =>
   ⟨b,pl,pr,Ml,Mr,h1,h2,hm b h3,fun k hk=>⟨hm k (h4 k hk).1,(h4 k hk).2⟩,fun k hk=>⟨hm k (h5 k hk).1,(h5 k hk).2⟩,h6,h7,h8⟩
theorem IsT.blk {w w2:World}:∀ {T:TT} {M:Nat→Prop} {pv:Value},IsT dc w M pv T→(∀ k,M k→∀ cs,Blk w k 192 cs→Blk w2 k 192 cs)→IsT dc w2 M pv T
 | .nil,_,_,h,_=>h
 | .node ..,_,_,⟨b,pl,pr,Ml,Mr,h1,h2,h3,h4,h5,h6,h7,h8⟩,hk =>
   ⟨b,pl,pr,Ml,Mr,h1,hk b h3 _ h2,h3,h4,h5,h6,h7.blk fun k hm=>hk k (h4 k hm).1,h8.blk fun k hm=>hk k (h5 k hm).1⟩
theorem IsT.keep {w w2:World} {T:TT} {M:Nat→Prop} {pv:Value} (h:IsT dc w M pv T) (hs:Same M w w2):IsT dc w2 M pv T :=
 h.blk fun k hm _ hb=>(hs.2 k hm hb.lt).trans hb
theorem IsT.lt {w:World}:∀ {T:TT} {M:Nat→Prop} {pv:Value},IsT dc w M pv T→IsT dc w (fun k=>M k∧k < w.heap.size) pv T
 | .nil,_,_,h=>h
 | .node ..,_,_,⟨b,pl,pr,_,_,h1,h2,h3,h4,h5,h6,h7,h8⟩ =>
   ⟨b,pl,pr,_,_,h1,h2,⟨h3,h2.lt⟩,fun k hk=>⟨⟨(h4 k hk.1).1,hk.2⟩,(h4 k hk.1).2⟩,fun k hk=>⟨⟨(h5 k hk.1).1,hk.2⟩,(h5 k hk.1).2⟩,fun k hk hr=>h6 k hk.1 hr.1,h7.lt,h8.lt⟩
theorem IsT.form {w:World} {T:TT} {M:Nat→Prop} {pv:Value} (h:IsT dc w M pv T):(pv=.pointer none∧T=.nil)∨∃ b,pv=.pointer (some ⟨b,0,none⟩)∧M b∧T≠.nil:=by
 cases T with
 | nil=>exact .inl ⟨h,rfl⟩
 | node p v g l r =>
   obtain ⟨b,pl,pr,Ml,Mr,h1,h2,h3,_⟩:=h
   exact .inr ⟨b,h1,h3,fun e=>by cases e⟩
def Wand (dc:Int→Array Value) (w:World) (Mo:Nat→Prop) (tb hb ho:Nat) (pv0:Value) (f:TT→TT):Prop :=
 ∀ (w2:World) (M2:Nat→Prop) (pv2:Value) (S2:TT),(∀ k,Mo k→∀ cs,Blk w k 192 cs→Blk w2 k 192 (if k=hb then cs.setIfInBounds ho pv2 else cs)) →
   IsT dc w2 M2 pv2 S2→(∀ k,M2 k→¬ Mo k)→IsT dc w2 (fun k=>Mo k∨M2 k) (if hb=tb then pv2 else pv0) (f S2)
theorem Wand.start (w:World) (tb:Nat) (pv0:Value):Wand dc w (fun _=>False) tb tb 0 pv0 id:=fun w2 M2 pv2 S2 _ h _=>by
 rw [if_pos rfl]
 exact h.mono fun k hk=>.inr hk
theorem set_same {cs:Array Value} {o:Nat} {v:Value} (h:cs[o]?=some v):cs.setIfInBounds o v=cs:=by
 obtain ⟨hlt,e⟩:=Array.getElem?_eq_some_iff.1 h
 apply Array.ext
 ·simp
 ·intro i h1 h2
  rw [Array.getElem_setIfInBounds]
  split
  ·rename_i he
   subst he; exact e.symm
  ·rfl
theorem Wand.down (hd:Dc dc) {w:World} {Mo Ml Mr:Nat→Prop} {tb hb ho b:Nat} {pv0 pl pr:Value} {f:TT→TT} {q:Bs} {x:Int} {h:Bool} {l r:TT} (W:Wand dc w Mo tb hb ho pv0 f)
  (hole:hb≠tb→∃ cs,Blk w hb 192 cs∧cs[ho]?=some (.pointer (some ⟨b,0,none⟩))) (root:hb=tb→pv0=.pointer (some ⟨b,0,none⟩))
  (hbt:b≠tb) (hbo:¬ Mo b) (hto:¬ Mo tb) (hk:Blk w b 192 (ndC dc q x h pl pr)) (dir:Bool) (hl:dir=false→IsT dc w Mr pr r) (hr:dir=true→IsT dc w Ml pl l)
  (dl:∀ k,Ml k→¬ Mo k∧k≠b) (dr:∀ k,Mr k→¬ Mo k∧k≠b) :
  Wand dc w (fun k=>Mo k∨k=b∨(if dir then Ml k else Mr k)) tb b (if dir then 261 else 260) pv0 (fun X=>f (if dir then .node q x h l X else .node q x h X r)):=by
 intro w2 M2 pv2 S2 h1 h2 h3
 have hsame:∀ k,Mo k→∀ cs,Blk w k 192 cs→Blk w2 k 192 cs:=fun k hm cs hc=>by
  have:=h1 k (.inl hm) cs hc
  rwa [if_neg (show ¬ k=b from fun e=>hbo (by rw [← e]; exact hm))] at this
 have hb2:=h1 b (.inr (.inl rfl)) _ hk
 rw [if_pos rfl] at hb2
 have key:IsT dc w2 (fun k=>M2 k∨k=b∨(if dir then Ml k else Mr k)) (.pointer (some ⟨b,0,none⟩)) (if dir then .node q x h l S2 else .node q x h S2 r):=by
  cases dir
  ·have hb2:Blk w2 b 192 ((ndC dc q x h pl pr).setIfInBounds 260 pv2):=hb2
   rw [show (ndC dc q x h pl pr).setIfInBounds 260 pv2=ndC dc q x h pv2 pr from ndX_setL (hd.sz x) pv2] at hb2
   refine ⟨b,pv2,pr,M2,Mr,rfl,hb2,.inr (.inl rfl),fun k hk=>⟨.inl hk,fun e=>h3 k hk (.inr (.inl e))⟩,fun k hk=>⟨.inr (.inr hk),(dr k hk).2⟩,fun k hk hr=>h3 k hk (.inr (.inr hr)),h2,(hl rfl).blk fun k hm cs hc=>?_⟩
   have:=h1 k (.inr (.inr hm)) cs hc
   rwa [if_neg (dr k hm).2] at this
  ·have hb2:Blk w2 b 192 ((ndC dc q x h pl pr).setIfInBounds 261 pv2):=hb2
   rw [show (ndC dc q x h pl pr).setIfInBounds 261 pv2=ndC dc q x h pl pv2 from ndX_setR (hd.sz x) pv2] at hb2
   refine ⟨b,pl,pv2,Ml,M2,rfl,hb2,.inr (.inl rfl),fun k hk=>⟨.inr (.inr hk),(dl k hk).2⟩,fun k hk=>⟨.inl hk,fun e=>h3 k hk (.inr (.inl e))⟩,fun k hk hr=>h3 k hr (.inr (.inr hk)),(hr rfl).blk fun k hm cs hc=>?_,h2⟩
   have:=h1 k (.inr (.inr hm)) cs hc
   rwa [if_neg (dl k hm).2] at this
 have:=W w2 _ _ _ (fun k hm cs hc=>?_) key (fun k hk hm=>?_)
 ·rw [if_neg hbt]
  have e:(if hb=tb then Value.pointer (some ⟨b,0,none⟩) else pv0)=pv0:=by
   split
   ·rename_i e; exact (root e).symm
   ·rfl
  rw [e] at this
  refine this.mono fun k hk=>?_
  rcases hk with hk | hk | hk
  ·exact .inl (.inl hk)
  ·exact .inr hk
  ·exact .inl (.inr hk)
 ·split
  ·rename_i e
   subst e
   obtain ⟨cs2,c1,c2⟩:=hole fun e=>hto (by rw [← e]; exact hm)
   have:cs=cs2:=by
    unfold Blk at hc c1
    rw [hc] at c1
    injection c1 with c1
    injection c1
   subst this
   rw [set_same c2]
   exact hsame _ hm _ hc
  ·exact hsame k hm cs hc
 ·rcases hk with hk | hk | hk
  ·exact h3 k hk (.inl hm)
  ·exact hbo (by rw [← hk]; exact hm)
  ·cases dir
   ·exact (dr k hk).1 hm
   ·exact (dl k hk).1 hm
structure IsTr (dc:Int→Array Value) (w:World) (M:Nat→Prop) (tb:Nat) (limit:Int) (T:TT):Prop where
 ex:∃ pv,Blk w tb 184 #[pv,.int .i64 limit,.int .i64 (T.list.length:Int),.bool true]∧IsT dc w (fun k=>M k∧k≠tb) pv T
 mb:M tb
 wf:T.wf []
 lt:∀ k,M k→k < w.heap.size
theorem IsTr.keep {w w2:World} {M:Nat→Prop} {tb:Nat} {limit:Int} {T:TT} (h:IsTr dc w M tb limit T) (hs:Same M w w2):IsTr dc w2 M tb limit T:=by
 obtain ⟨pv,h1,h2⟩:=h.ex
 exact ⟨⟨pv,(hs.2 tb h.mb h1.lt).trans h1,h2.keep ⟨hs.1,fun k hk hl=>hs.2 k hk.1 hl⟩⟩,h.mb,h.wf,fun k hk=>Nat.lt_of_lt_of_le (h.lt k hk) hs.1⟩
end Go.Proofs.YthlommalbkhcjaaGreat
namespace Go.Proofs.YthlommalbkhcjaaGreat
open Go.RowKit
theorem eql_px (a b:Nat) (m n:Int) (w:World):(binOp .eql 37 (pxV a m) (pxV b n)).run Tryz.prog w=.ok (.bool (decide (a=b∧m=n))) w:=by
 go_simp
 by_cases h1:(a:Int)=(b:Int)
 ·rw [if_pos h1]
  have h1':a=b:=by omega
  by_cases h2:m=n
  ·rw [if_pos h2]; simp [h1',h2]
  ·rw [if_neg h2]; simp [h2]
 ·rw [if_neg h1]
  have h1':¬ a=b:=by omega
  simp [h1']
theorem neq_px (a b:Nat) (m n:Int) (w:World):(binOp .neq 37 (pxV a m) (pxV b n)).run Tryz.prog w=.ok (.bool (!decide (a=b∧m=n))) w:=by
 go_simp
 by_cases h1:(a:Int)=(b:Int)
 ·rw [if_pos h1]
  have h1':a=b:=by omega
  by_cases h2:m=n
  ·rw [if_pos h2]; simp [h1',h2]
  ·rw [if_neg h2]; simp [h2]
 ·rw [if_neg h1]
  have h1':¬ a=b:=by omega
  simp [h1']
section
variable {w:World} {b o:Nat}
theorem ld_pxB {t:TypeId} {a n:Int} (h:Blk w b t #[.int .u32 a,.int .i64 n]):(Instr.loadAt 37 (.pointer (some ⟨b,0,none⟩))).run Tryz.prog w=.ok (.agg #[.int .u32 a,.int .i64 n]) w:=by
 have h0:w.cell? ⟨b,0,none⟩=some (.int .u32 a):=h.cell 0
 have h1:w.cell? ⟨b,1,none⟩=some (.int .i64 n):=h.cell 1
 simp [go_sem,h0,h1]
theorem ld_ndP {t:TypeId} {a n:Int} {cs:Array Value} {h:Bool} {l r:Value} (hb:Blk w b t (ndX a n cs h l r)):(Instr.loadAt 37 (.pointer (some ⟨b,0,none⟩))).run Tryz.prog w=.ok (.agg #[.int .u32 a,.int .i64 n]) w:=by
 have h0:w.cell? ⟨b,0,none⟩=some (.int .u32 a):=(hb.cell 0).trans ndX_a
 have h1:w.cell? ⟨b,1,none⟩=some (.int .i64 n):=(hb.cell 1).trans ndX_n
 simp [go_sem,h0,h1]
theorem ld_ndA {t:TypeId} {a n:Int} {cs:Array Value} {h:Bool} {l r:Value} (hb:Blk w b t (ndX a n cs h l r)):(Instr.loadAt 35 (.pointer (some ⟨b,0,none⟩))).run Tryz.prog w=.ok (.int .u32 a) w:=by
 have h0:w.cell? ⟨b,0,none⟩=some (.int .u32 a):=(hb.cell 0).trans ndX_a
 simp [go_sem,h0]
theorem ld_ndN {t:TypeId} {a n:Int} {cs:Array Value} {h:Bool} {l r:Value} (hb:Blk w b t (ndX a n cs h l r)):(Instr.loadAt 3 (.pointer (some ⟨b,1,none⟩))).run Tryz.prog w=.ok (.int .i64 n) w:=by
 have h1:w.cell? ⟨b,1,none⟩=some (.int .i64 n):=(hb.cell 1).trans ndX_n
 simp [go_sem,h1]
theorem ld_ndH {t:TypeId} {a n:Int} {cs:Array Value} {h:Bool} {l r:Value} (hb:Blk w b t (ndX a n cs h l r)) (hc:cs.size=257):(Instr.loadAt 4 (.pointer (some ⟨b,259,none⟩))).run Tryz.prog w=.ok (.bool h) w:=by
 have h1:w.cell? ⟨b,259,none⟩=some (.bool h):=(hb.cell 259).trans (ndX_h hc)
 simp [go_sem,h1]
theorem ld_ptN {u:Option Addr} (h:w.cell? ⟨b,o,none⟩=some (.pointer u)):(Instr.loadAt 182 (.pointer (some ⟨b,o,none⟩))).run Tryz.prog w=.ok (.pointer u) w:=by simp [go_sem,h]
theorem st_ptN {u:Value} (h:w.cell? ⟨b,o,none⟩=some u) (hf:w.frozen? ⟨b,o,none⟩=false) (v:Option Addr):(Instr.storeAt 182 (.pointer (some ⟨b,o,none⟩)) (.pointer v)).run Tryz.prog w=.ok () (w.setCell ⟨b,o,none⟩ (.pointer v)):=by simp [go_sem,h,hf]
theorem ld_itN {z:Int} (h:w.cell? ⟨b,o,none⟩=some (.int .i64 z)):(Instr.loadAt 3 (.pointer (some ⟨b,o,none⟩))).run Tryz.prog w=.ok (.int .i64 z) w:=by simp [go_sem,h]
theorem st_itN {u:Value} (h:w.cell? ⟨b,o,none⟩=some u) (hf:w.frozen? ⟨b,o,none⟩=false) (z:Int):(Instr.storeAt 3 (.pointer (some ⟨b,o,none⟩)) (.int .i64 z)).run Tryz.prog w=.ok () (w.setCell ⟨b,o,none⟩ (.int .i64 z)):=by simp [go_sem,h,hf]
theorem ld_btN {z:Bool} (h:w.cell? ⟨b,o,none⟩=some (.bool z)):(Instr.loadAt 4 (.pointer (some ⟨b,o,none⟩))).run Tryz.prog w=.ok (.bool z) w:=by simp [go_sem,h]
theorem st_btN {u:Value} (h:w.cell? ⟨b,o,none⟩=some u) (hf:w.frozen? ⟨b,o,none⟩=false) (z:Bool):(Instr.storeAt 4 (.pointer (some ⟨b,o,none⟩)) (.bool z)).run Tryz.prog w=.ok () (w.setCell ⟨b,o,none⟩ (.bool z)):=by simp [go_sem,h,hf]
theorem ld_wyB {cs:Array Value} (h:Blk w b 41 cs) (hc:cs.size=257):(Instr.loadAt 41 (.pointer (some ⟨b,0,none⟩))).run Tryz.prog w=.ok (.agg cs) w:=stc_load Tryz.underlying41 rfl wy_info h hc
theorem st_wyB {cs vs:Array Value} (h:Blk w b 41 cs) (hc:cs.size=257) (hv:vs.size=257) (h1:vs.all (·.oneCell')=true):(Instr.storeAt 41 (.pointer (some ⟨b,0,none⟩)) (.agg vs)).run Tryz.prog w=.ok () (w.setCells b 0 vs.toList):=stc_store wy_info h hc hv h1
end
theorem px_info:(Tryz.prog.info? 37).map (·.size)=some 2:=by kernel_rfl
theorem px_alloc (w:World):(Instr.alloc 37 true (.tuple #[])).run Tryz.prog w=.ok (.pointer (some ⟨w.heap.size,0,none⟩)) (w.alloc (.cells #[.int .u32 0,.int .i64 0] 37)):=by
 unfold Instr.alloc
 rw [Sem.run_bind,show (zeroValue 37).run Tryz.prog w=.ok (.agg #[.int .u32 0,.int .i64 0]) w by kernel_rfl]
 rfl
theorem bd_fork (w:World) (a n:Int):(Instr.build 192 #[(0,.agg #[.int .u32 a,.int .i64 n])]).run Tryz.prog w=.ok (.agg (ndX a n wy0 false (.pointer none) (.pointer none))) w:=by kernel_rfl
end Go.Proofs.YthlommalbkhcjaaGreat
