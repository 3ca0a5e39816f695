/- append(v, make([]T, m)...): noughts behind a row of the call's own. -/
import Derived.Test.YthlommalbkhcjaaGreatNq01
import Derived.ArgAppend
import Derived.RangeFuncCalls
namespace Go.Proofs.YthlommalbkhcjaaGreat
open Go.RowKit
section
variable {P:Program} (w:World)
theorem zeroCells_one {c:Value} (m:Nat):(Builtin.zeroCells #[c] m).toList=List.replicate m c:=by
 unfold Builtin.zeroCells
 simp
 apply List.ext_getElem
 ·simp
 ·intro i h1 h2
  simp [Nat.mod_one]
theorem zeroCells_arr {c:Value} (m:Nat):Builtin.zeroCells #[c] m=Array.replicate m c:=by
 apply Array.ext'
 rw [zeroCells_one]
 simp
theorem run_append_zeros (base:Nat) (t ti ty e:TypeId) (k:IntKind) (i:TypeInfo) (c:Value) (bytes:Nat) (ht:P.underlying t=some (.slice e)) (hti:P.underlying ti=some (.int k)) (hi:P.info? e=some i) (hz:i.zero=some c)
  (hsize:i.size=1) (hby:i.bytes=bytes) (hc:c.cells=#[c]) (h1:c.oneCell'=true)
  (v:Value) (n:Nat) (xs:List Value) (hown:w.ownsRow base e 1 v n xs) (m:Nat)
  (h63:n+m≤maxLen) (hbytes:(n+m) * bytes≤140737488355328) (hbase:base≤w.heap.size) :
  ∃ v' w',(Builtin.append_ #[t,ti] ty #[v,.int .i64 (m:Int)]).run P w=.ok v' w'∧w'.ownsRow base e 1 v' (n+m) (xs++List.replicate m c)∧w.grownBy w' v.ownBlock∧(v'.ownBlock=v.ownBlock∨v'.ownBlock=some w.heap.size):=by
 have hlen:(xs++List.replicate m c).length=(n+m) * 1:=by rw [List.length_append,hown.1,List.length_replicate]; omega
 have hnm:n+m≤9223372036854775807:=by simp only [maxLen] at h63; omega
 have hmm:m≤9223372036854775807:=by simp only [maxLen] at h63; omega
 have hw:IntKind.i64.wrap (m:Int)=(m:Int):=by simp [IntKind.wrap,IntKind.bits,IntKind.signed]; omega
 have hm0:¬ ((m:Int) < 0):=by omega
 have hmb:¬ ((m:Int) * (bytes:Int) > 2 ^ 48):=by
  have h2:m * bytes≤(n+m) * bytes:=Nat.mul_le_mul_right _ (by omega)
  have h3:((m * bytes:Nat):Int)=(m:Int) * (bytes:Int):=by push_cast; rfl
  rw [← h3]
  omega
 have grown:∀ (old:Nat),old < n+m→∀ (row:Option Nat),
   (w.drew.alloc (.cells (xs.toArray++(List.replicate m c).toArray++Builtin.zeroCells #[c] (grownCap w (n+m) old e - (n+m))) e)).ownsRow base e 1
    (.slice (some ⟨w.heap.size,0,none⟩) (n+m) (grownCap w (n+m) old e)) (n+m) (xs++List.replicate m c) ∧
   w.grownBy (w.drew.alloc (.cells (xs.toArray++(List.replicate m c).toArray++Builtin.zeroCells #[c] (grownCap w (n+m) old e - (n+m))) e)) row:=by
  intro old ho row
  have hge:=grownCap_ge w (n+m) old e
  have hcm:grownCap w (n+m) old e≤maxLen:=grownCap_le_maxLen w (n+m) old e h63
  refine ⟨⟨hlen,.inr ⟨w.heap.size,_,_,rfl,hbase,heap_alloc_new w.drew _,hge,hcm,?_,?_⟩⟩,⟨rfl,rfl,rfl,by simp,fun k hk _=>Below.heap_alloc w.drew _ k hk⟩⟩
  ·have:=hown.1
   simp [size_zeroCells]
   omega
  ·simp only [Array.toList_append,List.append_assoc]
   rw [← List.append_assoc,← hlen]
   exact List.take_left
 have hsz:∀ w':World,(sizeOf e).run P w'=.ok 1 w':=fun w'=>by simp [sizeOf,typeInfo,hi,hsize]
 have hti':∀ w':World,(typeInfo e).run P w'=.ok i w':=fun w'=>by simp [typeInfo,hi]
 have hai:∀ w':World,(asIntOf (.int .i64 (m:Int))).run P w'=.ok (.i64,(m:Int)) w':=fun w'=>by simp [asIntOf]
 have hzv:∀ w':World,(zeroValue e).run P w'=.ok c w':=fun w'=>by simp [zeroValue,typeInfo,hi,hz]
 have hmb':¬ (281474976710656 < (m:Int) * (i.bytes:Int)):=by rw [hby]; omega
 rcases hown.2 with ⟨rfl,rfl⟩ | ⟨g,cap,cur,rfl,hbg,hg,hnc,hcm,hcs,htake⟩
 ·have hx:xs=[]:=List.eq_nil_of_length_eq_zero (by simpa using hown.1)
  subst hx
  by_cases hm:m=0
  ·subst hm
   refine ⟨.slice none 0 0,w,?_,World.ownsRow_nil w base e 1,⟨rfl,rfl,rfl,Nat.le_refl _,fun _ _ _=>rfl⟩,Or.inl rfl⟩
   have hai0:∀ w':World,(asIntOf (.int .i64 0)).run P w'=.ok (.i64,0) w':=fun w'=>by simp [asIntOf]
   have hw0:IntKind.i64.wrap 0=0:=by decide
   simp [Builtin.append_,run_underlying ht,run_underlying hti,hsz,hti',asInt,hai0,hw0]
  ·have hgr:=grown 0 (by omega) (Value.ownBlock (.slice none 0 0))
   refine ⟨_,_,?_,hgr.1,hgr.2,Or.inr rfl⟩
   have h63':¬ (9223372036854775807 < (m:Int)):=by omega
   have h48:¬ (281474976710656 < Builtin.nextslicecap m 0 * i.bytes):=by rw [nextslicecap_zero (by omega),hby]; omega
   simp [Builtin.append_,run_underlying ht,run_underlying hti,hsz,hti',asInt,hai,hw,hm0,hm,hmb',hzv,h63',h48,Question.forced,run_firstCells_none,newRow,grownCap,hc]
   rw [zeroCells_arr m]
 ·by_cases hm:m=0
  ·subst hm
   have hai0:∀ w':World,(asIntOf (.int .i64 0)).run P w'=.ok (.i64,0) w':=fun w'=>by simp [asIntOf]
   have hw0:IntKind.i64.wrap 0=0:=by decide
   refine ⟨.slice (some ⟨g,0,none⟩) n cap,w,?_,?_,⟨rfl,rfl,rfl,Nat.le_refl _,fun _ _ _=>rfl⟩,Or.inl rfl⟩
   ·have hnc':n≤cap:=hnc
    simp [Builtin.append_,run_underlying ht,run_underlying hti,hsz,hti',asInt,hai0,hw0,hnc',storeCells]
   ·simpa using hown
  ·by_cases hroom:n+m≤cap
   ·have hfit:n+(List.replicate m c).length≤cur.size:=by rw [List.length_replicate]; omega
    have hst:=run_storeCells_at P g n e (List.replicate m c) 0 cur w hg (by simpa using hfit) (fun u hu=>by rw [List.eq_of_mem_replicate hu]; exact h1)
    simp only [Nat.add_zero] at hst
    refine ⟨.slice (some ⟨g,0,none⟩) (n+m) cap,w.setRow g (cur.toList.take n++List.replicate m c++cur.toList.drop (n+m)).toArray,?_,⟨hlen,.inr ⟨g,cap,_,rfl,hbg,setRow_heap w g cur _ e _ hg,hroom,hcm,?_,?_⟩⟩,⟨rfl,rfl,rfl,by simp,fun k _ hk=>setRow_other w g k _ (fun e=>hk (by simp [Value.ownBlock,e]))⟩,Or.inl rfl⟩
    ·simp [Builtin.append_,run_underlying ht,run_underlying hti,hsz,hti',asInt,hai,hw,hm0,hm,hmb',hzv,hroom,Addr.add_lit,hc,zeroCells_one,hst]
    ·simp; omega
    ·have hx:cur.toList.take n=xs:=by simpa using htake
     rw [hx,List.append_assoc,← List.append_assoc,← hlen]
     exact List.take_left
   ·have holds:∀ j u,xs[j]?=some u→w.cell? ((⟨g,0,none⟩:Addr).add j)=some u:=hown.cells (g:=g) rfl
    have hgr:=grown cap (by omega) (Value.ownBlock (.slice (some ⟨g,0,none⟩) n cap))
    refine ⟨_,_,?_,hgr.1,hgr.2,Or.inr rfl⟩
    have hf:=run_firstCells_some (P:=P) w.drew 1 n ⟨g,0,none⟩ n cap xs (by simpa using hown.1) (by simpa using holds)
    have h63':¬ (9223372036854775807 < (n:Int)+(m:Int)):=by omega
    have h48:¬ (281474976710656 < Builtin.nextslicecap (n+m) cap * i.bytes):=by have:=growslice_fits (old:=cap) (need:=n+m) (by omega) hbytes; rw [hby]; exact Nat.not_lt.2 this
    simp [Builtin.append_,run_underlying ht,run_underlying hti,hsz,hti',asInt,hai,hw,hm0,hm,hmb',hzv,hroom,h63',h48,Question.forced,hf,newRow,grownCap,hc]
    rw [zeroCells_arr m]
theorem wp_append_zeros {o:Oper} {a:Act} {K:Act→World→Prop} {Q:Exit→Act→World→Prop} (s x:Operand) (t ti:TypeId)
  (ho:o.op=.call { callee:=.builtin .append,args:=#[s,x],argTypes:=#[t,ti] })
  (base:Nat) (e:TypeId) (k:IntKind) (i:TypeInfo) (c:Value) (bytes:Nat) (ht:P.underlying t=some (.slice e)) (hti:P.underlying ti=some (.int k)) (hi:P.info? e=some i) (hz:i.zero=some c)
  (hsize:i.size=1) (hby:i.bytes=bytes) (hc:c.cells=#[c]) (h1:c.oneCell'=true)
  (v:Value) (n:Nat) (xs:List Value) (hs:a.eval s=v) (hown:w.ownsRow base e 1 v n xs) (m:Nat) (hx:a.eval x=.int .i64 (m:Int))
  (h63:n+m≤maxLen) (hbytes:(n+m) * bytes≤140737488355328) (hbase:base≤w.heap.size)
  (h:∀ v2 w2,w2.ownsRow base e 1 v2 (n+m) (xs++List.replicate m c)→w.grownBy w2 v.ownBlock→(v2.ownBlock=v.ownBlock∨v2.ownBlock=some w.heap.size)→K (a.put o.dst v2) w2):o.wp P a w K Q:=by
 obtain ⟨v2,w2,hrun,h2,h3,h4⟩:=run_append_zeros (P:=P) w base t ti o.type e k i c bytes ht hti hi hz hsize hby hc h1 v n xs hown m h63 hbytes hbase
 unfold Oper.wp execOp
 simp only [ho,resolve,invoke,builtin,Sem.run_bind,Sem.run_pure,Result.andThen_ok,List.map_toArray,List.map_cons,List.map_nil,hs,hx,hrun]
 exact h v2 w2 h2 h3 h4
theorem wpList_append_zeros {ops:Array Oper} {rest:List Oper} {o:Oper} {a:Act} {Q:Exit→Act→World→Prop} (hgd:o.guard=none) (s x:Operand) (t ti:TypeId)
  (ho:o.op=.call { callee:=.builtin .append,args:=#[s,x],argTypes:=#[t,ti] })
  (base:Nat) (e:TypeId) (k:IntKind) (i:TypeInfo) (c:Value) (bytes:Nat) (ht:P.underlying t=some (.slice e)) (hti:P.underlying ti=some (.int k)) (hi:P.info? e=some i) (hz:i.zero=some c)
  (hsize:i.size=1) (hby:i.bytes=bytes) (hc:c.cells=#[c]) (h1:c.oneCell'=true)
  (v:Value) (n:Nat) (xs:List Value) (hs:a.eval s=v) (hown:w.ownsRow base e 1 v n xs) (m:Nat) (hx:a.eval x=.int .i64 (m:Int))
  (h63:n+m≤maxLen) (hbytes:(n+m) * bytes≤140737488355328) (hbase:base≤w.heap.size)
  (h:∀ v2 w2,w2.ownsRow base e 1 v2 (n+m) (xs++List.replicate m c)→w.grownBy w2 v.ownBlock→(v2.ownBlock=v.ownBlock∨v2.ownBlock=some w.heap.size)→wpList P ops Q rest (a.put o.dst v2) w2):wpList P ops Q (o :: rest) a w :=
 wpList_plain hgd fun _ hK=>wp_append_zeros w s x t ti ho base e k i c bytes ht hti hi hz hsize hby hc h1 v n xs hs hown m hx h63 hbytes hbase fun v2 w2 h2 h3 h4=>hK _ _ (h v2 w2 h2 h3 h4)
end
end Go.Proofs.YthlommalbkhcjaaGreat
