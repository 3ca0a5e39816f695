/- Layer 18: out's closure. -/
import Derived.Test.YthlommalbkhcjaaGreatNq34
import Derived.Test.YthlommalbkhcjaaGreatNq35
import Derived.Test.YthlommalbkhcjaaGreatNq40
import Derived.Test.YthlommalbkhcjaaGreatNq22
import Derived.ChangeKeysEq
namespace Go.Proofs.YthlommalbkhcjaaGreat
open Go.RowKit Go.Sort
def wkL (l:List Rt) (v:Int):Int × List Int:=match l[(v - 1).toNat]? with
 | some r=>if 1≤v∧mayR r=true then wayR r else (0,zs0)
 | none=>(0,zs0)
theorem wayR_len {r:Rt} (h:mayR r=true):(wayR r).2.length=256:=by
 unfold wayR
 split
 ·exact zs0_len
 ·split
  ·exact zs0_len
  ·rename_i h1 h2
   have hm:mayF r.nx=true:=by
    unfold mayR at h
    rw [decide_eq_false (fun e=>h2 (.inr e))] at h
    simp at h
    exact h.2
   exact table_len hm
theorem wkL_len (l:List Rt) (v:Int):(wkL l v).2.length=256:=by
 unfold wkL
 split
 ·split
  ·rename_i r _ h
   exact wayR_len h.2
  ·exact zs0_len
 ·exact zs0_len
def dcL (l:List Rt) (v:Int):Array Value:=wayC (wkL l v)
theorem dcL_ok (l:List Rt):Dc (dcL l):=⟨fun v=>wyC_size (wkL_len l v),fun v=>wyC_one _ _,by
 unfold dcL wkL
 split
 ·rw [if_neg (by omega)]; exact wyC_zero
 ·exact wyC_zero⟩
theorem wkL_at {l:List Rt} {i:Nat} {r:Rt} (h:l[i]?=some r) (hm:mayR r=true):wkL l ((i:Int)+1)=wayR r:=by
 unfold wkL
 rw [show ((i:Int)+1 - 1).toNat=i by omega,h]
 show (if _ then _ else _)=_
 rw [if_pos ⟨by omega,hm⟩]
theorem dcL_at {l:List Rt} (i:Nat) (r:Rt) (h:l[i]?=some r) (hm:mayR r=true):dcL l ((i:Int)+1)=wayC (wayR r):=by
 unfold dcL
 rw [wkL_at h hm]
theorem dcL_wk (l:List Rt) (v:Int):dcL l v=wayC (wkL l v)∧(wkL l v).2.length=256:=⟨rfl,wkL_len l v⟩
end Go.Proofs.YthlommalbkhcjaaGreat
namespace Go.Proofs.YthlommalbkhcjaaGreat
open Go.RowKit Go.Sort
def vk (i:Nat):Int:=(i:Int)+1
def T2:TT:=.node (bitsB 167772160 8) 1 true (.node (bitsB 167837696 16) 2 true .nil .nil) .nil
variable {dc:Int→Array Value}
end Go.Proofs.YthlommalbkhcjaaGreat
namespace Go.Proofs.YthlommalbkhcjaaGreat
open Go.RowKit Go.Sort Go.BigFrame
def pkF (wk:Int→Int × List Int) (T:TT) (a hash:Nat):Int × Int:=if (T.cov (bitsB a 32)).isEmpty=true then (0,0) else ((wk (lastE (T.cov (bitsB a 32))).2).1,(wk (lastE (T.cov (bitsB a 32))).2).2.getD (hash % 256) 0)
theorem pickV_pk (wk:Int→Int × List Int) (T:TT) (a hash:Nat):pickV wk (T.cov (bitsB a 32)) hash=.tuple #[.int .i64 (pkF wk T a hash).1,.int .i64 (pkF wk T a hash).2]:=by
 unfold pickV pkF
 split <;> rfl
def izV (l:List Int):List Value:=l.map fun z=>.int .i64 z
structure TbE (w0:World) (E:Re) (pk:Nat→Nat→Int × Int):Prop where
 ex:∃ (dc:Int→Array Value) (wk:Int→Int × List Int) (T:TT) (M:Nat→Prop) (tb:Nat) (limit:Int),Dc dc∧(∀ v,dc v=wayC (wk v)∧(wk v).2.length=256)∧FbM dc w0 M E.fb tb limit T∧T.list.length≤1000000∧(¬ M E.bb∧E.fb≠E.bb)∧pk=pkF wk T
 mt:Reads w0 (fun k=>k < w0.heap.size∧k≠E.bb) 1 E.Am E.mtus.length (izV E.mtus)
 ml:E.mtus.length≤8
 own:E.own < 2 ^ 32
 m8:∀ m ∈ E.mtus,68≤m∧m≤1500
theorem TbE.fbm {w0 wx:World} {E:Re} {dc:Int→Array Value} {M:Nat→Prop} {tb:Nat} {limit:Int} {T:TT} (h:FbM dc w0 M E.fb tb limit T) (hn:¬ M E.bb∧E.fb≠E.bb) (hu:Upd (fun k=>k=E.bb) w0 wx):FbM dc wx M E.fb tb limit T :=
 ⟨h.f.upd hu hn.2,h.t.keep ⟨hu.size,fun k hm hk=>hu.block k hk fun (e:k=E.bb)=>hn.1 (by rw [← e]; exact hm)⟩,h.ne⟩
end Go.Proofs.YthlommalbkhcjaaGreat
namespace Go.Proofs.YthlommalbkhcjaaGreat
open Go.RowKit Go.Sort Go.BigFrame
def badM (m:Int):Bool:=decide (m < 68) || decide (1500 < m)
def wrongM (l:List Int) (n:Nat):Nat:=if 8 < l.length then 2 else if l.any badM=true then 2 else if 2048 < n then 3 else 0
theorem bad1_any (m:Int) (w:World):Calls Tryz.prog 123 #[.int .i64 m] w fun e w'=>e=.returned (.bool (badM m))∧w=w':=by
 by_cases h:m < 68
 ·have d:decide (m < 68)=true:=decide_eq_true h
  have hr:badM m=true:=by unfold badM; rw [d]; rfl
  rw [hr]
  clear hr h
  go_enter Tryz.func123,Tryz.ntmps123
  go_wp2_with fail
  go_ret
  exact ⟨rfl,rfl⟩
 ·have d:decide (m < 68)=false:=decide_eq_false h
  obtain ⟨b,hb⟩:∃ b,b=decide (1500 < m):=⟨_,rfl⟩
  have hr:badM m=b:=by unfold badM; rw [d,hb]; rfl
  have e:decide (m > 1500)=b:=hb.symm
  rw [hr]
  clear hr h hb
  go_enter Tryz.func123,Tryz.ntmps123
  go_wp2_with fail
  go_ret
  exact ⟨rfl,rfl⟩
theorem any_takeM {L:List Int} {i:Nat} {s:Int} {p:Int→Bool} (h:L[i]?=some s):(L.take (i+1)).any p=((L.take i).any p || p s):=by
 have hi:=(List.getElem?_eq_some_iff.1 h).1
 rw [List.take_succ_eq_append_getElem hi,(List.getElem?_eq_some_iff.1 h).2,List.any_append]
 simp
set_option maxHeartbeats 1600000 in
theorem indexM_any (A:Option Addr) (n c:Nat) (L:List Int) (I:Nat→Prop) (w:World) (h:Reads w I 1 A n (izV L)) (hn:L.length=n) (hsm:n≤1000000) :
  Calls Tryz.prog 162 #[.slice A n c,.func (.func 123) #[] #[]] w fun e w'=>∃ i:Int,e=.returned (.int .i64 i)∧decide (0≤i)=L.any badM∧w=w':=by
 have HR:=Lib.hid h
 have HN:=Lib.hid hn
 clear h hn
 go_enter Tryz.func162,Tryz.ntmps162
 go_wp2_with fail
 go_loopw [8] (fun i wr=>∃ k:Nat,k≤n∧i=.int .i64 (k:Int)∧(L.take k).any badM=false∧wr=w) (fun i _=>n - (intOf i).toNat)
 case atStart=>exact ⟨0,Nat.zero_le _,rfl,rfl,rfl⟩
 case round =>
  obtain ⟨k,hk,rfl,hno,rfl⟩:=hrel
  have HNO:=Lib.hid hno
  clear hno
  by_cases hlt:k < n
  ·obtain ⟨s,hs⟩:∃ s,L[k]?=some s:=⟨L[k]'(by rw [HN.out]; exact hlt),List.getElem?_eq_getElem _⟩
   obtain ⟨ad,rfl,_,_,hc⟩:=HR.out.2 (by omega)
   have c0:wr.cell? (ad.add k)=some (.int .i64 s):=by
    have:=hc k (.int .i64 s) (by unfold izV; rw [List.getElem?_map,hs]; rfl)
    simpa using this
   have hi0:(0:Int)≤k:=by omega
   have hi1:(k:Int) < n:=by omega
   have hd0:decide ((k:Int) < (n:Int))=true:=decide_eq_true (by omega)
   have HANY:=Lib.hid (any_takeM (p:=badM) hs)
   have HC:=Lib.hid (bad1_any s wr)
   have HIN:=Lib.hid (List.mem_of_getElem? hs)
   obtain ⟨b,hb⟩:∃ b,b=badM s:=⟨_,rfl⟩
   rw [← hb] at HC HANY
   have HB:=Lib.hid hb
   clear hs hc hb
   cases b with
   | true =>
     have hfin:L.any badM=true:=List.any_eq_true.2 ⟨s,HIN.out,HB.out.symm⟩
     have HF:=Lib.hid hfin
     clear hfin HANY
     go_wp2_with fail
     refine HC.out.mono ?_
     rintro e w2 ⟨rfl,rfl⟩
     go_wp2_with fail
     go_ret
     exact ⟨_,rfl,by rw [HF.out]; exact decide_eq_true (by omega),rfl⟩
   | false =>
     have hno:(L.take (k+1)).any badM=false:=by rw [HANY.out,HNO.out]; rfl
     have HNO2:=Lib.hid hno
     clear hno HANY
     go_wp2_with fail
     refine HC.out.mono ?_
     rintro e w2 ⟨rfl,rfl⟩
     go_wp2_with fail
     go_roundw
     case rel=>exact ⟨k+1,by omega,rfl,HNO2.out,by trivial⟩
     case measure=>simp [intOf]; omega
  ·obtain rfl:k=n:=by omega
   have hd0:decide ((k:Int) < (k:Int))=false:=decide_eq_false (by omega)
   have hfin:L.any badM=false:=by
    have:=HNO.out
    rwa [List.take_of_length_le (by rw [HN.out]; exact Nat.le_refl _)] at this
   have HF:=Lib.hid hfin
   clear hfin
   go_wp2_with fail
   go_ret
   exact ⟨-1,rfl,by rw [HF.out]; rfl,by trivial⟩
theorem containsM_any (A:Option Addr) (n c:Nat) (L:List Int) (I:Nat→Prop) (w:World) (h:Reads w I 1 A n (izV L)) (hn:L.length=n) (hsm:n≤1000000) :
  Calls Tryz.prog 122 #[.slice A n c,.func (.func 123) #[] #[]] w fun e w'=>e=.returned (.bool (L.any badM))∧w=w':=by
 have HC:=Lib.hid (indexM_any A n c L I w h hn hsm)
 clear h hn hsm
 go_enter Tryz.func122,Tryz.ntmps122
 go_wp2_with fail
 refine HC.out.mono ?_
 rintro e w2 ⟨i,rfl,hi,rfl⟩
 have HI:=Lib.hid hi
 clear hi
 obtain ⟨b,hb⟩:∃ b,b=decide (0≤i):=⟨_,rfl⟩
 have hb':=hb.symm
 have HIB:=Lib.hid hb
 clear hb
 go_wp2_with fail
 go_ret
 exact ⟨by rw [← HI.out,← HIB.out]; rfl,rfl⟩
theorem fwrong_any (fb:Nat) (A:Option Addr) (n c:Nat) (L:List Int) (I:Nat→Prop) (Ap:Option Addr) (np cp:Nat) (w:World) (h:Reads w I 1 A n (izV L)) (hn:L.length=n) :
  Calls Tryz.prog 67 #[.pointer (some ⟨fb,0,none⟩),.slice A n c,.slice Ap np cp] w fun e w'=>e=.returned (.int .i64 (wrongM L np:Int))∧w=w':=by
 obtain ⟨r,hr⟩:∃ r,r=wrongM L np:=⟨_,rfl⟩
 rw [← hr]
 unfold wrongM at hr
 rw [hn] at hr
 by_cases h8:8 < n
 ·rw [if_pos h8] at hr
  subst hr
  have d:decide ((n:Int) > 8)=true:=decide_eq_true (by omega)
  clear h hn h8
  go_enter Tryz.func67,Tryz.ntmps67
  go_wp2_with fail
  go_ret
  exact ⟨rfl,rfl⟩
 rw [if_neg h8] at hr
 have d:decide ((n:Int) > 8)=false:=decide_eq_false (by omega)
 have HC:=Lib.hid (containsM_any A n c L I w h hn (by omega))
 obtain ⟨b,hb⟩:∃ b,b=L.any badM:=⟨_,rfl⟩
 rw [← hb] at HC hr
 clear h hn h8 hb
 cases b with
 | true =>
   rw [if_pos rfl] at hr
   subst hr
   go_enter Tryz.func67,Tryz.ntmps67
   go_wp2_with fail
   refine HC.out.mono ?_
   rintro e w2 ⟨rfl,rfl⟩
   go_wp2_with fail
   go_ret
   exact ⟨rfl,rfl⟩
 | false =>
   rw [if_neg (by decide)] at hr
   by_cases h2:2048 < np
   ·rw [if_pos h2] at hr
    subst hr
    have d2:decide ((np:Int) > 2048)=true:=decide_eq_true (by omega)
    clear h2
    go_enter Tryz.func67,Tryz.ntmps67
    go_wp2_with fail
    refine HC.out.mono ?_
    rintro e w2 ⟨rfl,rfl⟩
    go_wp2_with fail
    go_ret
    exact ⟨rfl,rfl⟩
   ·rw [if_neg h2] at hr
    subst hr
    have d2:decide ((np:Int) > 2048)=false:=decide_eq_false (by omega)
    clear h2
    go_enter Tryz.func67,Tryz.ntmps67
    go_wp2_with fail
    refine HC.out.mono ?_
    rintro e w2 ⟨rfl,rfl⟩
    go_wp2_with fail
    go_ret
    exact ⟨rfl,rfl⟩
end Go.Proofs.YthlommalbkhcjaaGreat
namespace Go.Proofs.YthlommalbkhcjaaGreat
open Go.RowKit Go.Sort Go.BigFrame
def fewQ (q:AskM):Bool:=decide (q.nr≤40) && (decide (q.nm≤20) && (decide (0≤q.tok) && decide (q.tok≤64)))
def mayQ (q:AskM):Bool:=!(q.mtus.any badM) && decide (q.nm≤8)
set_option maxRecDepth 100000 in
theorem few18_any (q:AskM) (w:World):Calls Tryz.prog 24 #[.agg (askC q)] w fun e w'=>e=.returned (.bool (fewQ q))∧Below w.heap.size w w':=by
 have hr:fewQ q=(decide (q.nr≤40) && (decide (q.nm≤20) && (decide (0≤q.tok) && decide (q.tok≤64)))):=rfl
 rw [hr]
 obtain ⟨Ar,nr,cr,rts,own,Am,nm,cm,mtus,tok⟩:=q
 unfold askC
 simp only
 obtain ⟨W,hW⟩:∃ Z,Z=w.alloc (.cells #[.slice Ar nr cr,.int .u32 (own:Int),.slice Am nm cm,.int .i64 tok] 60):=⟨_,rfl⟩
 have hb:Below w.heap.size w W:=by rw [hW]; exact (Below.refl _ _).alloc (Nat.le_refl _) _
 have hk:Blk W w.heap.size 60 #[.slice Ar nr cr,.int .u32 (own:Int),.slice Am nm cm,.int .i64 tok]:=by rw [hW]; exact Blk.new w _ _
 have q0:=(show W.cell? ⟨w.heap.size,0,none⟩=some (.slice Ar nr cr) from hk.cell 0)
 have q2:=(show W.cell? ⟨w.heap.size,2,none⟩=some (.slice Am nm cm) from hk.cell 2)
 have q3:=(show W.cell? ⟨w.heap.size,3,none⟩=some (.int .i64 tok) from hk.cell 3)
 have HB:=Lib.hid hb
 have HW:=Lib.hid hW
 have e1:decide ((nr:Int)≤40)=decide (nr≤40):=decide_eq_decide.2 (by omega)
 have e2:decide ((nm:Int)≤20)=decide (nm≤20):=decide_eq_decide.2 (by omega)
 have e3:decide (tok ≥ 0)=decide (0≤tok):=rfl
 generalize decide (nr≤40)=b1 at e1 ⊢
 generalize decide (nm≤20)=b2 at e2 ⊢
 obtain ⟨b3,h3⟩:∃ b,b=decide (0≤tok):=⟨_,rfl⟩
 obtain ⟨b4,h4⟩:∃ b,b=decide (tok≤64):=⟨_,rfl⟩
 rw [← h3] at e3 ⊢
 rw [← h4]
 have e4:=h4.symm
 have e5:=h3.symm
 clear hr hW hb hk h3 h4
 cases b1 with
 | false =>
   go_enter Tryz.func24,Tryz.ntmps24
   go_upto_region 1 with (fail)
   rw [← HW.out]
   go_wp2_with fail
   go_ret
   exact ⟨rfl,HB.out⟩
 | true =>
 cases b2 with
 | false =>
   go_enter Tryz.func24,Tryz.ntmps24
   go_upto_region 1 with (fail)
   rw [← HW.out]
   go_wp2_with fail
   go_ret
   exact ⟨rfl,HB.out⟩
 | true =>
 cases b3 with
 | false =>
   go_enter Tryz.func24,Tryz.ntmps24
   go_upto_region 1 with (fail)
   rw [← HW.out]
   go_wp2_with fail
   go_ret
   exact ⟨rfl,HB.out⟩
 | true =>
   go_enter Tryz.func24,Tryz.ntmps24
   go_upto_region 1 with (fail)
   rw [← HW.out]
   go_wp2_with fail
   go_ret
   exact ⟨rfl,HB.out⟩
set_option maxRecDepth 100000 in
set_option maxHeartbeats 4000000 in
theorem may18_any (q:AskM) (I:Nat→Prop) (w:World) (h:Reads w I 1 q.Am q.nm (izV q.mtus)) (hn:q.mtus.length=q.nm) (hsm:q.nm≤1000000):Calls Tryz.prog 25 #[.agg (askC q)] w fun e w'=>e=.returned (.bool (mayQ q))∧Below w.heap.size w w':=by
 have hr:mayQ q=(!(q.mtus.any badM) && decide (q.nm≤8)):=rfl
 rw [hr]
 obtain ⟨Ar,nr,cr,rts,own,Am,n,cm,L,tok⟩:=q
 unfold askC
 simp only at h hn hsm ⊢
 obtain ⟨W,hW⟩:∃ Z,Z=w.alloc (.cells #[.slice Ar nr cr,.int .u32 (own:Int),.slice Am n cm,.int .i64 tok] 60):=⟨_,rfl⟩
 have hb:Below w.heap.size w W:=by rw [hW]; exact (Below.refl _ _).alloc (Nat.le_refl _) _
 have hk:Blk W w.heap.size 60 #[.slice Ar nr cr,.int .u32 (own:Int),.slice Am n cm,.int .i64 tok]:=by rw [hW]; exact Blk.new w _ _
 obtain ⟨g,hg⟩:∃ g,g=w.heap.size:=⟨_,rfl⟩
 have q2:=(show W.cell? ⟨g,2,none⟩=some (.slice Am n cm) by rw [hg]; exact hk.cell 2)
 have HR:=Lib.hid (h.lt.keep (Same.ofBelow hb fun k hk=>hk.2))
 have HB:=Lib.hid hb
 have HW:=Lib.hid hW
 have HN:=Lib.hid hn
 have HG:=Lib.hid hg
 obtain ⟨r,hrr⟩:∃ r,r=(!(L.any badM) && decide (n≤8)):=⟨_,rfl⟩
 rw [← hrr]
 have HRR:=Lib.hid hrr
 clear hr hW hb hk h hn hrr hg
 go_enter Tryz.func25,Tryz.ntmps25
 go_upto_region 1 with (fail)
 rw [← HW.out,← HG.out]
 go_wp2_with fail
 go_loopw [3] (fun i wr=>∃ k:Nat,k≤n∧i=.int .i64 (k:Int)∧(L.take k).any badM=false∧wr=W) (fun i _=>n - (intOf i).toNat)
 case atStart=>exact ⟨0,Nat.zero_le _,rfl,rfl,rfl⟩
 case round =>
  obtain ⟨k,hk,rfl,hno,rfl⟩:=hrel
  have HNO:=Lib.hid hno
  clear hno
  by_cases hlt:k < n
  ·obtain ⟨s,hs⟩:∃ s,L[k]?=some s:=⟨L[k]'(by rw [HN.out]; exact hlt),List.getElem?_eq_getElem _⟩
   obtain ⟨ad,rfl,_,_,hc⟩:=HR.out.2 (by omega)
   have c0:wr.cell? (ad.add k)=some (.int .i64 s):=by
    have:=hc k (.int .i64 s) (by unfold izV; rw [List.getElem?_map,hs]; rfl)
    simpa using this
   have hi0:(0:Int)≤k:=by omega
   have hi1:(k:Int) < n:=by omega
   have hd0:decide ((k:Int) < (n:Int))=true:=decide_eq_true (by omega)
   have HANY:=Lib.hid (any_takeM (p:=badM) hs)
   have HIN:=Lib.hid (List.mem_of_getElem? hs)
   have bad:badM s=true→r=false:=fun hb=>by
    rw [HRR.out,List.any_eq_true.2 ⟨s,HIN.out,hb⟩]
    rfl
   have HBAD:=Lib.hid bad
   clear hs hc bad
   by_cases h1:s < 68
   ·have d1:decide (s < 68)=true:=decide_eq_true h1
    have hres:=Lib.hid (HBAD.out (by unfold badM; rw [d1]; rfl))
    clear h1 HANY HIN HBAD
    go_wp2_with fail
    go_ret
    exact ⟨by rw [hres.out]; rfl,HB.out⟩
   ·have d1:decide (s < 68)=false:=decide_eq_false h1
    by_cases h2:s > 1500
    ·have d2:decide (s > 1500)=true:=decide_eq_true h2
     have hres:=Lib.hid (HBAD.out (by unfold badM; rw [d1,decide_eq_true (show 1500 < s from h2)]; rfl))
     clear h1 h2 HANY HIN HBAD
     go_wp2_with fail
     go_ret
     exact ⟨by rw [hres.out]; rfl,HB.out⟩
    ·have d2:decide (s > 1500)=false:=decide_eq_false h2
     have hno:=Lib.hid (show (L.take (k+1)).any badM=false by rw [HANY.out,HNO.out]; unfold badM; rw [d1,decide_eq_false (show ¬ 1500 < s from h2)]; rfl)
     clear h1 h2 HANY HIN HBAD
     go_wp2_with fail
     go_roundw
     case rel=>exact ⟨k+1,by omega,rfl,hno.out,by trivial⟩
     case measure=>simp [intOf]; omega
  ·obtain rfl:k=n:=by omega
   have hd0:decide ((k:Int) < (k:Int))=false:=decide_eq_false (by omega)
   have hfin:r=decide (k≤8):=by
    have:=HNO.out
    rw [List.take_of_length_le (by rw [HN.out]; exact Nat.le_refl _)] at this
    rw [HRR.out,this]
    rfl
   have e1:decide ((k:Int)≤8)=decide (k≤8):=decide_eq_decide.2 (by omega)
   rw [← hfin] at e1
   clear hfin hlt
   go_wp2_with fail
   go_ret
   exact ⟨rfl,HB.out⟩
end Go.Proofs.YthlommalbkhcjaaGreat
namespace Go.Proofs.YthlommalbkhcjaaGreat
open Go.RowKit Go.Sort
theorem tab_mem (l:List Nx):∀ (k:Nat) (x:Int),x ∈ tabGo l k→∃ i,i < k∧x=(nxAt l i).1
 | 0,x,h=>by simp [tabGo] at h
 | k+1,x,h=>by
   unfold tabGo at h
   rcases List.mem_append.1 h with h | h
   ·obtain ⟨i,h1,h2⟩:=tab_mem l k x h
    exact ⟨i,by omega,h2⟩
   ·exact ⟨k,by omega,(List.mem_replicate.1 h).2⟩
theorem table_port {l:List Nx} (hm:mayF l=true) {x:Int} (h:x ∈ tableF l):0≤x∧x < 8:=by
 obtain ⟨i,h1,rfl⟩:=tab_mem l l.length x h
 have:=may_port hm h1
 exact ⟨this.1,this.2.1⟩
structure WkOk (wz:Int × List Int):Prop where
 len:wz.2.length=256
 no:wz.1≠3→wz.2=zs0
 port:∀ x ∈ wz.2,0≤x∧x < 8
theorem zs0_port:∀ x ∈ zs0,(0:Int)≤x∧x < 8:=fun x hx=>by
 unfold zs0 at hx
 rw [(List.mem_replicate.1 hx).2]
 omega
theorem wayR_ok {r:Rt} (h:mayR r=true):WkOk (wayR r):=by
 refine ⟨wayR_len h,?_,?_⟩
 ·unfold wayR
  split
  ·intro _; rfl
  ·split
   ·intro _; rfl
   ·intro h; exact absurd rfl h
 ·unfold wayR
  split
  ·exact zs0_port
  ·split
   ·exact zs0_port
   ·rename_i h1 h2
    have hm:mayF r.nx=true:=by
     unfold mayR at h
     rw [decide_eq_false (fun e=>h2 (.inr e))] at h
     simp at h
     exact h.2
    exact fun x hx=>table_port hm hx
theorem wkL_ok (l:List Rt) (v:Int):WkOk (wkL l v):=by
 unfold wkL
 split
 ·split
  ·rename_i r _ h
   exact wayR_ok h.2
  ·exact ⟨zs0_len,fun _=>rfl,zs0_port⟩
 ·exact ⟨zs0_len,fun _=>rfl,zs0_port⟩
theorem WkOk.at_port {wz:Int × List Int} (h:WkOk wz) (i:Nat):0≤wz.2.getD i 0∧wz.2.getD i 0 < 8:=by
 rw [List.getD_eq_getElem?_getD]
 cases he:wz.2[i]? with
 | none=>simp
 | some x=>exact h.port x (List.mem_of_getElem? he)
end Go.Proofs.YthlommalbkhcjaaGreat
namespace Go.Proofs.YthlommalbkhcjaaGreat
open Go.RowKit Go.Sort Go.BigFrame
section
variable {w0 w:World} {rb:Nat} {E:Re} {S:Rs} {pk:Nat→Nat→Int × Int}
set_option maxRecDepth 100000 in
set_option maxHeartbeats 4000000 in
theorem fway_any (H:TbE w0 E pk) (h:RnW w0 w rb E S) (A:Option Addr) (n c:Nat) (x:By) (I:Nat→Prop) (hx:Reads w I 1 A n (bytesV x)) (hn:x.length=n) (hc:n≤c) (hsm:n≤1000000) (dt:Nat) (hto:dt < 2 ^ 32) :
  Calls Tryz.prog 127 #[.pointer (some ⟨rb,0,none⟩),.slice A n c,.int .u32 (dt:Int)] w fun e w'=>e=.returned (.tuple #[.int .i64 (fwWay pk E.mtus.length x dt).1,.int .i64 (fwWay pk E.mtus.length x dt).2])∧Below w.heap.size w w':=by
 have HH:=Lib.hid (hash_any A n c x I w hx hn hc hsm)
 have HP:∀ wx,Below w.heap.size w wx→Calls Tryz.prog 16 #[.pointer (some ⟨E.fb,0,none⟩),.int .u32 (dt:Int),.int .u32 (hashR (prsF x):Int)] wx fun e w'=>e=.returned (.tuple #[.int .i64 (pk dt (hashR (prsF x))).1,.int .i64 (pk dt (hashR (prsF x))).2])∧Below wx.heap.size wx w':=by
  obtain ⟨dc,wk,T,M,tb,limit,hd,hwk,hfb,hT,hne,hpk⟩:=H.ex
  intro wx hb
  have:=fpick_any hd hwk dt (hashR (prsF x)) E.fb tb M limit T wx (TbE.fbm hfb hne (h.below hb).upd) hto hT
  rwa [pickV_pk,← hpk] at this
 have HP:=Lib.hid HP
 unfold fwWay
 obtain ⟨u,hu⟩:∃ u,u=hashR (prsF x):=⟨_,rfl⟩
 rw [← hu] at HH HP ⊢
 obtain ⟨kd,po,hkp⟩:∃ kd po,pk dt u=(kd,po):=⟨_,_,rfl⟩
 rw [hkp] at HP ⊢
 simp only at HP ⊢
 have HK:=Lib.hid h.blk
 have hlt:=h.blk.lt
 obtain ⟨hf,hhf⟩:∃ z:Int,z=(if (prsF x).2.2=0 then 0 else 4):=⟨_,rfl⟩
 rw [← hhf] at HH
 clear h H hx hu hkp hhf
 obtain ⟨m,hm⟩:∃ m,m=E.mtus.length:=⟨_,rfl⟩
 have g0:∀ wx,Below w.heap.size w wx→wx.cell? ⟨rb,0,none⟩=some (.pointer (some ⟨E.fb,0,none⟩)):=fun wx hb=>(HK.out.below hb hlt).cell 0
 have g2:∀ wx,Below w.heap.size w wx→wx.cell? ⟨rb,2,none⟩=some (.slice E.Am m E.cm):=fun wx hb=>by rw [hm]; exact (HK.out.below hb hlt).cell 2
 have G0:=Lib.hid g0
 have G2:=Lib.hid g2
 rw [← hm]
 clear g0 g2 HK hlt hm
 go_enter Tryz.func127,Tryz.ntmps127
 go_wp2_with fail
 refine HH.out.mono ?_
 rintro e w1 ⟨rfl,hb1⟩
 have q0:=G0.out w1 hb1
 have HC:=Lib.hid (HP.out w1 hb1)
 have HB1:=Lib.hid hb1
 clear hb1
 go_wp2_with fail
 refine HC.out.mono ?_
 rintro e w2 ⟨rfl,hb2⟩
 have hb2':=HB1.out.trans (hb2.mono HB1.out.size)
 have q2:=G2.out w2 hb2'
 have HB2:=Lib.hid hb2'
 clear hb2 hb2' q0
 by_cases hk:kd=3
 ·subst hk
  by_cases hp:(m:Int)≤po
  ·have hp':decide (po ≥ (m:Int))=true:=decide_eq_true hp
   go_wp2_with fail
   go_ret2
   first | exact ⟨rfl,HB2.out⟩ | (rw [if_pos ⟨rfl,hp⟩]; exact ⟨rfl,HB2.out⟩)
  ·have hp':decide (po ≥ (m:Int))=false:=decide_eq_false hp
   go_wp2_with fail
   go_ret2
   first | exact ⟨rfl,HB2.out⟩ | (rw [if_neg fun h=>hp h.2]; exact ⟨rfl,HB2.out⟩)
 ·have hk':(kd == 3)=false:=by rw [beq_eq_false_iff_ne]; exact hk
  go_wp2_with fail
  go_ret2
  first | exact ⟨rfl,HB2.out⟩ | (rw [if_neg fun h=>hk h.1]; exact ⟨rfl,HB2.out⟩)
end
end Go.Proofs.YthlommalbkhcjaaGreat
namespace Go.Proofs.YthlommalbkhcjaaGreat
open Go.RowKit Go.Sort Go.BigFrame
theorem info_sent:(Tryz.prog.info? 83).map (fun i=>(i.zero,i.size,i.bytes))=some (some (.agg #[.int .i64 0,.slice none 0 0]),2,32):=by kernel_rfl
theorem flatZ_snoc (Z:List Zs) (z:Zs):flatZ (Z++[z])=flatZ Z++zsC z:=by unfold flatZ; rw [List.flatMap_append]; simp
section
variable {w0 w wy:World} {rb:Nat} {E:Re} {S:Rs} {pk:Nat→Nat→Int × Int}
def AddU (rb:Nat) (S:Rs) (k:Nat):Prop:=k=rb∨S.ov.ownBlock=some k
theorem AddU.ty (h:RnW w0 w rb E S) (hu:Upd (AddU rb S) w wy) {k:Nat} {t:TypeId} {cs:Array Value} (n1:t≠142) (n2:t≠83) (hb:Blk w k t cs):wy.heap[k]?=w.heap[k]?:=by
 refine hu.block k hb.lt fun hx=>?_
 rcases hx with rfl | hx
 ·have:=h.blk
  unfold Blk at this hb
  rw [this] at hb
  injection hb with hb
  injection hb with _ hb
  exact n1 hb.symm
 ·obtain ⟨Z,_,ho,_⟩:=h.ou
  exact own_blk_ne ho hb (fun e=>n2 e.symm) hx
theorem ld_prun {w:World} {a:Addr} {b:Nat} (hu:w.cell? a=some (.pointer (some ⟨b,0,none⟩))):(Instr.loadAt 140 (.pointer (some a))).run Tryz.prog w=.ok (.pointer (some ⟨b,0,none⟩)) w:=by
 simp [go_sem,hu]
theorem ld_snts {w:World} {a:Addr} {A:Option Addr} {n c:Nat} (hu:w.cell? a=some (.slice A n c)):(Instr.loadAt 69 (.pointer (some a))).run Tryz.prog w=.ok (.slice A n c) w:=by
 simp [go_sem,hu]
theorem st_snts {w:World} {g i:Nat} {u:Value} (hu:w.cell? ⟨g,i,none⟩=some u) (hf:w.frozen? ⟨g,i,none⟩=false) (A:Option Addr) (n c:Nat):(Instr.storeAt 69 (.pointer (some ⟨g,i,none⟩)) (.slice A n c)).run Tryz.prog w=.ok () (w.setCell ⟨g,i,none⟩ (.slice A n c)):=by
 simp [go_sem,hu,hf]
theorem Snts.push {w2:World} {B:Nat} {v v2 u:Value} {Z:List Zs} {po:Int} {y:By} (h2:w2.ownsRow B 83 2 v2 (Z.length+1) (flatZ Z++[.int .i64 po,u])) (ho:w.ownsRow B 83 2 v Z.length (flatZ Z)) (hg:w.grownBy w2 v.ownBlock) (hz:∀ z ∈ Z,Row8 B w z.u z.x) (hy:Row8 B w u y):Snts B w2 v2 ((Z.map fun z=>(z.p,z.x))++[(po,y)]):=by
 have hrow:∀ {n:Nat} {u:Value} {ys:List Value},w.ownsRow B 5 1 u n ys→w2.ownsRow B 5 1 u n ys:=fun hr=>own_type hr hg.size fun k cs hk hb=>hg.block k hk fun e=>own_blk_ne ho hb (by decide) e.symm
 refine ⟨Z++[⟨po,y,u⟩],by simp,by rw [flatZ_snoc,List.length_append]; exact h2,fun z h=>?_⟩
 rcases List.mem_append.1 h with h | h
 ·exact hrow (hz z h)
 ·rw [List.mem_singleton.1 h]
  exact hrow hy
set_option maxRecDepth 100000 in
set_option maxHeartbeats 4000000 in
attribute [-go_sem] Instr.storeAt Instr.loadAt in
theorem fadd_any (h:RnW w0 w rb E S) {b3 b4:Nat} {po:Int} (k3:Blk w b3 140 #[.pointer (some ⟨rb,0,none⟩)]) (k4:Blk w b4 3 #[.int .i64 po]) {Au:Option Addr} {nu cu:Nat} {y:By} (hy:Row8 w0.heap.size w (.slice Au nu cu) y) (hl:S.ft.out.length≤1000000) :
  Calls Tryz.prog 173 #[.slice Au nu cu,.pointer (some ⟨b3,0,none⟩),.pointer (some ⟨b4,0,none⟩)] w fun e w'=>e=.returned (.tuple #[])∧(∃ ov,RnW w0 w' rb E { S with ov:=ov,ft:={ S.ft with out:=S.ft.out++[(po,y)] } })∧Upd (AddU rb S) w w':=by
 obtain ⟨Z,hZ,ho,hz⟩:=h.ou
 have hzl:Z.length=S.ft.out.length:=by rw [← hZ,List.length_map]
 obtain ⟨Ao,co,hov,hco⟩:=own_form ho
 obtain ⟨n,hn⟩:∃ n,n=Z.length:=⟨_,rfl⟩
 have H:=Lib.hid h
 have HO:=Lib.hid ho
 have HZZ:=Lib.hid hz
 have HZE:=Lib.hid hZ
 have HOV:=Lib.hid hov
 have HY:=Lib.hid hy
 have K3:=Lib.hid k3
 have K4:=Lib.hid k4
 have HN:=Lib.hid hn
 have hmx:Z.length+1≤maxLen:=by unfold maxLen; omega
 have hmb:(Z.length+1) * 32≤140737488355328:=by omega
 obtain ⟨i0,hi,hz0,hz1,hz2⟩:=info_parts info_sent
 clear h ho hz hZ hov hy k3 k4 hn hzl hl hco
 go_enter Tryz.func173,Tryz.ntmps173
 refine wp_region_mix [(true,9),(false,6)] 2 (by kernel_rfl) (fun wx=>RnC w0 wx rb E S∧Blk wx b3 140 #[.pointer (some ⟨rb,0,none⟩)]∧Blk wx b4 3 #[.int .i64 po]) (fun _ _ h k=>⟨h.1.below k,h.2.1.below k h.2.1.lt,h.2.2.below k h.2.2.lt⟩) (by kernel_rfl) ⟨H.out.toRnC,K3.out,K4.out⟩ (a':=?_) (fun wz hz=>?_) fun wz hz=>?_
 rotate_left
 ·have q1:=fun (dd:Nat) (os:Array Obj)=>ld_prun (w:=grow (redrawn wz dd) os) (cell_regrown (show wz.cell? ⟨b3,0,none⟩=some (.pointer (some ⟨rb,0,none⟩)) from hz.2.1.cell 0) dd os)
  have q2:=fun (dd:Nat) (os:Array Obj)=>ld_snts (w:=grow (redrawn wz dd) os) (cell_regrown (show wz.cell? ⟨rb,21,none⟩=some (.slice Ao n co) by rw [hz.1.blk.cell 21,HN.out,← HOV.out]; rfl) dd os)
  have q3:=fun (dd:Nat) (os:Array Obj)=>ld_int (w:=grow (redrawn wz dd) os) (cell_regrown (show wz.cell? ⟨b4,0,none⟩=some (.int .i64 po) from hz.2.2.cell 0) dd os)
  clear hz
  simp only [pick_nil,pick_tt,pick_ft,List.take_succ_cons,List.take_zero,List.drop_succ_cons,List.drop_zero,List.append_nil]
  repeat (go_big_quiet_step (fail))
  refine wpQuiet_nil ?_
  rfl
 ·simp only [pick_nil,pick_ff,pick_tf,List.take_succ_cons,List.take_zero,List.drop_succ_cons,List.drop_zero,List.append_nil]
  have HZ:=Lib.hid hz
  clear hz
  have hcz:=H.out.below HZ.out
  have hCm:RnC w0 wz rb E S∧Blk wz b3 140 #[.pointer (some ⟨rb,0,none⟩)]∧Blk wz b4 3 #[.int .i64 po]:=⟨hcz.toRnC,K3.out.below HZ.out K3.out.lt,K4.out.below HZ.out K4.out.lt⟩
  refine wpMix_push (fun _ _ h k=>⟨h.1.below k,h.2.1.below k h.2.1.lt,h.2.2.below k h.2.2.lt⟩) hCm 83 [.int .i64 po,.slice Au nu cu] rfl (fun w'=>by go_simp) rfl (.tmp 9) (.tmp 13) _ rfl rfl w0.heap.size i0 _ 2 32 Tryz.underlying69 hi hz0 hz1 hz2 rfl (by decide) S.ov Z.length _ (fun _=>by rw [HOV.out,HN.out]; rfl) (fun _=>rfl) (own_below HO.out HZ.out) rfl (by simp [Value.oneCell']) hmx hmb (Nat.le_trans H.out.upd.size HZ.out.size) fun q v2 w2 h2 hg2 h3=>?_
  have hoz:=own_below HO.out HZ.out
  have hC2:=hCm.1.grown hoz (by decide) (by decide) hg2
  have hl2:Rows8 w0.heap.size w2 S.lv S.ft.loc:=hcz.lc.types hg2.size (fun k cs hk hb=>hg2.block k hk fun e=>own_blk_ne hoz hb (by decide) e.symm) (fun k cs hk hb=>hg2.block k hk fun e=>own_blk_ne hoz hb (by decide) e.symm)
  have hs2:=Snts.push h2 hoz hg2 (fun z hz=>(HZZ.out z hz).below HZ.out) (HY.out.below HZ.out)
  have hu2:Upd (AddU rb S) w w2:=(Upd.ofBelow HZ.out _).grown hg2 fun k hk=>.inl (.inr hk)
  rw [HZE.out] at hs2
  obtain ⟨A2,c2,rfl,_⟩:=own_form h2
  have hk3:Blk w2 b3 140 #[.pointer (some ⟨rb,0,none⟩)]:=(hg2.block b3 hCm.2.1.lt fun e=>own_blk_ne hoz hCm.2.1 (by decide) e.symm).trans hCm.2.1
  have hk4:Blk w2 b4 3 #[.int .i64 po]:=(hg2.block b4 hCm.2.2.lt fun e=>own_blk_ne hoz hCm.2.2 (by decide) e.symm).trans hCm.2.2
  refine wpMix_step ⟨hC2,hk3,hk4⟩ fun w3 hw3=>?_
  have hC3:=hC2.below hw3
  have hl3:=hl2.below hw3
  have hs3:=hs2.below hw3
  have HU3:=Lib.hid (hu2.trans_ (Upd.ofBelow hw3 _))
  have c0:=hC3.blk.cell 21
  have f0:=hC3.blk.frozen 21
  obtain ⟨m,hm⟩:∃ m,m=Z.length+1:=⟨_,rfl⟩
  rw [← hm] at hs3 ⊢
  have s1:=st_snts c0 f0 A2 m c2
  have HC:=Lib.hid hC3
  have HL:=Lib.hid hl3
  have HS:=Lib.hid hs3
  clear hCm hcz hoz hC2 hl2 hs2 hu2 hk3 hk4 hw3 hC3 hl3 hs3 h2 hg2 h3 hm c0 f0
  go_wp2_with fail
  refine wpMix_plain ?_
  go_wp2_with fail
  go_end0
  refine ⟨rfl,⟨.slice A2 m c2,⟨HC.out.put (i:=21) (S':={ S with ov:=.slice A2 m c2,ft:={ S.ft with out:=S.ft.out++[(po,y)] } }) rfl HC.out.pk HC.out.hv rfl,HL.out.set HC.out.blk 21 _,HS.out.set HC.out.blk 21 _⟩⟩,HU3.out.setCell (p:=⟨rb,21,none⟩) (.inl (.inl rfl)) _⟩
end
end Go.Proofs.YthlommalbkhcjaaGreat
