/- Structs of many cells; rows of structs. -/
import Derived.Test.YthlommalbkhcjaaGreatNq01
import Derived.Deep.MidRow
namespace Go.Proofs.YthlommalbkhcjaaGreat
open Go.RowKit
section
variable {P:Program} {ops:Array Oper} {rest:List Oper} {o:Oper} {a:Act} {Q:Exit→Act→World→Prop}
theorem reads_litN (w:World) (e:TypeId) (us:List Value) (size:Nat) (h:us.length=size):Reads (w.alloc (.cells us.toArray e)) (fun _=>True) size (some ⟨w.heap.size,0,none⟩) 1 us:=by
 refine ⟨by omega,fun _=>⟨⟨w.heap.size,0,none⟩,rfl,trivial,by simp,fun j u hu=>?_⟩⟩
 have hk:Blk (w.alloc (.cells us.toArray e)) w.heap.size e us.toArray:=Blk.new _ _ _
 rw [add_off,Nat.zero_add,hk.cell]
 simpa using hu
theorem wpList_pushN (w:World) (hgd:o.guard=none) (s y:Operand) (t e:TypeId) (ho:o.op=.call { callee:=.builtin .append,args:=#[s,y],argTypes:=#[t,t] }) (hty:o.type=t)
  (i:TypeInfo) (z:Value) (size bytes:Nat) (ht:P.underlying t=some (.slice e)) (hi:P.info? e=some i) (hz:i.zero=some z) (hsize:i.size=size) (hby:i.bytes=bytes) (hzs:z.cells.size=size) (hs0:0 < size)
  (B:Nat) (v:Value) (n:Nat) (xs:List Value) (us:List Value) (hul:us.length=size) (hu:∀ u ∈ us,u.oneCell'=true) (hs:a.eval s=v) (hown:w.ownsRow B e size v n xs) (hy:a.eval y=.slice (some ⟨w.heap.size,0,none⟩) 1 1)
  (h63:n+1≤maxLen) (hbytes:(n+1) * bytes≤140737488355328) (hB:B≤w.heap.size)
  (h:∀ v' w',w'.ownsRow B e size v' (n+1) (xs++us)→w.grownBy w' v.ownBlock→(v'.ownBlock=v.ownBlock∨∃ g,v'.ownBlock=some g∧w.heap.size≤g)→wpList P ops Q rest (a.put o.dst v') w'):wpList P ops Q (o :: rest) a (w.alloc (.cells us.toArray e)):=by
 subst hty
 refine wpList_append_any (w.alloc (.cells us.toArray e)) hgd s y o.type ho B e i z size bytes ht hi hz hsize hby hzs hs0 v n xs hs (hown.alloc _) (fun _=>True) _ 1 1 us hy (reads_litN w e us size hul) hu h63 hbytes (by simp; omega) fun v2 w2 h1 h2 h3=>h v2 w2 h1 ?_ ?_
 ·exact ⟨h2.os,h2.tape,h2.output,Nat.le_trans (by simp) h2.size,fun k hk hne=>(h2.block k (by simp; omega) hne).trans (Below.heap_alloc w _ k hk)⟩
 ·rcases h3 with h3 | h3
  ·exact .inl h3
  ·exact .inr ⟨_,h3,by simp⟩
end
end Go.Proofs.YthlommalbkhcjaaGreat
namespace Go.Proofs.YthlommalbkhcjaaGreat
open Go.RowKit
theorem Upd.setCells {F:Nat→Prop} {a:World} {g:Nat}:∀ (l:List Value) (o:Nat) (b:World),Upd F a b→F g∨a.heap.size≤g→Upd F a (b.setCells g o l)
 | [],_,_,h,_=>h
 | v :: r,o,_,h,hg=>Upd.setCells r (o+1) _ (h.setCell (p:=⟨g,o,none⟩) hg v) hg
theorem below_setCells {B g:Nat} {a:World} (hg:B≤g):∀ (l:List Value) (o:Nat) (b:World),Below B a b→Below B a (b.setCells g o l)
 | [],_,_,h=>h
 | v :: r,o,_,h=>below_setCells hg r (o+1) _ (h.setCell (p:=⟨g,o,none⟩) hg v)
theorem blk_far_setCells {g k:Nat} {t:TypeId} {cs:Array Value} (hk:k≠g):∀ (l:List Value) (o:Nat) (w:World),Blk w k t cs→Blk (w.setCells g o l) k t cs
 | [],_,_,h=>h
 | v :: r,o,_,h=>blk_far_setCells hk r (o+1) _ (h.far (p:=⟨g,o,none⟩) hk v)
theorem blk_setCells_aux {g:Nat} {t:TypeId}:∀ (l:List Value) (pre suf:List Value) (w:World),suf.length=l.length→Blk w g t (pre++suf).toArray→Blk (w.setCells g pre.length l) g t (pre++l).toArray
 | [],pre,suf,w,hl,h=>by
   obtain rfl:=List.eq_nil_of_length_eq_zero hl
   exact h
 | v :: r,pre,suf,w,hl,h=>by
   match suf,hl with
   | x :: s,hl =>
     have h2:=h.set_ pre.length v
     rw [List.setIfInBounds_toArray,List.set_append_right _ _ (Nat.le_refl _),Nat.sub_self,List.set_cons_zero] at h2
     have h3:=blk_setCells_aux r (pre++[v]) s (w.setCell ⟨g,pre.length,none⟩ v) (by simpa using hl) (by simpa using h2)
     rw [List.length_append] at h3
     unfold World.setCells
     simpa using h3
theorem blk_setCells {g:Nat} {t:TypeId} {w:World} {cs vs:Array Value} (h:Blk w g t cs) (hl:cs.size=vs.size):Blk (w.setCells g 0 vs.toList) g t vs:=by
 have:=blk_setCells_aux (t:=t) vs.toList [] cs.toList w (by simpa using hl) (by simpa using h)
 simpa using this
section
variable {w:World} {g k:Nat} {cs vs:Array Value} {t:TypeId}
theorem blk_there (h:Blk w g t cs):w.there g 0 cs.size:=fun j hj=>⟨by rw [Nat.zero_add,h.cell,Array.getElem?_eq_getElem hj]; rfl,by rw [Nat.zero_add]; exact h.frozen j⟩
theorem blk_range (h:Blk w g t cs):w.rangeAt g 0 cs.toList:=fun j v hj=>by rw [Nat.zero_add,h.cell]; simpa using hj
end
end Go.Proofs.YthlommalbkhcjaaGreat
namespace Go.Proofs.YthlommalbkhcjaaGreat
open Go.RowKit
section
variable {w:World} {g k:Nat} {cs vs:Array Value} {t:TypeId}
theorem stc_store (hi:(Tryz.prog.info? t).map (·.size)=some k) (h:Blk w g t cs) (hc:cs.size=k) (hv:vs.size=k) (h1:vs.all (·.oneCell')=true):(Instr.storeAt t (.pointer (some ⟨g,0,none⟩)) (.agg vs)).run Tryz.prog w=.ok () (w.setCells g 0 vs.toList) :=
 run_storeAt_mid w g 0 _ vs (by have:=blk_there h; rwa [hc,← hv] at this) (by rw [hv]; exact hi) h1
theorem stc_load {d:TypeDesc} (hu:Tryz.prog.underlying t=some d) (hd:d.isRow=true) (hi:(Tryz.prog.info? t).map (·.size)=some k) (h:Blk w g t cs) (hc:cs.size=k):(Instr.loadAt t (.pointer (some ⟨g,0,none⟩))).run Tryz.prog w=.ok (.agg cs) w:=by
 have:=run_loadAt_mid (P:=Tryz.prog) w g 0 t cs.toList d (blk_range h) hu hd (by simpa [hc] using hi)
 simpa using this
theorem stc_loadVar {d:TypeDesc} (hu:Tryz.prog.underlying t=some d) (hd:d.isRow=true) (hi:(Tryz.prog.info? t).map (·.size)=some k) (h:Blk w g t cs) (hc:cs.size=k):(loadVar t ⟨g,0,none⟩).run Tryz.prog w=.ok (.agg cs) w:=by
 have:=run_loadVar_mid (P:=Tryz.prog) w g 0 t cs.toList d (blk_range h) hu hd (by simpa [hc] using hi)
 simpa using this
theorem res_cell2 {d:TypeDesc} (hu:Tryz.prog.underlying t=some d) (hd:d.isRow=true) (hi:(Tryz.prog.info? t).map (·.size)=some k) {fn:Func} {p u:Tmp} (hf:fn.results=#[.cell p t,.tmp u]) (tmps:Array Value) (hp:tmps.getD p undef=.pointer (some ⟨g,0,none⟩)) (h:Blk w g t cs) (hc:cs.size=k) :
  (results fn tmps).run Tryz.prog w=.ok (.tuple #[.agg cs,tmps.getD u undef]) w:=by
 have hl:=stc_loadVar hu hd hi h hc
 have e1:tmps[p]?.getD undef=.pointer (some ⟨g,0,none⟩):=by simpa using hp
 simp only [results,hf]
 simp [Result.andThen,e1,asAddr,hl]
end
end Go.Proofs.YthlommalbkhcjaaGreat
