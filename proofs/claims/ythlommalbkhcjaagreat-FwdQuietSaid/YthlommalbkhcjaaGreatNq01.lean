/- Memory words: 'Upd F w w2': from w to w2 no block that was there has turned but those of F; blocks may have come. -/
import Derived.Test.YthlommalbkhcjaaGreatProg
import Derived.WalkKit
import Derived.WalkSpells
import Derived.WalkLawsBesides
import Derived.Deep.QuietTactic
import Derived.BigQuiet
import Derived.Lib.Hide
import Derived.Maps.AppendAt
import Derived.Deep.AppendLies
import Derived.Deep.Draws
import Derived.Deep.RegionLaw
namespace Go.Proofs.YthlommalbkhcjaaGreat
open Go.RowKit
structure Upd (F:Nat→Prop) (w w2:World):Prop where
 os:w2.os=w.os
 tape:w2.tape=w.tape
 output:w2.output=w.output
 size:w.heap.size≤w2.heap.size
 block:∀ k,k < w.heap.size→¬ F k→w2.heap[k]?=w.heap[k]?
section
variable {F G:Nat→Prop} {a b c w w2:World}
theorem Upd.refl (F:Nat→Prop) (w:World):Upd F w w:=⟨rfl,rfl,rfl,Nat.le_refl _,fun _ _ _=>rfl⟩
theorem Upd.trans (h:Upd F a b) (k:Upd G b c) (hG:∀ i,G i→F i∨a.heap.size≤i):Upd F a c :=
 ⟨k.os.trans h.os,k.tape.trans h.tape,k.output.trans h.output,Nat.le_trans h.size k.size,fun i hi hF =>
  (k.block i (Nat.lt_of_lt_of_le hi h.size) (fun hg=>by rcases hG i hg with x | x; exact hF x; omega)).trans (h.block i hi hF)⟩
theorem Upd.trans_ (h:Upd F a b) (k:Upd F b c):Upd F a c:=h.trans k fun _ x=>.inl x
theorem Upd.mono (h:Upd F a b) (hG:∀ i,F i→G i∨a.heap.size≤i):Upd G a b:=(Upd.refl G a).trans h hG
theorem Upd.drew (h:Upd F a b):Upd F a b.drew:=⟨h.os,h.tape,h.output,h.size,h.block⟩
theorem Upd.drewN (h:Upd F a b) (n:Nat):Upd F a (b.drewN n):=⟨h.os,h.tape,h.output,h.size,h.block⟩
theorem Upd.alloc (h:Upd F a b) (o:Obj):Upd F a (b.alloc o) :=
 ⟨h.os,h.tape,h.output,Nat.le_trans h.size (by simp),fun i hi hF=>(Below.heap_alloc b o i (Nat.lt_of_lt_of_le hi h.size)).trans (h.block i hi hF)⟩
theorem Upd.setCell (h:Upd F a b) {p:Addr} (hp:F p.block∨a.heap.size≤p.block) (u:Value):Upd F a (b.setCell p u) :=
 ⟨h.os,h.tape,h.output,by simpa [World.setCell] using h.size,fun i hi hF=>(Below.heap_setCell b p u i (by
  rintro rfl
  rcases hp with hp | hp
  ·exact hF hp
  ·omega)).trans (h.block i hi hF)⟩
theorem Upd.grown {row:Option Nat} (h:Upd F a b) (hg:b.grownBy c row) (hr:∀ k,row=some k→F k∨a.heap.size≤k):Upd F a c :=
 h.trans (G:=fun k=>row=some k) ⟨hg.os,hg.tape,hg.output,hg.size,fun i hi hn=>hg.block i hi (fun e=>hn e.symm)⟩ fun i hi=>hr i hi
theorem Upd.below {B:Nat} (h:Upd F w w2) (hF:∀ k,F k→B≤k) (hB:B≤w.heap.size):Below B w w2 :=
 ⟨h.os,h.tape,h.output,h.size,fun k hk=>h.block k (by omega) (fun x=>by have:=hF k x; omega)⟩
theorem Upd.ofBelow (h:Below w.heap.size w w2) (F:Nat→Prop):Upd F w w2:=⟨h.os,h.tape,h.output,h.size,fun k hk _=>h.block k hk⟩
theorem below_upd {B:Nat} (h:Below B a b) (k:Upd F b c) (hF:∀ k,F k→B≤k) (hB:B≤b.heap.size):Below B a c:=h.trans (k.below hF hB)
end
def only (b:Nat):Nat→Prop:=fun k=>k=b
theorem below_only {B b:Nat} {w0 w w2:World} (h:Below B w0 w) (k:Upd (only b) w w2) (hb:B≤b) (hB:B≤w.heap.size):Below B w0 w2:=below_upd h k (fun k (e:k=b)=>by omega) hB
theorem upd_set (w:World) (b off:Nat) (u:Value):Upd (only b) w (w.setCell ⟨b,off,none⟩ u):=(Upd.refl (only b) w).setCell (p:=⟨b,off,none⟩) (.inl rfl) u
theorem Upd.set_ {a w:World} {b:Nat} (h:Upd (only b) a w) (off:Nat) (u:Value):Upd (only b) a (w.setCell ⟨b,off,none⟩ u):=h.setCell (p:=⟨b,off,none⟩) (.inl rfl) u
def Blk (w:World) (g:Nat) (t:TypeId) (cs:Array Value):Prop:=w.heap[g]?=some (.cells cs t (0,0))
section
variable {w w2:World} {g:Nat} {t:TypeId} {cs:Array Value} {F:Nat→Prop}
theorem Blk.lt (h:Blk w g t cs):g < w.heap.size:=by
 rcases Nat.lt_or_ge g w.heap.size with hlt | hge
 ·exact hlt
 ·unfold Blk at h; rw [Array.getElem?_eq_none hge] at h; cases h
theorem Blk.cell (h:Blk w g t cs) (i:Nat):w.cell? ⟨g,i,none⟩=cs[i]?:=cell_of_row w g i cs t (0,0) h
theorem Blk.frozen (h:Blk w g t cs) (i:Nat):w.frozen? ⟨g,i,none⟩=false:=by
 unfold Blk at h
 simp [World.frozen?,h]
theorem Blk.new (w:World) (t:TypeId) (cs:Array Value):Blk (w.alloc (.cells cs t)) w.heap.size t cs:=heap_alloc_new w _
theorem Blk.drew (h:Blk w g t cs):Blk w.drew g t cs:=h
theorem Blk.drewN (h:Blk w g t cs) (n:Nat):Blk (w.drewN n) g t cs:=h
theorem Blk.alloc (h:Blk w g t cs) (o:Obj):Blk (w.alloc o) g t cs:=(Below.heap_alloc w o g h.lt).trans h
theorem Blk.set_ (h:Blk w g t cs) (i:Nat) (u:Value):Blk (w.setCell ⟨g,i,none⟩ u) g t (cs.setIfInBounds i u):=by
 unfold Blk at h ⊢
 simp [World.setCell,Array.getElem?_modify,h]
theorem Blk.far (h:Blk w g t cs) {p:Addr} (hp:g≠p.block) (u:Value):Blk (w.setCell p u) g t cs:=(Below.heap_setCell w p u g hp).trans h
theorem Blk.upd (h:Blk w g t cs) (hb:Upd F w w2) (hg:¬ F g):Blk w2 g t cs:=(hb.block g h.lt hg).trans h
theorem Blk.below {B:Nat} (h:Blk w g t cs) (hb:Below B w w2) (hg:g < B):Blk w2 g t cs:=(hb.block g hg).trans h
theorem Blk.ne_ {g':Nat} {t':TypeId} {cs':Array Value} (h:Blk w g t cs) (h':Blk w g' t' cs') (hne:t≠t'):g≠g':=by
 rintro rfl
 unfold Blk at h h'
 rw [h] at h'
 injection h' with h'
 injection h' with _ ht
 exact hne ht
end
theorem info_u8:(Tryz.prog.info? 5).map (fun i=>(i.zero,i.size,i.bytes))=some (some (.int .u8 0),1,1):=by kernel_rfl
def Same (I:Nat→Prop) (w w2:World):Prop:=w.heap.size≤w2.heap.size∧∀ k,I k→k < w.heap.size→w2.heap[k]?=w.heap[k]?
theorem Upd.same {F I:Nat→Prop} {w w2:World} (h:Upd F w w2) (hd:∀ k,F k→¬ I k):Same I w w2:=⟨h.size,fun k hi hk=>h.block k hk (fun x=>hd k x hi)⟩
theorem Same.refl (I:Nat→Prop) (w:World):Same I w w:=⟨Nat.le_refl _,fun _ _ _=>rfl⟩
theorem Same.ofHeap {w w2:World} (I:Nat→Prop) (e:w2.heap=w.heap):Same I w w2:=⟨by rw [e]; exact Nat.le_refl _,fun k _ _=>by rw [e]⟩
theorem Same.trans {I:Nat→Prop} {a b c:World} (h:Same I a b) (k:Same I b c):Same I a c :=
 ⟨Nat.le_trans h.1 k.1,fun i hi hl=>(k.2 i hi (Nat.lt_of_lt_of_le hl h.1)).trans (h.2 i hi hl)⟩
theorem Same.ofBelow {I:Nat→Prop} {B:Nat} {w w2:World} (h:Below B w w2) (hI:∀ k,I k→k < B):Same I w w2:=⟨h.size,fun k hi _=>h.block k (hI k hi)⟩
def Reads (w:World) (I:Nat→Prop) (size:Nat) (A:Option Addr) (n:Nat) (xs:List Value):Prop :=
 xs.length=n * size∧(0 < n→∃ ad,A=some ad∧I ad.block∧ad.block < w.heap.size∧∀ j u,xs[j]?=some u→w.cell? (ad.add j)=some u)
theorem block_of_add (a:Addr) (n:Nat):(a.add n).block=a.block:=by unfold Addr.add; split <;> rfl
theorem add_off (b o j:Nat):(⟨b,o,none⟩:Addr).add j=⟨b,o+j,none⟩:=by unfold Addr.add; split <;> simp_all
theorem add_of_add (a:Addr) (i j:Nat):(a.add i).add j=a.add (i+j):=by
 unfold Addr.add
 by_cases hi:i=0 <;> by_cases hj:j=0 <;> simp [hi,hj,Nat.add_assoc]
section
variable {w w2:World} {I J:Nat→Prop} {size n:Nat} {A:Option Addr} {xs:List Value}
theorem Reads.keep (h:Reads w I size A n xs) (hk:Same I w w2):Reads w2 I size A n xs :=
 ⟨h.1,fun hn=>by
  obtain ⟨ad,e,hi,hb,hc⟩:=h.2 hn
  exact ⟨ad,e,hi,Nat.lt_of_lt_of_le hb hk.1,fun j u hu=>(World.cell?_of_block (w:=w) (by rw [block_of_add]; exact hk.2 _ hi hb)).trans (hc j u hu)⟩⟩
theorem Reads.mono (h:Reads w I size A n xs) (hIJ:∀ k,I k→J k):Reads w J size A n xs :=
 ⟨h.1,fun hn=>by
  obtain ⟨ad,e,hi,hb,hc⟩:=h.2 hn
  exact ⟨ad,e,hIJ _ hi,hb,hc⟩⟩
theorem Reads.lt (h:Reads w I size A n xs):Reads w (fun k=>I k∧k < w.heap.size) size A n xs :=
 ⟨h.1,fun hn=>by
  obtain ⟨ad,e,hi,hb,hc⟩:=h.2 hn
  exact ⟨ad,e,⟨hi,hb⟩,hb,hc⟩⟩
theorem Reads.cut (h:Reads w I size A n xs) {k cap:Nat} (hk:k≤n) (hc:n≤cap) :
  Reads w I size (if cap=k then A else A.map (·.add (k * size))) (n - k) (xs.drop (k * size)):=by
 refine ⟨by rw [List.length_drop,h.1,Nat.sub_mul],fun hn=>?_⟩
 obtain ⟨ad,rfl,hi,hb,hcell⟩:=h.2 (by omega)
 rw [if_neg (by omega)]
 refine ⟨ad.add (k * size),rfl,by rw [block_of_add]; exact hi,by rw [block_of_add]; exact hb,fun j u hu=>?_⟩
 rw [add_of_add]
 exact hcell _ u (by rw [← hu,List.getElem?_drop])
theorem Reads.of_own {base:Nat} {e:TypeId} {c:Nat} (h:w.ownsRow base e size (.slice A n c) n xs) (hI:∀ g,(Value.slice A n c).ownBlock=some g→I g):Reads w I size A n xs:=by
 refine ⟨h.1,fun hn=>?_⟩
 obtain ⟨g,cap,hv,_,hlt⟩:=h.form hn
 have hA:A=some ⟨g,0,none⟩:=by injection hv
 subst hA
 exact ⟨_,rfl,hI g rfl,hlt,h.cells (g:=g) rfl⟩
end
theorem own_keep {w w2:World} {base:Nat} {e:TypeId} {size n:Nat} {v:Value} {xs:List Value} {I:Nat→Prop} (h:w.ownsRow base e size v n xs) (hk:Same I w w2) (hI:∀ g,v.ownBlock=some g→I g) :
  w2.ownsRow base e size v n xs:=by
 refine ⟨h.1,?_⟩
 rcases h.2 with hn | ⟨g,cap,cur,rfl,hb,hgg,rest⟩
 ·exact .inl hn
 ·refine .inr ⟨g,cap,cur,rfl,hb,?_,rest⟩
  rw [hk.2 g (hI g rfl) (Array.getElem?_eq_some_iff.1 hgg).1]
  exact hgg
theorem Blk.grown {w w2:World} {g:Nat} {t:TypeId} {cs:Array Value} {row:Option Nat} (h:Blk w g t cs) (hb:w.grownBy w2 row) (hne:row≠some g):Blk w2 g t cs:=(hb.block g h.lt (fun e=>hne e.symm)).trans h
theorem own_blk_ne {w:World} {g base:Nat} {t e:TypeId} {cs:Array Value} {size n:Nat} {v:Value} {xs:List Value} (h:w.ownsRow base e size v n xs) (hg:Blk w g t cs) (hne:e≠t):v.ownBlock≠some g:=by
 rcases h.2 with ⟨rfl,_⟩ | ⟨g',cap,cur,rfl,_,hh,_⟩
 ·simp [Value.ownBlock]
 ·intro he
  have:g'=g:=by simpa [Value.ownBlock] using he
  subst this
  exact Blk.ne_ (t:=e) hh hg hne rfl
theorem own_lt {w:World} {base:Nat} {e:TypeId} {size n:Nat} {v:Value} {xs:List Value} (h:w.ownsRow base e size v n xs) {g:Nat} (hg:v.ownBlock=some g):base≤g∧g < w.heap.size:=h.lt g hg
theorem own_base {w:World} {base b2:Nat} {e:TypeId} {size n:Nat} {v:Value} {xs:List Value} (h:w.ownsRow base e size v n xs) (hb:b2≤base):w.ownsRow b2 e size v n xs:=by
 refine ⟨h.1,?_⟩
 rcases h.2 with hn | ⟨g,cap,cur,rfl,hg,rest⟩
 ·exact .inl hn
 ·exact .inr ⟨g,cap,cur,rfl,by omega,rest⟩
theorem own_form {w:World} {base:Nat} {e:TypeId} {size n:Nat} {v:Value} {xs:List Value} (h:w.ownsRow base e size v n xs):∃ A c,v=.slice A n c∧n≤c:=by
 rcases h.2 with ⟨rfl,rfl⟩ | ⟨g,cap,cur,rfl,hg,hh,hnc,hcm,_⟩
 ·exact ⟨none,0,rfl,Nat.le_refl _⟩
 ·exact ⟨_,cap,rfl,hnc⟩
theorem own_form1 {w:World} {base:Nat} {e:TypeId} {size n:Nat} {v:Value} {xs:List Value} (h:w.ownsRow base e size v n xs) (hn:0 < n):∃ g c,v=.slice (some ⟨g,0,none⟩) n c∧n≤c:=by
 rcases h.2 with ⟨rfl,rfl⟩ | ⟨g,cap,cur,rfl,hg,hh,hnc,hcm,_⟩
 ·omega
 ·exact ⟨g,cap,rfl,hnc⟩
theorem own_alloc_lit {w:World} (base:Nat) (t:TypeId) (size:Nat) (cs:Array Value) (n:Nat) (hb:base≤w.heap.size) (hm:n≤maxLen) (hs:cs.size=n * size) :
  (w.alloc (.cells cs t)).ownsRow base t size (.slice (some ⟨w.heap.size,0,none⟩) n n) n cs.toList:=by
 refine ⟨by simpa using hs,.inr ⟨w.heap.size,n,cs,rfl,hb,heap_alloc_new w _,Nat.le_refl _,hm,hs,?_⟩⟩
 rw [← hs]; exact List.take_length
section
variable {P:Program} (w:World)
theorem run_append_of_nil (base:Nat) (t ty e:TypeId) (i:TypeInfo) (size:Nat) (ht:P.underlying t=some (.slice e)) (hi:P.info? e=some i)
  (v:Value) (n:Nat) (xs:List Value) (hown:w.ownsRow base e size v n xs) (c:Nat):(Builtin.append_ #[t,t] ty #[v,.slice none 0 c]).run P w=.ok v w:=by
 rcases hown.2 with ⟨rfl,rfl⟩ | ⟨g,cap,cur,rfl,_,_,hnc,_⟩
 ·simp [Builtin.append_,run_underlying ht,sizeOf,typeInfo,hi,Builtin.lenOf,Builtin.firstCells]
 ·simp [Builtin.append_,run_underlying ht,sizeOf,typeInfo,hi,Builtin.lenOf,Builtin.firstCells,hnc,storeCells]
theorem run_append_any (base:Nat) (t ty e:TypeId) (i:TypeInfo) (z:Value) (size bytes:Nat) (ht:P.underlying t=some (.slice e)) (hi:P.info? e=some i) (hz:i.zero=some z)
  (hsize:i.size=size) (hby:i.bytes=bytes) (hzs:z.cells.size=size) (hsz:0 < size)
  (v:Value) (n:Nat) (xs:List Value) (hown:w.ownsRow base e size v n xs)
  (I:Nat→Prop) (A:Option Addr) (m c:Nat) (news:List Value) (hr:Reads w I size A m news) (h1:∀ u ∈ news,u.oneCell'=true)
  (h63:n+m≤maxLen) (hbytes:(n+m) * bytes≤140737488355328) (hbase:base≤w.heap.size) :
  ∃ v2 w2,(Builtin.append_ #[t,t] ty #[v,.slice A m c]).run P w=.ok v2 w2∧w2.ownsRow base e size v2 (n+m) (xs++news)∧w.grownBy w2 v.ownBlock ∧
    (v2.ownBlock=v.ownBlock∨v2.ownBlock=some w.heap.size):=by
 have nothing:m=0→news=[]:=fun h=>List.eq_nil_of_length_eq_zero (by rw [hr.1,h,Nat.zero_mul])
 rcases A with _ | ad
 ·have hm:m=0:=by
   rcases Nat.eq_zero_or_pos m with h0 | h0
   ·exact h0
   ·obtain ⟨ad,h,_⟩:=hr.2 h0
    cases h
  have hn:=nothing hm
  subst hm
  subst hn
  exact ⟨v,w,run_append_of_nil w base t ty e i size ht hi v n xs hown c,by simpa using hown,World.grownBy.refl w _,.inl rfl⟩
 ·have hcells:∀ j u,news[j]?=some u→w.cell? (ad.add j)=some u:=by
   intro j u hu
   rcases Nat.eq_zero_or_pos m with h0 | h0
   ·rw [nothing h0] at hu
    simp at hu
   ·obtain ⟨ad',h,_,_,hc⟩:=hr.2 h0
    injection h with h
    subst h
    exact hc j u hu
  obtain ⟨v2,w2,hrun,h2,h3,_,h5⟩:=run_append_own_at (P:=P) w base t ty e i z size bytes ht hi hz hsize hby hzs hsz v n xs hown ad m c news hr.1 hcells h1 h63 hbytes hbase
  exact ⟨v2,w2,hrun,h2,h3,h5⟩
theorem wp_append_any {o:Oper} {a:Act} {K:Act→World→Prop} {Q:Exit→Act→World→Prop} (s x:Operand) (t:TypeId)
  (ho:o.op=.call { callee:=.builtin .append,args:=#[s,x],argTypes:=#[t,t] })
  (base:Nat) (e:TypeId) (i:TypeInfo) (z:Value) (size bytes:Nat) (ht:P.underlying t=some (.slice e)) (hi:P.info? e=some i) (hz:i.zero=some z)
  (hsize:i.size=size) (hby:i.bytes=bytes) (hzs:z.cells.size=size) (hsz:0 < size)
  (v:Value) (n:Nat) (xs:List Value) (hs:a.eval s=v) (hown:w.ownsRow base e size v n xs)
  (I:Nat→Prop) (A:Option Addr) (m c:Nat) (news:List Value) (hx:a.eval x=.slice A m c) (hr:Reads w I size A m news) (h1:∀ u ∈ news,u.oneCell'=true)
  (h63:n+m≤maxLen) (hbytes:(n+m) * bytes≤140737488355328) (hbase:base≤w.heap.size)
  (h:∀ v2 w2,w2.ownsRow base e size v2 (n+m) (xs++news)→w.grownBy w2 v.ownBlock→(v2.ownBlock=v.ownBlock∨v2.ownBlock=some w.heap.size)→K (a.put o.dst v2) w2):o.wp P a w K Q:=by
 obtain ⟨v2,w2,hrun,h2,h3,h4⟩:=run_append_any (P:=P) w base t o.type e i z size bytes ht hi hz hsize hby hzs hsz v n xs hown I A m c news hr h1 h63 hbytes hbase
 unfold Oper.wp execOp
 simp only [ho,resolve,invoke,builtin,Sem.run_bind,Sem.run_pure,Result.andThen_ok,List.map_toArray,List.map_cons,List.map_nil,hs,hx,hrun]
 exact h v2 w2 h2 h3 h4
theorem wpList_append_any {ops:Array Oper} {rest:List Oper} {o:Oper} {a:Act} {Q:Exit→Act→World→Prop} (hgd:o.guard=none) (s x:Operand) (t:TypeId)
  (ho:o.op=.call { callee:=.builtin .append,args:=#[s,x],argTypes:=#[t,t] })
  (base:Nat) (e:TypeId) (i:TypeInfo) (z:Value) (size bytes:Nat) (ht:P.underlying t=some (.slice e)) (hi:P.info? e=some i) (hz:i.zero=some z)
  (hsize:i.size=size) (hby:i.bytes=bytes) (hzs:z.cells.size=size) (hsz:0 < size)
  (v:Value) (n:Nat) (xs:List Value) (hs:a.eval s=v) (hown:w.ownsRow base e size v n xs)
  (I:Nat→Prop) (A:Option Addr) (m c:Nat) (news:List Value) (hx:a.eval x=.slice A m c) (hr:Reads w I size A m news) (h1:∀ u ∈ news,u.oneCell'=true)
  (h63:n+m≤maxLen) (hbytes:(n+m) * bytes≤140737488355328) (hbase:base≤w.heap.size)
  (h:∀ v2 w2,w2.ownsRow base e size v2 (n+m) (xs++news)→w.grownBy w2 v.ownBlock→(v2.ownBlock=v.ownBlock∨v2.ownBlock=some w.heap.size)→wpList P ops Q rest (a.put o.dst v2) w2):wpList P ops Q (o :: rest) a w :=
 wpList_plain hgd fun _ hK=>wp_append_any w s x t ho base e i z size bytes ht hi hz hsize hby hzs hsz v n xs hs hown I A m c news hx hr h1 h63 hbytes hbase fun v2 w2 h2 h3 h4=>hK _ _ (h v2 w2 h2 h3 h4)
end
theorem reads_lit (w:World) (t:TypeId) (cs:Array Value) (n size:Nat) (fr:Nat × Nat) (h:cs.size=n * size):Reads (w.alloc (.cells cs t fr)) (fun k=>k=w.heap.size) size (some ⟨w.heap.size,0,none⟩) n cs.toList :=
 ⟨by simpa using h,fun _=>⟨_,rfl,rfl,by simp,fun j u hu=>by
  have hh:(w.alloc (.cells cs t fr)).heap[w.heap.size]?=some (.cells cs t fr):=heap_alloc_new w _
  rw [add_off]
  simp only [World.cell?,hh]
  simpa using hu⟩⟩
theorem reads_new (w:World) (t:TypeId) (u:Value):Reads (w.alloc (.cells #[u] t)) (fun _=>True) 1 (some ⟨w.heap.size,0,none⟩) 1 [u] :=
 ⟨rfl,fun _=>⟨_,rfl,trivial,by simp,cell_one_new w u t⟩⟩
end Go.Proofs.YthlommalbkhcjaaGreat
