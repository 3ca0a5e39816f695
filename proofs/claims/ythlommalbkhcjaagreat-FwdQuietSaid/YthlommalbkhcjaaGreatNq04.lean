/- Own laws: regions that draw their order, ranges over a function. -/
import Derived.Test.YthlommalbkhcjaaGreatNq01
import Derived.Test.YthlommalbkhcjaaGreatProg
import Derived.RangeFuncNested
import Derived.Deep.Quiet
import Derived.OrdersIn
import Derived.Lib.QuietBelow
import Derived.StillTail
import Derived.RegionTactic
import Derived.TacticsIn
import Derived.BigQuiet
import Derived.RangeFuncCalls
import Derived.RangeFuncBound
import Derived.RangeFuncLeaves
import Derived.Shelf.Abstract
import Derived.OwnWalkIn
import Derived.TacticsInMore
import Derived.LoopNIn
import Derived.LoopIn
namespace Go.Proofs.YthlommalbkhcjaaGreat
open Go.RowKit
def SeqFit {α:Type} (F:Fence) (n:Nat) (P:Program) (g:Nat) (lb:Array Value) (encs:α→Array Value) (Kp:World→World→Prop) (S Sp:List α→Prop) (Fit:List α→α→World→Prop) (w:World):Prop :=
 ∀ (l:Nat) (J Jx:List α→World→Prop) (W:World),Below w.heap.size w W→AbidesFrom W.heap.size J→AbidesFrom W.heap.size Jx→J [] W →
   (∀ pre x V,J pre V→Fit pre x V→YieldAt F (n - 1) P l (encs x) V fun e V'=>(e=.returned (.bool true)∧J (pre++[x]) V'∧Kp V V')∨(e=.returned (.bool false)∧Jx (pre++[x]) V')) →
   CallsIn F n P g (#[.func (.yield l) #[] #[]]++lb) W fun e V=>(∃ v,e=.returned v)∧((∃ xs,S xs∧J xs V)∨(∃ pre,Sp pre∧Jx pre V))
section
variable {α:Type} {F:Fence} {n:Nat} {P:Program} {g:Operand} {ps:Array Tmp} {assign body:Code} {Q:Exit→Act→World→Prop} {a:Act} {w w0:World}
def recR (fn:FuncId) (a:Act) (ps:Array Tmp) (assign body:Code) (d:Nat) (st:LoopState) (pe:Option Code):Loop:={ state:=st,pending:=pe,fn:=fn,tmps:=a.tmps,params:=ps,assign:=assign,body:=body,defers:=d }
theorem wpIn_range_fit (hro:F.round=none) (h1:1≤n) {gf:Nat} {lb:Array Value} (hg:a.eval g=.func (.func gf) #[] lb) (hFg:F.fn gf) (eg:∀ args w,(callFunc gf args).run P w=.ok (.enter gf args) w)
  {encs:α→Array Value} {Kp:World→World→Prop} {S Sp:List α→Prop} {Fit:List α→α→World→Prop} (hseq:SeqFit F (n - 1) P gf lb encs Kp S Sp Fit w0)
  (hKt:∀ {A B C:World},Kp A B→Kp B C→Kp A C) (hKb:∀ (W:World) (l:Nat) (o o':Obj),w.heap.size≤l→W.heap[l]?=some o→o.isCells=false→o.isWalk=false→Kp W (W.putObj l o')) (hb0:Below w0.heap.size w0 w) (hps:∀ x,(encs x).size=ps.size)
  (I:List α→World→Prop) (Ix:Code→List α→World→Prop) (hI:OwnFrom w.heap.size I) (hIx:∀ c,OwnFrom w.heap.size (Ix c)) (h0:I [] w) (Ax:Array Value→List α→α→Act→World→Prop) (hAx:∀ pre x a',OwnFrom w.heap.size (fun (_:Unit) W=>Ax a.tmps pre x a' W))
  (hassign:∀ (l:Nat) (pre:List α) (x:α) (W:World) (K:Act→World→Prop),I pre W→Fit pre x W→w.heap.size≤W.heap.size→(∀ a' W',KeepsFrom w.heap.size W W'→Kp W W'→I pre W'→Ax a.tmps pre x a' W'→K a' W') →
   assign.wpIn (F.inRound l) (n - 1 - 1) P (Exit.then K (fun _ _ _=>False)) { tmps:=(ps.zip (encs x)).foldl (fun t (p,v)=>t.setIfInBounds p v) a.tmps,defers:=[] } W)
  (hbody:∀ (l:Nat) (pre:List α) (x:α) (a':Act) (W:World),w.heap.size≤l→(∃ r,W.heap[l]?=some (.loop r))→I pre W→Ax a.tmps pre x a' W→body.wpIn (F.inRound l) (n - 1 - 1) P (ownPostG w.heap.size Kp I Ix (pre++[x]) W) a' W)
  (hdone:∀ (D:Nat) (xs:List α) (W:World),w.heap.size≤D→S xs→I xs W→W.heap[D]?=some (.deferred (some []))→Q .normal { a with defers:={ target:=.collected D,args:=#[] } :: a.defers } W)
  (hstop:∀ (D:Nat) (c:Code) (pre:List α) (W:World),w.heap.size≤D→Sp pre→Ix c pre W→W.heap[D]?=some (.deferred (some []))→c.wpIn F n P Q { a with defers:={ target:=.collected D,args:=#[] } :: a.defers } W) :
  (Code.rangeFunc g ps assign body).wpIn F n P Q a w:=by
 refine wpIn_rangeFunc fun fn hfn=>?_
 rw [hro]
 obtain ⟨B,hB⟩:∃ B,B=w.heap.size:=⟨_,rfl⟩
 obtain ⟨R,hR⟩:∃ R,R=recR fn a ps assign body B:=⟨_,rfl⟩
 obtain ⟨V,hV⟩:∃ V,V=(w.alloc (.deferred (some []))).alloc (.loop (R .ready none)):=⟨_,rfl⟩
 have vsz:V.heap.size=B+1+1:=by rw [hV,hB]; simp
 have vl:V.heap[B+1]?=some (.loop (R .ready none)):=by
  have:=World.alloc_heap_new (w.alloc (.deferred (some []))) (.loop (R .ready none))
  rw [World.size_alloc,← hB] at this
  rw [hV]; exact this
 have vd:V.heap[B]?=some (.deferred (some [])):=by
  rw [hV,hB]
  exact (Below.heap_alloc _ _ _ (by simp)).trans (World.alloc_heap_new w _)
 have vI:I [] V:=by rw [hV]; exact hI.alloc _ (hI.alloc _ h0)
 have vb:Below w0.heap.size w0 V:=by
  rw [hV]
  exact ((hb0.alloc hb0.size _).alloc (Nat.le_trans hb0.size (by simp)) _)
 have pend:∀ st pe,(R st pe).pending=pe:=fun st pe=>by rw [hR]; rfl
 have stat:∀ st pe,(R st pe).state=st:=fun st pe=>by rw [hR]; rfl
 rw [← hB] at hKb hI hIx hAx hassign hbody hdone hstop
 refine ⟨B+1,[{ target:=.collected B,args:=#[] }],V,{ target:=.fn (.func gf) lb,args:=#[.func (.yield (B+1)) #[] #[]] },V,gf,#[.func (.yield (B+1)) #[] #[]]++lb,V,?_,?_,?_,?_,fun _=>h1,?_⟩
 ·rw [hV,hR,hB]; exact run_enterLoop_outer _ _ _ _ _
 ·simp only [resolve,hg]
  simp [go_sem]
 ·intro f' hf'
  simp [Target.leads] at hf'
  subst hf'
  exact hFg
 ·simp [invoke,go_sem,eg]
 have own2:∀ {A C:World} {row:Option Nat},A.grownBy C row→(∀ r,row=some r→V.heap.size≤r∧∃ o:Obj,A.heap[r]?=some o∧o.isWalk=true) →
   (∀ r,row=some r→B≤r∧∃ o:Obj,A.heap[r]?=some o∧o.isCells=false)∧(∀ k,k=B∨k=B+1→∀ o:Obj,A.heap[k]?=some o→C.heap[k]?=some o):=fun {A C row} hgr hr=>by
  refine ⟨fun r e=>?_,fun k hk o ho=>(hgr.block k (Array.getElem?_eq_some_iff.1 ho).1 fun e=>?_).trans ho⟩
  ·obtain ⟨hr1,o,ho,hw⟩:=hr r e
   exact ⟨by omega,o,ho,Obj.not_cells_of_walk hw⟩
  ·have:=(hr k e.symm).1
   omega
 refine (hseq (B+1) (fun pre W=>I pre W∧W.heap[B+1]?=some (.loop (R .ready none))∧W.heap[B]?=some (.deferred (some [])))
  (fun pre W=>∃ c,Ix c pre W∧W.heap[B+1]?=some (.loop (R .done (some c)))∧W.heap[B]?=some (.deferred (some []))) V vb ?_ ?_ ⟨vI,vl,vd⟩ ?_).mono ?_
 ·intro s A C row hs hgr hr
  obtain ⟨o1,o2⟩:=own2 hgr hr
  exact ⟨hI s A C row hs.1 hgr o1,o2 _ (.inr rfl) _ hs.2.1,o2 _ (.inl rfl) _ hs.2.2⟩
 ·rintro s A C row ⟨c,hc,hl,hd⟩ hgr hr
  obtain ⟨o1,o2⟩:=own2 hgr hr
  exact ⟨c,hIx c s A C row hc hgr o1,o2 _ (.inr rfl) _ hl,o2 _ (.inl rfl) _ hd⟩
 ·
  rintro pre x W ⟨hi,hl,hd⟩ hfit
  have hy:=run_yield (P:=P) (args:=encs x) hl (by rw [hR]; exact hps x)
  rw [hR] at hy
  refine ⟨fn,_,assign,body,hy,roundIn_of_wpIn hfn (hassign _ pre x W _ hi hfit (by have:=(Array.getElem?_eq_some_iff.1 hl).1; omega) ?_)⟩
  intro a' W1 k1 p1 i1 x1
  have l1:=k1.same _ _ (by omega) hl rfl
  have d1:=k1.same _ _ (Nat.le_refl _) hd rfl
  have lt1:B+1 < W1.heap.size:=(Array.getElem?_eq_some_iff.1 l1).1
  refine ⟨_,run_beginRound l1 (stat _ _),?_⟩
  have busy:({ (R .ready none) with state:=.busy }:Loop)=R .busy none:=by rw [hR]; rfl
  rw [busy]
  have l2:(W1.putObj (B+1) (.loop (R .busy none))).heap[B+1]?=some (.loop (R .busy none)):=World.putObj_heap_same lt1
  have d2:(W1.putObj (B+1) (.loop (R .busy none))).heap[B]?=some (.deferred (some [])):=(World.putObj_heap_other (by omega)).trans d1
  have p2:Kp W1 (W1.putObj (B+1) (.loop (R .busy none))):=hKb _ _ _ _ (by omega) l1 rfl rfl
  refine wpIn_mono (hbody _ pre x a' _ (by omega) ⟨_,l2⟩ (hI.putObj _ i1 (by omega) l1 rfl) ((hAx pre x a').putObj (s:=()) _ x1 (by omega) l1 rfl)) ?_
  have fin:∀ (j:Option Code) (W3:World),KeepsFrom B (W1.putObj (B+1) (.loop (R .busy none))) W3 →
    (Instr.endRound (B+1) j).run P W3=.ok (.bool j.isNone) (W3.putObj (B+1) (.loop (R (if j.isNone then .ready else .done) j)))∧W3.heap[B+1]?=some (.loop (R .busy none)) ∧
    (W3.putObj (B+1) (.loop (R (if j.isNone then .ready else .done) j))).heap[B+1]?=some (.loop (R (if j.isNone then .ready else .done) j)) ∧
    (W3.putObj (B+1) (.loop (R (if j.isNone then .ready else .done) j))).heap[B]?=some (.deferred (some [])):=fun j W3 k3=>by
   have l3:=k3.same _ _ (by omega) l2 rfl
   have:=run_endRound (P:=P) j l3
   rw [show ({ (R .busy none) with state:=if j.isNone then .ready else .done,pending:=j }:Loop)=R (if j.isNone then .ready else .done) j from by rw [hR]; rfl] at this
   exact ⟨this,l3,World.putObj_heap_same (Array.getElem?_eq_some_iff.1 l3).1,(World.putObj_heap_other (by omega)).trans (k3.same _ _ (Nat.le_refl _) d2 rfl)⟩
  rintro e a3 W3 hp
  cases e with
  | normal =>
    obtain ⟨k3,p3,i3⟩:=hp
    obtain ⟨hr,l3,l4,d4⟩:=fin none W3 k3
    exact ⟨_,_,hr,.inl ⟨rfl,⟨hI.putObj _ i3 (by omega) l3 rfl,l4,d4⟩,hKt p1 (hKt (hKt p2 p3) (hKb _ _ _ _ (by omega) l3 rfl rfl))⟩⟩
  | ret =>
    obtain ⟨k3,i3⟩:=hp
    obtain ⟨hr,l3,l4,d4⟩:=fin (some .ret) W3 k3
    exact ⟨_,_,hr,.inr ⟨rfl,.ret,(hIx _).putObj _ i3 (by omega) l3 rfl,l4,d4⟩⟩
  | exit id =>
    obtain ⟨k3,i3⟩:=hp
    obtain ⟨hr,l3,l4,d4⟩:=fin (some (.exit id)) W3 k3
    exact ⟨_,_,hr,.inr ⟨rfl,.exit id,(hIx _).putObj _ i3 (by omega) l3 rfl,l4,d4⟩⟩
  | goto t =>
    obtain ⟨k3,i3⟩:=hp
    obtain ⟨hr,l3,l4,d4⟩:=fin (some (.goto t)) W3 k3
    exact ⟨_,_,hr,.inr ⟨rfl,.goto t,(hIx _).putObj _ i3 (by omega) l3 rfl,l4,d4⟩⟩
  | panic ch=>exact hp.elim
  | outgrown=>exact hp.elim
 ·
  rintro e W2 ⟨⟨v,rfl⟩,(⟨xs,hS,hi,hl,hd⟩ | ⟨pre,hSp,c,hi,hl,hd⟩)⟩
  ·have:=run_endLoop (P:=P) hl (by rw [stat]; simp)
   rw [pend] at this
   exact ⟨none,_,this,hdone _ xs _ (Nat.le_refl _) hS (hI.putObj _ hi (by omega) hl rfl) ((World.putObj_heap_other (by omega)).trans hd)⟩
  ·have:=run_endLoop (P:=P) hl (by rw [stat]; simp)
   rw [pend] at this
   exact ⟨some c,_,this,hstop _ c pre _ (Nat.le_refl _) hSp ((hIx c).putObj _ hi (by omega) hl rfl) ((World.putObj_heap_other (by omega)).trans hd)⟩
end
end Go.Proofs.YthlommalbkhcjaaGreat
namespace Go.Proofs.YthlommalbkhcjaaGreat
section
variable {P:Program} {F:Fence} {n:Nat} {Q:Exit→Act→World→Prop}
def plainB (o:Oper):Bool:=match o.op with
 | .move _ | .assign _ | .pick _ _ _ | .load _ _ | .binOp _ _ _ _ _ | .unOp _ _ _ | .fieldAddr _ _ _ | .indexAddr _ _ _ | .extract _ _ | .slice _ _ _ _ _ | .convert _ _ _=>true
 | .call c=>match c.callee with
   | .builtin .len=>true
   | _=>false
 | _=>false
def onlyV:Result Next→Prop
 | .ok (.value _) _=>True
 | .halt _ _=>True
 | _=>False
theorem onlyV_v (s:Sem Value) (w:World):onlyV ((do pure (Next.value (← s)):Sem Next).run P w):=by
 simp only [Sem.run_bind,Sem.run_pure]
 cases s.run P w <;> trivial
theorem plain_only {o:Oper} (h:plainB o=true) (ρ:Operand→Value) (w:World):onlyV ((execOp ρ o).run P w):=by
 unfold plainB at h
 unfold execOp
 cases ho:o.op <;> rw [ho] at h <;> simp only at h <;> first
  | (cases h; done)
  | trivial
  | exact onlyV_v _ _
  | skip
 case pick c x y =>
  simp only [Sem.run_bind,Sem.run_pure]
  cases (asBool (ρ c)).run P w <;> trivial
 case call c =>
  obtain ⟨callee,args,tys⟩:=c
  cases callee with
  | value f=>cases h
  | invoke r m=>cases h
  | builtin b =>
    cases b <;> simp only at h <;> first
     | (cases h; done)
     | skip
    simp only [resolve,invoke,builtin,Sem.run_bind,Sem.run_pure,Result.andThen_ok]
    cases (Builtin.len_ tys o.type (Array.map ρ args)).run P w <;> trivial
theorem plain_defer {o:Oper} (h:plainB o=true) (c:Call):o.op≠.defer c:=fun e=>by
 unfold plainB at h
 rw [e] at h
 cases h
theorem plain_wpIn (hF:∀ f,F.fn f) {o:Oper} (h:plainB o=true) {a:Act} {w:World} {K:Act→World→Prop} (hw:o.wp P a w K Q):o.wpIn F n P a w K Q:=by
 refine ⟨fun f _=>hF f,?_⟩
 rw [Oper.semAt_eq _ _ _ (plain_defer h)]
 have h1:=plain_only (P:=P) h a.eval w
 unfold Oper.wp at hw
 generalize (execOp a.eval o).run P w=r at h1 hw
 cases r with
 | ok x w'=>cases x <;> first | exact hw | exact h1.elim
 | halt x w'=>cases x <;> first | exact hw | exact hw.elim
theorem plain_any (hF:∀ f,F.fn f) (hQ:¬ LetsOut Q) {ops:Array Oper} {md:Region.Mode} (hp:ops.toList.all plainB=true):∀ (fuel:Nat) (listed:Array Bool) (a:Act) (w:World),wpAny P md ops Q fuel listed a w→wpAnyIn F n P md ops Q fuel listed a w
 | 0,_,_,_,h=>h
 | fuel+1,listed,a,w,h=>by
   refine ⟨h.1,fun i hi=>?_⟩
   have h2:=h.2 i hi
   unfold wpOp at h2
   unfold wpOpIn
   cases ho:ops[i]? with
   | none=>rw [ho] at h2; exact plain_any hF hQ hp fuel _ a w h2
   | some o =>
     rw [ho] at h2
     simp only at h2 ⊢
     split
     ·rename_i hw
      rw [if_pos hw] at h2
      rcases h2 with h2 | h2
      ·exact Oper.wpIn_mono (fun a w h=>plain_any hF hQ hp fuel _ a w h) (plain_wpIn hF (List.all_eq_true.1 hp o (Array.mem_toList_iff.2 (Array.mem_of_getElem? ho))) h2)
      ·exact absurd h2.2 hQ
     ·rename_i hw
      rw [if_neg hw] at h2
      exact ⟨fun f _=>hF f,plain_any hF hQ hp fuel _ _ w h2⟩
end
end Go.Proofs.YthlommalbkhcjaaGreat
namespace Go.Proofs.YthlommalbkhcjaaGreat
open Go.Sort
section
variable {P:Program} {Q:Exit→Act→World→Prop}
def shiftO (n:Nat) (o:Oper):Oper:={ o with after:=((o.after.toList.filter fun e=>decide (n≤e.on)).map fun e=>{ e with on:=e.on - n }).toArray,guard:=o.guard.map fun g=>(g.1 - n,g.2) }
def edgeOk (l:List Oper):Bool:=(List.range l.length).all fun i=>match l[i]? with
 | some o=>o.after.toList.all fun e=>!Region.binds .any e || decide (e.on < i)
 | none=>true
def guardOk (l:List Oper) (n:Nat):Bool:=(List.range l.length).all fun i=>match l[i]? with
 | some o=>(match o.guard with
   | some g=>if i < n then decide (g.1 < n) else decide (n≤g.1) && decide (g.1 < l.length)
   | none=>true)
 | none=>true
def rootB (l:List Oper) (n:Nat):Bool:=(List.range l.length).all fun t=>decide (t≤n) || (List.range t).any fun j=>decide (n≤j) && Region.waitsFor .any l.toArray t j
def sinkL (l:List Oper) (n:Nat):Bool:=(List.range n).all fun i=>(List.range (n+1)).any fun j=>decide (i < j) && Region.waitsFor .any l.toArray j i
def stageB (l:List Oper) (n:Nat):Bool:=decide (n < l.length) && edgeOk l && guardOk l n && rootB l n && sinkL l n
theorem edgeOk_spec {l:List Oper} (h:edgeOk l=true) {i:Nat} {o:Oper} (ho:l[i]?=some o):∀ e ∈ o.after,Region.binds .any e=true→e.on < i:=by
 intro e he hb
 have h1:=List.all_eq_true.1 h i (List.mem_range.2 (List.getElem?_eq_some_iff.1 ho).1)
 rw [ho] at h1
 have h2:=List.all_eq_true.1 h1 e (by simpa using he)
 rw [hb] at h2
 simpa using h2
theorem guardOk_spec {l:List Oper} {n:Nat} (h:guardOk l n=true) {i:Nat} {o:Oper} (ho:l[i]?=some o) {g:Nat × Bool} (hg:o.guard=some g):(i < n→g.1 < n)∧(n≤i→n≤g.1∧g.1 < l.length):=by
 have h1:=List.all_eq_true.1 h i (List.mem_range.2 (List.getElem?_eq_some_iff.1 ho).1)
 rw [ho] at h1
 simp only [hg] at h1
 constructor
 ·intro hi
  rw [if_pos hi] at h1
  simpa using h1
 ·intro hi
  rw [if_neg (by omega)] at h1
  simpa using h1
theorem wpAny_more {md:Region.Mode} {ops:Array Oper}:∀ (f:Nat) (listed:Array Bool) (a:Act) (w:World),wpAny P md ops Q f listed a w→wpAny P md ops Q (f+1) listed a w
 | 0,listed,a,w,h=>⟨fun _=>h.2,fun i hi=>by rw [h.1] at hi; cases hi⟩
 | f+1,listed,a,w,h=>⟨h.1,fun i hi=>wpOp_mono (fun a w=>wpAny_more f _ a w) (h.2 i hi)⟩
theorem wpAny_much {md:Region.Mode} {ops:Array Oper} {f:Nat} {listed:Array Bool} {a:Act} {w:World} (h:wpAny P md ops Q f listed a w):∀ g:Nat,wpAny P md ops Q (g+f) listed a w
 | 0=>by rw [Nat.zero_add]; exact h
 | g+1=>by
   have:=wpAny_more _ _ _ _ (wpAny_much h g)
   rwa [show g+1+f=g+f+1 by omega]
theorem wp_unthen {o:Oper} {a:Act} {w:World} {K K0:Act→World→Prop} (h:o.wp P a w K (Exit.then K0 Q)):o.wp P a w K Q:=by
 unfold Oper.wp at *
 generalize (execOp a.eval o).run P w=r at *
 cases r with
 | ok n w' =>
   cases n <;> simp only [Oper.upon] at h ⊢ <;>
    first
     | exact h
     | exact Calls.mono h (fun e w'' he=>by cases e <;> exact he)
 | halt x w'=>cases x <;> simp only [Oper.upon] at h ⊢ <;> exact h
theorem wpOp_unthen {ops:Array Oper} {i:Nat} {a:Act} {w:World} {K K0:Act→World→Prop} (h:wpOp P ops (Exit.then K0 Q) i K a w):wpOp P ops Q i K a w:=by
 unfold wpOp at *
 split
 ·rename_i ho; simp only [ho] at h; exact h
 ·rename_i o ho
  simp only [ho] at h
  split
  ·rename_i hw; simp only [hw,if_true] at h; exact h.imp wp_unthen fun ⟨h1,h2⟩=>⟨h1,h2⟩
  ·rename_i hw; simp only [hw] at h; exact h
theorem wpOp_of_eq {ops ops':Array Oper} {i j:Nat} {a:Act} {w:World} {K:Act→World→Prop} {o o':Oper} (hi:ops[i]?=some o) (hj:ops'[j]?=some o') (hd:o'.dst=o.dst) (he:∀ ρ,execOp ρ o'=execOp ρ o) (hw:∀ tmps,Region.wanted o' (yielded ops' tmps)=Region.wanted o (yielded ops tmps)) (h:wpOp P ops' Q j K a w):wpOp P ops Q i K a w:=by
 unfold wpOp at *
 simp only [hi]
 simp only [hj] at h
 rw [hw] at h
 split
 ·rename_i hw'
  simp only [hw',if_true] at h
  refine h.imp (fun h=>?_) (fun ⟨h1,h2⟩=>⟨?_,h2⟩)
  ·unfold Oper.wp at *
   rw [he] at h
   generalize (execOp a.eval o).run P w=r at *
   cases r with
   | ok n w'=>cases n <;> simp only [Oper.upon,hd] at h ⊢ <;> exact h
   | halt x w'=>cases x <;> simp only [Oper.upon] at h ⊢ <;> exact h
  ·unfold Oper.asks at *
   rw [he] at h1
   exact h1
 ·rename_i hw'
  simp only [hw'] at h
  rw [hd] at h
  exact h
theorem getD_app_left {l r:Array Bool} {i:Nat} (d:Bool) (h:i < l.size):(l++r).getD i d=l.getD i d:=by
 simp [Array.getD_eq_getD_getElem?,Array.getElem?_append_left h]
theorem getD_app_right {l r:Array Bool} {i:Nat} (d:Bool) (h:l.size≤i):(l++r).getD i d=r.getD (i - l.size) d:=by
 simp [Array.getD_eq_getD_getElem?,Array.getElem?_append_right h]
theorem getD_rep {n i:Nat} (b d:Bool) (h:i < n):(Array.replicate n b).getD i d=b:=by
 simp [Array.getD_eq_getD_getElem?,h]
theorem getD_any {l:Array Bool} {i:Nat} (h:i < l.size) (d d':Bool):l.getD i d=l.getD i d':=by
 simp [Array.getD_eq_getD_getElem?,h]
theorem set_app_left {l r:Array Bool} {i:Nat} (h:i < l.size):(l++r).setIfInBounds i true=l.setIfInBounds i true++r:=by
 apply Array.ext_getElem?
 intro k
 simp only [Array.getElem?_setIfInBounds,Array.getElem?_append,Array.size_setIfInBounds,Array.size_append]
 by_cases hk:i=k
 ·subst hk
  rw [if_pos rfl,if_pos (by omega),if_pos h,if_pos rfl,if_pos h]
 ·rw [if_neg hk,if_neg hk]
theorem set_app_right {l r:Array Bool} {j:Nat}:(l++r).setIfInBounds (l.size+j) true=l++r.setIfInBounds j true:=by
 apply Array.ext_getElem?
 intro k
 simp only [Array.getElem?_setIfInBounds,Array.getElem?_append,Array.size_append]
 by_cases hk:k < l.size
 ·rw [if_neg (by omega),if_pos hk,if_pos hk]
 ·rw [if_neg hk,if_neg hk]
  by_cases hkj:l.size+j=k
  ·subst hkj
   rw [if_pos rfl,show l.size+j - l.size=j by omega,if_pos rfl]
   by_cases hr:j < r.size
   ·rw [if_pos (by omega),if_pos (by omega)]
   ·rw [if_neg (by omega),if_neg (by omega)]
  ·rw [if_neg hkj,if_neg (by omega)]
theorem wanted_like {o o':Oper} {ops ops':Array Oper} {tmps:Array Value} (hn:o.guard=none→o'.guard=none) (h:∀ g,o.guard=some g→∃ g',o'.guard=some (g',g.2)∧(ops'[g']?).bind (·.dst)=(ops[g.1]?).bind (·.dst)) :
  Region.wanted o' (yielded ops' tmps)=Region.wanted o (yielded ops tmps):=by
 unfold Region.wanted
 cases hg:o.guard with
 | none=>rw [hn hg]
 | some g =>
   obtain ⟨g',h1,h2⟩:=h g hg
   rw [h1]
   simp only
   unfold yielded
   rw [h2]
theorem stage_any {hd tl:List Oper} (hB:stageB (hd++tl) hd.length=true) {g:Nat}:∀ (f:Nat) (listed:Array Bool) (a:Act) (w:World),listed.size=hd.length→(∀ (j:Nat) (o:Oper),hd[j]?=some o→listed.getD j false=true→∀ e ∈ o.after,Region.binds .any e=true→listed.getD e.on false=true) →
  wpAny P .any hd.toArray (Exit.then (fun a w=>wpAny P .any (hd++tl).toArray Q g (Array.replicate hd.length true++Array.replicate tl.length false) a w) Q) f listed a w →
  wpAny P .any (hd++tl).toArray Q (f+g) (listed++Array.replicate tl.length false) a w:=by
 unfold stageB at hB
 simp only [Bool.and_eq_true,decide_eq_true_eq] at hB
 obtain ⟨⟨⟨⟨hn,hE⟩,hG⟩,hR⟩,hS⟩:=hB
 have hlt:∀ (i:Nat) (o:Oper),hd[i]?=some o→(hd++tl)[i]?=some o:=fun i o h=>by
  rw [List.getElem?_append_left (List.getElem?_eq_some_iff.1 h).1]; exact h
 have hready:∀ (listed:Array Bool),listed.size=hd.length→∀ i,i < hd.length→(i ∈ Region.ready .any (hd++tl).toArray (listed++Array.replicate tl.length false)↔i ∈ Region.ready .any hd.toArray listed):=by
  intro listed hsz i hi
  have ho:hd[i]?=some hd[i]:=List.getElem?_eq_getElem hi
  rw [mem_ready,mem_ready]
  simp only [List.getElem?_toArray]
  rw [getD_app_left _ (by omega),hlt i _ ho,ho]
  have hed:=edgeOk_spec hE (hlt i _ ho)
  constructor
  ·rintro ⟨h1,o,h2,h3⟩
   injection h2 with h2
   subst h2
   exact ⟨h1,_,rfl,fun e he hb=>by
    have:=h3 e he hb
    rwa [getD_app_left _ (by have:=hed e he hb; omega)] at this⟩
  ·rintro ⟨h1,o,h2,h3⟩
   injection h2 with h2
   subst h2
   exact ⟨h1,_,rfl,fun e he hb=>by
    rw [getD_app_left _ (by have:=hed e he hb; omega)]
    exact h3 e he hb⟩
 have htail:∀ (listed:Array Bool),listed.size=hd.length→(∀ (j:Nat) (o:Oper),hd[j]?=some o→listed.getD j false=true→∀ e ∈ o.after,Region.binds .any e=true→listed.getD e.on false=true) →
   ∀ (d i:Nat),hd.length - i=d→i < hd.length→listed.getD i false=false→∀ t,hd.length≤t→t ∉ Region.ready .any (hd++tl).toArray (listed++Array.replicate tl.length false):=by
  intro listed hsz hcl d
  induction d using Nat.strongRecOn with
  | _ d ih =>
    intro i hdi hi hun t ht hr
    obtain ⟨_,ot,hot,hall⟩:=mem_ready.1 hr
    rw [List.getElem?_toArray] at hot
    have htlt:t < (hd++tl).length:=(List.getElem?_eq_some_iff.1 hot).1
    by_cases htn:t=hd.length
    ·subst htn
     have h1:=List.all_eq_true.1 hS i (List.mem_range.2 hi)
     obtain ⟨j,hj,hj2⟩:=List.any_eq_true.1 h1
     simp only [Bool.and_eq_true,decide_eq_true_eq] at hj2
     obtain ⟨oj,hoj,e,he,hb,hon⟩:=Region.waitsFor_spec hj2.2
     rw [List.getElem?_toArray] at hoj
     have hjle:j≤hd.length:=by have:=List.mem_range.1 hj; omega
     by_cases hjt:j=hd.length
     ·subst hjt
      rw [hoj] at hot
      injection hot with hot
      subst hot
      have h2:=hall e he hb
      rw [hon,getD_app_left _ (by omega),hun] at h2
      cases h2
     ·have hjlt:j < hd.length:=by omega
      rw [List.getElem?_append_left hjlt] at hoj
      cases hl:listed.getD j false with
      | true =>
        have h2:=hcl j oj hoj hl e he hb
        rw [hon,hun] at h2
        cases h2
      | false=>exact ih (hd.length - j) (by omega) j rfl hjlt hl _ (Nat.le_refl _) hr
    ·have h1:=List.all_eq_true.1 hR t (List.mem_range.2 htlt)
     simp only [Bool.or_eq_true,decide_eq_true_eq] at h1
     rcases h1 with h1 | h1
     ·omega
     ·obtain ⟨j,hj,hj2⟩:=List.any_eq_true.1 h1
      simp only [Bool.and_eq_true,decide_eq_true_eq] at hj2
      obtain ⟨o',ho',e,he,hb,hon⟩:=Region.waitsFor_spec hj2.2
      rw [List.getElem?_toArray,hot] at ho'
      injection ho' with ho'
      subst ho'
      have h2:=hall e he hb
      have hjt:=List.mem_range.1 hj
      simp only [List.length_append] at htlt
      rw [hon,getD_app_right _ (by omega),getD_rep _ _ (by omega)] at h2
      cases h2
 have hdone:∀ (listed:Array Bool),listed.size=hd.length→Region.ready .any hd.toArray listed=[]→listed=Array.replicate hd.length true:=by
  intro listed hsz hr
  have hall:∀ i,i < hd.length→listed.getD i false=true:=by
   intro i
   induction i using Nat.strongRecOn with
   | _ i ih =>
     intro hi
     cases hl:listed.getD i false with
     | true=>rfl
     | false =>
       have ho:hd[i]?=some hd[i]:=List.getElem?_eq_getElem hi
       have:i ∈ Region.ready .any hd.toArray listed:=mem_ready.2 ⟨by rw [getD_any (by omega) true false]; exact hl,_,by rw [List.getElem?_toArray]; exact ho,fun e he hb=>by
        have:=edgeOk_spec hE (hlt i _ ho) e he hb
        exact ih e.on this (by omega)⟩
       rw [hr] at this
       cases this
  apply Array.ext (by simp [hsz])
  intro i h1 h2
  have:=hall i (by omega)
  simp only [Array.getD_eq_getD_getElem?,Array.getElem?_eq_getElem h1,Option.getD_some] at this
  rw [this]
  simp
 intro f
 induction f with
 | zero =>
   intro listed a w hsz hcl h
   obtain ⟨h1,h2⟩:=h
   rw [hdone listed hsz h1,Nat.zero_add]
   exact h2
 | succ f ih =>
   intro listed a w hsz hcl h
   cases hr:Region.ready .any hd.toArray listed with
   | nil =>
     rw [hdone listed hsz hr]
     exact wpAny_much (h.1 hr) (f+1)
   | cons i0 r0 =>
     have hi0:i0 ∈ Region.ready .any hd.toArray listed:=by rw [hr]; exact List.mem_cons_self
     obtain ⟨hi0u,o0,ho0,_⟩:=mem_ready.1 hi0
     rw [List.getElem?_toArray] at ho0
     have hi0l:=(List.getElem?_eq_some_iff.1 ho0).1
     rw [show f+1+g=f+g+1 by omega]
     have hnt:=htail listed hsz hcl _ i0 rfl hi0l (by rw [getD_any (by omega) false true]; exact hi0u)
     refine ⟨fun h0=>?_,fun i hi=>?_⟩
     ·have:=(hready listed hsz i0 hi0l).2 hi0
      rw [h0] at this
      cases this
     ·have hil:i < hd.length:=by
       rcases Nat.lt_or_ge i hd.length with h1 | h1
       ·exact h1
       ·exact absurd hi (hnt i h1)
      have hih:=(hready listed hsz i hil).1 hi
      obtain ⟨_,o,ho,hall⟩:=mem_ready.1 hih
      rw [List.getElem?_toArray] at ho
      have h2:=wpOp_unthen (h.2 i hih)
      have h3:=wpOp_mono (fun a w h=>ih (listed.setIfInBounds i true) a w (by simp [hsz]) (fun j oj hoj hl e he hb=>?_) h) h2
      ·rw [set_app_left (by omega)]
       refine wpOp_of_eq (by rw [List.getElem?_toArray]; exact hlt i o ho) (by rw [List.getElem?_toArray]; exact ho) rfl (fun _=>rfl) (fun tmps=>?_) h3
       refine wanted_like (fun h=>h) fun gd hgd=>⟨gd.1,hgd,?_⟩
       have:=(guardOk_spec hG (hlt i o ho) hgd).1 hil
       simp only [List.getElem?_toArray]
       rw [List.getElem?_append_left this]
      ·by_cases hji:i=j
       ·subst hji
        rw [ho] at hoj
        injection hoj with hoj
        subst hoj
        exact getD_set_true (hall e he hb)
       ·rw [getD_set_ne false hji] at hl
        exact getD_set_true (hcl j oj hoj hl e he hb)
theorem shift_any {hd tl:List Oper} (hG:guardOk (hd++tl) hd.length=true):∀ (f:Nat) (l':Array Bool) (a:Act) (w:World),l'.size=tl.length →
  wpAny P .any (tl.map (shiftO hd.length)).toArray Q f l' a w→wpAny P .any (hd++tl).toArray Q f (Array.replicate hd.length true++l') a w:=by
 have hget:∀ j,(hd++tl)[hd.length+j]?=tl[j]?:=fun j=>by rw [List.getElem?_append_right (by omega)]; congr 1; omega
 have hready:∀ (l':Array Bool),l'.size=tl.length→∀ j,(hd.length+j ∈ Region.ready .any (hd++tl).toArray (Array.replicate hd.length true++l')↔j ∈ Region.ready .any (tl.map (shiftO hd.length)).toArray l'):=by
  intro l' hsz j
  rw [mem_ready,mem_ready]
  simp only [List.getElem?_toArray,List.getElem?_map]
  rw [hget,getD_app_right _ (by simp),Array.size_replicate,Nat.add_sub_cancel_left]
  cases ht:tl[j]? with
  | none=>simp
  | some o =>
    simp only [Option.map_some,Option.some.injEq,exists_eq_left']
    refine and_congr_right fun _=>⟨fun h e he hb=>?_,fun h e he hb=>?_⟩
    ·simp only [shiftO,List.mem_toArray,List.mem_map,List.mem_filter,decide_eq_true_eq] at he
     obtain ⟨e0,⟨he0,hn⟩,rfl⟩:=he
     have:=h e0 (by simpa using he0) hb
     rw [getD_app_right _ (by simpa using hn),Array.size_replicate] at this
     exact this
    ·by_cases hn:hd.length≤e.on
     ·rw [getD_app_right _ (by simpa using hn),Array.size_replicate]
      refine h { e with on:=e.on - hd.length } ?_ hb
      simp only [shiftO,List.mem_toArray,List.mem_map,List.mem_filter,decide_eq_true_eq]
      exact ⟨e,⟨by simpa using he,hn⟩,rfl⟩
     ·rw [getD_app_left _ (by simp; omega),getD_rep _ _ (by omega)]
 have hlow:∀ (l':Array Bool) i,i < hd.length→i ∉ Region.ready .any (hd++tl).toArray (Array.replicate hd.length true++l'):=fun l' i hi hr=>by
  have:=(mem_ready.1 hr).1
  rw [getD_app_left _ (by simpa using hi),getD_rep _ _ hi] at this
  cases this
 have hnil:∀ (l':Array Bool),l'.size=tl.length→Region.ready .any (hd++tl).toArray (Array.replicate hd.length true++l')=[]→Region.ready .any (tl.map (shiftO hd.length)).toArray l'=[]:=fun l' hsz h=>by
  cases hr:Region.ready .any (tl.map (shiftO hd.length)).toArray l' with
  | nil=>rfl
  | cons j r =>
    have:=(hready l' hsz j).2 (by rw [hr]; exact List.mem_cons_self)
    rw [h] at this
    cases this
 intro f
 induction f with
 | zero =>
   intro l' a w hsz h
   refine ⟨?_,h.2⟩
   cases hr:Region.ready .any (hd++tl).toArray (Array.replicate hd.length true++l') with
   | nil=>rfl
   | cons i r =>
     exfalso
     have hi:i ∈ Region.ready .any (hd++tl).toArray (Array.replicate hd.length true++l'):=by rw [hr]; exact List.mem_cons_self
     rcases Nat.lt_or_ge i hd.length with h1 | h1
     ·exact hlow l' i h1 hi
     ·obtain ⟨j,rfl⟩:∃ j,i=hd.length+j:=⟨i - hd.length,by omega⟩
      have:=(hready l' hsz j).1 hi
      rw [h.1] at this
      cases this
 | succ f ih =>
   intro l' a w hsz h
   refine ⟨fun h0=>h.1 (hnil l' hsz h0),fun i hi=>?_⟩
   rcases Nat.lt_or_ge i hd.length with h1 | h1
   ·exact absurd hi (hlow l' i h1)
   ·obtain ⟨j,rfl⟩:∃ j,i=hd.length+j:=⟨i - hd.length,by omega⟩
    have hj:=(hready l' hsz j).1 hi
    have h2:=h.2 j hj
    obtain ⟨_,o',ho',_⟩:=mem_ready.1 hj
    simp only [List.getElem?_toArray,List.getElem?_map] at ho'
    cases ht:tl[j]? with
    | none=>rw [ht] at ho'; cases ho'
    | some o =>
      rw [ht] at ho'
      injection ho' with ho'
      have h3:=wpOp_mono (fun a w h=>ih (l'.setIfInBounds j true) a w (by simp [hsz]) h) h2
      have hset:=set_app_right (l:=Array.replicate hd.length true) (r:=l') (j:=j)
      rw [Array.size_replicate] at hset
      rw [hset]
      refine wpOp_of_eq (o:=o) (o':=shiftO hd.length o) (by rw [List.getElem?_toArray,hget]; exact ht) (by rw [List.getElem?_toArray,List.getElem?_map,ht]; rfl) rfl (fun _=>rfl) (fun tmps=>?_) h3
      refine wanted_like (fun h=>by simp [shiftO,h]) fun gd hgd=>⟨gd.1 - hd.length,by simp [shiftO,hgd],?_⟩
      have hg2:=(guardOk_spec hG (by rw [hget]; exact ht) hgd).2 (by omega)
      have h5:=hget (gd.1 - hd.length)
      rw [show hd.length+(gd.1 - hd.length)=gd.1 by omega] at h5
      simp only [List.getElem?_toArray,List.getElem?_map]
      rw [h5]
      cases tl[gd.1 - hd.length]? <;> rfl
/-! ### Stages -/
def SameO (ops ops':Array Oper) (o o':Oper):Prop:=o'.dst=o.dst∧(∀ ρ,execOp ρ o'=execOp ρ o)∧∀ tmps,Region.wanted o' (yielded ops' tmps)=Region.wanted o (yielded ops tmps)
def SameL (ops ops':Array Oper):List Oper→List Oper→Prop
 | [],[]=>True
 | o :: s,o' :: s'=>SameO ops ops' o o'∧SameL ops ops' s s'
 | _,_=>False
theorem sameL_of {ops ops':Array Oper}:∀ {s s':List Oper},s'.length=s.length→(∀ (j:Nat) (o o':Oper),s[j]?=some o→s'[j]?=some o'→SameO ops ops' o o')→SameL ops ops' s s'
 | [],[],_,_=>trivial
 | [],_ :: _,h,_=>by cases h
 | _ :: _,[],h,_=>by cases h
 | o :: s,o' :: s',h,hh=>⟨hh 0 o o' rfl rfl,sameL_of (by simpa using h) fun j x x' h1 h2=>hh (j+1) x x' (by simpa using h1) (by simpa using h2)⟩
theorem quiet_same {ops ops':Array Oper} {C:World→Prop} {K:Act→Prop}:∀ {s s':List Oper} {a:Act},SameL ops ops' s s'→wpQuiet P ops C K s a→wpQuiet P ops' C K s' a
 | [],[],_,_,h=>h
 | [],_ :: _,_,h,_=>h.elim
 | _ :: _,[],_,h,_=>h.elim
 | o :: s,o' :: s',a,⟨⟨hd,he,hw⟩,hs⟩,h=>by
   unfold wpQuiet at h ⊢
   rw [hw]
   split
   ·rename_i hw'
    rw [if_pos hw'] at h
    obtain ⟨v,h1,h2⟩:=h
    refine ⟨v,fun w hc=>?_,by rw [hd]; exact quiet_same hs h2⟩
    have:=h1 w hc
    unfold Oper.quietAt at *
    rwa [he]
   ·rename_i hw'
    rw [if_neg hw'] at h
    rw [hd]
    exact quiet_same hs h
theorem list_same {ops ops':Array Oper} {K:Act→World→Prop}:∀ {s s':List Oper} {a:Act} {w:World},SameL ops ops' s s'→wpList P ops (Exit.then K Q) s a w→wpList P ops' (Exit.then K Q) s' a w
 | [],[],_,_,_,h=>h
 | [],_ :: _,_,_,h,_=>h.elim
 | _ :: _,[],_,_,h,_=>h.elim
 | o :: s,o' :: s',a,w,⟨⟨hd,he,hw⟩,hs⟩,h=>by
   unfold wpList at h ⊢
   rw [hw]
   split
   ·rename_i hw'
    rw [if_pos hw'] at h
    refine h.imp (fun h=>?_) (fun ⟨h1,h2⟩=>⟨?_,h2⟩)
    ·have h:=Oper.wp_mono (fun a w h=>list_same hs h) h
     unfold Oper.wp at *
     rw [he]
     generalize (execOp a.eval o).run P w=r at *
     cases r with
     | ok n w'=>cases n <;> simp only [Oper.upon,hd] at h ⊢ <;> exact h
     | halt x w'=>cases x <;> simp only [Oper.upon] at h ⊢ <;> exact h
    ·unfold Oper.asks at *
     rw [he]
     exact h1
   ·rename_i hw'
    rw [if_neg hw'] at h
    rw [hd]
    exact list_same hs h
theorem list_mono {ops:Array Oper} {K K':Act→World→Prop} (hk:∀ a w,K a w→K' a w):∀ {s:List Oper} {a:Act} {w:World},wpList P ops (Exit.then K Q) s a w→wpList P ops (Exit.then K' Q) s a w
 | [],_,_,h=>hk _ _ h
 | o :: s,a,w,h=>by
   unfold wpList at h ⊢
   split
   ·rename_i hw'
    rw [if_pos hw'] at h
    refine h.imp (fun h=>?_) (fun ⟨h1,h2⟩=>⟨h1,h2⟩)
    have h:=Oper.wp_mono (fun a w h=>list_mono hk h) h
    unfold Oper.wp at *
    generalize (execOp a.eval o).run P w=r at *
    cases r with
    | ok n w' =>
      cases n <;> simp only [Oper.upon] at h ⊢ <;>
       first
        | exact h
        | exact Calls.mono h (fun e w'' he=>by cases e <;> exact he)
    | halt x w'=>cases x <;> simp only [Oper.upon] at h ⊢ <;> exact h
   ·rename_i hw'
    rw [if_neg hw'] at h
    exact list_mono hk h
def chainL (l:List Oper):Bool:=edgeOk l && (List.range l.length).all fun t=>decide (t=0) || Region.waitsFor .any l.toArray t (t - 1)
theorem chain_any {l:List Oper} (hB:chainL l=true):∀ (s pre:List Oper) (a:Act) (w:World),l=pre++s→wpList P l.toArray Q s a w→wpAny P .any l.toArray Q s.length (Array.replicate pre.length true++Array.replicate s.length false) a w:=by
 unfold chainL at hB
 simp only [Bool.and_eq_true] at hB
 obtain ⟨hE,hC⟩:=hB
 intro s
 induction s with
 | nil =>
   intro pre a w hl h
   refine ⟨?_,h⟩
   rw [List.append_nil] at hl
   subst hl
   cases hr:Region.ready .any l.toArray (Array.replicate l.length true++Array.replicate ([]:List Oper).length false) with
   | nil=>rfl
   | cons i r =>
     exfalso
     have hi:i ∈ Region.ready .any l.toArray (Array.replicate l.length true++Array.replicate ([]:List Oper).length false):=by rw [hr]; exact List.mem_cons_self
     obtain ⟨h1,o,h2,_⟩:=mem_ready.1 hi
     rw [List.getElem?_toArray] at h2
     have hil:=(List.getElem?_eq_some_iff.1 h2).1
     rw [getD_app_left _ (by simpa using hil),getD_rep _ _ hil] at h1
     cases h1
 | cons o s ih =>
   intro pre a w hl h
   have ho:l[pre.length]?=some o:=by rw [hl,List.getElem?_append_right (Nat.le_refl _)]; simp
   have hrd:pre.length ∈ Region.ready .any l.toArray (Array.replicate pre.length true++Array.replicate (o :: s).length false):=mem_ready.2 ⟨by rw [getD_app_right _ (by simp),getD_rep _ _ (by simp)],o,by rw [List.getElem?_toArray]; exact ho,fun e he hb=>by
    have:=edgeOk_spec hE ho e he hb
    rw [getD_app_left _ (by simpa using this),getD_rep _ _ this]⟩
   refine ⟨fun h0=>(by rw [h0] at hrd; cases hrd),fun i hi=>?_⟩
   have hii:i=pre.length:=by
    obtain ⟨h1,oi,h2,h3⟩:=mem_ready.1 hi
    rcases Nat.lt_trichotomy i pre.length with hlt | heq | hgt
    ·rw [getD_app_left _ (by simpa using hlt),getD_rep _ _ hlt] at h1
     cases h1
    ·exact heq
    ·exfalso
     rw [List.getElem?_toArray] at h2
     have hil:=(List.getElem?_eq_some_iff.1 h2).1
     have h4:=List.all_eq_true.1 hC i (List.mem_range.2 hil)
     simp only [Bool.or_eq_true,decide_eq_true_eq] at h4
     rcases h4 with h4 | h4
     ·omega
     ·obtain ⟨o',ho',e,he,hb,hon⟩:=Region.waitsFor_spec h4
      rw [List.getElem?_toArray,h2] at ho'
      injection ho' with ho'
      subst ho'
      have h5:=h3 e he hb
      rw [hon,getD_app_right _ (by simp; omega),getD_rep _ _ (by rw [hl] at hil; simp at hil ⊢; omega)] at h5
      cases h5
   subst hii
   have hset:(Array.replicate pre.length true++Array.replicate (o :: s).length false).setIfInBounds pre.length true=Array.replicate (pre++[o]).length true++Array.replicate s.length false:=by
    apply Array.ext_getElem?
    intro k
    simp only [Array.getElem?_setIfInBounds,Array.getElem?_append,Array.size_append,Array.size_replicate,Array.getElem?_replicate,List.length_cons,List.length_append,List.length_nil]
    by_cases h1:pre.length=k
    ·subst h1
     rw [if_pos rfl,if_pos (by omega),if_pos (by omega),if_pos (by omega)]
    ·rw [if_neg h1]
     by_cases h2:k < pre.length
     ·rw [if_pos h2,if_pos h2,if_pos (by omega),if_pos (by omega)]
     ·by_cases h3:k - pre.length < s.length+1
      ·rw [if_neg h2,if_pos h3,if_neg (show ¬ k < pre.length+(0+1) by omega),if_pos (by omega)]
      ·rw [if_neg h2,if_neg h3,if_neg (show ¬ k < pre.length+(0+1) by omega),if_neg (by omega)]
   rw [hset]
   unfold wpList at h
   unfold wpOp
   simp only [List.getElem?_toArray,ho]
   split
   ·rename_i hw
    rw [if_pos hw] at h
    exact h.imp (Oper.wp_mono fun a w h=>ih (pre++[o]) a w (by rw [hl]; simp) h) id
   ·rename_i hw
    rw [if_neg hw] at h
    exact ih (pre++[o]) _ w (by rw [hl]; simp) h
theorem wpAny_unthen {ops:Array Oper} {md:Region.Mode}:∀ (f:Nat) (listed:Array Bool) (a:Act) (w:World),wpAny P md ops (Exit.then (fun a w=>Q .normal a w) Q) f listed a w→wpAny P md ops Q f listed a w
 | 0,_,_,_,h=>⟨h.1,h.2⟩
 | f+1,_,_,_,h=>⟨fun h0=>h.1 h0,fun i hi=>wpOp_mono (fun a w h=>wpAny_unthen f _ a w h) (wpOp_unthen (h.2 i hi))⟩
def stB:List (Bool × Nat)→List Oper→Bool
 | [],l=>l.isEmpty
 | (q,k) :: ns,l=>(if k=l.length then guardOk l l.length else stageB l k) && (if q=true then Region.lexB .any (l.take k).toArray else chainL (l.take k)) && stB ns ((l.drop k).map (shiftO k))
def wpSt (P:Program) (ops:Array Oper) (Q:Exit→Act→World→Prop):List (Bool × Nat)→List Oper→Act→World→Prop
 | [],_,a,w=>Q .normal a w
 | (true,k) :: ns,l,a,w=>wpQuiet P ops (fun w'=>∃ p:Regrown,w'=grow (redrawn w p.d) p.os) (fun a'=>∀ w',(∃ p:Regrown,w'=grow (redrawn w p.d) p.os)→wpSt P ops Q ns (l.drop k) a' w') (l.take k) a
 | (false,k) :: ns,l,a,w=>wpList P ops (Exit.then (fun a w=>wpSt P ops Q ns (l.drop k) a w) Q) (l.take k) a w
structure LikeL (n:Nat) (all:Array Oper) (tl l':List Oper):Prop where
 len:l'.length=tl.length
 whole:∀ j:Nat,j < tl.length→all[n+j]?=tl[j]?
 like:∀ (j:Nat) (o:Oper),tl[j]?=some o→∃ A:Array Edge,l'[j]?=some { o with after:=A,guard:=o.guard.map fun g=>(g.1 - n,g.2) }
 grd:∀ (j:Nat) (o:Oper),tl[j]?=some o→∀ g:Nat × Bool,o.guard=some g→n≤g.1
theorem LikeL.next {n k:Nat} {whole:Array Oper} {tl l':List Oper} (h:LikeL n whole tl l') (hg:guardOk l' k=true):LikeL (n+k) whole (tl.drop k) ((l'.drop k).map (shiftO k)):=by
 have hd:∀ (j:Nat) (o:Oper),(tl.drop k)[j]?=some o→tl[k+j]?=some o:=fun j o ho=>by rwa [List.getElem?_drop] at ho
 have hgr:∀ (j:Nat) (o:Oper),(tl.drop k)[j]?=some o→∀ g:Nat × Bool,o.guard=some g→n+k≤g.1:=fun j o ho g hgo=>by
  obtain ⟨A,hA⟩:=h.like (k+j) o (hd j o ho)
  have h1:=h.grd (k+j) o (hd j o ho) g hgo
  have h2:=(guardOk_spec hg hA (g:=(g.1 - n,g.2)) (by simp [hgo])).2 (by omega)
  have h3:k≤g.1 - n:=h2.1
  omega
 refine ⟨by simp [h.len],fun j hj=>?_,fun j o ho=>?_,hgr⟩
 ·rw [List.getElem?_drop,← h.whole (k+j) (by rw [List.length_drop] at hj; omega),Nat.add_assoc]
 ·obtain ⟨A,hA⟩:=h.like (k+j) o (hd j o ho)
  refine ⟨((A.toList.filter fun e=>decide (k≤e.on)).map fun e=>{ e with on:=e.on - k }).toArray,?_⟩
  rw [List.getElem?_map,List.getElem?_drop,hA,Option.map_some]
  unfold shiftO
  congr 2
  cases hgo:o.guard with
  | none=>rfl
  | some g =>
    simp only [Option.map_some]
    congr 2
    omega
theorem LikeL.same {n:Nat} {whole:Array Oper} {tl l':List Oper} (h:LikeL n whole tl l') {k:Nat} (hk:k≤tl.length) (hg:∀ (j:Nat) (o:Oper),(l'.take k)[j]?=some o→∀ g:Nat × Bool,o.guard=some g→g.1 < k):SameL whole (l'.take k).toArray (tl.take k) (l'.take k):=by
 refine sameL_of (by simp [h.len]) fun j o o' ho ho'=>?_
 have hjk:j < k:=by have:=(List.getElem?_eq_some_iff.1 ho).1; simp at this; omega
 have ho1:tl[j]?=some o:=by rwa [List.getElem?_take_of_lt hjk] at ho
 obtain ⟨A,hA⟩:=h.like j o ho1
 have ho2:=ho'
 rw [List.getElem?_take_of_lt hjk,hA] at ho'
 injection ho' with ho'
 subst ho'
 refine ⟨rfl,fun _=>rfl,fun tmps=>wanted_like (fun hn=>by simp [hn]) fun g hgo=>⟨g.1 - n,by simp [hgo],?_⟩⟩
 have h1:=hg j _ ho2 (g.1 - n,g.2) (by simp [hgo])
 have h2:=h.grd j o ho1 g hgo
 have h1':g.1 - n < k:=h1
 rw [List.getElem?_toArray,List.getElem?_take_of_lt h1']
 have hlt:g.1 - n < tl.length:=by omega
 have h3:=h.whole (g.1 - n) hlt
 rw [show n+(g.1 - n)=g.1 by omega] at h3
 rw [h3]
 have h4:tl[g.1 - n]?=some tl[g.1 - n]:=List.getElem?_eq_getElem hlt
 obtain ⟨B,hB⟩:=h.like _ _ h4
 rw [hB,h4]
 rfl
theorem back_class (w:World):∃ p:Regrown,w=grow (redrawn w p.d) p.os:=⟨⟨w.drawn,#[]⟩,by rw [grow_empty]; rfl⟩
theorem head_any {n:Nat} {whole:Array Oper} {tl l':List Oper} (h:LikeL n whole tl l') {k:Nat} (hk:k≤tl.length) (hg:∀ (j:Nat) (o:Oper),(l'.take k)[j]?=some o→∀ g:Nat × Bool,o.guard=some g→g.1 < k) {q:Bool} (hq:(if q=true then Region.lexB .any (l'.take k).toArray else chainL (l'.take k))=true) {ns:List (Bool × Nat)} {K:Act→World→Prop} (hK:∀ a w,wpSt P whole Q ns (tl.drop k) a w→K a w) {a:Act} {w:World}
  (hs:wpSt P whole Q ((q,k) :: ns) tl a w):wpAny P .any (l'.take k).toArray (Exit.then K Q) k (Array.replicate k false) a w:=by
 have hsz:(l'.take k).length=k:=by rw [List.length_take,h.len]; omega
 cases q with
 | true =>
   rw [if_pos rfl] at hq
   have h1:=quiet_same (h.same hk hg) hs
   simp only [Region.lexB,Bool.and_eq_true] at hq
   have h2:=wpAnyQ_lex (C:=fun w'=>∃ p:Regrown,w'=grow (redrawn w p.d) p.os) (md:=.any) hq.1 (l'.take k) 0 (Array.replicate k false) a (by simp) (by have:=hq.2; simp only [List.size_toArray] at this; rw [hsz] at this ⊢; exact this) h1
   rw [hsz] at h2
   exact wpAny_of_quiet (C:=fun w'=>∃ p:Regrown,w'=grow (redrawn w p.d) p.os) (fun a' w' hc hh=>hK a' w' (hh w' hc)) _ _ _ _ (back_class w) h2
 | false =>
   rw [if_neg (by decide)] at hq
   have h1:=list_same (h.same hk hg) (list_mono hK hs)
   have h2:=chain_any hq (l'.take k) [] a w rfl h1
   rw [hsz] at h2
   simpa using h2
theorem st_any {whole:Array Oper}:∀ (ns:List (Bool × Nat)) (n:Nat) (tl l':List Oper) (a:Act) (w:World),LikeL n whole tl l'→stB ns l'=true→wpSt P whole Q ns tl a w→wpAny P .any l'.toArray Q l'.length (Array.replicate l'.length false) a w
 | [],n,tl,l',a,w,h,hB,hs=>by
   have:l'=[]:=by simpa [stB] using hB
   subst this
   exact ⟨rfl,hs⟩
 | (q,k) :: ns,n,tl,l',a,w,h,hB,hs=>by
   unfold stB at hB
   simp only [Bool.and_eq_true] at hB
   obtain ⟨⟨hB1,hB2⟩,hB3⟩:=hB
   by_cases hk:k=l'.length
   ·rw [if_pos hk] at hB1
    have hn:ns=[]∨ns≠[]:=by cases ns <;> simp
    have hg:∀ (j:Nat) (o:Oper),(l'.take k)[j]?=some o→∀ g:Nat × Bool,o.guard=some g→g.1 < k:=fun j o ho g hgo=>by
     have hj:j < l'.length:=by have:=(List.getElem?_eq_some_iff.1 ho).1; simp at this; omega
     rw [List.getElem?_take_of_lt (by omega)] at ho
     have:=(guardOk_spec hB1 ho hgo).1 hj
     omega
    have hd:tl.drop k=[]:=List.drop_eq_nil_of_le (by rw [← h.len]; omega)
    have hd':l'.drop k=[]:=List.drop_eq_nil_of_le (by omega)
    have hend:∀ (ns:List (Bool × Nat)) (a:Act) (w:World),stB ns []=true→wpSt P whole Q ns [] a w→Q .normal a w:=by
     intro ns
     induction ns with
     | nil=>intro a w _ h; exact h
     | cons x ns ih =>
       intro a w hb h
       obtain ⟨q,k⟩:=x
       unfold stB at hb
       simp only [Bool.and_eq_true,List.take_nil,List.drop_nil,List.map_nil] at hb
       cases q with
       | true =>
         have h':∀ w',(∃ p:Regrown,w'=grow (redrawn w p.d) p.os)→wpSt P whole Q ns (([]:List Oper).drop k) a w':=by
          have h0:=h
          unfold wpSt at h0
          rw [List.take_nil] at h0
          exact h0
         have:=h' w (back_class w)
         rw [List.drop_nil] at this
         exact ih a w hb.2 this
       | false =>
         have h':wpSt P whole Q ns (([]:List Oper).drop k) a w:=by
          have h0:=h
          unfold wpSt at h0
          rw [List.take_nil] at h0
          exact h0
         rw [List.drop_nil] at h'
         exact ih a w hb.2 h'
    rw [hd',List.map_nil] at hB3
    have h3:=head_any h (by rw [← h.len]; omega) hg hB2 (K:=fun a w=>Q .normal a w) (fun a w hh=>by rw [hd] at hh; exact hend ns a w hB3 hh) hs
    rw [List.take_of_length_le (by omega)] at h3
    have h4:=wpAny_unthen _ _ _ _ h3
    rw [hk] at h4
    exact h4
   ·rw [if_neg hk] at hB1
    have hB0:=hB1
    unfold stageB at hB1
    simp only [Bool.and_eq_true,decide_eq_true_eq] at hB1
    obtain ⟨⟨⟨⟨hn,hE⟩,hG⟩,hR⟩,hS⟩:=hB1
    have hsz:(l'.take k).length=k:=by rw [List.length_take]; omega
    have hg:∀ (j:Nat) (o:Oper),(l'.take k)[j]?=some o→∀ g:Nat × Bool,o.guard=some g→g.1 < k:=fun j o ho g hgo=>by
     have hj:j < k:=by have:=(List.getElem?_eq_some_iff.1 ho).1; simp at this; omega
     rw [List.getElem?_take_of_lt hj] at ho
     exact (guardOk_spec hG ho hgo).1 hj
    have happ:l'=l'.take k++l'.drop k:=(List.take_append_drop k l').symm
    have hdl:(l'.drop k).length=l'.length - k:=List.length_drop
    have h3:=head_any h (by rw [← h.len]; omega) hg hB2 (K:=fun a w=>wpAny P .any (l'.take k++l'.drop k).toArray Q (l'.drop k).length (Array.replicate (l'.take k).length true++Array.replicate (l'.drop k).length false) a w) (fun a w hh=>by
     refine shift_any (by rw [hsz,← happ]; exact hG) _ _ a w (by simp) ?_
     have:=st_any ns (n+k) (tl.drop k) ((l'.drop k).map (shiftO k)) a w (h.next hG) hB3 hh
     rw [List.length_map] at this
     rw [hsz]
     exact this) hs
    have h4:=stage_any (hd:=l'.take k) (tl:=l'.drop k) (by rw [hsz,← happ]; exact hB0) k (Array.replicate k false) a w (by simp [hsz]) (fun j o ho hl=>by
     have hj:j < k:=by have:=(List.getElem?_eq_some_iff.1 ho).1; simp at this; omega
     rw [getD_rep _ _ hj] at hl
     cases hl) h3
    rw [← happ] at h4
    have hrep:Array.replicate k false++Array.replicate (l'.drop k).length false=Array.replicate l'.length false:=by
     apply Array.ext (by simp; omega)
     intro i h1 h2
     simp only [Array.getElem_append,Array.getElem_replicate]
     split <;> rfl
    rw [hrep] at h4
    rwa [show k+(l'.drop k).length=l'.length by omega] at h4
theorem wp_region_st {id:Nat} {a:Act} {w:World} {l:List Oper} (ns:List (Bool × Nat)) (hm:P.follows .mixedOrders=true) (hB:stB ns l=true) (h:wpSt P l.toArray Q ns l a { w with drawn:=w.drawn+1 }):(Code.region id l.toArray true).wp P Q a w:=by
 refine wp_region_any hm ?_
 have hl:LikeL 0 l.toArray l l:=⟨rfl,fun j _=>by rw [List.getElem?_toArray,Nat.zero_add],fun j o ho=>⟨o.after,by rw [ho]; congr 1; cases hg:o.guard with
  | none=>cases o; simp only at hg; subst hg; rfl
  | some g=>cases o; simp only at hg; subst hg; rfl⟩,fun _ _ _ _ _=>Nat.zero_le _⟩
 have:=st_any ns 0 l l a _ hl hB h
 simpa using this
theorem wp_region_stages {id:Nat} {a:Act} {w:World} {l:List Oper} (ns:List (Bool × Nat)) (hm:P.follows .mixedOrders=true) (hB:stB ns l=true) (h:∀ wz,RowKit.Below w.heap.size w wz→RowKit.Below wz.heap.size wz w→wpSt P l.toArray Q ns l a wz):(Code.region id l.toArray true).wp P Q a w :=
 wp_region_st ns hm hB (h _ ⟨rfl,rfl,rfl,Nat.le_refl _,fun _ _=>rfl⟩ ⟨rfl,rfl,rfl,Nat.le_refl _,fun _ _=>rfl⟩)
theorem wpSt_q {ops:Array Oper} {k:Nat} {ns:List (Bool × Nat)} {l:List Oper} {a:Act} {w:World} (h:wpQuiet P ops (fun w'=>∃ p:Regrown,w'=grow (redrawn w p.d) p.os) (fun a'=>∀ w',(∃ p:Regrown,w'=grow (redrawn w p.d) p.os)→wpSt P ops Q ns (l.drop k) a' w') (l.take k) a):wpSt P ops Q ((true,k) :: ns) l a w:=h
theorem wpSt_l {ops:Array Oper} {k:Nat} {ns:List (Bool × Nat)} {l:List Oper} {a:Act} {w:World} (h:wpList P ops (Exit.then (fun a w=>wpSt P ops Q ns (l.drop k) a w) Q) (l.take k) a w):wpSt P ops Q ((false,k) :: ns) l a w:=h
theorem wpSt_end {ops:Array Oper} {l:List Oper} {a:Act} {w:World} (h:Q .normal a w):wpSt P ops Q [] l a w:=h
end
end Go.Proofs.YthlommalbkhcjaaGreat
namespace Go.Proofs.YthlommalbkhcjaaGreat
section
variable {P:Program} {Q:Exit→Act→World→Prop}
def comesV (P:Program) (K:Value→World→Prop):Result Next→Prop
 | .ok (.value v) w=>K v w
 | .ok .skip w=>K undef w
 | .ok (.enter f args) w=>Calls P f args w fun e w'=>∃ v,e=.returned v∧K v w'
 | _=>False
theorem upon_comes {o:Oper} {a:Act} {K:Act→World→Prop} {r:Result Next} (h:comesV P (fun v w=>K (a.put o.dst v) w) r):o.upon P a K Q r:=by
 cases r with
 | ok n w =>
   cases n <;> first
    | exact h
    | exact Calls.mono h (fun e w' ⟨v,he,hk⟩=>by rw [he]; exact hk)
    | exact h.elim
 | halt x w=>exact h.elim
def lookV:List Oper→Nat→(Nat→Value)→Nat→Option Value
 | [],_,_,_=>none
 | o :: r,j,val,s=>if o.dst=some s then some (val j) else lookV r (j+1) val s
def rhoV (ops:List Oper) (a:Act) (val:Nat→Value):Operand→Value
 | .tmp s=>(lookV ops 0 val s).getD (a.eval (.tmp s))
 | x=>a.eval x
def wantedV (o:Oper) (val:Nat→Value):Bool:=match o.guard with
 | none=>true
 | some (g,want)=>match val g with
   | .bool b=>b == want
   | _=>false
def putAll:List Oper→Nat→(Nat→Value)→Act→Act
 | [],_,_,a=>a
 | o :: r,j,val,a=>putAll r (j+1) val (a.put o.dst (val j))
def slotOf (a:Act) (o:Oper):Value:=match o.dst with
 | some s=>a.eval (.tmp s)
 | none=>undef
def valOf (ops:List Oper) (a:Act) (j:Nat):Value:=match ops[j]? with
 | some o=>slotOf a o
 | none=>undef
def binding (o:Oper) (i:Nat):Bool:=o.after.toList.any fun e=>Region.binds .any e && e.on == i
def updV (val:Nat→Value) (i:Nat) (v:Value):Nat→Value:=fun j=>if j=i then v else val j
theorem lookV_val (ops:List Oper) (a:Act) (s:Nat):∀ (l:List Oper) (k:Nat),(∀ j o,l[j]?=some o→ops[k+j]?=some o)→(lookV l k (valOf ops a) s).getD (a.eval (.tmp s))=a.eval (.tmp s)
 | [],_,_=>rfl
 | o :: r,k,h=>by
   unfold lookV
   split
   ·rename_i hd
    have h0:=h 0 o rfl
    rw [Nat.add_zero] at h0
    simp [valOf,h0,slotOf,hd]
   ·exact lookV_val ops a s r (k+1) fun j o' hj=>by
     have:=h (j+1) o' (by simpa using hj)
     rwa [show k+(j+1)=k+1+j by omega] at this
theorem lookV_none (val:Nat→Value) (s:Nat):∀ (l:List Oper) (k:Nat),(∀ o ∈ l,o.dst≠some s)→lookV l k val s=none
 | [],_,_=>rfl
 | o :: r,k,h=>by
   unfold lookV
   rw [if_neg (h o List.mem_cons_self)]
   exact lookV_none val s r (k+1) fun o' ho=>h o' (List.mem_cons_of_mem _ ho)
structure FrV (ops:List Oper) (a a':Act):Prop where
 defers:a'.defers=a.defers
 size:a'.tmps.size=a.tmps.size
 other:∀ s,(∀ o ∈ ops,o.dst≠some s)→a'.eval (.tmp s)=a.eval (.tmp s)
theorem rho_eq {ops:List Oper} {a a':Act} (h:FrV ops a a'):a'.eval=rhoV ops a (valOf ops a'):=by
 funext x
 cases x with
 | tmp s =>
   show _=(lookV ops 0 (valOf ops a') s).getD (a.eval (.tmp s))
   by_cases hs:∀ o ∈ ops,o.dst≠some s
   ·rw [lookV_none _ s ops 0 hs]
    exact h.other s hs
   ·have h1:=lookV_val ops a' s ops 0 (fun j o hj=>by rw [Nat.zero_add]; exact hj)
    cases hl:lookV ops 0 (valOf ops a') s with
    | some v=>rw [hl] at h1; exact h1.symm
    | none =>
      exfalso
      have key:∀ (l:List Oper) (k:Nat),lookV l k (valOf ops a') s=none→∀ o ∈ l,o.dst≠some s:=by
       intro l
       induction l with
       | nil=>intro k _ o ho; cases ho
       | cons f r ih =>
         intro k hn o ho
         unfold lookV at hn
         split at hn
         ·cases hn
         ·rename_i hf
          rcases List.mem_cons.1 ho with rfl | ho
          ·exact hf
          ·exact ih _ hn o ho
      exact hs (key ops 0 hl)
 | const v=>rfl
 | global g=>rfl
 | func f=>rfl
theorem eval_put_same {a:Act} {s:Nat} {v:Value} (h:s < a.tmps.size):(a.put (some s) v).eval (.tmp s)=v:=by
 simp [Act.put,Act.eval,h]
theorem eval_put_other {a:Act} {s t:Nat} {v:Value} (h:t≠s):(a.put (some t) v).eval (.tmp s)=a.eval (.tmp s):=by
 simp [Act.put,Act.eval,Array.getElem?_setIfInBounds_ne h]
theorem put_size (a:Act) (d:Option Tmp) (v:Value):(a.put d v).tmps.size=a.tmps.size:=by cases d <;> simp [Act.put]
theorem put_defers (a:Act) (d:Option Tmp) (v:Value):(a.put d v).defers=a.defers:=by cases d <;> rfl
theorem wanted_eq {ops:List Oper} {a':Act} {o:Oper} (hg:∀ g want,o.guard=some (g,want)→g < ops.length):Region.wanted o (yielded ops.toArray a'.tmps)=wantedV o (valOf ops a'):=by
 unfold Region.wanted wantedV
 cases ho:o.guard with
 | none=>rfl
 | some gw =>
   obtain ⟨g,want⟩:=gw
   have hlt:=hg g want ho
   simp only
   have h1:ops[g]?=some ops[g]:=List.getElem?_eq_getElem hlt
   unfold yielded valOf
   rw [List.getElem?_toArray,h1]
   simp only [Option.bind_some]
   unfold slotOf
   cases hd:ops[g].dst with
   | none=>simp [undef]
   | some s =>
     simp only [Option.bind_some,Act.eval,Array.getD_eq_getD_getElem?]
     cases ht:a'.tmps[s]? with
     | none=>simp [undef]
     | some v =>
       simp only [Option.getD_some]
       cases v <;> simp
theorem putAll_fr {ops:List Oper} {a a':Act} (h:FrV ops a a'):∀ (l:List Oper) (k:Nat) (b:Act),(∀ j o,l[j]?=some o→ops[k+j]?=some o)→b.defers=a.defers→b.tmps.size=a.tmps.size →
  (∀ s,(∀ o ∈ l,o.dst≠some s)→b.eval (.tmp s)=a'.eval (.tmp s))→putAll l k (valOf ops a') b=a'
 | [],k,b,_,hd,hs,he=>by
   have h1:b.tmps=a'.tmps:=by
    apply Array.ext (by rw [hs,h.size])
    intro i hi hi'
    have:=he i (fun o ho=>by cases ho)
    simp only [Act.eval,Array.getD_eq_getD_getElem?,Array.getElem?_eq_getElem hi,Array.getElem?_eq_getElem hi',Option.getD_some] at this
    exact this
   show b=a'
   obtain ⟨t,d⟩:=b
   obtain ⟨t',d'⟩:=a'
   have h2:=h.defers
   simp only at h1 hd h2
   rw [h1,hd,← h2]
 | o :: r,k,b,hl,hd,hs,he=>by
   unfold putAll
   refine putAll_fr h r (k+1) _ (fun j o' hj=>by
    have:=hl (j+1) o' (by simpa using hj)
    rwa [show k+(j+1)=k+1+j by omega] at this) (by rw [put_defers,hd]) (by rw [put_size,hs]) fun s hsr=>?_
   have h0:=hl 0 o rfl
   rw [Nat.add_zero] at h0
   have hv:valOf ops a' k=slotOf a' o:=by unfold valOf; rw [h0]
   by_cases hds:o.dst=some s
   ·rw [hv,hds]
    have:slotOf a' o=a'.eval (.tmp s):=by unfold slotOf; rw [hds]
    rw [this]
    by_cases hlt:s < b.tmps.size
    ·exact eval_put_same hlt
    ·have hlt':¬ s < a'.tmps.size:=by rw [h.size,← hs]; exact hlt
     simp [Act.put,Act.eval,hlt,hlt']
   ·have hso:∀ o' ∈ o :: r,o'.dst≠some s:=fun o' ho=>by
     rcases List.mem_cons.1 ho with rfl | ho
     ·exact hds
     ·exact hsr o' ho
    rw [← he s hso]
    cases hd2:o.dst with
    | none=>rfl
    | some t=>exact eval_put_other fun e=>hds (by rw [hd2,e])
/-! ### The law -/
def normV (o:Oper) (v:Value):Value:=match o.dst with
 | some _=>v
 | none=>undef
def backB (ops:List Oper) (o:Oper):Nat→Nat→Bool
 | 0,j=>binding o j
 | n+1,j=>binding o j || ops.zipIdx.any fun y=>binding y.1 j && backB ops o n y.2
theorem binding_edge {o:Oper} {j:Nat} (h:binding o j=true):∃ e ∈ o.after.toList,Region.binds .any e=true∧e.on=j:=by
 unfold binding at h
 rw [List.any_eq_true] at h
 obtain ⟨e,he,hb⟩:=h
 simp only [Bool.and_eq_true,beq_iff_eq] at hb
 exact ⟨e,he,hb.1,hb.2⟩
theorem backB_ok {ops:List Oper} {o:Oper} (p:Nat→Prop) (h1:∀ e ∈ o.after.toList,Region.binds .any e=true→p e.on) (h2:∀ (k:Nat) (o':Oper),ops[k]?=some o'→p k→∀ e ∈ o'.after.toList,Region.binds .any e=true→p e.on):∀ (n j:Nat),backB ops o n j=true→p j
 | 0,j,h=>by
   obtain ⟨e,he,hb,heo⟩:=binding_edge h
   rw [← heo]; exact h1 e he hb
 | n+1,j,h=>by
   unfold backB at h
   rcases Bool.or_eq_true_iff.1 h with h | h
   ·obtain ⟨e,he,hb,heo⟩:=binding_edge h
    rw [← heo]; exact h1 e he hb
   ·rw [List.any_eq_true] at h
    obtain ⟨y,hy,hyb⟩:=h
    obtain ⟨hb1,hb2⟩:=Bool.and_eq_true_iff.1 hyb
    obtain ⟨e,he,hb,heo⟩:=binding_edge hb1
    rw [← heo]
    exact h2 y.2 y.1 (List.mem_zipIdx_iff_getElem?.1 hy) (backB_ok p h1 h2 n y.2 hb2) e he hb
def fitV (ops:List Oper) (size last:Nat):Bool :=
 (ops.zipIdx.all fun x=>ops.zipIdx.all fun y=>x.2 == y.2 || x.1.dst.isNone || x.1.dst != y.1.dst) &&
 (ops.all fun o=>match o.dst with | some s=>decide (s < size) | none=>true) &&
 (ops.all fun o=>match o.guard with | some (g,_)=>decide (g < ops.length) | none=>true) &&
 (ops.zipIdx.all fun x=>x.1.after.toList.all fun e=>!Region.binds .any e || decide (e.on < x.2)) &&
 (match ops[last]? with | some o=>(List.range ops.length).all fun j=>j == last || backB ops o 4 j | none=>true)
structure FitV (ops:List Oper) (size last:Nat):Prop where
 dist:∀ (i j:Nat) (o o':Oper) (s:Nat),ops[i]?=some o→ops[j]?=some o'→o.dst=some s→o'.dst=some s→i=j
 room:∀ o ∈ ops,∀ s,o.dst=some s→s < size
 grd:∀ o ∈ ops,∀ g want,o.guard=some (g,want)→g < ops.length
 ord:∀ (i:Nat) (o:Oper),ops[i]?=some o→∀ e ∈ o.after.toList,Region.binds .any e=true→e.on < i
 lst:∀ o,ops[last]?=some o→∀ j,j < ops.length→j≠last→∀ p:Nat→Prop,(∀ e ∈ o.after.toList,Region.binds .any e=true→p e.on)→(∀ (k:Nat) (o':Oper),ops[k]?=some o'→p k→∀ e ∈ o'.after.toList,Region.binds .any e=true→p e.on)→p j
theorem fitV_ok {ops:List Oper} {size last:Nat} (h:fitV ops size last=true):FitV ops size last:=by
 unfold fitV at h
 simp only [Bool.and_eq_true,List.all_eq_true] at h
 obtain ⟨⟨⟨⟨h1,h2⟩,h3⟩,h4⟩,h5⟩:=h
 refine ⟨fun i j o o' s hi hj ho ho'=>?_,fun o ho s hs=>?_,fun o ho g want hg=>?_,fun i o hi e he hb=>?_,fun o ho j hj hne=>?_⟩
 ·have:=h1 (o,i) (List.mem_zipIdx_iff_getElem?.2 hi) (o',j) (List.mem_zipIdx_iff_getElem?.2 hj)
  simp only [ho,ho',Option.isNone_some,Bool.or_false,bne_self_eq_false,beq_iff_eq] at this
  exact this
 ·have:=h2 o ho
  rw [hs] at this
  simpa using this
 ·have:=h3 o ho
  rw [hg] at this
  simpa using this
 ·have:=h4 (o,i) (List.mem_zipIdx_iff_getElem?.2 hi) e he
  rw [hb] at this
  simpa using this
 ·rw [ho] at h5
  have:=List.all_eq_true.1 h5 j (List.mem_range.2 hj)
  simp only [Bool.or_eq_true,beq_iff_eq] at this
  rcases this with this | this
  ·exact absurd this hne
  ·exact fun p h1 h2=>backB_ok p h1 h2 4 j this
theorem valOf_put {ops:List Oper} {size last:Nat} (hf:FitV ops size last) {a:Act} (hs:a.tmps.size=size) {i:Nat} {o:Oper} (ho:ops[i]?=some o) (v:Value):valOf ops (a.put o.dst v)=updV (valOf ops a) i (normV o v):=by
 funext j
 unfold updV
 by_cases hj:j=i
 ·subst hj
  rw [if_pos rfl]
  unfold valOf normV
  rw [ho]
  show slotOf _ _=_
  unfold slotOf
  cases hd:o.dst with
  | none=>rfl
  | some s=>exact eval_put_same (by rw [hs]; exact hf.room o (List.mem_of_getElem? ho) s hd)
 ·rw [if_neg hj]
  unfold valOf
  cases hj2:ops[j]? with
  | none=>rfl
  | some o' =>
    show slotOf _ _=slotOf _ _
    unfold slotOf
    cases hd':o'.dst with
    | none=>rfl
    | some s =>
      cases hd:o.dst with
      | none=>rfl
      | some t=>exact eval_put_other fun e=>hj (hf.dist j i o' o s hj2 ho hd' (by rw [hd,e]))
section
variable (ops:List Oper) (a:Act) (w0:World) (Gr:World→World→Prop) (Φ:Nat→Value→World→Prop) (last:Nat) (Fin:(Nat→Value)→World→Prop) (dead:Nat→Nat→Bool) (Ψ:Nat→World→Prop)
structure StV (listed:Array Bool) (a':Act) (w:World):Prop where
 fr:FrV ops a a'
 lsz:listed.size=ops.length
 closed:∀ (j:Nat) (o:Oper),ops[j]?=some o→listed.getD j false=true→∀ e ∈ o.after.toList,Region.binds .any e=true→listed.getD e.on false=true
 fresh:∀ (j:Nat) (o:Oper),ops[j]?=some o→listed.getD j false=false→valOf ops a' j=slotOf a o
 going:listed.getD last false=false→Gr w0 w∧∀ j,j < ops.length→listed.getD j false=true→(∀ i,i < ops.length→listed.getD i false=true→dead i j=false)→Φ j (valOf ops a' j) w
 done:listed.getD last false=true→Fin (valOf ops a') w
 wait:∀ j,j < ops.length→listed.getD j false=false→Ψ j w
def useB (ops:List Oper) (dead:Nat→Nat→Bool) (i j:Nat):Bool:=ops.zipIdx.all fun x=>!dead x.2 j || x.2 == i || backB ops x.1 4 i
def OblP (P:Program) (i:Nat) (o:Oper):Prop:=∀ (val:Nat→Value) (w:World),Gr w0 w→Ψ i w→(∀ j,backB ops o 4 j=true→useB ops dead i j=true→Φ j (val j) w)→(∀ (j:Nat) (o':Oper),ops[j]?=some o'→binding o' i=true→val j=slotOf a o')→val i=slotOf a o →
 ∀ K:Value→World→Prop,(∀ v w',Gr w w'→Φ i (normV o v) w'→(∀ j,j≠i→dead i j=false→(∀ o',ops[j]?=some o'→backB ops o' 4 i=false)→Φ j (val j) w→Φ j (val j) w')→(∀ j,j≠i→backB ops o 4 j=false→Ψ j w→Ψ j w')→K v w')→if wantedV o val=true then comesV P K ((execOp (rhoV ops a val) o).run P w) else K undef w
def OblV (P:Program) (i:Nat) (o:Oper):Prop:=∀ (val:Nat→Value) (w:World),Gr w0 w→(∀ j,backB ops o 4 j=true→useB ops dead i j=true→Φ j (val j) w)→(∀ (j:Nat) (o':Oper),ops[j]?=some o'→binding o' i=true→val j=slotOf a o')→val i=slotOf a o →
 ∀ K:Value→World→Prop,(∀ v w',Gr w w'→Φ i (normV o v) w'→(∀ j,j≠i→dead i j=false→(∀ o',ops[j]?=some o'→backB ops o' 4 i=false)→Φ j (val j) w→Φ j (val j) w')→K v w')→if wantedV o val=true then comesV P K ((execOp (rhoV ops a val) o).run P w) else K undef w
theorem OblV.p {P:Program} {i:Nat} {o:Oper} (h:OblV ops a w0 Gr Φ dead P i o):OblP ops a w0 Gr Φ dead (fun _ _=>True) P i o :=
 fun val w hg _ hd hb hs K hK=>h val w hg hd hb hs K fun v w' h1 h2 h3=>hK v w' h1 h2 h3 fun _ _ _ _=>trivial
def OblL (P:Program) (o:Oper):Prop:=∀ (val:Nat→Value) (w:World),Gr w0 w→(∀ j,j < ops.length→j≠last→(∀ i,i < ops.length→i≠last→dead i j=false)→Φ j (val j) w)→val last=slotOf a o →
 ∀ K:Value→World→Prop,(∀ v w',Fin (updV val last (normV o v)) w'→K v w')→if wantedV o val=true then comesV P K ((execOp (rhoV ops a val) o).run P w) else K undef w
end
theorem getD_set {l:Array Bool} {i j:Nat} (d:Bool) (hi:i < l.size):(l.setIfInBounds i true).getD j d=if j=i then true else l.getD j d:=by
 by_cases h:j=i
 ·subst h; rw [if_pos rfl]; simp [hi]
 ·rw [if_neg h]
  simp [Array.getD_eq_getD_getElem?,Array.getElem?_setIfInBounds_ne (fun e=>h e.symm)]
theorem filter_lt {α:Type} {p q:α→Bool}:∀ {l:List α},(∀ x ∈ l,p x=true→q x=true)→∀ x ∈ l,q x=true→p x=false→(l.filter p).length < (l.filter q).length
 | y :: r,h,x,hx,hq,hp=>by
   have hle:∀ {m:List α},(∀ x ∈ m,p x=true→q x=true)→(m.filter p).length≤(m.filter q).length:=by
    intro m
    induction m with
    | nil=>intro _; exact Nat.le_refl _
    | cons z s ih =>
      intro hm
      have:=ih fun x hx=>hm x (List.mem_cons_of_mem _ hx)
      rw [List.filter_cons,List.filter_cons]
      by_cases hz:p z=true
      ·rw [if_pos hz,if_pos (hm z List.mem_cons_self hz)]; simpa using this
      ·rw [if_neg hz]; split
       ·simp; omega
       ·exact this
   rw [List.filter_cons,List.filter_cons]
   rcases List.mem_cons.1 hx with rfl | hx
   ·rw [if_neg (by rw [hp]; decide),if_pos hq]
    have:=hle (m:=r) fun x hx=>h x (List.mem_cons_of_mem _ hx)
    simp; omega
   ·have ih:=filter_lt (fun x hx=>h x (List.mem_cons_of_mem _ hx)) x hx hq hp
    by_cases hz:p y=true
    ·rw [if_pos hz,if_pos (h y List.mem_cons_self hz)]; simpa using ih
    ·rw [if_neg hz]; split
     ·simp; omega
     ·exact ih
theorem ready_iff {ops:List Oper} {listed:Array Bool} {i:Nat} (hl:listed.size=ops.length):i ∈ Region.ready .any ops.toArray listed↔∃ o,ops[i]?=some o∧listed.getD i false=false∧∀ e ∈ o.after.toList,Region.binds .any e=true→listed.getD e.on false=true:=by
 unfold Region.ready
 rw [List.mem_filter,List.mem_range]
 constructor
 ·rintro ⟨hi,h⟩
  simp only [List.size_toArray] at hi
  have h1:ops[i]?=some ops[i]:=List.getElem?_eq_getElem hi
  simp only [List.getElem?_toArray,h1,Option.map_some,Option.getD_some,Bool.and_eq_true,Bool.not_eq_true',← Array.all_toList,List.all_eq_true,Bool.or_eq_true] at h
  refine ⟨_,h1,?_,fun e he hb=>?_⟩
  ·have:=h.1
   simpa [Array.getD,hl,hi] using this
  ·rcases h.2 e he with h3 | h3
   ·rw [hb] at h3; cases h3
   ·exact h3
 ·rintro ⟨o,ho,h1,h2⟩
  have hi:=(List.getElem?_eq_some_iff.1 ho).1
  refine ⟨by simpa using hi,?_⟩
  simp only [List.getElem?_toArray,ho,Option.map_some,Option.getD_some,Bool.and_eq_true,Bool.not_eq_true',← Array.all_toList,List.all_eq_true,Bool.or_eq_true]
  refine ⟨?_,fun e he=>?_⟩
  ·simpa [Array.getD,hl,hi] using h1
  ·cases hb:Region.binds .any e with
   | false=>exact .inl rfl
   | true=>exact .inr (h2 e he hb)
theorem st_walk {ops:List Oper} {a:Act} {w0:World} {Gr:World→World→Prop} {Φ:Nat→Value→World→Prop} {last:Nat} {Fin:(Nat→Value)→World→Prop} {dead:Nat→Nat→Bool} {Ψ:Nat→World→Prop} (hf:FitV ops a.tmps.size last) (htr:∀ {x y z:World},Gr x y→Gr y z→Gr x z)
  (hob:∀ i o,ops[i]?=some o→i≠last→OblP ops a w0 Gr Φ dead Ψ P i o) (hol:∀ o,ops[last]?=some o→OblL ops a w0 Gr Φ last Fin dead P o)
  (hfin:∀ val w',(if last < ops.length then Fin val w' else Gr w0 w'∧∀ j,j < ops.length→(∀ i,i < ops.length→dead i j=false)→Φ j (val j) w')→Q .normal (putAll ops 0 val a) w') :
  ∀ (fuel:Nat) (listed:Array Bool) (a':Act) (w:World),StV ops a w0 Gr Φ last Fin dead Ψ listed a' w→((List.range ops.length).filter fun i=>!listed.getD i false).length≤fuel→wpAny P .any ops.toArray Q fuel listed a' w:=by
 have fin:∀ (listed:Array Bool) (a':Act) (w:World),StV ops a w0 Gr Φ last Fin dead Ψ listed a' w→Region.ready .any ops.toArray listed=[]→Q .normal a' w:=by
  intro listed a' w st hr
  have hall:∀ i,i < ops.length→listed.getD i false=true:=by
   intro i
   induction i using Nat.strongRecOn with
   | _ i ih =>
     intro hi
     cases hl:listed.getD i false with
     | true=>rfl
     | false =>
       have h1:ops[i]?=some ops[i]:=List.getElem?_eq_getElem hi
       have:i ∈ Region.ready .any ops.toArray listed:=(ready_iff st.lsz).2 ⟨_,h1,hl,fun e he hb=>ih e.on (hf.ord i _ h1 e he hb) (Nat.lt_trans (hf.ord i _ h1 e he hb) hi)⟩
       rw [hr] at this
       cases this
  have ha':=putAll_fr st.fr ops 0 a (fun j o h=>by rw [Nat.zero_add]; exact h) rfl rfl fun s hs=>(st.fr.other s hs).symm
  rw [← ha']
  refine hfin _ _ ?_
  split
  ·rename_i hlt
   exact st.done (hall last hlt)
  ·rename_i hge
   have hn:listed.getD last false=false:=by
    have:¬ last < listed.size:=by rw [st.lsz]; exact hge
    simp [Array.getD,this]
   obtain ⟨g1,g2⟩:=st.going hn
   exact ⟨g1,fun j hj hdj=>g2 j hj (hall j hj) fun i hi _=>hdj i hi⟩
 intro fuel
 induction fuel with
 | zero =>
   intro listed a' w st hc
   have hr:Region.ready .any ops.toArray listed=[]:=by
    cases hr:Region.ready .any ops.toArray listed with
    | nil=>rfl
    | cons i r =>
      exfalso
      have hi:i ∈ Region.ready .any ops.toArray listed:=by rw [hr]; exact List.mem_cons_self
      obtain ⟨o,ho,hl,_⟩:=(ready_iff st.lsz).1 hi
      have:i ∈ (List.range ops.length).filter fun i=>!listed.getD i false:=List.mem_filter.2 ⟨List.mem_range.2 (List.getElem?_eq_some_iff.1 ho).1,by rw [hl]; rfl⟩
      have:=List.length_pos_of_mem this
      omega
   exact ⟨hr,fin _ _ _ st hr⟩
 | succ fuel ih =>
   intro listed a' w st hc
   refine ⟨fin _ _ _ st,fun i hi=>?_⟩
   obtain ⟨o,ho,hl,hdep⟩:=(ready_iff st.lsz).1 hi
   have hilt:=(List.getElem?_eq_some_iff.1 ho).1
   have hisz:i < listed.size:=by rw [st.lsz]; exact hilt
   have hset:∀ j d,(listed.setIfInBounds i true).getD j d=if j=i then true else listed.getD j d:=fun j d=>getD_set d hisz
   have hcount:((List.range ops.length).filter fun j=>!(listed.setIfInBounds i true).getD j false).length≤fuel:=by
    have:=filter_lt (p:=fun j=>!(listed.setIfInBounds i true).getD j false) (q:=fun j=>!listed.getD j false) (l:=List.range ops.length) (fun x _ hx=>by
     rw [hset] at hx
     split at hx
     ·cases hx
     ·exact hx) i (List.mem_range.2 hilt) (by rw [hl]; rfl) (by rw [hset,if_pos rfl]; rfl)
    omega
   have hlast:i≠last→last < ops.length→listed.getD last false=false:=fun hne hlt=>by
    cases hll:listed.getD last false with
    | false=>rfl
    | true =>
      have h1:ops[last]?=some ops[last]:=List.getElem?_eq_getElem hlt
      have:=hf.lst _ h1 i hilt hne (fun k=>listed.getD k false=true) (fun e he hb=>st.closed last _ h1 hll e he hb) fun k o' hk hp e he hb=>st.closed k o' hk hp e he hb
      rw [hl] at this
      cases this
   have hlast2:i≠last→listed.getD last false=false:=fun hne=>by
    by_cases hlt:last < ops.length
    ·exact hlast hne hlt
    ·have:¬ last < listed.size:=by rw [st.lsz]; exact hlt
     simp [Array.getD,this]
   have hfr:∀ v,FrV ops a (a'.put o.dst v):=fun v=>⟨by rw [put_defers,st.fr.defers],by rw [put_size,st.fr.size],fun s hs=>by
    rw [← st.fr.other s hs]
    cases hd:o.dst with
    | none=>rfl
    | some t=>exact eval_put_other fun e=>hs o (List.mem_of_getElem? ho) (by rw [hd,e])⟩
   have hval:∀ v,valOf ops (a'.put o.dst v)=updV (valOf ops a') i (normV o v):=fun v=>valOf_put hf st.fr.size ho v
   have hclosed:∀ (j:Nat) (o':Oper),ops[j]?=some o'→(listed.setIfInBounds i true).getD j false=true→∀ e ∈ o'.after.toList,Region.binds .any e=true→(listed.setIfInBounds i true).getD e.on false=true:=fun j o' hj hlj e he hb=>by
    rw [hset] at hlj ⊢
    split
    ·rfl
    ·split at hlj
     ·rename_i hji
      subst hji
      rw [ho] at hj
      injection hj with hj
      subst hj
      exact hdep e he hb
     ·exact st.closed j o' hj hlj e he hb
   have hfresh:∀ v (j:Nat) (o':Oper),ops[j]?=some o'→(listed.setIfInBounds i true).getD j false=false→valOf ops (a'.put o.dst v) j=slotOf a o':=fun v j o' hj hlj=>by
    rw [hset] at hlj
    split at hlj
    ·cases hlj
    ·rename_i hji
     rw [hval]
     unfold updV
     rw [if_neg hji]
     exact st.fresh j o' hj hlj
   refine wpOp_step (by rw [List.getElem?_toArray]; exact ho) fun K' hK=>?_
   rw [wanted_eq fun g want hg=>hf.grd o (List.mem_of_getElem? ho) g want hg]
   have hown:valOf ops a' i=slotOf a o:=st.fresh i o ho hl
   have conv:(if wantedV o (valOf ops a')=true then comesV P (fun v w'=>K' (a'.put o.dst v) w') ((execOp (rhoV ops a (valOf ops a')) o).run P w) else K' (a'.put o.dst undef) w) →
     if wantedV o (valOf ops a')=true then Oper.wp P o a' w K' Q else K' (a'.put o.dst undef) w:=by
    intro h
    split
    ·rename_i hw
     rw [if_pos hw] at h
     unfold Oper.wp
     rw [rho_eq st.fr]
     exact upon_comes h
    ·rename_i hw
     rw [if_neg hw] at h
     exact h
   refine conv ?_
   by_cases hil:i=last
   ·subst hil
    obtain ⟨g1,g2⟩:=st.going hl
    refine hol o ho (valOf ops a') w g1 (fun j hj hne hdj=>g2 j hj ?_ fun k hk hlk=>hdj k hk fun e=>by rw [e,hl] at hlk; cases hlk) hown (fun v w'=>K' (a'.put o.dst v) w') fun v w' hF=>hK _ _ (ih _ _ _ ⟨hfr v,by simp [st.lsz],hclosed,hfresh v,fun h=>?_,fun _=>?_,fun j hj hlj=>?_⟩ hcount)
    ·exact hf.lst o ho j hj hne (fun k=>listed.getD k false=true) (fun e he hb=>hdep e he hb) fun k o' hk hp e he hb=>st.closed k o' hk hp e he hb
    ·rw [hset,if_pos rfl] at h; cases h
    ·rw [hval]; exact hF
    ·rw [hset] at hlj
     split at hlj
     ·cases hlj
     ·rename_i hji
      have:=hf.lst o ho j hj hji (fun k=>listed.getD k false=true) (fun e he hb=>hdep e he hb) fun k o' hk hp e he hb=>st.closed k o' hk hp e he hb
      rw [hlj] at this
      cases this
   ·obtain ⟨g1,g2⟩:=st.going (hlast2 hil)
    refine hob i o ho hil (valOf ops a') w g1 (st.wait i hilt hl) (fun j hbj huse=>?_) (fun j o' hj hbj=>?_) hown (fun v w'=>K' (a'.put o.dst v) w') fun v w' hG hφ hkeep hwait=>hK _ _ (ih _ _ _ ⟨hfr v,by simp [st.lsz],hclosed,hfresh v,fun _=>⟨htr g1 hG,fun j hj hlj hdj=>?_⟩,fun h=>?_,fun j hj hlj=>?_⟩ hcount)
    ·have hlj:listed.getD j false=true:=backB_ok (ops:=ops) (fun m=>listed.getD m false=true) (fun e he hb=>hdep e he hb) (fun m o2 hm hp e he hb=>st.closed m o2 hm hp e he hb) 4 j hbj
     have hjl:j < ops.length:=by
      rcases Nat.lt_or_ge j ops.length with h | h
      ·exact h
      ·have:¬ j < listed.size:=by rw [st.lsz]; omega
       simp [Array.getD,this] at hlj
     refine g2 j hjl hlj fun k hk hlk=>?_
     cases hdk:dead k j with
     | false=>rfl
     | true =>
       exfalso
       have h1:ops[k]?=some ops[k]:=List.getElem?_eq_getElem hk
       have h3:=List.all_eq_true.1 huse (ops[k],k) (List.mem_zipIdx_iff_getElem?.2 h1)
       rw [hdk] at h3
       simp only [Bool.not_true,Bool.false_or,Bool.or_eq_true,beq_iff_eq] at h3
       rcases h3 with h2 | h2
       ·rw [h2,hl] at hlk; cases hlk
       ·have:=backB_ok (ops:=ops) (fun m=>listed.getD m false=true) (fun e he hb=>st.closed k _ h1 hlk e he hb) (fun m o2 hm hp e he hb=>st.closed m o2 hm hp e he hb) 4 i h2
        simp only [hl] at this
        cases this
    ·refine st.fresh j o' hj ?_
     cases hlj:listed.getD j false with
     | false=>rfl
     | true =>
       unfold binding at hbj
       rw [List.any_eq_true] at hbj
       obtain ⟨e,he,hb⟩:=hbj
       simp only [Bool.and_eq_true,beq_iff_eq] at hb
       have:=st.closed j o' hj hlj e he hb.1
       rw [hb.2,hl] at this
       cases this
    ·rw [hset] at hlj
     rw [hval]
     unfold updV
     by_cases hji:j=i
     ·rw [if_pos hji,hji]; exact hφ
     ·rw [if_neg hji]
      rw [if_neg hji] at hlj
      refine hkeep j hji (hdj i hilt (by rw [hset,if_pos rfl])) (fun o' hj'=>?_) (g2 j hj hlj fun k hk hlk=>hdj k hk ?_)
      ·cases hbb:backB ops o' 4 i with
       | false=>rfl
       | true =>
         exfalso
         have:=backB_ok (ops:=ops) (fun k=>listed.getD k false=true) (fun e he hb=>st.closed j o' hj' hlj e he hb) (fun k o2 hk hp e he hb=>st.closed k o2 hk hp e he hb) 4 i hbb
         simp only [hl] at this
         cases this
      rw [hset]
      split
      ·rfl
      ·exact hlk
    ·rw [hset,if_neg (fun e=>hil e.symm),hlast2 hil] at h
     cases h
    ·rw [hset] at hlj
     split at hlj
     ·cases hlj
     ·rename_i hji
      refine hwait j hji ?_ (st.wait j hj hlj)
      cases hbb:backB ops o 4 j with
      | false=>rfl
      | true =>
        exfalso
        have:=backB_ok (ops:=ops) (fun m=>listed.getD m false=true) (fun e he hb=>hdep e he hb) (fun m o2 hm hp e he hb=>st.closed m o2 hm hp e he hb) 4 j hbb
        simp only [hlj] at this
        cases this
theorem wp_region_psi {id:Nat} {ops:List Oper} {a:Act} {w:World} (hm:P.follows .mixedOrders=true) (Gr:World→World→Prop) (Φ:Nat→Value→World→Prop) (last:Nat) (Fin:(Nat→Value)→World→Prop) (dead:Nat→Nat→Bool) (Ψ:Nat→World→Prop) (hfit:fitV ops a.tmps.size last=true)
  (hrf:∀ x,Gr x x) (htr:∀ {x y z:World},Gr x y→Gr y z→Gr x z) (hΨ:∀ j,Ψ j { w with drawn:=w.drawn+1 })
  (hob:∀ i o,ops[i]?=some o→i≠last→OblP ops a { w with drawn:=w.drawn+1 } Gr Φ dead Ψ P i o) (hol:∀ o,ops[last]?=some o→OblL ops a { w with drawn:=w.drawn+1 } Gr Φ last Fin dead P o)
  (hfin:∀ val w',(if last < ops.length then Fin val w' else Gr { w with drawn:=w.drawn+1 } w'∧∀ j,j < ops.length→(∀ i,i < ops.length→dead i j=false)→Φ j (val j) w')→Q .normal (putAll ops 0 val a) w'):(Code.region id ops.toArray true).wp P Q a w:=by
 refine wp_region_any hm (st_walk (w0:={ w with drawn:=w.drawn+1 }) (Gr:=Gr) (Φ:=Φ) (last:=last) (Fin:=Fin) (Ψ:=Ψ) (fitV_ok hfit) htr hob hol hfin _ _ _ _ ⟨⟨rfl,rfl,fun _ _=>rfl⟩,by simp,?_,?_,?_,?_,fun j _ _=>hΨ j⟩ ?_)
 ·intro j o _ h
  simp [Array.getD] at h
 ·intro j o ho _
  unfold valOf
  rw [ho]
 ·intro _
  refine ⟨hrf _,fun j _ h _=>?_⟩
  simp [Array.getD] at h
 ·intro h
  simp [Array.getD] at h
 ·have:=List.length_filter_le (fun i=>!(Array.replicate ops.toArray.size false).getD i false) (List.range ops.length)
  simp only [List.length_range] at this
  simpa using this
theorem wp_region_rel {id:Nat} {ops:List Oper} {a:Act} {w:World} (hm:P.follows .mixedOrders=true) (Gr:World→World→Prop) (Φ:Nat→Value→World→Prop) (last:Nat) (Fin:(Nat→Value)→World→Prop) (dead:Nat→Nat→Bool) (hfit:fitV ops a.tmps.size last=true)
  (hrf:∀ x,Gr x x) (htr:∀ {x y z:World},Gr x y→Gr y z→Gr x z)
  (hob:∀ i o,ops[i]?=some o→i≠last→OblV ops a { w with drawn:=w.drawn+1 } Gr Φ dead P i o) (hol:∀ o,ops[last]?=some o→OblL ops a { w with drawn:=w.drawn+1 } Gr Φ last Fin dead P o)
  (hfin:∀ val w',(if last < ops.length then Fin val w' else Gr { w with drawn:=w.drawn+1 } w'∧∀ j,j < ops.length→(∀ i,i < ops.length→dead i j=false)→Φ j (val j) w')→Q .normal (putAll ops 0 val a) w'):(Code.region id ops.toArray true).wp P Q a w :=
 wp_region_psi hm Gr Φ last Fin dead (fun _ _=>True) hfit hrf htr (fun _=>trivial) (fun i o ho hne=>(hob i o ho hne).p) hol hfin
def OblAllP (ops:List Oper) (a:Act) (w0:World) (Gr:World→World→Prop) (Φ:Nat→Value→World→Prop) (dead:Nat→Nat→Bool) (Ψ:Nat→World→Prop) (P:Program) (last:Nat):List Oper→Nat→Prop
 | [],_=>True
 | o :: r,i=>(i≠last→OblP ops a w0 Gr Φ dead Ψ P i o)∧OblAllP ops a w0 Gr Φ dead Ψ P last r (i+1)
theorem oblp_all {ops:List Oper} {a:Act} {w0:World} {Gr:World→World→Prop} {Φ:Nat→Value→World→Prop} {dead:Nat→Nat→Bool} {Ψ:Nat→World→Prop} {last:Nat}:∀ (l:List Oper) (k:Nat),OblAllP ops a w0 Gr Φ dead Ψ P last l k→∀ i o,l[i]?=some o→k+i≠last→OblP ops a w0 Gr Φ dead Ψ P (k+i) o
 | [],_,_,i,o,h,_=>by cases h
 | x :: r,k,h,0,o,ho,hne=>by
   obtain rfl:x=o:=by simpa using ho
   exact h.1 hne
 | x :: r,k,h,i+1,o,ho,hne=>by
   have:=oblp_all r (k+1) h.2 i o (by simpa using ho) (by rwa [show k+1+i=k+(i+1) by omega])
   rwa [show k+1+i=k+(i+1) by omega] at this
theorem oblp_of {ops:List Oper} {a:Act} {w0:World} {Gr:World→World→Prop} {Φ:Nat→Value→World→Prop} {dead:Nat→Nat→Bool} {Ψ:Nat→World→Prop} {last:Nat} (h:OblAllP ops a w0 Gr Φ dead Ψ P last ops 0):∀ i o,ops[i]?=some o→i≠last→OblP ops a w0 Gr Φ dead Ψ P i o:=fun i o ho hne=>by
 have:=oblp_all ops 0 h i o ho (by rwa [Nat.zero_add])
 rwa [Nat.zero_add] at this
def OblAll (ops:List Oper) (a:Act) (w0:World) (Gr:World→World→Prop) (Φ:Nat→Value→World→Prop) (dead:Nat→Nat→Bool) (P:Program) (last:Nat):List Oper→Nat→Prop
 | [],_=>True
 | o :: r,i=>(i≠last→OblV ops a w0 Gr Φ dead P i o)∧OblAll ops a w0 Gr Φ dead P last r (i+1)
theorem obl_all {ops:List Oper} {a:Act} {w0:World} {Gr:World→World→Prop} {Φ:Nat→Value→World→Prop} {dead:Nat→Nat→Bool} {last:Nat}:∀ (l:List Oper) (k:Nat),OblAll ops a w0 Gr Φ dead P last l k→∀ i o,l[i]?=some o→k+i≠last→OblV ops a w0 Gr Φ dead P (k+i) o
 | [],_,_,i,o,h,_=>by cases h
 | x :: r,k,h,0,o,ho,hne=>by
   obtain rfl:x=o:=by simpa using ho
   exact h.1 hne
 | x :: r,k,h,i+1,o,ho,hne=>by
   have:=obl_all r (k+1) h.2 i o (by simpa using ho) (by rwa [show k+1+i=k+(i+1) by omega])
   rwa [show k+1+i=k+(i+1) by omega] at this
theorem obl_of {ops:List Oper} {a:Act} {w0:World} {Gr:World→World→Prop} {Φ:Nat→Value→World→Prop} {dead:Nat→Nat→Bool} {last:Nat} (h:OblAll ops a w0 Gr Φ dead P last ops 0):∀ i o,ops[i]?=some o→i≠last→OblV ops a w0 Gr Φ dead P i o:=fun i o ho hne=>by
 have:=obl_all ops 0 h i o ho (by rwa [Nat.zero_add])
 rwa [Nat.zero_add] at this
end
end Go.Proofs.YthlommalbkhcjaaGreat
namespace Go.Proofs.YthlommalbkhcjaaGreat
open Go.Sort
section
variable {F:Fence} {n0:Nat} {P:Program} {Q:Exit→Act→World→Prop}
theorem wpAnyIn_more {md:Region.Mode} {ops:Array Oper}:∀ (f:Nat) (listed:Array Bool) (a:Act) (w:World),wpAnyIn F n0 P md ops Q f listed a w→wpAnyIn F n0 P md ops Q (f+1) listed a w
 | 0,listed,a,w,h=>⟨fun _=>h.2,fun i hi=>by rw [h.1] at hi; cases hi⟩
 | f+1,listed,a,w,h=>⟨h.1,fun i hi=>wpOpIn_mono (fun a w=>wpAnyIn_more f _ a w) (h.2 i hi)⟩
theorem wpAnyIn_much {md:Region.Mode} {ops:Array Oper} {f:Nat} {listed:Array Bool} {a:Act} {w:World} (h:wpAnyIn F n0 P md ops Q f listed a w):∀ g:Nat,wpAnyIn F n0 P md ops Q (g+f) listed a w
 | 0=>by rw [Nat.zero_add]; exact h
 | g+1=>by
   have:=wpAnyIn_more _ _ _ _ (wpAnyIn_much h g)
   rwa [show g+1+f=g+f+1 by omega]
theorem wpIn_unthen {o:Oper} {a:Act} {w:World} {K K0:Act→World→Prop} (h:o.wpIn F n0 P a w K (Exit.then K0 Q)):o.wpIn F n0 P a w K Q:=by
 unfold Oper.wpIn at *
 refine ⟨h.1,?_⟩
 have h:=h.2
 generalize (o.semAt F.round a.eval).run P w=r at *
 cases r with
 | ok x w' =>
   cases x <;> simp only [Oper.uponIn] at h ⊢ <;>
    first
     | exact h
     | exact ⟨h.1,CallsIn.mono h.2 (fun e w'' he=>by cases e <;> exact he)⟩
     | exact ⟨h.1,RoundIn.mono h.2 (fun e w'' he=>by cases e <;> exact he)⟩
 | halt x w'=>cases x <;> simp only [Oper.uponIn] at h ⊢ <;> exact h
theorem wpOpIn_unthen {ops:Array Oper} {i:Nat} {a:Act} {w:World} {K K0:Act→World→Prop} (h:wpOpIn F n0 P ops (Exit.then K0 Q) i K a w):wpOpIn F n0 P ops Q i K a w:=by
 unfold wpOpIn at *
 split
 ·rename_i ho; simp only [ho] at h; exact h
 ·rename_i o ho
  simp only [ho] at h
  split
  ·rename_i hw; simp only [hw,if_true] at h; exact wpIn_unthen h
  ·rename_i hw; simp only [hw] at h; exact h
theorem semAt_same {o o':Oper} {r:Option Nat} (hop:o'.op=o.op) (hty:o'.type=o.type) (ρ:Operand→Value):o'.semAt r ρ=o.semAt r ρ:=by
 obtain ⟨d,op,ty,pos,af,gd⟩:=o
 obtain ⟨d',op',ty',pos',af',gd'⟩:=o'
 simp only at hop hty
 subst hop hty
 rfl
theorem about_same {o o':Oper} (hop:o'.op=o.op) (hty:o'.type=o.type) (w:World) (ρ:Operand→Value):o'.about P w ρ=o.about P w ρ:=by
 obtain ⟨d,op,ty,pos,af,gd⟩:=o
 obtain ⟨d',op',ty',pos',af',gd'⟩:=o'
 simp only at hop hty
 subst hop hty
 rfl
theorem wpOpIn_of_eq {ops ops':Array Oper} {i j:Nat} {a:Act} {w:World} {K:Act→World→Prop} {o o':Oper} (hi:ops[i]?=some o) (hj:ops'[j]?=some o') (hd:o'.dst=o.dst) (hop:o'.op=o.op) (hty:o'.type=o.type) (hw:∀ tmps,Region.wanted o' (yielded ops' tmps)=Region.wanted o (yielded ops tmps)) (h:wpOpIn F n0 P ops' Q j K a w):wpOpIn F n0 P ops Q i K a w:=by
 unfold wpOpIn at *
 simp only [hi]
 simp only [hj] at h
 rw [hw] at h
 split
 ·rename_i hw'
  simp only [hw',if_true] at h
  unfold Oper.wpIn at *
  rw [semAt_same hop hty,about_same hop hty] at h
  refine ⟨h.1,?_⟩
  have h:=h.2
  generalize (o.semAt F.round a.eval).run P w=r at *
  cases r with
  | ok x w'=>cases x <;> simp only [Oper.uponIn,hd] at h ⊢ <;> exact h
  | halt x w'=>cases x <;> simp only [Oper.uponIn] at h ⊢ <;> exact h
 ·rename_i hw'
  simp only [hw'] at h
  rw [hd,about_same hop hty] at h
  exact h
theorem stageIn_any {hd tl:List Oper} (hB:stageB (hd++tl) hd.length=true) {g:Nat}:∀ (f:Nat) (listed:Array Bool) (a:Act) (w:World),listed.size=hd.length→(∀ (j:Nat) (o:Oper),hd[j]?=some o→listed.getD j false=true→∀ e ∈ o.after,Region.binds .any e=true→listed.getD e.on false=true) →
  wpAnyIn F n0 P .any hd.toArray (Exit.then (fun a w=>wpAnyIn F n0 P .any (hd++tl).toArray Q g (Array.replicate hd.length true++Array.replicate tl.length false) a w) Q) f listed a w →
  wpAnyIn F n0 P .any (hd++tl).toArray Q (f+g) (listed++Array.replicate tl.length false) a w:=by
 unfold stageB at hB
 simp only [Bool.and_eq_true,decide_eq_true_eq] at hB
 obtain ⟨⟨⟨⟨hn,hE⟩,hG⟩,hR⟩,hS⟩:=hB
 have hlt:∀ (i:Nat) (o:Oper),hd[i]?=some o→(hd++tl)[i]?=some o:=fun i o h=>by
  rw [List.getElem?_append_left (List.getElem?_eq_some_iff.1 h).1]; exact h
 have hready:∀ (listed:Array Bool),listed.size=hd.length→∀ i,i < hd.length→(i ∈ Region.ready .any (hd++tl).toArray (listed++Array.replicate tl.length false)↔i ∈ Region.ready .any hd.toArray listed):=by
  intro listed hsz i hi
  have ho:hd[i]?=some hd[i]:=List.getElem?_eq_getElem hi
  rw [mem_ready,mem_ready]
  simp only [List.getElem?_toArray]
  rw [getD_app_left _ (by omega),hlt i _ ho,ho]
  have hed:=edgeOk_spec hE (hlt i _ ho)
  constructor
  ·rintro ⟨h1,o,h2,h3⟩
   injection h2 with h2
   subst h2
   exact ⟨h1,_,rfl,fun e he hb=>by
    have:=h3 e he hb
    rwa [getD_app_left _ (by have:=hed e he hb; omega)] at this⟩
  ·rintro ⟨h1,o,h2,h3⟩
   injection h2 with h2
   subst h2
   exact ⟨h1,_,rfl,fun e he hb=>by
    rw [getD_app_left _ (by have:=hed e he hb; omega)]
    exact h3 e he hb⟩
 have htail:∀ (listed:Array Bool),listed.size=hd.length→(∀ (j:Nat) (o:Oper),hd[j]?=some o→listed.getD j false=true→∀ e ∈ o.after,Region.binds .any e=true→listed.getD e.on false=true) →
   ∀ (d i:Nat),hd.length - i=d→i < hd.length→listed.getD i false=false→∀ t,hd.length≤t→t ∉ Region.ready .any (hd++tl).toArray (listed++Array.replicate tl.length false):=by
  intro listed hsz hcl d
  induction d using Nat.strongRecOn with
  | _ d ih =>
    intro i hdi hi hun t ht hr
    obtain ⟨_,ot,hot,hall⟩:=mem_ready.1 hr
    rw [List.getElem?_toArray] at hot
    have htlt:t < (hd++tl).length:=(List.getElem?_eq_some_iff.1 hot).1
    by_cases htn:t=hd.length
    ·subst htn
     have h1:=List.all_eq_true.1 hS i (List.mem_range.2 hi)
     obtain ⟨j,hj,hj2⟩:=List.any_eq_true.1 h1
     simp only [Bool.and_eq_true,decide_eq_true_eq] at hj2
     obtain ⟨oj,hoj,e,he,hb,hon⟩:=Region.waitsFor_spec hj2.2
     rw [List.getElem?_toArray] at hoj
     have hjle:j≤hd.length:=by have:=List.mem_range.1 hj; omega
     by_cases hjt:j=hd.length
     ·subst hjt
      rw [hoj] at hot
      injection hot with hot
      subst hot
      have h2:=hall e he hb
      rw [hon,getD_app_left _ (by omega),hun] at h2
      cases h2
     ·have hjlt:j < hd.length:=by omega
      rw [List.getElem?_append_left hjlt] at hoj
      cases hl:listed.getD j false with
      | true =>
        have h2:=hcl j oj hoj hl e he hb
        rw [hon,hun] at h2
        cases h2
      | false=>exact ih (hd.length - j) (by omega) j rfl hjlt hl _ (Nat.le_refl _) hr
    ·have h1:=List.all_eq_true.1 hR t (List.mem_range.2 htlt)
     simp only [Bool.or_eq_true,decide_eq_true_eq] at h1
     rcases h1 with h1 | h1
     ·omega
     ·obtain ⟨j,hj,hj2⟩:=List.any_eq_true.1 h1
      simp only [Bool.and_eq_true,decide_eq_true_eq] at hj2
      obtain ⟨o',ho',e,he,hb,hon⟩:=Region.waitsFor_spec hj2.2
      rw [List.getElem?_toArray,hot] at ho'
      injection ho' with ho'
      subst ho'
      have h2:=hall e he hb
      have hjt:=List.mem_range.1 hj
      simp only [List.length_append] at htlt
      rw [hon,getD_app_right _ (by omega),getD_rep _ _ (by omega)] at h2
      cases h2
 have hdone:∀ (listed:Array Bool),listed.size=hd.length→Region.ready .any hd.toArray listed=[]→listed=Array.replicate hd.length true:=by
  intro listed hsz hr
  have hall:∀ i,i < hd.length→listed.getD i false=true:=by
   intro i
   induction i using Nat.strongRecOn with
   | _ i ih =>
     intro hi
     cases hl:listed.getD i false with
     | true=>rfl
     | false =>
       have ho:hd[i]?=some hd[i]:=List.getElem?_eq_getElem hi
       have:i ∈ Region.ready .any hd.toArray listed:=mem_ready.2 ⟨by rw [getD_any (by omega) true false]; exact hl,_,by rw [List.getElem?_toArray]; exact ho,fun e he hb=>by
        have:=edgeOk_spec hE (hlt i _ ho) e he hb
        exact ih e.on this (by omega)⟩
       rw [hr] at this
       cases this
  apply Array.ext (by simp [hsz])
  intro i h1 h2
  have:=hall i (by omega)
  simp only [Array.getD_eq_getD_getElem?,Array.getElem?_eq_getElem h1,Option.getD_some] at this
  rw [this]
  simp
 intro f
 induction f with
 | zero =>
   intro listed a w hsz hcl h
   obtain ⟨h1,h2⟩:=h
   rw [hdone listed hsz h1,Nat.zero_add]
   exact h2
 | succ f ih =>
   intro listed a w hsz hcl h
   cases hr:Region.ready .any hd.toArray listed with
   | nil =>
     rw [hdone listed hsz hr]
     exact wpAnyIn_much (h.1 hr) (f+1)
   | cons i0 r0 =>
     have hi0:i0 ∈ Region.ready .any hd.toArray listed:=by rw [hr]; exact List.mem_cons_self
     obtain ⟨hi0u,o0,ho0,_⟩:=mem_ready.1 hi0
     rw [List.getElem?_toArray] at ho0
     have hi0l:=(List.getElem?_eq_some_iff.1 ho0).1
     rw [show f+1+g=f+g+1 by omega]
     have hnt:=htail listed hsz hcl _ i0 rfl hi0l (by rw [getD_any (by omega) false true]; exact hi0u)
     refine ⟨fun h0=>?_,fun i hi=>?_⟩
     ·have:=(hready listed hsz i0 hi0l).2 hi0
      rw [h0] at this
      cases this
     ·have hil:i < hd.length:=by
       rcases Nat.lt_or_ge i hd.length with h1 | h1
       ·exact h1
       ·exact absurd hi (hnt i h1)
      have hih:=(hready listed hsz i hil).1 hi
      obtain ⟨_,o,ho,hall⟩:=mem_ready.1 hih
      rw [List.getElem?_toArray] at ho
      have h2:=wpOpIn_unthen (h.2 i hih)
      have h3:=wpOpIn_mono (fun a w h=>ih (listed.setIfInBounds i true) a w (by simp [hsz]) (fun j oj hoj hl e he hb=>?_) h) h2
      ·rw [set_app_left (by omega)]
       refine wpOpIn_of_eq (by rw [List.getElem?_toArray]; exact hlt i o ho) (by rw [List.getElem?_toArray]; exact ho) rfl rfl rfl (fun tmps=>?_) h3
       refine wanted_like (fun h=>h) fun gd hgd=>⟨gd.1,hgd,?_⟩
       have:=(guardOk_spec hG (hlt i o ho) hgd).1 hil
       simp only [List.getElem?_toArray]
       rw [List.getElem?_append_left this]
      ·by_cases hji:i=j
       ·subst hji
        rw [ho] at hoj
        injection hoj with hoj
        subst hoj
        exact getD_set_true (hall e he hb)
       ·rw [getD_set_ne false hji] at hl
        exact getD_set_true (hcl j oj hoj hl e he hb)
theorem shiftIn_any {hd tl:List Oper} (hG:guardOk (hd++tl) hd.length=true):∀ (f:Nat) (l':Array Bool) (a:Act) (w:World),l'.size=tl.length →
  wpAnyIn F n0 P .any (tl.map (shiftO hd.length)).toArray Q f l' a w→wpAnyIn F n0 P .any (hd++tl).toArray Q f (Array.replicate hd.length true++l') a w:=by
 have hget:∀ j,(hd++tl)[hd.length+j]?=tl[j]?:=fun j=>by rw [List.getElem?_append_right (by omega)]; congr 1; omega
 have hready:∀ (l':Array Bool),l'.size=tl.length→∀ j,(hd.length+j ∈ Region.ready .any (hd++tl).toArray (Array.replicate hd.length true++l')↔j ∈ Region.ready .any (tl.map (shiftO hd.length)).toArray l'):=by
  intro l' hsz j
  rw [mem_ready,mem_ready]
  simp only [List.getElem?_toArray,List.getElem?_map]
  rw [hget,getD_app_right _ (by simp),Array.size_replicate,Nat.add_sub_cancel_left]
  cases ht:tl[j]? with
  | none=>simp
  | some o =>
    simp only [Option.map_some,Option.some.injEq,exists_eq_left']
    refine and_congr_right fun _=>⟨fun h e he hb=>?_,fun h e he hb=>?_⟩
    ·simp only [shiftO,List.mem_toArray,List.mem_map,List.mem_filter,decide_eq_true_eq] at he
     obtain ⟨e0,⟨he0,hn⟩,rfl⟩:=he
     have:=h e0 (by simpa using he0) hb
     rw [getD_app_right _ (by simpa using hn),Array.size_replicate] at this
     exact this
    ·by_cases hn:hd.length≤e.on
     ·rw [getD_app_right _ (by simpa using hn),Array.size_replicate]
      refine h { e with on:=e.on - hd.length } ?_ hb
      simp only [shiftO,List.mem_toArray,List.mem_map,List.mem_filter,decide_eq_true_eq]
      exact ⟨e,⟨by simpa using he,hn⟩,rfl⟩
     ·rw [getD_app_left _ (by simp; omega),getD_rep _ _ (by omega)]
 have hlow:∀ (l':Array Bool) i,i < hd.length→i ∉ Region.ready .any (hd++tl).toArray (Array.replicate hd.length true++l'):=fun l' i hi hr=>by
  have:=(mem_ready.1 hr).1
  rw [getD_app_left _ (by simpa using hi),getD_rep _ _ hi] at this
  cases this
 have hnil:∀ (l':Array Bool),l'.size=tl.length→Region.ready .any (hd++tl).toArray (Array.replicate hd.length true++l')=[]→Region.ready .any (tl.map (shiftO hd.length)).toArray l'=[]:=fun l' hsz h=>by
  cases hr:Region.ready .any (tl.map (shiftO hd.length)).toArray l' with
  | nil=>rfl
  | cons j r =>
    have:=(hready l' hsz j).2 (by rw [hr]; exact List.mem_cons_self)
    rw [h] at this
    cases this
 intro f
 induction f with
 | zero =>
   intro l' a w hsz h
   refine ⟨?_,h.2⟩
   cases hr:Region.ready .any (hd++tl).toArray (Array.replicate hd.length true++l') with
   | nil=>rfl
   | cons i r =>
     exfalso
     have hi:i ∈ Region.ready .any (hd++tl).toArray (Array.replicate hd.length true++l'):=by rw [hr]; exact List.mem_cons_self
     rcases Nat.lt_or_ge i hd.length with h1 | h1
     ·exact hlow l' i h1 hi
     ·obtain ⟨j,rfl⟩:∃ j,i=hd.length+j:=⟨i - hd.length,by omega⟩
      have:=(hready l' hsz j).1 hi
      rw [h.1] at this
      cases this
 | succ f ih =>
   intro l' a w hsz h
   refine ⟨fun h0=>h.1 (hnil l' hsz h0),fun i hi=>?_⟩
   rcases Nat.lt_or_ge i hd.length with h1 | h1
   ·exact absurd hi (hlow l' i h1)
   ·obtain ⟨j,rfl⟩:∃ j,i=hd.length+j:=⟨i - hd.length,by omega⟩
    have hj:=(hready l' hsz j).1 hi
    have h2:=h.2 j hj
    obtain ⟨_,o',ho',_⟩:=mem_ready.1 hj
    simp only [List.getElem?_toArray,List.getElem?_map] at ho'
    cases ht:tl[j]? with
    | none=>rw [ht] at ho'; cases ho'
    | some o =>
      rw [ht] at ho'
      injection ho' with ho'
      have h3:=wpOpIn_mono (fun a w h=>ih (l'.setIfInBounds j true) a w (by simp [hsz]) h) h2
      have hset:=set_app_right (l:=Array.replicate hd.length true) (r:=l') (j:=j)
      rw [Array.size_replicate] at hset
      rw [hset]
      refine wpOpIn_of_eq (o:=o) (o':=shiftO hd.length o) (by rw [List.getElem?_toArray,hget]; exact ht) (by rw [List.getElem?_toArray,List.getElem?_map,ht]; rfl) rfl rfl rfl (fun tmps=>?_) h3
      refine wanted_like (fun h=>by simp [shiftO,h]) fun gd hgd=>⟨gd.1 - hd.length,by simp [shiftO,hgd],?_⟩
      have hg2:=(guardOk_spec hG (by rw [hget]; exact ht) hgd).2 (by omega)
      have h5:=hget (gd.1 - hd.length)
      rw [show hd.length+(gd.1 - hd.length)=gd.1 by omega] at h5
      simp only [List.getElem?_toArray,List.getElem?_map]
      rw [h5]
      cases tl[gd.1 - hd.length]? <;> rfl
def SameLx (ops ops':Array Oper):List Oper→List Oper→Prop
 | [],[]=>True
 | o :: s,o' :: s'=>(SameO ops ops' o o'∧o'.op=o.op∧o'.type=o.type)∧SameLx ops ops' s s'
 | _,_=>False
theorem listIn_same {ops ops':Array Oper} {K:Act→World→Prop}:∀ {s s':List Oper} {a:Act} {w:World},SameLx ops ops' s s'→wpListIn F n0 P ops (Exit.then K Q) s a w→wpListIn F n0 P ops' (Exit.then K Q) s' a w
 | [],[],_,_,_,h=>h
 | [],_ :: _,_,_,h,_=>h.elim
 | _ :: _,[],_,_,h,_=>h.elim
 | o :: s,o' :: s',a,w,⟨⟨⟨hd,_,hw⟩,hop,hty⟩,hs⟩,h=>by
   unfold wpListIn at h ⊢
   rw [hw]
   split
   ·rename_i hw'
    rw [if_pos hw'] at h
    have h:=Oper.wpIn_mono (fun a w h=>listIn_same hs h) h
    unfold Oper.wpIn at *
    rw [semAt_same hop hty,about_same hop hty]
    refine ⟨h.1,?_⟩
    have h:=h.2
    generalize (o.semAt F.round a.eval).run P w=r at *
    cases r with
    | ok x w'=>cases x <;> simp only [Oper.uponIn,hd] at h ⊢ <;> exact h
    | halt x w'=>cases x <;> simp only [Oper.uponIn] at h ⊢ <;> exact h
   ·rename_i hw'
    rw [if_neg hw'] at h
    rw [hd,about_same hop hty]
    exact ⟨h.1,listIn_same hs h.2⟩
theorem listIn_mono {ops:Array Oper} {K K':Act→World→Prop} (hk:∀ a w,K a w→K' a w):∀ {s:List Oper} {a:Act} {w:World},wpListIn F n0 P ops (Exit.then K Q) s a w→wpListIn F n0 P ops (Exit.then K' Q) s a w
 | [],_,_,h=>hk _ _ h
 | o :: s,a,w,h=>by
   unfold wpListIn at h ⊢
   split
   ·rename_i hw'
    rw [if_pos hw'] at h
    have h:=Oper.wpIn_mono (fun a w h=>listIn_mono hk h) h
    unfold Oper.wpIn at *
    refine ⟨h.1,?_⟩
    have h:=h.2
    generalize (o.semAt F.round a.eval).run P w=r at *
    cases r with
    | ok x w' =>
      cases x <;> simp only [Oper.uponIn] at h ⊢ <;>
       first
        | exact h
        | exact ⟨h.1,CallsIn.mono h.2 (fun e w'' he=>by cases e <;> exact he)⟩
        | exact ⟨h.1,RoundIn.mono h.2 (fun e w'' he=>by cases e <;> exact he)⟩
    | halt x w'=>cases x <;> simp only [Oper.uponIn] at h ⊢ <;> exact h
   ·rename_i hw'
    rw [if_neg hw'] at h
    exact ⟨h.1,listIn_mono hk h.2⟩
theorem chainIn_any {l:List Oper} (hB:chainL l=true):∀ (s pre:List Oper) (a:Act) (w:World),l=pre++s→wpListIn F n0 P l.toArray Q s a w→wpAnyIn F n0 P .any l.toArray Q s.length (Array.replicate pre.length true++Array.replicate s.length false) a w:=by
 unfold chainL at hB
 simp only [Bool.and_eq_true] at hB
 obtain ⟨hE,hC⟩:=hB
 intro s
 induction s with
 | nil =>
   intro pre a w hl h
   refine ⟨?_,h⟩
   rw [List.append_nil] at hl
   subst hl
   cases hr:Region.ready .any l.toArray (Array.replicate l.length true++Array.replicate ([]:List Oper).length false) with
   | nil=>rfl
   | cons i r =>
     exfalso
     have hi:i ∈ Region.ready .any l.toArray (Array.replicate l.length true++Array.replicate ([]:List Oper).length false):=by rw [hr]; exact List.mem_cons_self
     obtain ⟨h1,o,h2,_⟩:=mem_ready.1 hi
     rw [List.getElem?_toArray] at h2
     have hil:=(List.getElem?_eq_some_iff.1 h2).1
     rw [getD_app_left _ (by simpa using hil),getD_rep _ _ hil] at h1
     cases h1
 | cons o s ih =>
   intro pre a w hl h
   have ho:l[pre.length]?=some o:=by rw [hl,List.getElem?_append_right (Nat.le_refl _)]; simp
   have hrd:pre.length ∈ Region.ready .any l.toArray (Array.replicate pre.length true++Array.replicate (o :: s).length false):=mem_ready.2 ⟨by rw [getD_app_right _ (by simp),getD_rep _ _ (by simp)],o,by rw [List.getElem?_toArray]; exact ho,fun e he hb=>by
    have:=edgeOk_spec hE ho e he hb
    rw [getD_app_left _ (by simpa using this),getD_rep _ _ this]⟩
   refine ⟨fun h0=>(by rw [h0] at hrd; cases hrd),fun i hi=>?_⟩
   have hii:i=pre.length:=by
    obtain ⟨h1,oi,h2,h3⟩:=mem_ready.1 hi
    rcases Nat.lt_trichotomy i pre.length with hlt | heq | hgt
    ·rw [getD_app_left _ (by simpa using hlt),getD_rep _ _ hlt] at h1
     cases h1
    ·exact heq
    ·exfalso
     rw [List.getElem?_toArray] at h2
     have hil:=(List.getElem?_eq_some_iff.1 h2).1
     have h4:=List.all_eq_true.1 hC i (List.mem_range.2 hil)
     simp only [Bool.or_eq_true,decide_eq_true_eq] at h4
     rcases h4 with h4 | h4
     ·omega
     ·obtain ⟨o',ho',e,he,hb,hon⟩:=Region.waitsFor_spec h4
      rw [List.getElem?_toArray,h2] at ho'
      injection ho' with ho'
      subst ho'
      have h5:=h3 e he hb
      rw [hon,getD_app_right _ (by simp; omega),getD_rep _ _ (by rw [hl] at hil; simp at hil ⊢; omega)] at h5
      cases h5
   subst hii
   have hset:(Array.replicate pre.length true++Array.replicate (o :: s).length false).setIfInBounds pre.length true=Array.replicate (pre++[o]).length true++Array.replicate s.length false:=by
    apply Array.ext_getElem?
    intro k
    simp only [Array.getElem?_setIfInBounds,Array.getElem?_append,Array.size_append,Array.size_replicate,Array.getElem?_replicate,List.length_cons,List.length_append,List.length_nil]
    by_cases h1:pre.length=k
    ·subst h1
     rw [if_pos rfl,if_pos (by omega),if_pos (by omega),if_pos (by omega)]
    ·rw [if_neg h1]
     by_cases h2:k < pre.length
     ·rw [if_pos h2,if_pos h2,if_pos (by omega),if_pos (by omega)]
     ·by_cases h3:k - pre.length < s.length+1
      ·rw [if_neg h2,if_pos h3,if_neg (show ¬ k < pre.length+(0+1) by omega),if_pos (by omega)]
      ·rw [if_neg h2,if_neg h3,if_neg (show ¬ k < pre.length+(0+1) by omega),if_neg (by omega)]
   rw [hset]
   unfold wpListIn at h
   unfold wpOpIn
   simp only [List.getElem?_toArray,ho]
   split
   ·rename_i hw
    rw [if_pos hw] at h
    exact Oper.wpIn_mono (fun a w h=>ih (pre++[o]) a w (by rw [hl]; simp) h) h
   ·rename_i hw
    rw [if_neg hw] at h
    exact ⟨h.1,ih (pre++[o]) _ w (by rw [hl]; simp) h.2⟩
theorem wpAnyIn_unthen {ops:Array Oper} {md:Region.Mode}:∀ (f:Nat) (listed:Array Bool) (a:Act) (w:World),wpAnyIn F n0 P md ops (Exit.then (fun a w=>Q .normal a w) Q) f listed a w→wpAnyIn F n0 P md ops Q f listed a w
 | 0,_,_,_,h=>⟨h.1,h.2⟩
 | f+1,_,_,_,h=>⟨fun h0=>h.1 h0,fun i hi=>wpOpIn_mono (fun a w h=>wpAnyIn_unthen f _ a w h) (wpOpIn_unthen (h.2 i hi))⟩
theorem LikeL.samex {n:Nat} {whole:Array Oper} {tl l':List Oper} (h:LikeL n whole tl l') {k:Nat} (hk:k≤tl.length) (hg:∀ (j:Nat) (o:Oper),(l'.take k)[j]?=some o→∀ g:Nat × Bool,o.guard=some g→g.1 < k):SameLx whole (l'.take k).toArray (tl.take k) (l'.take k):=by
 have hs:=h.same hk hg
 have key:∀ {s s':List Oper} {ops ops':Array Oper},SameL ops ops' s s'→(∀ (j:Nat) (o o':Oper),s[j]?=some o→s'[j]?=some o'→o'.op=o.op∧o'.type=o.type)→SameLx ops ops' s s':=by
  intro s
  induction s with
  | nil=>intro s' ops ops' h _; cases s' with
    | nil=>trivial
    | cons _ _=>exact h.elim
  | cons o s ih=>intro s' ops ops' h hh; cases s' with
    | nil=>exact h.elim
    | cons o' s'=>exact ⟨⟨h.1,hh 0 o o' rfl rfl⟩,ih h.2 fun j x x' h1 h2=>hh (j+1) x x' (by simpa using h1) (by simpa using h2)⟩
 refine key hs fun j o o' ho ho'=>?_
 have hjk:j < k:=by have:=(List.getElem?_eq_some_iff.1 ho).1; simp at this; omega
 rw [List.getElem?_take_of_lt hjk] at ho ho'
 obtain ⟨A,hA⟩:=h.like j o ho
 rw [hA] at ho'
 injection ho' with ho'
 subst ho'
 exact ⟨rfl,rfl⟩
def wpStIn (F:Fence) (n0:Nat) (P:Program) (ops:Array Oper) (Q:Exit→Act→World→Prop):List (Bool × Nat)→List Oper→Act→World→Prop
 | [],_,a,w=>Q .normal a w
 | (true,k) :: ns,l,a,w=>wpQuiet P ops (fun w'=>∃ n,w'=w.drewN n) (fun a'=>∀ w',(∃ n,w'=w.drewN n)→wpStIn F n0 P ops Q ns (l.drop k) a' w') (l.take k) a
 | (false,k) :: ns,l,a,w=>wpListIn F n0 P ops (Exit.then (fun a w=>wpStIn F n0 P ops Q ns (l.drop k) a w) Q) (l.take k) a w
def stPlain:List (Bool × Nat)→List Oper→Bool
 | [],_=>true
 | (q,k) :: ns,l=>(!q || (l.take k).all plainB) && stPlain ns ((l.drop k).map (shiftO k))
theorem wpIn_weak {Q':Exit→Act→World→Prop} {o:Oper} {a:Act} {w:World} {K K':Act→World→Prop} (hk:∀ a w,K a w→K' a w) (hp:∀ c a w,Q (.panic c) a w→Q' (.panic c) a w) (ho:∀ a w,Q .outgrown a w→Q' .outgrown a w) (h:o.wpIn F n0 P a w K Q):o.wpIn F n0 P a w K' Q':=by
 have h:=Oper.wpIn_mono hk h
 unfold Oper.wpIn at *
 refine ⟨h.1,?_⟩
 have h:=h.2
 generalize (o.semAt F.round a.eval).run P w=r at *
 cases r with
 | ok x w' =>
   cases x <;> simp only [Oper.uponIn] at h ⊢ <;>
    first
     | exact h
     | exact ⟨h.1,CallsIn.mono h.2 (fun e w'' he=>by cases e <;> first | exact he | exact hp _ _ _ he | (obtain ⟨a,w,h⟩:=he; exact ⟨a,w,ho a w h⟩))⟩
     | exact ⟨h.1,RoundIn.mono h.2 (fun e w'' he=>by cases e <;> first | exact he | exact hp _ _ _ he | (obtain ⟨a,w,h⟩:=he; exact ⟨a,w,ho a w h⟩))⟩
 | halt x w'=>cases x <;> simp only [Oper.uponIn] at h ⊢ <;> first | exact h | exact hp _ _ _ h
theorem anyIn_weak {Q':Exit→Act→World→Prop} {ops:Array Oper} {md:Region.Mode} (hn:∀ a w,Q .normal a w→Q' .normal a w) (hp:∀ c a w,Q (.panic c) a w→Q' (.panic c) a w) (ho:∀ a w,Q .outgrown a w→Q' .outgrown a w):∀ (f:Nat) (listed:Array Bool) (a:Act) (w:World),wpAnyIn F n0 P md ops Q f listed a w→wpAnyIn F n0 P md ops Q' f listed a w
 | 0,_,_,_,h=>⟨h.1,hn _ _ h.2⟩
 | f+1,_,_,_,h=>⟨fun h0=>hn _ _ (h.1 h0),fun i hi=>by
   have h2:=h.2 i hi
   unfold wpOpIn at *
   split
   ·rename_i h0; simp only [h0] at h2; exact anyIn_weak hn hp ho f _ _ _ h2
   ·rename_i o h0
    simp only [h0] at h2
    split
    ·rename_i hw; simp only [hw,if_true] at h2; exact wpIn_weak (fun a w h=>anyIn_weak hn hp ho f _ a w h) hp ho h2
    ·rename_i hw; simp only [hw] at h2; exact ⟨h2.1,anyIn_weak hn hp ho f _ _ _ h2.2⟩⟩
theorem headIn_any {n:Nat} {whole:Array Oper} {tl l':List Oper} (h:LikeL n whole tl l') {k:Nat} (hk:k≤tl.length) (hg:∀ (j:Nat) (o:Oper),(l'.take k)[j]?=some o→∀ g:Nat × Bool,o.guard=some g→g.1 < k) {q:Bool} (hpl:q=true→(l'.take k).all plainB=true) (hF:∀ f,F.fn f) (hq:(if q=true then Region.lexB .any (l'.take k).toArray else chainL (l'.take k))=true) {ns:List (Bool × Nat)} {K:Act→World→Prop} (hK:∀ a w,wpStIn F n0 P whole Q ns (tl.drop k) a w→K a w) {a:Act} {w:World}
  (hs:wpStIn F n0 P whole Q ((q,k) :: ns) tl a w):wpAnyIn F n0 P .any (l'.take k).toArray (Exit.then K Q) k (Array.replicate k false) a w:=by
 have hsz:(l'.take k).length=k:=by rw [List.length_take,h.len]; omega
 cases q with
 | true =>
   rw [if_pos rfl] at hq
   have h1:=quiet_same (h.same hk hg) hs
   simp only [Region.lexB,Bool.and_eq_true] at hq
   have h2:=wpAnyQ_lex (C:=fun w'=>∃ n,w'=w.drewN n) (md:=.any) hq.1 (l'.take k) 0 (Array.replicate k false) a (by simp) (by have:=hq.2; simp only [List.size_toArray] at this; rw [hsz] at this ⊢; exact this) h1
   rw [hsz] at h2
   have h3:wpAny P .any (l'.take k).toArray (fun e a w=>e=.normal∧K a w) k (Array.replicate k false) a w:=wpAny_of_quiet (C:=fun w'=>∃ n,w'=w.drewN n) (fun a' w' hc hh=>⟨rfl,hK a' w' (hh w' hc)⟩) _ _ _ _ ⟨0,rfl⟩ h2
   have h4:=plain_any (F:=F) (n:=n0) hF (fun h=>by obtain ⟨_,_,h,_⟩:=h; cases h) (by simpa using hpl rfl) _ _ _ _ h3
   exact anyIn_weak (fun a w h=>h.2) (fun c a w h=>by cases h.1) (fun a w h=>by cases h.1) _ _ _ _ h4
 | false =>
   rw [if_neg (by decide)] at hq
   have h1:=listIn_same (h.samex hk hg) (listIn_mono hK hs)
   have h2:=chainIn_any hq (l'.take k) [] a w rfl h1
   rw [hsz] at h2
   simpa using h2
theorem stIn_any {whole:Array Oper} (hF:∀ f,F.fn f):∀ (ns:List (Bool × Nat)) (n:Nat) (tl l':List Oper) (a:Act) (w:World),LikeL n whole tl l'→stB ns l'=true→stPlain ns l'=true→wpStIn F n0 P whole Q ns tl a w→wpAnyIn F n0 P .any l'.toArray Q l'.length (Array.replicate l'.length false) a w
 | [],n,tl,l',a,w,h,hB,hPl,hs=>by
   have:l'=[]:=by simpa [stB] using hB
   subst this
   exact ⟨rfl,hs⟩
 | (q,k) :: ns,n,tl,l',a,w,h,hB,hPl,hs=>by
   unfold stB at hB
   simp only [Bool.and_eq_true] at hB
   obtain ⟨⟨hB1,hB2⟩,hB3⟩:=hB
   unfold stPlain at hPl
   simp only [Bool.and_eq_true] at hPl
   have hpl:q=true→(l'.take k).all plainB=true:=fun hq=>by have:=hPl.1; rw [hq] at this; exact this
   by_cases hk:k=l'.length
   ·rw [if_pos hk] at hB1
    have hn:ns=[]∨ns≠[]:=by cases ns <;> simp
    have hg:∀ (j:Nat) (o:Oper),(l'.take k)[j]?=some o→∀ g:Nat × Bool,o.guard=some g→g.1 < k:=fun j o ho g hgo=>by
     have hj:j < l'.length:=by have:=(List.getElem?_eq_some_iff.1 ho).1; simp at this; omega
     rw [List.getElem?_take_of_lt (by omega)] at ho
     have:=(guardOk_spec hB1 ho hgo).1 hj
     omega
    have hd:tl.drop k=[]:=List.drop_eq_nil_of_le (by rw [← h.len]; omega)
    have hd':l'.drop k=[]:=List.drop_eq_nil_of_le (by omega)
    have hend:∀ (ns:List (Bool × Nat)) (a:Act) (w:World),stB ns []=true→wpStIn F n0 P whole Q ns [] a w→Q .normal a w:=by
     intro ns
     induction ns with
     | nil=>intro a w _ h; exact h
     | cons x ns ih =>
       intro a w hb h
       obtain ⟨q,k⟩:=x
       unfold stB at hb
       simp only [Bool.and_eq_true,List.take_nil,List.drop_nil,List.map_nil] at hb
       cases q with
       | true =>
         have h':∀ w',(∃ n,w'=w.drewN n)→wpStIn F n0 P whole Q ns (([]:List Oper).drop k) a w':=by
          have h0:=h
          unfold wpStIn at h0
          rw [List.take_nil] at h0
          exact h0
         have:=h' w ⟨0,rfl⟩
         rw [List.drop_nil] at this
         exact ih a w hb.2 this
       | false =>
         have h':wpStIn F n0 P whole Q ns (([]:List Oper).drop k) a w:=by
          have h0:=h
          unfold wpStIn at h0
          rw [List.take_nil] at h0
          exact h0
         rw [List.drop_nil] at h'
         exact ih a w hb.2 h'
    rw [hd',List.map_nil] at hB3
    have h3:=headIn_any h (by rw [← h.len]; omega) hg hpl hF hB2 (K:=fun a w=>Q .normal a w) (fun a w hh=>by rw [hd] at hh; exact hend ns a w hB3 hh) hs
    rw [List.take_of_length_le (by omega)] at h3
    have h4:=wpAnyIn_unthen _ _ _ _ h3
    rw [hk] at h4
    exact h4
   ·rw [if_neg hk] at hB1
    have hB0:=hB1
    unfold stageB at hB1
    simp only [Bool.and_eq_true,decide_eq_true_eq] at hB1
    obtain ⟨⟨⟨⟨hn,hE⟩,hG⟩,hR⟩,hS⟩:=hB1
    have hsz:(l'.take k).length=k:=by rw [List.length_take]; omega
    have hg:∀ (j:Nat) (o:Oper),(l'.take k)[j]?=some o→∀ g:Nat × Bool,o.guard=some g→g.1 < k:=fun j o ho g hgo=>by
     have hj:j < k:=by have:=(List.getElem?_eq_some_iff.1 ho).1; simp at this; omega
     rw [List.getElem?_take_of_lt hj] at ho
     exact (guardOk_spec hG ho hgo).1 hj
    have happ:l'=l'.take k++l'.drop k:=(List.take_append_drop k l').symm
    have hdl:(l'.drop k).length=l'.length - k:=List.length_drop
    have h3:=headIn_any h (by rw [← h.len]; omega) hg hpl hF hB2 (K:=fun a w=>wpAnyIn F n0 P .any (l'.take k++l'.drop k).toArray Q (l'.drop k).length (Array.replicate (l'.take k).length true++Array.replicate (l'.drop k).length false) a w) (fun a w hh=>by
     refine shiftIn_any (by rw [hsz,← happ]; exact hG) _ _ a w (by simp) ?_
     have:=stIn_any hF ns (n+k) (tl.drop k) ((l'.drop k).map (shiftO k)) a w (h.next hG) hB3 hPl.2 hh
     rw [List.length_map] at this
     rw [hsz]
     exact this) hs
    have h4:=stageIn_any (hd:=l'.take k) (tl:=l'.drop k) (by rw [hsz,← happ]; exact hB0) k (Array.replicate k false) a w (by simp [hsz]) (fun j o ho hl=>by
     have hj:j < k:=by have:=(List.getElem?_eq_some_iff.1 ho).1; simp at this; omega
     rw [getD_rep _ _ hj] at hl
     cases hl) h3
    rw [← happ] at h4
    have hrep:Array.replicate k false++Array.replicate (l'.drop k).length false=Array.replicate l'.length false:=by
     apply Array.ext (by simp; omega)
     intro i h1 h2
     simp only [Array.getElem_append,Array.getElem_replicate]
     split <;> rfl
    rw [hrep] at h4
    rwa [show k+(l'.drop k).length=l'.length by omega] at h4
theorem wpIn_region_st {id:Nat} {a:Act} {w:World} {l:List Oper} (hF:∀ f,F.fn f) (ns:List (Bool × Nat)) (hm:P.follows .mixedOrders=true) (hB:stB ns l=true) (hPl:stPlain ns l=true) (h:wpStIn F n0 P l.toArray Q ns l a w.drew):(Code.region id l.toArray true).wpIn F n0 P Q a w:=by
 refine wpIn_region_any hm ?_
 have hl:LikeL 0 l.toArray l l:=⟨rfl,fun j _=>by rw [List.getElem?_toArray,Nat.zero_add],fun j o ho=>⟨o.after,by rw [ho]; congr 1; cases hg:o.guard with
  | none=>cases o; simp only at hg; subst hg; rfl
  | some g=>cases o; simp only at hg; subst hg; rfl⟩,fun _ _ _ _ _=>Nat.zero_le _⟩
 have:=stIn_any hF ns 0 l l a _ hl hB hPl h
 simpa using this
theorem wpStIn_q {ops:Array Oper} {k:Nat} {ns:List (Bool × Nat)} {l:List Oper} {a:Act} {w:World} (h:wpQuiet P ops (fun w'=>∃ n,w'=w.drewN n) (fun a'=>∀ w',(∃ n,w'=w.drewN n)→wpStIn F n0 P ops Q ns (l.drop k) a' w') (l.take k) a):wpStIn F n0 P ops Q ((true,k) :: ns) l a w:=h
theorem wpStIn_l {ops:Array Oper} {k:Nat} {ns:List (Bool × Nat)} {l:List Oper} {a:Act} {w:World} (h:wpListIn F n0 P ops (Exit.then (fun a w=>wpStIn F n0 P ops Q ns (l.drop k) a w) Q) (l.take k) a w):wpStIn F n0 P ops Q ((false,k) :: ns) l a w:=h
theorem wpStIn_end {ops:Array Oper} {l:List Oper} {a:Act} {w:World} (h:Q .normal a w):wpStIn F n0 P ops Q [] l a w:=h
end
end Go.Proofs.YthlommalbkhcjaaGreat
namespace Go.Proofs.YthlommalbkhcjaaGreat
open Go.Sort Go.RowKit
section
variable {P:Program} {ops:Array Oper} {Q:Exit→Act→World→Prop} {C:World→Prop} {ms:Nat}
def exW (w w':World):Prop:=∃ p:Regrown,w'=grow (redrawn w p.d) p.os
theorem exW_of {w w':World} (h:Below w.heap.size w w'):exW w w':=regrown_of_below h
theorem exW.below {w w':World} (h:exW w w'):Below w.heap.size w w':=by obtain ⟨p,rfl⟩:=h; exact below_regrown _ _ _
theorem exW_refl (w:World):exW w w:=back_class w
theorem exW_trans {a b c:World} (h:exW a b) (k:exW b c):exW a c:=exW_of (h.below.trans (k.below.mono h.below.size))
def offX:Exit→Act→World→Prop:=fun _ _ _=>False
def xOp (P:Program) (ops:Array Oper) (i:Nat) (K:Act→World→Prop) (a:Act) (w:World):Prop:=match ops[i]? with
 | none=>K a w
 | some o=>if Region.wanted o (yielded ops a.tmps)=true then o.wp P a w K offX else K (a.put o.dst undef) w
def wpX (P:Program) (ops:Array Oper) (C:World→Prop) (ms:Nat) (Q:Exit→Act→World→Prop):Nat→Array Bool→Act→World→Prop
 | 0,l,a,w=>(l.getD ms false=false→C w)∧∀ w',exW w w'→(l.getD ms false=true→w'=w)→Region.ready .any ops l=[]∧Q .normal a w'
 | f+1,l,a,w=>(l.getD ms false=false→C w)∧∀ w',exW w w'→(l.getD ms false=true→w'=w)→(Region.ready .any ops l=[]→Q .normal a w')∧∀ i ∈ Region.ready .any ops l,xOp P ops i (wpX P ops C ms Q f (l.setIfInBounds i true)) a w'
theorem wpX_c:∀ {f:Nat} {l:Array Bool} {a:Act} {w:World},wpX P ops C ms Q f l a w→l.getD ms false=false→C w
 | 0,_,_,_,h=>h.1
 | _+1,_,_,_,h=>h.1
theorem wpX_ext (hC:∀ x y,C x→Below x.heap.size x y→C y):∀ {f:Nat} {l:Array Bool} {a:Act} {w w':World},wpX P ops C ms Q f l a w→l.getD ms false=false→exW w w'→wpX P ops C ms Q f l a w'
 | 0,_,_,_,_,h,hl,hw=>⟨fun _=>hC _ _ (h.1 hl) hw.below,fun _ h2 _=>h.2 _ (exW_trans hw h2) fun e=>by rw [hl] at e; cases e⟩
 | _+1,_,_,_,_,h,hl,hw=>⟨fun _=>hC _ _ (h.1 hl) hw.below,fun _ h2 _=>h.2 _ (exW_trans hw h2) fun e=>by rw [hl] at e; cases e⟩
theorem wp_off {o:Oper} {a:Act} {w:World} {K:Act→World→Prop} (h:o.wp P a w K offX):o.wp P a w K Q:=by
 unfold Oper.wp at *
 generalize (execOp a.eval o).run P w=r at *
 cases r with
 | ok n w' =>
   cases n <;> simp only [Oper.upon] at h ⊢ <;>
    first
     | exact h
     | (refine Calls.mono h fun e w'' he=>?_
        cases e
        ·exact he
        ·exact he.elim
        ·obtain ⟨_,_,he⟩:=he; exact he.elim)
 | halt x w'=>cases x <;> simp only [Oper.upon] at h ⊢ <;> exact h.elim
theorem xOp_mono {i:Nat} {K K':Act→World→Prop} {a:Act} {w:World} (h:∀ a w,K a w→K' a w) (hh:xOp P ops i K a w):xOp P ops i K' a w:=by
 unfold xOp at *
 split
 ·rename_i ho; simp only [ho] at hh; exact h _ _ hh
 ·rename_i o ho
  simp only [ho] at hh
  split
  ·rename_i hw; rw [if_pos hw] at hh; exact Oper.wp_mono h hh
  ·rename_i hw; rw [if_neg hw] at hh; exact h _ _ hh
theorem wpX_any:∀ {f:Nat} {l:Array Bool} {a:Act} {w:World},wpX P ops C ms Q f l a w→wpAny P .any ops Q f l a w
 | 0,_,_,w,h=>h.2 w (exW_refl w) fun _=>rfl
 | f+1,l,a,w,h=>by
   have h:=h.2 w (exW_refl w) fun _=>rfl
   refine ⟨h.1,fun i hi=>?_⟩
   have h2:=xOp_mono (fun a w=>wpX_any) (h.2 i hi)
   unfold xOp at h2
   unfold wpOp
   split
   ·rename_i ho; simp only [ho] at h2; exact h2
   ·rename_i o ho
    simp only [ho] at h2
    split
    ·rename_i hw; rw [if_pos hw] at h2; exact .inl (wp_off h2)
    ·rename_i hw; rw [if_neg hw] at h2; exact h2
def YieldsX (P:Program) (ops:Array Oper) (C:World→Prop) (o:Oper) (v:Value) (a:Act):Prop :=
 (Region.wanted o (yielded ops a.tmps)=true∧∀ w,C w→o.quietAt P a (exW w) w v)∨(Region.wanted o (yielded ops a.tmps)=false∧v=undef)
theorem YieldsX.xOp {i:Nat} {o:Oper} {v:Value} {a:Act} {w:World} (hi:ops[i]?=some o) (hy:YieldsX P ops C o v a) (hw:C w) {K:Act→World→Prop} (h:∀ w',exW w w'→K (a.put o.dst v) w'):xOp P ops i K a w:=by
 unfold Go.Proofs.YthlommalbkhcjaaGreat.xOp
 simp only [hi]
 rcases hy with ⟨hg,hv⟩ | ⟨hg,rfl⟩
 ·rw [if_pos hg]
  have h3:=hv w hw
  unfold Oper.quietAt at h3
  unfold Oper.wp
  generalize (execOp a.eval o).run P w=r at *
  cases r with
  | ok n w' =>
    cases n <;> simp only [Oper.quietUpon] at h3 <;> simp only [Oper.upon]
    case value u =>
     obtain ⟨e1,e2⟩:=h3
     rw [e1,e2]
     exact h _ (exW_refl _)
    case skip =>
     obtain ⟨e1,e2⟩:=h3
     rw [e1,← e2]
     exact h _ (exW_refl _)
    case enter f args =>
     obtain ⟨e1,hc⟩:=h3
     rw [e1]
     exact hc.mono fun e w'' ⟨he,hw''⟩=>by subst he; exact h _ hw''
  | halt x w'=>simp only [Oper.quietUpon] at h3
 ·rw [if_neg (by rw [hg]; decide)]
  exact h _ (exW_refl _)
theorem YieldsX.of_same {o:Oper} {v:Value} {a a':Act} (hy:YieldsX P ops C o v a) (he:execOp a'.eval o=execOp a.eval o)
  (hw:Region.wanted o (yielded ops a'.tmps)=Region.wanted o (yielded ops a.tmps)):YieldsX P ops C o v a':=by
 unfold YieldsX Oper.quietAt at *
 rw [he,hw]
 exact hy
theorem put_defer (a:Act) (d:Deferred) (x y:Option Tmp) (v u:Value) (h:∀ k,x=some k→y≠some k):({ (a.put x v) with defers:=d :: (a.put x v).defers }:Act).put y u=(({ a with defers:=d :: a.defers }:Act).put y u).put x v:=by
 have e:({ (a.put x v) with defers:=d :: (a.put x v).defers }:Act)=({ a with defers:=d :: a.defers }:Act).put x v:=by cases x <;> rfl
 rw [e,Act.put_comm _ v u h]
theorem eval_defer (a:Act) (d:List Deferred):({ a with defers:=d }:Act).eval=a.eval:=by funext x; cases x <;> rfl
theorem xOp_put {j:Nat} {oi oj:Oper} {v:Value} (hj:ops[j]?=some oj) (hap:oi.apart ops oj=true) (hsi:∀ cs b,oi.op≠.select cs b) (hsj:∀ cs b,oj.op≠.select cs b) {K:Act→World→Prop} {a:Act} {w:World}
  (hy:YieldsX P ops C oi v a) (h:xOp P ops j K (a.put oi.dst v) w):xOp P ops j (fun a' w'=>YieldsX P ops C oi v a'∧K (a'.put oi.dst v) w') a w:=by
 obtain ⟨h1,h2,h3⟩:=Oper.apart_spec hap
 have keep:∀ (a:Act),YieldsX P ops C oi v a→∀ u,YieldsX P ops C oi v (a.put oj.dst u):=fun a hy u =>
  hy.of_same (execOp_put oi hsi a oj.dst u h3) (wanted_put oi a oj.dst u h3)
 unfold xOp at *
 simp only [hj] at *
 rw [wanted_put oj a oi.dst v h1] at h
 split
 ·rename_i hw
  rw [if_pos hw] at h
  unfold Oper.wp at *
  rw [execOp_put oj hsj a oi.dst v h1] at h
  generalize (execOp a.eval oj).run P w=r at *
  cases r with
  | ok n w' =>
    cases n <;> simp only [Oper.upon] at h ⊢
    case value u=>exact ⟨keep a hy u,by rw [← Act.put_comm a v u h2]; exact h⟩
    case skip=>exact ⟨keep a hy _,by rw [← Act.put_comm a v undef h2]; exact h⟩
    case defer d =>
     refine ⟨?_,by rw [← put_defer a d _ _ v undef h2]; exact h⟩
     have hy':YieldsX P ops C oi v ({ a with defers:=d :: a.defers }:Act):=hy.of_same (by rw [eval_defer]) rfl
     exact hy'.of_same (execOp_put oi hsi _ oj.dst undef h3) (wanted_put oi _ oj.dst undef h3)
    case enter f args =>
     refine Calls.mono h fun e w'' he=>?_
     cases e with
     | returned u=>exact ⟨keep a hy u,by rw [← Act.put_comm a v u h2]; exact he⟩
     | panicked c=>exact he
     | outgrown=>exact he
    case row row args =>
     exact Rows.mono h fun u w'' he=>⟨keep a hy u,by rw [← Act.put_comm a v u h2]; exact he⟩
    all_goals exact h
  | halt x w'=>cases x <;> simp only [Oper.upon] at h ⊢ <;> exact h
 ·rename_i hw
  rw [if_neg hw] at h
  exact ⟨keep a hy _,by rw [← Act.put_comm a v undef h2]; exact h⟩
def ClosedX (ops:Array Oper) (l:Array Bool):Prop:=∀ (j:Nat) (o:Oper),ops[j]?=some o→l.getD j false=true→∀ e ∈ o.after,Region.binds .any e=true→l.getD e.on false=true
theorem ClosedX.set {l:Array Bool} {j:Nat} (h:ClosedX ops l) (hj:j ∈ Region.ready .any ops l):ClosedX ops (l.setIfInBounds j true):=by
 intro k o hk hl e he hb
 by_cases hkj:j=k
 ·subst hkj
  obtain ⟨_,o',ho',hall⟩:=mem_ready.1 hj
  rw [hk] at ho'
  injection ho' with ho'
  subst ho'
  exact getD_set_true (hall e he hb)
 ·rw [getD_set_ne false hkj] at hl
  exact getD_set_true (h k o hk hl e he hb)
def AwaitsX (ops:Array Oper) (ms i:Nat):Prop:=∀ o,ops[ms]?=some o→∀ p:Nat→Prop,(∀ e ∈ o.after,Region.binds .any e=true→p e.on)→(∀ (k:Nat) (o':Oper),ops[k]?=some o'→p k→∀ e ∈ o'.after,Region.binds .any e=true→p e.on)→p i
theorem AwaitsX.ne {l:Array Bool} {i j:Nat} (ha:AwaitsX ops ms i) (hc:ClosedX ops l) (hi:l.getD i true=false) (hj:j ∈ Region.ready .any ops l):j≠ms:=by
 rintro rfl
 obtain ⟨_,o,ho,hall⟩:=mem_ready.1 hj
 have:=ha o ho (fun k=>l.getD k false=true) hall hc
 rcases Nat.lt_or_ge i l.size with h' | h'
 ·simp [h'] at hi this; rw [hi] at this; cases this
 ·simp [Array.getElem?_eq_none h'] at hi
theorem wpX_first (hC:∀ x y,C x→Below x.heap.size x y→C y) {i:Nat} {oi:Oper} {v:Value} (hi:ops[i]?=some oi) (hsel:∀ (j:Nat) (o:Oper) cs b,ops[j]?=some o→o.op≠.select cs b) (haw:AwaitsX ops ms i) (him:i≠ms) :
  ∀ (fuel:Nat) (listed:Array Bool) (a:Act) (w:World),ClosedX ops listed→listed.getD ms false=false →
    (∀ j oj,ops[j]?=some oj→j≠i→listed.getD j true=false→(∀ e ∈ oj.after,Region.binds .any e=true→e.on≠i)→oi.apart ops oj=true) →
    i ∈ Region.ready .any ops listed→YieldsX P ops C oi v a →
    wpX P ops C ms Q fuel (listed.setIfInBounds i true) (a.put oi.dst v) w→wpX P ops C ms Q (fuel+1) listed a w:=by
 intro fuel
 induction fuel with
 | zero =>
   intro listed a w hcl hml _ hr hy H
   have hml':(listed.setIfInBounds i true).getD ms false=false:=by rw [getD_set_ne false him]; exact hml
   refine ⟨fun _=>wpX_c H hml',fun w' hw' _=>⟨fun h=>(by rw [h] at hr; cases hr),fun j hj=>?_⟩⟩
   have H':=wpX_ext hC H hml' hw'
   by_cases hji:j=i
   ·subst hji; exact hy.xOp hi (wpX_c H' hml') fun w'' h2=>wpX_ext hC H' hml' h2
   ·have:=ready_mono hj hji
    rw [(H'.2 w' (exW_refl _) fun _=>rfl).1] at this
    cases this
 | succ fuel ih =>
   intro listed a w hcl hml hfree hr hy H
   have hml':(listed.setIfInBounds i true).getD ms false=false:=by rw [getD_set_ne false him]; exact hml
   refine ⟨fun _=>wpX_c H hml',fun w' hw' _=>⟨fun h=>(by rw [h] at hr; cases hr),fun j hj=>?_⟩⟩
   have H':=wpX_ext hC H hml' hw'
   by_cases hji:j=i
   ·subst hji; exact hy.xOp hi (wpX_c H' hml') fun w'' h2=>wpX_ext hC H' hml' h2
   ·have h1:=(H'.2 w' (exW_refl _) fun _=>rfl).2 j (ready_mono hj hji)
    obtain ⟨hjun,oj,hoj,hall⟩:=mem_ready.1 hj
    have hjm:=haw.ne hcl (mem_ready.1 hr).1 hj
    have hnot:∀ e ∈ oj.after,Region.binds .any e=true→e.on≠i:=fun e he hb heq=>by
     have h1:=hall e he hb
     have h0:=(mem_ready.1 hr).1
     rw [heq] at h1
     rcases Nat.lt_or_ge i listed.size with h' | h'
     ·simp [h'] at h0 h1; rw [h0] at h1; cases h1
     ·simp [Array.getElem?_eq_none h'] at h1
    have h2:=xOp_put hoj (hfree j oj hoj hji hjun hnot) (fun cs b=>hsel i oi cs b hi) (fun cs b=>hsel j oj cs b hoj) hy h1
    have hfree':∀ k ok,ops[k]?=some ok→k≠i→(listed.setIfInBounds j true).getD k true=false →
      (∀ e ∈ ok.after,Region.binds .any e=true→e.on≠i)→oi.apart ops ok=true:=fun k ok hk hki hun hno=>by
     refine hfree k ok hk hki ?_ hno
     by_cases hjk:j=k
     ·subst hjk; exact hjun
     ·rw [getD_set_ne true hjk] at hun; exact hun
    refine xOp_mono (fun a' w'' h3=>ih (listed.setIfInBounds j true) a' w'' (hcl.set hj) (by rw [getD_set_ne false hjm]; exact hml) hfree' (ready_mono hr (Ne.symm hji)) h3.1 ?_) h2
    rw [Array.setIfInBounds_comm _ _ hji]
    exact h3.2
/-! ### The two kinds -/
def pickSeg:List (Bool × Nat)→Bool→List Oper→List Oper
 | [],_,_=>[]
 | (q,n) :: r,b,l=>if q=b then l.take n++pickSeg r b (l.drop n) else pickSeg r b (l.drop n)
theorem pick_nil (b:Bool) (l:List Oper):pickSeg [] b l=[]:=rfl
theorem pick_tt (n:Nat) (r:List (Bool × Nat)) (l:List Oper):pickSeg ((true,n) :: r) true l=l.take n++pickSeg r true (l.drop n):=rfl
theorem pick_ff (n:Nat) (r:List (Bool × Nat)) (l:List Oper):pickSeg ((false,n) :: r) false l=l.take n++pickSeg r false (l.drop n):=rfl
theorem pick_tf (n:Nat) (r:List (Bool × Nat)) (l:List Oper):pickSeg ((true,n) :: r) false l=pickSeg r false (l.drop n):=rfl
theorem pick_ft (n:Nat) (r:List (Bool × Nat)) (l:List Oper):pickSeg ((false,n) :: r) true l=pickSeg r true (l.drop n):=rfl
def idxSeg:List (Bool × Nat)→Bool→Nat→List Nat
 | [],_,_=>[]
 | (q,n) :: r,b,k=>if q=b then List.range' k n++idxSeg r b (k+n) else idxSeg r b (k+n)
theorem take_range (l:List Oper):∀ (n k:Nat),(l.drop k).take n=(List.range' k n).filterMap (l[·]?)
 | 0,_=>by simp
 | n+1,k=>by
   rw [List.range'_succ,List.filterMap_cons,← take_range l n (k+1)]
   cases h:l[k]? with
   | none =>
     have:=List.getElem?_eq_none_iff.1 h
     rw [List.drop_eq_nil_of_le this,List.drop_eq_nil_of_le (by omega)]
     simp
   | some o =>
     have hk:=(List.getElem?_eq_some_iff.1 h).1
     rw [List.drop_eq_getElem_cons hk,List.take_succ_cons]
     have:=(List.getElem?_eq_some_iff.1 h).2
     rw [this]
theorem pick_idx (l:List Oper) (b:Bool):∀ (ns:List (Bool × Nat)) (k:Nat),pickSeg ns b (l.drop k)=(idxSeg ns b k).filterMap (l[·]?)
 | [],_=>rfl
 | (q,n) :: r,k=>by
   unfold pickSeg idxSeg
   rw [List.drop_drop,pick_idx l b r (k+n),take_range l n k]
   split
   ·rw [List.filterMap_append]
   ·rfl
def mixSeq (ops:Array Oper):List Nat→Array Bool→Bool
 | [],listed=>(Region.ready .any ops listed).isEmpty
 | m :: r,listed=>Region.ready .any ops listed == [m] && mixSeq ops r (listed.setIfInBounds m true)
def mixFrom (ops:Array Oper) (ms:List Nat):List Nat→Array Bool→Bool
 | [],listed=>mixSeq ops ms listed
 | i :: r,listed=>(Region.ready .any ops listed).contains i && Region.free .any ops listed i && mixFrom ops ms r (listed.setIfInBounds i true)
def dstB (size:Nat) (l:List Oper):Bool:=match l with
 | []=>true
 | o :: r=>(match o.dst with | some d=>decide (d < size) && r.all fun o'=>o'.dst != some d | none=>false) && dstB size r
def mBack (l:List Oper) (o:Oper):Nat→Nat→Bool
 | 0,j=>o.after.toList.any fun e=>Region.binds .any e && e.on == j
 | n+1,j=>(o.after.toList.any fun e=>Region.binds .any e && e.on == j) || l.zipIdx.any fun y=>(y.1.after.toList.any fun e=>Region.binds .any e && e.on == j) && mBack l o n y.2
theorem mBack_ok {l:List Oper} {o:Oper} (p:Nat→Prop) (h1:∀ e ∈ o.after,Region.binds .any e=true→p e.on) (h2:∀ (k:Nat) (o':Oper),l.toArray[k]?=some o'→p k→∀ e ∈ o'.after,Region.binds .any e=true→p e.on):∀ (n j:Nat),mBack l o n j=true→p j
 | 0,j,h=>by
   unfold mBack at h
   obtain ⟨e,he,hb⟩:=List.any_eq_true.1 h
   simp only [Bool.and_eq_true,beq_iff_eq] at hb
   rw [← hb.2]; exact h1 e (by simpa using he) hb.1
 | n+1,j,h=>by
   unfold mBack at h
   rcases Bool.or_eq_true_iff.1 h with h | h
   ·obtain ⟨e,he,hb⟩:=List.any_eq_true.1 h
    simp only [Bool.and_eq_true,beq_iff_eq] at hb
    rw [← hb.2]; exact h1 e (by simpa using he) hb.1
   ·obtain ⟨y,hy,hyb⟩:=List.any_eq_true.1 h
    obtain ⟨hb1,hb2⟩:=Bool.and_eq_true_iff.1 hyb
    obtain ⟨e,he,hb⟩:=List.any_eq_true.1 hb1
    simp only [Bool.and_eq_true,beq_iff_eq] at hb
    rw [← hb.2]
    exact h2 y.2 y.1 (by rw [List.getElem?_toArray]; exact List.mem_zipIdx_iff_getElem?.1 hy) (mBack_ok p h1 h2 n y.2 hb2) e (by simpa using he) hb.1
def msOf (ns:List (Bool × Nat)) (c len:Nat):Nat:=((idxSeg ns false 0)[c - 1]?).getD len
def seqMs (ms:Nat):List Nat→Nat→Bool
 | [],_=>true
 | _,0=>true
 | j :: _,1=>j == ms
 | j :: r,c+2=>j != ms && seqMs ms r (c+1)
def awaitB (l:List Oper) (ms:Nat) (qs:List Nat):Bool:=match l[ms]? with
 | none=>true
 | some o=>qs.all fun i=>mBack l o 16 i
def mixB (ns:List (Bool × Nat)) (c:Nat) (l:List Oper) (size:Nat):Bool :=
 Region.noSelect l.toArray && dstB size (pickSeg ns true l) && mixFrom l.toArray (idxSeg ns false 0) (idxSeg ns true 0) (Array.replicate l.length false) && decide ((idxSeg ns true 0).length+(idxSeg ns false 0).length=l.length) &&
 awaitB l (msOf ns c l.length) (idxSeg ns true 0) && (idxSeg ns true 0).all (fun i=>i != msOf ns c l.length) && seqMs (msOf ns c l.length) (idxSeg ns false 0) c && decide (0 < c)
def wpMix (P:Program) (ops:Array Oper) (C:World→Prop) (Q:Exit→Act→World→Prop):Nat→List Oper→Act→World→Prop
 | 0,l,a,w=>wpList P ops (Exit.then (fun a w=>Q .normal a w) offX) l a w
 | _+1,[],a,w=>C w∧∀ w',exW w w'→Q .normal a w'
 | c+1,o :: rest,a,w=>C w∧∀ w',exW w w'→wpList P ops (Exit.then (wpMix P ops C Q c rest) offX) [o] a w'
theorem xOp_list {l:List Oper} {o:Oper} {m:Nat} {K:Act→World→Prop} {Q0:Exit→Act→World→Prop} {rest:List Oper} {a:Act} {w:World} (ho:l.toArray[m]?=some o) (h:wpList P l.toArray (Exit.then (fun a w=>Q0 .normal a w) offX) (o :: rest) a w) (hK:∀ a w,wpList P l.toArray (Exit.then (fun a w=>Q0 .normal a w) offX) rest a w→K a w):xOp P l.toArray m K a w:=by
 unfold xOp
 simp only [ho]
 unfold wpList at h
 split
 ·rename_i hw
  rw [if_pos hw] at h
  rcases h with h | ⟨_,_,_,h⟩
  ·exact wp_unthen (K0:=fun a w=>Q0 .normal a w) (Oper.wp_mono (fun a w hh=>hK a w hh) h)
  ·exact h.elim
 ·rename_i hw
  rw [if_neg hw] at h
  exact hK _ _ h
theorem seq_plain {l:List Oper}:∀ (js:List Nat) (listed:Array Bool) (a:Act) (w:World),mixSeq l.toArray js listed=true→listed.getD ms false=true→wpList P l.toArray (Exit.then (fun a w=>Q .normal a w) offX) (js.filterMap (l[·]?)) a w→wpX P l.toArray C ms Q js.length listed a w
 | [],listed,a,w,hB,hm,h=>by
   unfold mixSeq at hB
   refine ⟨fun e=>(by rw [hm] at e; cases e),fun w' _ hw'=>⟨List.isEmpty_iff.1 hB,?_⟩⟩
   rw [hw' hm]
   exact h
 | m :: r,listed,a,w,hB,hm,h=>by
   unfold mixSeq at hB
   obtain ⟨h1,h2⟩:=Bool.and_eq_true_iff.1 hB
   have h1:Region.ready .any l.toArray listed=[m]:=by simpa using h1
   have hmr:m ∈ Region.ready .any l.toArray listed:=by rw [h1]; exact List.mem_cons_self
   obtain ⟨_,o,ho,_⟩:=mem_ready.1 hmr
   have ho':l[m]?=some o:=by simpa using ho
   rw [List.filterMap_cons,ho'] at h
   have h:wpList P l.toArray (Exit.then (fun a w=>Q .normal a w) offX) (o :: r.filterMap (l[·]?)) a w:=h
   refine ⟨fun e=>(by rw [hm] at e; cases e),fun w' _ hw'=>⟨fun h0=>(by rw [h1] at h0; cases h0),fun i hi=>?_⟩⟩
   rw [hw' hm]
   rw [h1] at hi
   obtain rfl:i=m:=by simpa using hi
   exact xOp_list ho h fun a w hh=>seq_plain r _ a w h2 (getD_set_true hm) hh
theorem getD_set_self {l:Array Bool} {i:Nat} (h:l.getD i true=false):(l.setIfInBounds i true).getD i false=true:=by
 rcases Nat.lt_or_ge i l.size with h' | h'
 ·simp [h']
 ·simp [Array.getElem?_eq_none h'] at h
theorem mix_seq {l:List Oper}:∀ (js:List Nat) (c:Nat) (listed:Array Bool) (a:Act) (w:World),mixSeq l.toArray js listed=true→seqMs ms js (c+1)=true→listed.getD ms false=false→wpMix P l.toArray C Q (c+1) (js.filterMap (l[·]?)) a w→wpX P l.toArray C ms Q js.length listed a w
 | [],c,listed,a,w,hB,_,_,h=>by
   unfold mixSeq at hB
   exact ⟨fun _=>h.1,fun w' hw' _=>⟨List.isEmpty_iff.1 hB,h.2 w' hw'⟩⟩
 | m :: r,c,listed,a,w,hB,hs,hml,h=>by
   unfold mixSeq at hB
   obtain ⟨h1,h2⟩:=Bool.and_eq_true_iff.1 hB
   have h1:Region.ready .any l.toArray listed=[m]:=by simpa using h1
   have hm:m ∈ Region.ready .any l.toArray listed:=by rw [h1]; exact List.mem_cons_self
   obtain ⟨hun,o,ho,_⟩:=mem_ready.1 hm
   have ho':l[m]?=some o:=by simpa using ho
   rw [List.filterMap_cons,ho'] at h
   have h:wpMix P l.toArray C Q (c+1) (o :: r.filterMap (l[·]?)) a w:=h
   refine ⟨fun _=>h.1,fun w' hw' _=>⟨fun h0=>(by rw [h1] at h0; cases h0),fun i hi=>?_⟩⟩
   rw [h1] at hi
   obtain rfl:i=m:=by simpa using hi
   refine xOp_list (Q0:=fun _ a w=>wpMix P l.toArray C Q c (r.filterMap (l[·]?)) a w) ho (h.2 w' hw') fun a w hh=>?_
   have hh:wpMix P l.toArray C Q c (r.filterMap (l[·]?)) a w:=hh
   cases c with
   | zero =>
     obtain rfl:i=ms:=by simpa [seqMs] using hs
     exact seq_plain r _ a w h2 (getD_set_self hun) hh
   | succ c =>
     have hs2:i≠ms∧seqMs ms r (c+1)=true:=by simpa [seqMs] using hs
     exact mix_seq r c _ a w h2 hs2.2 (by rw [getD_set_ne false hs2.1]; exact hml) hh
theorem quiet_keep {C:World→Prop} {a':Act} {d:Nat}:∀ {s:List Oper} {b:Act},wpQuiet P ops C (fun x=>x=a') s b→(∀ o ∈ s,o.dst≠some d)→a'.eval (.tmp d)=b.eval (.tmp d)
 | [],b,h,_=>by have h:b=a':=h; rw [h]
 | o :: s,b,h,hd=>by
   unfold wpQuiet at h
   have hne:∀ v,(b.put o.dst v).eval (.tmp d)=b.eval (.tmp d):=fun v=>Act.eval_put fun k hk hkd=>hd o List.mem_cons_self (by rw [hk]; injection hkd with hkd; rw [hkd])
   split at h
   ·obtain ⟨v,_,h⟩:=h
    rw [quiet_keep h fun o' ho'=>hd o' (List.mem_cons_of_mem _ ho'),hne]
   ·rw [quiet_keep h fun o' ho'=>hd o' (List.mem_cons_of_mem _ ho'),hne]
theorem quiet_first {a a':Act} {o:Oper} {s:List Oper} (hd:dstB a.tmps.size (o :: s)=true) (h:∀ w,C w→wpQuiet P ops (exW w) (fun x=>x=a') (o :: s) a) :
  ∃ v,YieldsX P ops C o v a∧dstB (a.put o.dst v).tmps.size s=true∧∀ w,C w→wpQuiet P ops (exW w) (fun x=>x=a') s (a.put o.dst v):=by
 unfold dstB at hd
 obtain ⟨hd1,hd2⟩:=Bool.and_eq_true_iff.1 hd
 have hsz:∀ (x:Option Tmp) (v:Value),(a.put x v).tmps.size=a.tmps.size:=fun x v=>by cases x <;> simp [Act.put]
 cases hw:Region.wanted o (yielded ops a.tmps) with
 | false =>
   refine ⟨undef,.inr ⟨hw,rfl⟩,by rw [hsz]; exact hd2,fun w hC=>?_⟩
   have:=h w hC
   unfold wpQuiet at this
   rwa [if_neg (by rw [hw]; decide)] at this
 | true =>
   cases ho:o.dst with
   | none=>rw [ho] at hd1; cases hd1
   | some d =>
     rw [ho] at hd1
     simp only [Bool.and_eq_true,decide_eq_true_eq,List.all_eq_true,bne_iff_ne] at hd1
     have key:∀ w,C w→(∀ w',exW w w'→o.quietAt P a (exW w) w' (a'.eval (.tmp d)))∧wpQuiet P ops (exW w) (fun x=>x=a') s (a.put (some d) (a'.eval (.tmp d))):=fun w hC=>by
      have:=h w hC
      unfold wpQuiet at this
      rw [if_pos hw] at this
      obtain ⟨v,h1,h2⟩:=this
      rw [ho] at h2
      have h3:=quiet_keep h2 fun o' ho'=>hd1.2 o' ho'
      have h4:(a.put (some d) v).eval (.tmp d)=v:=by simp [Act.put,Act.eval,hd1.1]
      rw [h4] at h3
      rw [h3]
      exact ⟨h1,h2⟩
     exact ⟨a'.eval (.tmp d),.inl ⟨hw,fun w hC=>(key w hC).1 w (exW_refl w)⟩,by rw [hsz]; exact hd2,fun w hC=>(key w hC).2⟩
theorem await_ok {l:List Oper} {qs:List Nat} (h:awaitB l ms qs=true):∀ i ∈ qs,AwaitsX l.toArray ms i:=fun i hi o ho p h1 h2=>by
 unfold awaitB at h
 rw [List.getElem?_toArray] at ho
 rw [ho] at h
 exact mBack_ok p h1 h2 16 i (List.all_eq_true.1 h i hi)
theorem mix_from {l:List Oper} {a':Act} {js:List Nat} {c:Nat} (hC:∀ x y,C x→Below x.heap.size x y→C y) (hs:Region.noSelect l.toArray=true) (hq:seqMs ms js (c+1)=true) {w:World} (hw:C w) (hm:wpMix P l.toArray C Q (c+1) (js.filterMap (l[·]?)) a' w):∀ (qs:List Nat) (listed:Array Bool) (a:Act),(∀ i ∈ qs,AwaitsX l.toArray ms i∧i≠ms)→ClosedX l.toArray listed→listed.getD ms false=false→mixFrom l.toArray js qs listed=true→dstB a.tmps.size (qs.filterMap (l[·]?))=true →
  (∀ w,C w→wpQuiet P l.toArray (exW w) (fun x=>x=a') (qs.filterMap (l[·]?)) a)→wpX P l.toArray C ms Q (qs.length+js.length) listed a w
 | [],listed,a,_,_,hml,hB,_,h=>by
   obtain rfl:a=a':=h w hw
   rw [List.length_nil,Nat.zero_add]
   exact mix_seq js c listed a w hB hq hml hm
 | i :: r,listed,a,haw,hcl,hml,hB,hd,h=>by
   unfold mixFrom at hB
   simp only [Bool.and_eq_true] at hB
   obtain ⟨⟨h1,h2⟩,h3⟩:=hB
   have hi:i ∈ Region.ready .any l.toArray listed:=by simpa using h1
   obtain ⟨_,o,ho,_⟩:=mem_ready.1 hi
   have ho':l[i]?=some o:=by simpa using ho
   rw [List.filterMap_cons,ho'] at hd h
   obtain ⟨v,hy,hd',hq'⟩:=quiet_first hd h
   obtain ⟨haw1,haw2⟩:=haw i List.mem_cons_self
   rw [List.length_cons,show r.length+1+js.length=r.length+js.length+1 by omega]
   exact wpX_first hC ho (Region.noSelect_spec hs) haw1 haw2 _ listed a w hcl hml (Region.free_spec ho h2) hi hy (mix_from hC hs hq hw hm r _ _ (fun k hk=>haw k (List.mem_cons_of_mem _ hk)) (hcl.set hi) (by rw [getD_set_ne false haw2]; exact hml) h3 hd' hq')
theorem wp_region_mix {id:Nat} {l:List Oper} {a a':Act} {w:World} (ns:List (Bool × Nat)) (c:Nat) (hm:P.follows .mixedOrders=true) (C:World→Prop) (hC:∀ x y,C x→Below x.heap.size x y→C y) (hB:mixB ns (c+1) l a.tmps.size=true) (hw:C w)
  (hq:∀ wz,C wz→wpQuiet P l.toArray (fun w'=>∃ p:Regrown,w'=grow (redrawn wz p.d) p.os) (fun x=>x=a') (pickSeg ns true l) a)
  (h:∀ wz,Below w.heap.size w wz→wpMix P l.toArray C Q (c+1) (pickSeg ns false l) a' wz):(Code.region id l.toArray true).wp P Q a w:=by
 unfold mixB at hB
 simp only [Bool.and_eq_true,decide_eq_true_eq] at hB
 obtain ⟨⟨⟨⟨⟨⟨⟨h1,h2⟩,h3⟩,h4⟩,h5⟩,h6⟩,h7⟩,_⟩:=hB
 have p1:=pick_idx l true ns 0
 have p2:=pick_idx l false ns 0
 rw [List.drop_zero] at p1 p2
 refine wp_region_any hm ?_
 have hw':Below w.heap.size w { w with drawn:=w.drawn+1 }:=⟨rfl,rfl,rfl,Nat.le_refl _,fun _ _=>rfl⟩
 have hx:=h _ hw'
 rw [p2] at hx
 rw [p1] at h2 hq
 have hfalse:∀ k d,(Array.replicate l.length false).getD k d=true→d=true:=fun k d hk=>by
  rw [Array.getD_eq_getD_getElem?,Array.getElem?_replicate] at hk
  split at hk
  ·cases hk
  ·exact hk
 have:=mix_from hC h1 h7 (hC _ _ hw hw') hx (idxSeg ns true 0) (Array.replicate l.length false) a (fun i hi=>⟨await_ok h5 i hi,by have:=List.all_eq_true.1 h6 i hi; simpa using this⟩) (fun j o _ hl=>by have:=hfalse j false hl; cases this) (by
  cases hk:(Array.replicate l.length false).getD (msOf ns (c+1) l.length) false with
  | false=>rfl
  | true=>have:=hfalse _ _ hk; cases this) h3 h2 hq
 rw [h4] at this
 have:=wpX_any this
 simpa using this
theorem wpMix_pure {o:Oper} {rest:List Oper} {a:Act} {w:World} {c:Nat} (hC:∀ x y,C x→Below x.heap.size x y→C y) (hw:C w) (x:Operand) (ho:o.op=.assign x∨o.op=.move x) (hg:o.guard=none) (h:∀ w',Below w.heap.size w w'→C w'→wpMix P ops C Q c rest (a.put o.dst (a.eval x)) w'):wpMix P ops C Q (c+1) (o :: rest) a w:=by
 refine ⟨hw,fun w' hw'=>?_⟩
 unfold wpList
 rw [if_pos (by unfold Region.wanted; rw [hg])]
 refine .inl ?_
 unfold Oper.wp
 have hr:(execOp a.eval o).run P w'=.ok (.value (a.eval x)) w':=by
  rcases ho with ho | ho
  ·exact BigFrame.run_assign x ho w'
  ·exact BigFrame.run_move x ho w'
 rw [hr]
 exact h w' hw'.below (hC _ _ hw hw'.below)
theorem wpMix_step {o:Oper} {rest:List Oper} {a:Act} {w:World} {c:Nat} (hw:C w) (h:∀ w',Below w.heap.size w w'→wpList P ops (Exit.then (wpMix P ops C Q c rest) offX) [o] a w'):wpMix P ops C Q (c+1) (o :: rest) a w:=⟨hw,fun w' hw'=>h w' hw'.below⟩
theorem wpMix_plain {l:List Oper} {a:Act} {w:World} (h:wpList P ops (Exit.then (fun a w=>Q .normal a w) offX) l a w):wpMix P ops C Q 0 l a w:=h
end
end Go.Proofs.YthlommalbkhcjaaGreat
namespace Go.Proofs.YthlommalbkhcjaaGreat
open Go.Sort
section
variable {n0 lp:Nat} {P:Program} {Q:Exit→Act→World→Prop}
def noDefer (o:Oper):Bool:=match o.op with
 | .defer _=>false
 | _=>true
theorem noDefer_ne {o:Oper} (h:noDefer o=true) (c:Call):o.op≠.defer c:=fun e=>by
 unfold noDefer at h
 rw [e] at h
 cases h
theorem rowsIn_wide {row:String} {args:Array Value} {w:World} {R:Value→World→Prop} (h:Rows P row args w R):RowsIn Fence.wide n0 P row args w R :=
 fun c cs _=>let ⟨v,w',r,s⟩:=h c cs; ⟨v,w',r,stepsIn_wide.2 s⟩
theorem wide_wpIn {o:Oper} (hd:noDefer o=true) {a:Act} {w:World} {K:Act→World→Prop} (hw:o.wp P a w K Q):o.wpIn (Fence.wide.inRound lp) n0 P a w K Q:=by
 refine ⟨fun f _=>trivial,?_⟩
 rw [Oper.semAt_eq _ _ _ (noDefer_ne hd)]
 unfold Oper.wp at hw
 generalize (execOp a.eval o).run P w=r at hw
 cases r with
 | ok x w' =>
   cases x with
   | value v=>exact hw
   | skip=>exact hw
   | defer d=>exact hw
   | enter f args=>exact ⟨fun h=>(by cases h),CallsIn.inRound lp (callsIn_wide.2 hw)⟩
   | row row args=>exact ⟨fun h=>(by cases h),rowsIn_wide hw⟩
   | _=>exact hw.elim
 | halt x w'=>cases x <;> exact hw
theorem wide_any (hQ:¬ LetsOut Q) {ops:Array Oper} {md:Region.Mode} (hp:ops.toList.all noDefer=true):∀ (fuel:Nat) (listed:Array Bool) (a:Act) (w:World),wpAny P md ops Q fuel listed a w→wpAnyIn (Fence.wide.inRound lp) n0 P md ops Q fuel listed a w
 | 0,_,_,_,h=>h
 | fuel+1,listed,a,w,h=>by
   refine ⟨h.1,fun i hi=>?_⟩
   have h2:=h.2 i hi
   unfold wpOp at h2
   unfold wpOpIn
   cases ho:ops[i]? with
   | none=>rw [ho] at h2; exact wide_any hQ hp fuel _ a w h2
   | some o =>
     rw [ho] at h2
     simp only at h2 ⊢
     split
     ·rename_i hw
      rw [if_pos hw] at h2
      rcases h2 with h2 | h2
      ·exact Oper.wpIn_mono (fun a w h=>wide_any hQ hp fuel _ a w h) (wide_wpIn (List.all_eq_true.1 hp o (Array.mem_toList_iff.2 (Array.mem_of_getElem? ho))) h2)
      ·exact absurd h2.2 hQ
     ·rename_i hw
      rw [if_neg hw] at h2
      exact ⟨fun f _=>trivial,wide_any hQ hp fuel _ _ w h2⟩
theorem wpIn_region_wide {id:Nat} {a:Act} {w:World} {l:List Oper} (hd:l.all noDefer=true) (hm:P.follows .mixedOrders=true)
  (h:wpAny P .any l.toArray (fun e a w=>e=.normal∧Q .normal a w) l.length (Array.replicate l.length false) a { w with drawn:=w.drawn+1 }):(Code.region id l.toArray true).wpIn (Fence.wide.inRound lp) n0 P Q a w:=by
 refine wpIn_mono (Q:=fun e a w=>e=.normal∧Q .normal a w) ?_ fun e a w h=>by obtain ⟨rfl,h⟩:=h; exact h
 refine wpIn_region_any hm (wide_any (fun h=>by obtain ⟨_,_,h,_⟩:=h; cases h) (by simpa using hd) _ _ _ _ ?_)
 simpa using h
theorem wpIn_region_psi {id:Nat} {ops:List Oper} {a:Act} {w:World} (hd:ops.all noDefer=true) (hm:P.follows .mixedOrders=true) (Gr:World→World→Prop) (Φ:Nat→Value→World→Prop) (last:Nat) (Fin:(Nat→Value)→World→Prop) (dead:Nat→Nat→Bool) (Ψ:Nat→World→Prop) (hfit:fitV ops a.tmps.size last=true)
  (hrf:∀ x,Gr x x) (htr:∀ {x y z:World},Gr x y→Gr y z→Gr x z) (hΨ:∀ j,Ψ j { w with drawn:=w.drawn+1 })
  (hob:∀ i o,ops[i]?=some o→i≠last→OblP ops a { w with drawn:=w.drawn+1 } Gr Φ dead Ψ P i o) (hol:∀ o,ops[last]?=some o→OblL ops a { w with drawn:=w.drawn+1 } Gr Φ last Fin dead P o)
  (hfin:∀ val w',(if last < ops.length then Fin val w' else Gr { w with drawn:=w.drawn+1 } w'∧∀ j,j < ops.length→(∀ i,i < ops.length→dead i j=false)→Φ j (val j) w')→Q .normal (putAll ops 0 val a) w'):(Code.region id ops.toArray true).wpIn (Fence.wide.inRound lp) n0 P Q a w:=by
 refine wpIn_region_wide hd hm ?_
 refine st_walk (w0:={ w with drawn:=w.drawn+1 }) (Gr:=Gr) (Φ:=Φ) (last:=last) (Fin:=Fin) (Ψ:=Ψ) (fitV_ok hfit) htr hob hol (fun val w' h=>⟨rfl,hfin val w' h⟩) _ _ _ _ ⟨⟨rfl,rfl,fun _ _=>rfl⟩,by simp,?_,?_,?_,?_,fun j _ _=>hΨ j⟩ ?_
 ·intro j o _ h
  simp [Array.getD] at h
 ·intro j o ho _
  unfold valOf
  rw [ho]
 ·intro _
  refine ⟨hrf _,fun j _ h _=>?_⟩
  simp [Array.getD] at h
 ·intro h
  simp [Array.getD] at h
 ·have:=List.length_filter_le (fun i=>!(Array.replicate ops.length false).getD i false) (List.range ops.length)
  simp only [List.length_range] at this
  simpa using this
end
end Go.Proofs.YthlommalbkhcjaaGreat
namespace Go.Proofs.YthlommalbkhcjaaGreat
open Go.RowKit
theorem insRow {P:Program} {ρ:Operand→Value} {o:Oper} (w:World) (s x:Operand) (t:TypeId) (ho:o.op=.call { callee:=.builtin .append,args:=#[s,x],argTypes:=#[t,t] })
  (base:Nat) (e:TypeId) (i:TypeInfo) (z:Value) (size bytes:Nat) (ht:P.underlying t=some (.slice e)) (hi:P.info? e=some i) (hz:i.zero=some z) (hsize:i.size=size) (hby:i.bytes=bytes) (hzs:z.cells.size=size) (hsz:0 < size)
  {v:Value} {n:Nat} {xs:List Value} (hs:ρ s=v) (hown:w.ownsRow base e size v n xs) {I:Nat→Prop} {A:Option Addr} {m c:Nat} {news:List Value} (hx:ρ x=.slice A m c) (hr:Reads w I size A m news) (h1:∀ u ∈ news,u.oneCell'=true)
  (h63:n+m≤maxLen) (hbytes:(n+m) * bytes≤140737488355328) (hbase:base≤w.heap.size) {K:Value→World→Prop} (hK:∀ v2 w2,w2.ownsRow base e size v2 (n+m) (xs++news)→w.grownBy w2 v.ownBlock→(v2.ownBlock=v.ownBlock∨v2.ownBlock=some w.heap.size)→K v2 w2) :
  comesV P K ((execOp ρ o).run P w):=by
 obtain ⟨v2,w2,e1,e2,e3,e4⟩:=run_append_any (P:=P) w base t o.type e i z size bytes ht hi hz hsize hby hzs hsz v n xs hown I A m c news hr h1 h63 hbytes hbase
 unfold execOp
 simp only [ho,resolve,invoke,builtin,Sem.run_bind,Sem.run_pure,Result.andThen_ok,List.map_toArray,List.map_cons,List.map_nil,hs,hx,e1]
 exact hK v2 w2 e2 e3 e4
theorem ifv {c:Bool} {X Y:Prop} (hc:c=true) (h:X):if c=true then X else Y:=by rw [if_pos hc]; exact h
end Go.Proofs.YthlommalbkhcjaaGreat
namespace Go.Proofs.YthlommalbkhcjaaGreat
open Go.Sort Go.RowKit
section
variable {P:Program} {ops:Array Oper} {Q:Exit→Act→World→Prop} {C:World→Prop} {rest:List Oper} {o o1 o2:Oper} {a:Act} {w:World} {c0:Nat}
theorem grown_of_below {w wm w2:World} {row:Option Nat} (h:Below w.heap.size w wm) (hg:wm.grownBy w2 row):w.grownBy w2 row :=
 ⟨hg.os.trans h.os,hg.tape.trans h.tape,hg.output.trans h.output,Nat.le_trans h.size hg.size,fun k hk hne=>(hg.block k (Nat.lt_of_lt_of_le hk h.size) hne).trans (h.block k hk)⟩
theorem own_below {base:Nat} {e:TypeId} {size n:Nat} {v:Value} {xs:List Value} {w w':World} (h:w.ownsRow base e size v n xs) (hb:Below w.heap.size w w'):w'.ownsRow base e size v n xs :=
 own_keep h (Same.ofBelow (I:=fun k=>k < w.heap.size) hb fun _ hk=>hk) fun _ hg=>(own_lt h hg).2
theorem wpMix_append (hw:C w) (hgd:o.guard=none) (s x:Operand) (t:TypeId) (ho:o.op=.call { callee:=.builtin .append,args:=#[s,x],argTypes:=#[t,t] }) (hty:o.type=t)
  (base:Nat) (e:TypeId) (i:TypeInfo) (z:Value) (size bytes:Nat) (ht:P.underlying t=some (.slice e)) (hi:P.info? e=some i) (hz:i.zero=some z)
  (hsize:i.size=size) (hby:i.bytes=bytes) (hzs:z.cells.size=size) (hsz:0 < size)
  (v:Value) (n:Nat) (xs:List Value) (hs:a.eval s=v) (hown:w.ownsRow base e size v n xs)
  (I:Nat→Prop) (A:Option Addr) (m c:Nat) (news:List Value) (hx:a.eval x=.slice A m c) (hr:Reads w I size A m news) (h1:∀ u ∈ news,u.oneCell'=true)
  (h63:n+m≤maxLen) (hbytes:(n+m) * bytes≤140737488355328) (hbase:base≤w.heap.size)
  (h:∀ v2 w2,w2.ownsRow base e size v2 (n+m) (xs++news)→w.grownBy w2 v.ownBlock→(v2.ownBlock=v.ownBlock∨∃ g,v2.ownBlock=some g∧w.heap.size≤g)→wpMix P ops C Q c0 rest (a.put o.dst v2) w2):wpMix P ops C Q (c0+1) (o :: rest) a w:=by
 subst hty
 refine wpMix_step hw fun w' hb=>?_
 refine wpList_append_any w' hgd s x o.type ho base e i z size bytes ht hi hz hsize hby hzs hsz v n xs hs (own_below hown hb) (fun k=>I k∧k < w.heap.size) A m c news hx (hr.lt.keep (Same.ofBelow hb fun k hk=>hk.2)) h1 h63 hbytes (Nat.le_trans hbase hb.size) fun v2 w2 h2 hg h3=>?_
 refine h v2 w2 h2 (grown_of_below hb hg) ?_
 rcases h3 with h3 | h3
 ·exact .inl h3
 ·exact .inr ⟨_,h3,hb.size⟩
theorem wpMix_push (hC:∀ x y,C x→Below x.heap.size x y→C y) (hw:C w) (e:TypeId) (us:List Value) (hg1:o1.guard=none)
  (hrun:∀ w',(execOp a.eval o1).run P w'=.ok (.value (.slice (some ⟨w'.heap.size,0,none⟩) 1 1)) (w'.alloc (.cells us.toArray e)))
  (hgd:o2.guard=none) (s x:Operand) (t:TypeId) (ho:o2.op=.call { callee:=.builtin .append,args:=#[s,x],argTypes:=#[t,t] }) (hty:o2.type=t)
  (base:Nat) (i:TypeInfo) (z:Value) (size bytes:Nat) (ht:P.underlying t=some (.slice e)) (hi:P.info? e=some i) (hz:i.zero=some z)
  (hsize:i.size=size) (hby:i.bytes=bytes) (hzs:z.cells.size=size) (hsz:0 < size)
  (v:Value) (n:Nat) (xs:List Value) (hs:∀ g:Nat,(a.put o1.dst (.slice (some ⟨g,0,none⟩) 1 1)).eval s=v) (hx:∀ g:Nat,(a.put o1.dst (.slice (some ⟨g,0,none⟩) 1 1)).eval x=.slice (some ⟨g,0,none⟩) 1 1) (hown:w.ownsRow base e size v n xs)
  (hul:us.length=size) (h1:∀ u ∈ us,u.oneCell'=true) (h63:n+1≤maxLen) (hbytes:(n+1) * bytes≤140737488355328) (hbase:base≤w.heap.size)
  (h:∀ g v2 w2,w2.ownsRow base e size v2 (n+1) (xs++us)→w.grownBy w2 v.ownBlock→(v2.ownBlock=v.ownBlock∨∃ g,v2.ownBlock=some g∧w.heap.size≤g)→wpMix P ops C Q c0 rest ((a.put o1.dst (.slice (some ⟨g,0,none⟩) 1 1)).put o2.dst v2) w2):wpMix P ops C Q (c0+2) (o1 :: o2 :: rest) a w:=by
 refine wpMix_step hw fun w' hb=>?_
 have hb2:Below w.heap.size w (w'.alloc (.cells us.toArray e)):=hb.alloc hb.size _
 have key:wpMix P ops C Q (c0+1) (o2 :: rest) (a.put o1.dst (.slice (some ⟨w'.heap.size,0,none⟩) 1 1)) (w'.alloc (.cells us.toArray e)):=by
  have hrd:Reads (w'.alloc (.cells us.toArray e)) (fun _=>True) size (some ⟨w'.heap.size,0,none⟩) 1 us:=by
   refine ⟨by omega,fun _=>⟨⟨w'.heap.size,0,none⟩,rfl,trivial,by simp,fun j u hu=>?_⟩⟩
   have hk:Blk (w'.alloc (.cells us.toArray e)) w'.heap.size e us.toArray:=Blk.new _ _ _
   rw [add_off,Nat.zero_add,hk.cell]
   simpa using hu
  refine wpMix_append (hC _ _ hw hb2) hgd s x t ho hty base e i z size bytes ht hi hz hsize hby hzs hsz v n xs (hs _) (own_below hown hb2) (fun _=>True) _ 1 1 us (hx _) hrd h1 h63 hbytes (Nat.le_trans hbase hb2.size) fun v2 w2 h2 hg h3=>?_
  refine h _ v2 w2 h2 (grown_of_below hb2 hg) ?_
  rcases h3 with h3 | ⟨g,h3,h4⟩
  ·exact .inl h3
  ·exact .inr ⟨g,h3,Nat.le_trans hb2.size h4⟩
 unfold wpList
 rw [if_pos (by unfold Region.wanted; rw [hg1])]
 refine .inl ?_
 unfold Oper.wp
 rw [hrun w']
 exact key
end
end Go.Proofs.YthlommalbkhcjaaGreat
namespace Go.Proofs.YthlommalbkhcjaaGreat
open Go.RowKit
theorem blk_own {W W':World} {row:Option Nat} {b:Nat} {t:TypeId} {cs:Array Value} (h:Blk W b t cs) (hg:W.grownBy W' row) (hr:∀ r,row=some r→∃ o:Obj,W.heap[r]?=some o∧o.isCells=false):Blk W' b t cs:=by
 refine (hg.block b h.lt fun e=>?_).trans h
 obtain ⟨o,ho,hc⟩:=hr b e.symm
 unfold Blk at h
 rw [h] at ho
 cases ho
 cases hc
theorem own_own {W W':World} {row:Option Nat} {base:Nat} {e:TypeId} {size n:Nat} {v:Value} {xs:List Value} (h:W.ownsRow base e size v n xs) (hg:W.grownBy W' row) (hr:∀ r,row=some r→∃ o:Obj,W.heap[r]?=some o∧o.isCells=false):W'.ownsRow base e size v n xs:=by
 refine own_keep (I:=fun k=>some k≠row) h ⟨hg.size,fun k hk hl=>hg.block k hl hk⟩ fun g hgv=>?_
 intro he
 obtain ⟨o,ho,hc⟩:=hr g he.symm
 rcases h.2 with ⟨rfl,_⟩ | ⟨g',cap,cur,rfl,_,hh,_⟩
 ·cases hgv
 ·injection hgv with hgv
  subst hgv
  rw [hh] at ho
  cases ho
  cases hc
theorem same_t {I:Nat→Prop} {A B C:World} (h:Same I A B) (k:Same I B C):Same I A C:=h.trans k
theorem same_b {I:Nat→Prop} {w:World} (hI:∀ k,I k→k < w.heap.size) (W:World) (l:Nat) (o o':Obj) (hl:w.heap.size≤l) (h:W.heap[l]?=some o) (_:o.isCells=false) (_:o.isWalk=false):Same I W (W.putObj l o') :=
 ⟨(grownBy_putObj' W l o').size,fun k hk _=>(grownBy_putObj' W l o').block k (by have:=hI k hk; have:=(Array.getElem?_eq_some_iff.1 h).1; omega) (fun e=>by have:=hI k hk; cases e; omega)⟩
theorem keeps_of_cells {F:Nat→Prop} {W W':World} (B:Nat) (h:Upd F W W') (hF:∀ k,F k→k < W.heap.size→∃ cs t,Blk W k t cs):KeepsFrom B W W' :=
 ⟨h.size,fun k o _ hk ho=>(h.block k (Array.getElem?_eq_some_iff.1 hk).1 fun hf=>by
  obtain ⟨cs,t,hb⟩:=hF k hf (Array.getElem?_eq_some_iff.1 hk).1
  unfold Blk at hb
  rw [hk] at hb
  cases hb
  cases ho).trans hk⟩
end Go.Proofs.YthlommalbkhcjaaGreat
namespace Go.Proofs.YthlommalbkhcjaaGreat.J
open Go.Proofs.YthlommalbkhcjaaGreat
section
variable {P:Program} {Q:Exit→Act→World→Prop}
section
variable (ops:List Oper) (a:Act) (w0:World) (Gr:World→World→Prop) (x:Nat) (Φ:Nat→Value→Value→World→Prop) (last:Nat) (Fin:(Nat→Value)→World→Prop) (dead:Nat→Nat→Bool) (Ψ:Nat→World→Prop)
structure StV (listed:Array Bool) (a':Act) (w:World):Prop where
 fr:FrV ops a a'
 lsz:listed.size=ops.length
 closed:∀ (j:Nat) (o:Oper),ops[j]?=some o→listed.getD j false=true→∀ e ∈ o.after.toList,Region.binds .any e=true→listed.getD e.on false=true
 fresh:∀ (j:Nat) (o:Oper),ops[j]?=some o→listed.getD j false=false→valOf ops a' j=slotOf a o
 going:listed.getD last false=false→Gr w0 w∧∀ j,j < ops.length→listed.getD j false=true→(∀ i,i < ops.length→listed.getD i false=true→dead i j=false)→Φ j (valOf ops a' j) (valOf ops a' x) w
 done:listed.getD last false=true→Fin (valOf ops a') w
 wait:∀ j,j < ops.length→listed.getD j false=false→Ψ j w
def OblP (P:Program) (i:Nat) (o:Oper):Prop:=∀ (val:Nat→Value) (w:World),Gr w0 w→Ψ i w→(∀ j,backB ops o 4 j=true→useB ops dead i j=true→Φ j (val j) (val x) w)→(∀ (j:Nat) (o':Oper),ops[j]?=some o'→binding o' i=true→val j=slotOf a o')→val i=slotOf a o →
 ∀ K:Value→World→Prop,(∀ v w',Gr w w'→Φ i (normV o v) (updV val i (normV o v) x) w'→(∀ j,j≠i→dead i j=false→(∀ o',ops[j]?=some o'→backB ops o' 4 i=false)→Φ j (val j) (val x) w→Φ j (val j) (updV val i (normV o v) x) w')→(∀ j,j≠i→backB ops o 4 j=false→Ψ j w→Ψ j w')→K v w')→if wantedV o val=true then comesV P K ((execOp (rhoV ops a val) o).run P w) else K undef w
def OblL (P:Program) (o:Oper):Prop:=∀ (val:Nat→Value) (w:World),Gr w0 w→(∀ j,j < ops.length→j≠last→(∀ i,i < ops.length→i≠last→dead i j=false)→Φ j (val j) (val x) w)→val last=slotOf a o →
 ∀ K:Value→World→Prop,(∀ v w',Fin (updV val last (normV o v)) w'→K v w')→if wantedV o val=true then comesV P K ((execOp (rhoV ops a val) o).run P w) else K undef w
end
theorem st_walk {ops:List Oper} {a:Act} {w0:World} {Gr:World→World→Prop} {x:Nat} {Φ:Nat→Value→Value→World→Prop} {last:Nat} {Fin:(Nat→Value)→World→Prop} {dead:Nat→Nat→Bool} {Ψ:Nat→World→Prop} (hf:FitV ops a.tmps.size last) (htr:∀ {x y z:World},Gr x y→Gr y z→Gr x z)
  (hob:∀ i o,ops[i]?=some o→i≠last→OblP ops a w0 Gr x Φ dead Ψ P i o) (hol:∀ o,ops[last]?=some o→OblL ops a w0 Gr x Φ last Fin dead P o)
  (hfin:∀ val w',(if last < ops.length then Fin val w' else Gr w0 w'∧∀ j,j < ops.length→(∀ i,i < ops.length→dead i j=false)→Φ j (val j) (val x) w')→Q .normal (putAll ops 0 val a) w') :
  ∀ (fuel:Nat) (listed:Array Bool) (a':Act) (w:World),StV ops a w0 Gr x Φ last Fin dead Ψ listed a' w→((List.range ops.length).filter fun i=>!listed.getD i false).length≤fuel→wpAny P .any ops.toArray Q fuel listed a' w:=by
 have fin:∀ (listed:Array Bool) (a':Act) (w:World),StV ops a w0 Gr x Φ last Fin dead Ψ listed a' w→Region.ready .any ops.toArray listed=[]→Q .normal a' w:=by
  intro listed a' w st hr
  have hall:∀ i,i < ops.length→listed.getD i false=true:=by
   intro i
   induction i using Nat.strongRecOn with
   | _ i ih =>
     intro hi
     cases hl:listed.getD i false with
     | true=>rfl
     | false =>
       have h1:ops[i]?=some ops[i]:=List.getElem?_eq_getElem hi
       have:i ∈ Region.ready .any ops.toArray listed:=(ready_iff st.lsz).2 ⟨_,h1,hl,fun e he hb=>ih e.on (hf.ord i _ h1 e he hb) (Nat.lt_trans (hf.ord i _ h1 e he hb) hi)⟩
       rw [hr] at this
       cases this
  have ha':=putAll_fr st.fr ops 0 a (fun j o h=>by rw [Nat.zero_add]; exact h) rfl rfl fun s hs=>(st.fr.other s hs).symm
  rw [← ha']
  refine hfin _ _ ?_
  split
  ·rename_i hlt
   exact st.done (hall last hlt)
  ·rename_i hge
   have hn:listed.getD last false=false:=by
    have:¬ last < listed.size:=by rw [st.lsz]; exact hge
    simp [Array.getD,this]
   obtain ⟨g1,g2⟩:=st.going hn
   exact ⟨g1,fun j hj hdj=>g2 j hj (hall j hj) fun i hi _=>hdj i hi⟩
 intro fuel
 induction fuel with
 | zero =>
   intro listed a' w st hc
   have hr:Region.ready .any ops.toArray listed=[]:=by
    cases hr:Region.ready .any ops.toArray listed with
    | nil=>rfl
    | cons i r =>
      exfalso
      have hi:i ∈ Region.ready .any ops.toArray listed:=by rw [hr]; exact List.mem_cons_self
      obtain ⟨o,ho,hl,_⟩:=(ready_iff st.lsz).1 hi
      have:i ∈ (List.range ops.length).filter fun i=>!listed.getD i false:=List.mem_filter.2 ⟨List.mem_range.2 (List.getElem?_eq_some_iff.1 ho).1,by rw [hl]; rfl⟩
      have:=List.length_pos_of_mem this
      omega
   exact ⟨hr,fin _ _ _ st hr⟩
 | succ fuel ih =>
   intro listed a' w st hc
   refine ⟨fin _ _ _ st,fun i hi=>?_⟩
   obtain ⟨o,ho,hl,hdep⟩:=(ready_iff st.lsz).1 hi
   have hilt:=(List.getElem?_eq_some_iff.1 ho).1
   have hisz:i < listed.size:=by rw [st.lsz]; exact hilt
   have hset:∀ j d,(listed.setIfInBounds i true).getD j d=if j=i then true else listed.getD j d:=fun j d=>getD_set d hisz
   have hcount:((List.range ops.length).filter fun j=>!(listed.setIfInBounds i true).getD j false).length≤fuel:=by
    have:=filter_lt (p:=fun j=>!(listed.setIfInBounds i true).getD j false) (q:=fun j=>!listed.getD j false) (l:=List.range ops.length) (fun x _ hx=>by
     rw [hset] at hx
     split at hx
     ·cases hx
     ·exact hx) i (List.mem_range.2 hilt) (by rw [hl]; rfl) (by rw [hset,if_pos rfl]; rfl)
    omega
   have hlast:i≠last→last < ops.length→listed.getD last false=false:=fun hne hlt=>by
    cases hll:listed.getD last false with
    | false=>rfl
    | true =>
      have h1:ops[last]?=some ops[last]:=List.getElem?_eq_getElem hlt
      have:=hf.lst _ h1 i hilt hne (fun k=>listed.getD k false=true) (fun e he hb=>st.closed last _ h1 hll e he hb) fun k o' hk hp e he hb=>st.closed k o' hk hp e he hb
      rw [hl] at this
      cases this
   have hlast2:i≠last→listed.getD last false=false:=fun hne=>by
    by_cases hlt:last < ops.length
    ·exact hlast hne hlt
    ·have:¬ last < listed.size:=by rw [st.lsz]; exact hlt
     simp [Array.getD,this]
   have hfr:∀ v,FrV ops a (a'.put o.dst v):=fun v=>⟨by rw [put_defers,st.fr.defers],by rw [put_size,st.fr.size],fun s hs=>by
    rw [← st.fr.other s hs]
    cases hd:o.dst with
    | none=>rfl
    | some t=>exact eval_put_other fun e=>hs o (List.mem_of_getElem? ho) (by rw [hd,e])⟩
   have hval:∀ v,valOf ops (a'.put o.dst v)=updV (valOf ops a') i (normV o v):=fun v=>valOf_put hf st.fr.size ho v
   have hclosed:∀ (j:Nat) (o':Oper),ops[j]?=some o'→(listed.setIfInBounds i true).getD j false=true→∀ e ∈ o'.after.toList,Region.binds .any e=true→(listed.setIfInBounds i true).getD e.on false=true:=fun j o' hj hlj e he hb=>by
    rw [hset] at hlj ⊢
    split
    ·rfl
    ·split at hlj
     ·rename_i hji
      subst hji
      rw [ho] at hj
      injection hj with hj
      subst hj
      exact hdep e he hb
     ·exact st.closed j o' hj hlj e he hb
   have hfresh:∀ v (j:Nat) (o':Oper),ops[j]?=some o'→(listed.setIfInBounds i true).getD j false=false→valOf ops (a'.put o.dst v) j=slotOf a o':=fun v j o' hj hlj=>by
    rw [hset] at hlj
    split at hlj
    ·cases hlj
    ·rename_i hji
     rw [hval]
     unfold updV
     rw [if_neg hji]
     exact st.fresh j o' hj hlj
   refine wpOp_step (by rw [List.getElem?_toArray]; exact ho) fun K' hK=>?_
   rw [wanted_eq fun g want hg=>hf.grd o (List.mem_of_getElem? ho) g want hg]
   have hown:valOf ops a' i=slotOf a o:=st.fresh i o ho hl
   have conv:(if wantedV o (valOf ops a')=true then comesV P (fun v w'=>K' (a'.put o.dst v) w') ((execOp (rhoV ops a (valOf ops a')) o).run P w) else K' (a'.put o.dst undef) w) →
     if wantedV o (valOf ops a')=true then Oper.wp P o a' w K' Q else K' (a'.put o.dst undef) w:=by
    intro h
    split
    ·rename_i hw
     rw [if_pos hw] at h
     unfold Oper.wp
     rw [rho_eq st.fr]
     exact upon_comes h
    ·rename_i hw
     rw [if_neg hw] at h
     exact h
   refine conv ?_
   by_cases hil:i=last
   ·subst hil
    obtain ⟨g1,g2⟩:=st.going hl
    refine hol o ho (valOf ops a') w g1 (fun j hj hne hdj=>g2 j hj ?_ fun k hk hlk=>hdj k hk fun e=>by rw [e,hl] at hlk; cases hlk) hown (fun v w'=>K' (a'.put o.dst v) w') fun v w' hF=>hK _ _ (ih _ _ _ ⟨hfr v,by simp [st.lsz],hclosed,hfresh v,fun h=>?_,fun _=>?_,fun j hj hlj=>?_⟩ hcount)
    ·exact hf.lst o ho j hj hne (fun k=>listed.getD k false=true) (fun e he hb=>hdep e he hb) fun k o' hk hp e he hb=>st.closed k o' hk hp e he hb
    ·rw [hset,if_pos rfl] at h; cases h
    ·rw [hval]; exact hF
    ·rw [hset] at hlj
     split at hlj
     ·cases hlj
     ·rename_i hji
      have:=hf.lst o ho j hj hji (fun k=>listed.getD k false=true) (fun e he hb=>hdep e he hb) fun k o' hk hp e he hb=>st.closed k o' hk hp e he hb
      rw [hlj] at this
      cases this
   ·obtain ⟨g1,g2⟩:=st.going (hlast2 hil)
    refine hob i o ho hil (valOf ops a') w g1 (st.wait i hilt hl) (fun j hbj huse=>?_) (fun j o' hj hbj=>?_) hown (fun v w'=>K' (a'.put o.dst v) w') fun v w' hG hφ hkeep hwait=>hK _ _ (ih _ _ _ ⟨hfr v,by simp [st.lsz],hclosed,hfresh v,fun _=>⟨htr g1 hG,fun j hj hlj hdj=>?_⟩,fun h=>?_,fun j hj hlj=>?_⟩ hcount)
    ·have hlj:listed.getD j false=true:=backB_ok (ops:=ops) (fun m=>listed.getD m false=true) (fun e he hb=>hdep e he hb) (fun m o2 hm hp e he hb=>st.closed m o2 hm hp e he hb) 4 j hbj
     have hjl:j < ops.length:=by
      rcases Nat.lt_or_ge j ops.length with h | h
      ·exact h
      ·have:¬ j < listed.size:=by rw [st.lsz]; omega
       simp [Array.getD,this] at hlj
     refine g2 j hjl hlj fun k hk hlk=>?_
     cases hdk:dead k j with
     | false=>rfl
     | true =>
       exfalso
       have h1:ops[k]?=some ops[k]:=List.getElem?_eq_getElem hk
       have h3:=List.all_eq_true.1 huse (ops[k],k) (List.mem_zipIdx_iff_getElem?.2 h1)
       rw [hdk] at h3
       simp only [Bool.not_true,Bool.false_or,Bool.or_eq_true,beq_iff_eq] at h3
       rcases h3 with h2 | h2
       ·rw [h2,hl] at hlk; cases hlk
       ·have:=backB_ok (ops:=ops) (fun m=>listed.getD m false=true) (fun e he hb=>st.closed k _ h1 hlk e he hb) (fun m o2 hm hp e he hb=>st.closed m o2 hm hp e he hb) 4 i h2
        simp only [hl] at this
        cases this
    ·refine st.fresh j o' hj ?_
     cases hlj:listed.getD j false with
     | false=>rfl
     | true =>
       unfold binding at hbj
       rw [List.any_eq_true] at hbj
       obtain ⟨e,he,hb⟩:=hbj
       simp only [Bool.and_eq_true,beq_iff_eq] at hb
       have:=st.closed j o' hj hlj e he hb.1
       rw [hb.2,hl] at this
       cases this
    ·rw [hset] at hlj
     rw [hval]
     by_cases hji:j=i
     ·subst hji
      rw [show updV (valOf ops a') j (normV o v) j=normV o v from if_pos rfl]; exact hφ
     ·rw [show updV (valOf ops a') i (normV o v) j=valOf ops a' j from if_neg hji]
      rw [if_neg hji] at hlj
      refine hkeep j hji (hdj i hilt (by rw [hset,if_pos rfl])) (fun o' hj'=>?_) (g2 j hj hlj fun k hk hlk=>hdj k hk ?_)
      ·cases hbb:backB ops o' 4 i with
       | false=>rfl
       | true =>
         exfalso
         have:=backB_ok (ops:=ops) (fun k=>listed.getD k false=true) (fun e he hb=>st.closed j o' hj' hlj e he hb) (fun k o2 hk hp e he hb=>st.closed k o2 hk hp e he hb) 4 i hbb
         simp only [hl] at this
         cases this
      rw [hset]
      split
      ·rfl
      ·exact hlk
    ·rw [hset,if_neg (fun e=>hil e.symm),hlast2 hil] at h
     cases h
    ·rw [hset] at hlj
     split at hlj
     ·cases hlj
     ·rename_i hji
      refine hwait j hji ?_ (st.wait j hj hlj)
      cases hbb:backB ops o 4 j with
      | false=>rfl
      | true =>
        exfalso
        have:=backB_ok (ops:=ops) (fun m=>listed.getD m false=true) (fun e he hb=>hdep e he hb) (fun m o2 hm hp e he hb=>st.closed m o2 hm hp e he hb) 4 j hbb
        simp only [hlj] at this
        cases this
theorem wp_region_psj {id:Nat} {ops:List Oper} {a:Act} {w:World} (hm:P.follows .mixedOrders=true) (Gr:World→World→Prop) (x:Nat) (Φ:Nat→Value→Value→World→Prop) (last:Nat) (Fin:(Nat→Value)→World→Prop) (dead:Nat→Nat→Bool) (Ψ:Nat→World→Prop) (hfit:fitV ops a.tmps.size last=true)
  (hrf:∀ x,Gr x x) (htr:∀ {x y z:World},Gr x y→Gr y z→Gr x z) (hΨ:∀ j,Ψ j { w with drawn:=w.drawn+1 })
  (hob:∀ i o,ops[i]?=some o→i≠last→OblP ops a { w with drawn:=w.drawn+1 } Gr x Φ dead Ψ P i o) (hol:∀ o,ops[last]?=some o→OblL ops a { w with drawn:=w.drawn+1 } Gr x Φ last Fin dead P o)
  (hfin:∀ val w',(if last < ops.length then Fin val w' else Gr { w with drawn:=w.drawn+1 } w'∧∀ j,j < ops.length→(∀ i,i < ops.length→dead i j=false)→Φ j (val j) (val x) w')→Q .normal (putAll ops 0 val a) w'):(Code.region id ops.toArray true).wp P Q a w:=by
 refine wp_region_any hm (st_walk (w0:={ w with drawn:=w.drawn+1 }) (Gr:=Gr) (x:=x) (Φ:=Φ) (last:=last) (Fin:=Fin) (Ψ:=Ψ) (fitV_ok hfit) htr hob hol hfin _ _ _ _ ⟨⟨rfl,rfl,fun _ _=>rfl⟩,by simp,?_,?_,?_,?_,fun j _ _=>hΨ j⟩ ?_)
 ·intro j o _ h
  simp [Array.getD] at h
 ·intro j o ho _
  unfold valOf
  rw [ho]
 ·intro _
  refine ⟨hrf _,fun j _ h _=>?_⟩
  simp [Array.getD] at h
 ·intro h
  simp [Array.getD] at h
 ·have:=List.length_filter_le (fun i=>!(Array.replicate ops.toArray.size false).getD i false) (List.range ops.length)
  simp only [List.length_range] at this
  simpa using this
def OblAllP (ops:List Oper) (a:Act) (w0:World) (Gr:World→World→Prop) (x:Nat) (Φ:Nat→Value→Value→World→Prop) (dead:Nat→Nat→Bool) (Ψ:Nat→World→Prop) (P:Program) (last:Nat):List Oper→Nat→Prop
 | [],_=>True
 | o :: r,i=>(i≠last→OblP ops a w0 Gr x Φ dead Ψ P i o)∧OblAllP ops a w0 Gr x Φ dead Ψ P last r (i+1)
theorem oblp_all {ops:List Oper} {a:Act} {w0:World} {Gr:World→World→Prop} {x:Nat} {Φ:Nat→Value→Value→World→Prop} {dead:Nat→Nat→Bool} {Ψ:Nat→World→Prop} {last:Nat}:∀ (l:List Oper) (k:Nat),OblAllP ops a w0 Gr x Φ dead Ψ P last l k→∀ i o,l[i]?=some o→k+i≠last→OblP ops a w0 Gr x Φ dead Ψ P (k+i) o
 | [],_,_,i,o,h,_=>by cases h
 | x :: r,k,h,0,o,ho,hne=>by
   obtain rfl:x=o:=by simpa using ho
   exact h.1 hne
 | x :: r,k,h,i+1,o,ho,hne=>by
   have:=oblp_all r (k+1) h.2 i o (by simpa using ho) (by rwa [show k+1+i=k+(i+1) by omega])
   rwa [show k+1+i=k+(i+1) by omega] at this
theorem oblp_of {ops:List Oper} {a:Act} {w0:World} {Gr:World→World→Prop} {x:Nat} {Φ:Nat→Value→Value→World→Prop} {dead:Nat→Nat→Bool} {Ψ:Nat→World→Prop} {last:Nat} (h:OblAllP ops a w0 Gr x Φ dead Ψ P last ops 0):∀ i o,ops[i]?=some o→i≠last→OblP ops a w0 Gr x Φ dead Ψ P i o:=fun i o ho hne=>by
 have:=oblp_all ops 0 h i o ho (by rwa [Nat.zero_add])
 rwa [Nat.zero_add] at this
end
end Go.Proofs.YthlommalbkhcjaaGreat.J
