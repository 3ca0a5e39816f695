/- From the rows' readings to what the walks ask: slices whose elements are of any shape. -/
import Derived.Test.YthlommalbkhcjaaGreatNq01
import Derived.Test.YthlommalbkhcjaaGreatRows
import Derived.ProofKit
import Derived.OpenShut
import Derived.ShutString
import Derived.ChangeOld
import Derived.SizedLaws
namespace Go.Proofs.YthlommalbkhcjaaGreat
open Go.ChangeShapes Go.WideShapes Go.ChangeAt Go.RowKit
theorem own:ownKnob Tryz.prog.godebug=none:=by kernel_rfl
theorem laidOut:laidOutB Tryz.prog=true:=by kernel_rfl
section
variable {H:Type} {enc:TypeId × Value→H} {P:Program} {w:World} {spare:Nat→Bool} {held:Bool}
def Light (P:Program) (t:TypeId) (d:DataW H):Prop:=∀ k ∈ d.weights P t,k≤reachBytes
theorem light_each {ts:List TypeId} {ds:List (DataW H)} (h:(DataW.weightsEach P ts ds).all (·≤reachBytes)=true) {j:Nat} {t:TypeId} {d:DataW H} (ht:ts[j]?=some t) (hd:ds[j]?=some d):Light P t d :=
 fun k hk=>by simpa using List.all_eq_true.1 h _ (DataW.weights_mem_each ht hd k hk)
theorem weightsAll_mem {e:TypeId} {k:Nat}:∀ {ds:List (DataW H)} {d:DataW H},d ∈ ds→k ∈ d.weights P e→k ∈ DataW.weightsAll P e ds
 | a :: ds,d,hd,hk=>by
   simp only [DataW.weightsAll,List.mem_append]
   rcases List.mem_cons.1 hd with rfl | hd
   ·exact .inl hk
   ·exact .inr (weightsAll_mem hd hk)
theorem light_elem {t e:TypeId} (ht:P.underlying t=some (.slice e)) {elems rest:List (DataW H)} (h:Light P t (.slice elems rest)) {d:DataW H} (hd:d ∈ elems):Light P e d :=
 fun k hk=>h k (by simp only [DataW.weights,ht]; exact List.mem_cons_of_mem _ (List.mem_append_left _ (weightsAll_mem hd hk)))
theorem light_size {t e:TypeId} (ht:P.underlying t=some (.slice e)) {elems rest:List (DataW H)} (h:Light P t (.slice elems rest)):(elems.length+rest.length) * P.bytesOf e≤reachBytes :=
 h _ (by simp only [DataW.weights,ht]; exact List.mem_cons_self)
def CellsAt (w:World) (a:Addr) (l:List Value):Prop:=∀ j u,l[j]?=some u→w.cell? (a.add j)=some u
theorem CellsAt.append {w:World} {a:Addr} {l m:List Value} (h:CellsAt w a l) (k:CellsAt w (a.add l.length) m):CellsAt w a (l++m):=by
 intro j u hu
 rw [List.getElem?_append] at hu
 split at hu
 ·exact h j u hu
 ·have:=k (j - l.length) u hu
  rw [add_of_add] at this
  rwa [show l.length+(j - l.length)=j by omega] at this
theorem open_elems {α:Type} (f:α→List Value) (R:α→Prop) (C B:Nat) {t e:TypeId} (ht:P.underlying t=some (.slice e)) (hC:P.cellsOf e=C) (hB:P.bytesOf e=B) (hf:∀ y,(f y).length=C) (hC0:0 < C)
  (hel:∀ n cs x,DataW.trod enc P w 0 spare held n e cs=some x→Light P e x.1→∃ y,cs=f y∧R y)
  {fuel:Nat} {cs:List Value} {x:DataW H × List MemPlace} (h:DataW.trod enc P w 0 spare held fuel t cs=some x) (hw:Light P t x.1) :
  ∃ (A:Option Addr) (n c:Nat) (ys:List α),cs=[.slice A n c]∧Reads w (fun k=>k < w.heap.size) C A n (ys.flatMap f)∧ys.length=n∧(∀ y ∈ ys,R y)∧n * B≤reachBytes∧n≤c:=by
 rcases DataW.trod_slice ht h with ⟨rfl,rfl⟩ | ⟨a,len,cap,elems,rest,n,_,rfl,rfl,_,hl,_,hlen,hel2,_,_⟩
 ·exact ⟨none,0,0,[],rfl,⟨by simp,fun h=>absurd h (by omega)⟩,rfl,fun y hy=>absurd hy (by simp),by simp,Nat.le_refl _⟩
 ·have step:∀ m,m≤len→∃ ys:List α,ys.length=m∧(∀ y ∈ ys,R y)∧CellsAt w a (ys.flatMap f)∧(ys.flatMap f).length=m * C:=by
   intro m
   induction m with
   | zero=>exact fun _=>⟨[],rfl,fun y hy=>absurd hy (by simp),fun j u hu=>by simp at hu,by simp⟩
   | succ m ih =>
     intro hm
     obtain ⟨ys,h1,h2,h3,h4⟩:=ih (by omega)
     have hi:=hel2 m (by omega)
     have hel3:elems[m]?=some (elems[m]'(by omega)):=List.getElem?_eq_getElem (by omega)
     rw [hel3,Option.bind_eq_some_iff] at hi
     obtain ⟨cs',hcs,ht'⟩:=hi
     obtain ⟨y,rfl,hy⟩:=hel n cs' _ ht' (light_elem ht hw (List.mem_map.2 ⟨_,List.getElem_mem (by omega),rfl⟩))
     rw [hC] at hcs
     obtain ⟨_,_,hat⟩:=World.cells?_some hcs
     refine ⟨ys++[y],by simp [h1],?_,?_,?_⟩
     ·intro z hz
      rcases List.mem_append.1 hz with hz | hz
      ·exact h2 z hz
      ·rw [List.mem_singleton.1 hz]; exact hy
     ·rw [List.flatMap_append]
      refine h3.append ?_
      rw [h4]
      intro j u hu
      simp only [List.flatMap_cons,List.flatMap_nil,List.append_nil] at hu
      have hj:j < C:=by rw [← hf y]; exact (List.getElem?_eq_some_iff.1 hu).1
      rw [hat j hj,hu]
     ·rw [List.flatMap_append,List.length_append,h4]
      simp [hf,Nat.add_mul]
  obtain ⟨ys,h1,h2,h3,h4⟩:=step len (Nat.le_refl _)
  have hsz:=light_size ht hw
  rw [hB,List.length_map,hlen] at hsz
  have hlt:0 < len→a.block < w.heap.size:=fun hp=>by
   have h0:0 < (ys.flatMap f).length:=by rw [h4]; exact Nat.mul_pos hp hC0
   have:=World.block_lt_of_cell? w _ (h3 0 _ (List.getElem?_eq_getElem h0))
   simpa [block_of_add] using this
  exact ⟨some a,len,cap,ys,rfl,⟨h4,fun hp=>⟨a,rfl,hlt hp,hlt hp,h3⟩⟩,h1,h2,Nat.le_trans (Nat.mul_le_mul_right B (Nat.le_add_right _ _)) hsz,hl⟩
theorem elem_bool {e:TypeId} (he:P.underlying e=some .bool) (n:Nat) (cs:List Value) (x:DataW H × List MemPlace) (h:DataW.trod enc P w 0 spare held n e cs=some x):∃ y:Bool,cs=[.bool y]:=by
 obtain ⟨b,rfl,_⟩:=DataW.trod_bool he h
 exact ⟨b,rfl⟩
theorem elem_int {e:TypeId} {k:IntKind} (he:P.underlying e=some (.int k)) (n:Nat) (cs:List Value) (x:DataW H × List MemPlace) (h:DataW.trod enc P w 0 spare held n e cs=some x):∃ y:Int,cs=[.int k y]∧(Lit.int k y).wf=true:=by
 obtain ⟨b,rfl,_,hb⟩:=DataW.trod_int he h
 exact ⟨b,rfl,hb⟩
theorem flat_one {α:Type} (g:α→Value) (ys:List α):ys.flatMap (fun y=>[g y])=ys.map g:=by
 induction ys with
 | nil=>rfl
 | cons a r ih=>simp [ih]
end
section
variable {H:Type} {enc:TypeId × Value→H} {w:World} {spare:Nat→Bool} {held:Bool}
end
end Go.Proofs.YthlommalbkhcjaaGreat
