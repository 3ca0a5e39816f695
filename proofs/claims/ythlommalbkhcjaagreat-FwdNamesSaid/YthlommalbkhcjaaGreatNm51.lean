/- FwdNames answers true for every input, and leaves its arguments as they were. Conditions: none beyond the form's own. -/
import Derived.Test.YthlommalbkhcjaaGreatNm50
import Derived.Test.YthlommalbkhcjaaGreatNm10
import Derived.Test.YthlommalbkhcjaaGreatNm31
import Derived.Test.YthlommalbkhcjaaGreatNm46
import Derived.Test.YthlommalbkhcjaaGreatNm49
namespace Go.Proofs.YthlommalbkhcjaaGreat
open Go.ChangeShapes Go.WideShapes Go.ChangeAt Go.RowKit
theorem wf_u8 {z:Int} (h:(Lit.int .u8 z).wf=true):0≤z∧z < 256:=by
 have h1:IntKind.u8.min=0:=rfl
 have h2:IntKind.u8.max=255:=rfl
 simp only [Lit.wf,Bool.and_eq_true,decide_eq_true_eq] at h
 omega
theorem bytesV_of {zs:List Int} (h:∀ z ∈ zs,(Lit.int .u8 z).wf=true):bytesV (zs.map fun z=>UInt8.ofNat z.toNat)=zs.map (Value.int .u8):=by
 induction zs with
 | nil=>rfl
 | cons a r ih =>
   have ha:=wf_u8 (h a List.mem_cons_self)
   have:=ih fun z hz=>h z (List.mem_cons_of_mem _ hz)
   simp only [bytesV,List.map_cons] at this ⊢
   rw [this]
   congr 2
   have:(UInt8.ofNat a.toNat).toNat=a.toNat:=by simp; omega
   omega
section
variable {H:Type} {enc:TypeId × Value→H} {w:World} {spare:Nat→Bool} {held:Bool}
theorem elem_bytes {e:TypeId} (he:Tryz.prog.underlying e=some (.slice 5)) (n:Nat) (cs:List Value) (x:DataW H × List MemPlace) (h:DataW.trod enc Tryz.prog w 0 spare held n e cs=some x) (hl:Light Tryz.prog e x.1) :
  ∃ (A:Option Addr) (c:Nat) (y:By),cs=[.slice A y.length c]∧Reads w (fun k=>k < w.heap.size) 1 A y.length (bytesV y)∧y.length≤c:=by
 obtain ⟨A,n,c,ys,rfl,hr,hlen,hR,hn,hc⟩:=open_elems (fun z=>[Value.int .u8 z]) (fun z=>(Lit.int .u8 z).wf=true) 1 1 he (by kernel_rfl) (by kernel_rfl) (fun _=>rfl) Nat.one_pos (fun n cs x h _=>elem_int Tryz.underlying5 n cs x h) h hl
 refine ⟨A,c,ys.map fun z=>UInt8.ofNat z.toNat,by simp [hlen],?_,?_⟩
 ·simp only [List.length_map,bytesV_of hR,hlen]
  rw [flat_one] at hr
  exact hr
 ·simp only [List.length_map,hlen]
  exact hc
end
end Go.Proofs.YthlommalbkhcjaaGreat
namespace Go.Proofs.YthlommalbkhcjaaGreat
open Go.ChangeShapes Go.WideShapes Go.ChangeAt Go.RowKit
structure SlV where
 A:Option Addr
 c:Nat
 x:By
def SlV.v (y:SlV):Value:=.slice y.A y.x.length y.c
section
variable {H:Type} {enc:TypeId × Value→H} {w:World} {spare:Nat→Bool} {held:Bool}
end
end Go.Proofs.YthlommalbkhcjaaGreat
namespace Go.Proofs.YthlommalbkhcjaaGreat
open Go.ChangeShapes Go.WideShapes Go.ChangeAt Go.RowKit
theorem light_fieldF {H:Type} {P:Program} {t:TypeId} {fs:Array Field} (ht:P.underlying t=some (.struct fs)) {ds:List (DataW H)} (h:Light P t (.agg ds)) {j:Nat} {f:Field} {d:DataW H} (hf:fs[j]?=some f) (hd:ds[j]?=some d):Light P f.type d :=
 fun k hk=>h k (by
  simp only [DataW.weights,ht]
  exact DataW.weights_mem_each (j:=j) (by simp [hf]) hd k hk)
section
variable {H:Type} {enc:TypeId × Value→H} {w:World} {spare:Nat→Bool} {held:Bool}
set_option maxRecDepth 100000 in
theorem elem_sent (n:Nat) (cs:List Value) (x:DataW H × List MemPlace) (h:DataW.trod enc Tryz.prog w 0 spare held n 83 cs=some x) (hw:Light Tryz.prog 83 x.1) :
  ∃ z:Zs,cs=zsC z∧∃ A' c',z.u=.slice A' z.x.length c'∧Reads w (fun k=>k < w.heap.size) 1 A' z.x.length (bytesV z.x):=by
 obtain ⟨xs,n,_,e,hl,hlen,hfs⟩:=DataW.trod_struct Tryz.underlying83 h
 have hC:Tryz.prog.cellsOf 83=2:=by kernel_rfl
 have hC0:Tryz.prog.cellsOf 3=1:=by kernel_rfl
 have hC1:Tryz.prog.cellsOf 61=1:=by kernel_rfl
 rw [hC] at hl
 obtain ⟨c0,c1,rfl⟩:∃ c0 c1,cs=[c0,c1]:=by
  match cs,hl with
  | [c0,c1],_=>exact ⟨c0,c1,rfl⟩
 obtain ⟨y0,y1,exs⟩:∃ y0 y1,xs=[y0,y1]:=by
  match xs,hlen with
  | [y0,y1],_=>exact ⟨y0,y1,rfl⟩
 subst exs
 have t0:DataW.trod enc Tryz.prog w 0 spare held n 3 [c0]=some y0:=by have h:=hfs 0 _ rfl; change DataW.trod enc Tryz.prog w 0 spare held n 3 (List.take (Tryz.prog.cellsOf 3) (List.drop 0 [c0,c1]))=_ at h; rw [hC0] at h; exact h
 have t1:DataW.trod enc Tryz.prog w 0 spare held n 61 [c1]=some y1:=by have h:=hfs 1 _ rfl; change DataW.trod enc Tryz.prog w 0 spare held n 61 (List.take (Tryz.prog.cellsOf 61) (List.drop 1 [c0,c1]))=_ at h; rw [hC1] at h; exact h
 obtain ⟨z0,e0,_⟩:=elem_int Tryz.underlying3 _ _ _ t0
 obtain rfl:c0=_:=by simpa using e0
 rw [e] at hw
 have l1:Light Tryz.prog 61 y1.1:=light_fieldF Tryz.underlying83 hw (j:=1) rfl rfl
 obtain ⟨A,c,y,e1,hr,_⟩:=elem_bytes Tryz.underlying61 _ _ _ t1 l1
 obtain rfl:c1=_:=by simpa using e1
 exact ⟨⟨z0,y,.slice A y.length c⟩,rfl,A,c,rfl,hr⟩
set_option maxRecDepth 100000 in
theorem arg_ft {v:Value} {d:DataW H} {p:List MemPlace} {cs:Array Value} (hv:v=.agg cs)
  (h:DataW.Trod enc Tryz.prog w 0 spare held 71 v d p) (hw:Light Tryz.prog 71 d) :
  ∃ F:FtA,v=.agg (ftV F)∧FtM w (fun k=>k < w.heap.size) F:=by
 obtain ⟨fuel,hf⟩:=h
 subst hv
 have hcs:(Value.agg cs).cells.toList=cs.toList:=rfl
 rw [hcs] at hf
 obtain ⟨xs,n,_,e,hl,hlen,hfs⟩:=DataW.trod_struct Tryz.underlying71 hf
 have hC:Tryz.prog.cellsOf 71=4:=by kernel_rfl
 have hC0:Tryz.prog.cellsOf 66=1:=by kernel_rfl
 have hC1:Tryz.prog.cellsOf 67=1:=by kernel_rfl
 have hC2:Tryz.prog.cellsOf 68=1:=by kernel_rfl
 have hC3:Tryz.prog.cellsOf 69=1:=by kernel_rfl
 rw [hC] at hl
 obtain ⟨c0,c1,c2,c3,ecs⟩:∃ c0 c1 c2 c3,cs.toList=[c0,c1,c2,c3]:=by
  match cs.toList,hl with
  | [c0,c1,c2,c3],_=>exact ⟨c0,c1,c2,c3,rfl⟩
 obtain ⟨y0,y1,y2,y3,exs⟩:∃ y0 y1 y2 y3,xs=[y0,y1,y2,y3]:=by
  match xs,hlen with
  | [y0,y1,y2,y3],_=>exact ⟨y0,y1,y2,y3,rfl⟩
 subst exs
 rw [ecs] at hfs
 have t0:DataW.trod enc Tryz.prog w 0 spare held n 66 [c0]=some y0:=by have h:=hfs 0 _ rfl; change DataW.trod enc Tryz.prog w 0 spare held n 66 (List.take (Tryz.prog.cellsOf 66) (List.drop 0 [c0,c1,c2,c3]))=_ at h; rw [hC0] at h; exact h
 have t1:DataW.trod enc Tryz.prog w 0 spare held n 67 [c1]=some y1:=by have h:=hfs 1 _ rfl; change DataW.trod enc Tryz.prog w 0 spare held n 67 (List.take (Tryz.prog.cellsOf 67) (List.drop 1 [c0,c1,c2,c3]))=_ at h; rw [hC1] at h; exact h
 have t2:DataW.trod enc Tryz.prog w 0 spare held n 68 [c2]=some y2:=by have h:=hfs 2 _ rfl; change DataW.trod enc Tryz.prog w 0 spare held n 68 (List.take (Tryz.prog.cellsOf 68) (List.drop 2 [c0,c1,c2,c3]))=_ at h; rw [hC2] at h; exact h
 have t3:DataW.trod enc Tryz.prog w 0 spare held n 69 [c3]=some y3:=by have h:=hfs 3 _ rfl; change DataW.trod enc Tryz.prog w 0 spare held n 69 (List.take (Tryz.prog.cellsOf 69) (List.drop 3 [c0,c1,c2,c3]))=_ at h; rw [hC3] at h; exact h
 injection e with ed ep
 subst ed
 have l2:Light Tryz.prog 68 y2.1:=light_fieldF Tryz.underlying71 hw (j:=2) rfl rfl
 have l3:Light Tryz.prog 69 y3.1:=light_fieldF Tryz.underlying71 hw (j:=3) rfl rfl
 obtain ⟨z0,e0,_⟩:=elem_int Tryz.underlying66 _ _ _ t0
 obtain rfl:c0=_:=by simpa using e0
 obtain ⟨z1,e1,_⟩:=elem_int Tryz.underlying67 _ _ _ t1
 obtain rfl:c1=_:=by simpa using e1
 obtain ⟨A,k,c,ys,e2,hr2,hl2,hR2,_,_⟩:=open_elems (fun y:SlV=>[y.v]) (fun y=>Reads w (fun k=>k < w.heap.size) 1 y.A y.x.length (bytesV y.x)∧y.x.length≤y.c) 1 24 Tryz.underlying68 (by kernel_rfl) (by kernel_rfl) (fun _=>rfl) Nat.one_pos (fun n cs x h hl=>by
  obtain ⟨A,c,y,e,h1,h2⟩:=elem_bytes Tryz.underlying61 n cs x h hl
  exact ⟨⟨A,c,y⟩,e,h1,h2⟩) t2 l2
 obtain rfl:c2=_:=by simpa using e2
 rw [flat_one] at hr2
 obtain ⟨A3,k3,c3',zs,e3,hr3,hl3,hR3,_,_⟩:=open_elems zsC (fun z=>∃ A' c',z.u=.slice A' z.x.length c'∧Reads w (fun k=>k < w.heap.size) 1 A' z.x.length (bytesV z.x)) 2 32 Tryz.underlying69 (by kernel_rfl) (by kernel_rfl) (fun _=>rfl) (by omega) (fun n cs x h hl=>elem_sent n cs x h hl) t3 l3
 obtain rfl:c3=_:=by simpa using e3
 refine ⟨⟨z0,z1,A,k,c,ys.map SlV.v,ys.map SlV.x,A3,k3,c3',zs⟩,?_,⟨⟨hr2,by rw [List.length_map]; exact hl2,fun j x hx=>?_⟩,⟨hr3,hl3,hR3⟩⟩⟩
 ·congr 1
  apply Array.ext'
  rw [ecs]
  rfl
 ·rw [List.getElem?_map] at hx
  cases hy:ys[j]? with
  | none=>rw [hy] at hx; cases hx
  | some y =>
    rw [hy] at hx
    injection hx with hx
    subst hx
    have hm:=hR2 y (List.mem_of_getElem? hy)
    exact ⟨y.A,y.c,by rw [List.getElem?_map,hy]; rfl,hm.2,hm.1⟩
end
end Go.Proofs.YthlommalbkhcjaaGreat
namespace Go.Proofs.YthlommalbkhcjaaGreat.fwdNames
open Go.ChangeShapes Go.WideShapes Go.ChangeAt Go.RowKit
open Go.ChangeMaps (open_string shut_string)
set_option maxRecDepth 100000 in
theorem lifted (os:Os) (started:os.Started) (H:Type) (enc:TypeId × Value→H) :
  ReturnsInHanded {} Tryz.checked os 7 .any (Rows.fwdNamesSpec.pre6 enc Tryz.prog Tryz.f7 Rows.fwdNamesRow.domain false) (Rows.fwdNamesSpec.post enc Tryz.prog Tryz.f7 false true false false):=by
 refine returnsInHanded_of_change_sized (C:=Tryz.checked) own started (by kernel_rfl) Tryz.func7
  (ChangeSpec.witness6 (enc:=enc) (C:=Tryz.checked) false ⟨#[],#[.int .i64 0,.agg #[.int .i64 0,.int .i64 0,.slice none 0 0,.slice none 0 0],.agg #[.int .i64 0,.int .i64 0,.slice none 0 0,.slice none 0 0]],[]⟩ 8 (by kernel_rfl) (by kernel_rfl) (by kernel_rfl) (by kernel_rfl)) ?_
 intro W base args ds gs before hval0 hW _ hsz0 _
 have hsz:(DataW.weightsEach Tryz.prog (Tryz.f7.params.toList++Rows.fwdNamesSpec.plain.varTypes Tryz.prog) (ds++gs)).all (·≤reachBytes)=true:=hsz0
 have hval:∀ (j:Nat) t v,Tryz.f7.params[j]?=some t→args[j]?=some v→Value.okWide Tryz.prog W .any base t v:=hval0
 clear hsz0 hval0
 have hW':=hW
 obtain ⟨p,q,hA0,hV,rfl,_,_⟩:=hW
 have hA:DataW.TrodAll enc Tryz.prog W 0 (fun _=>true) true Tryz.f7.params.toList args.toList ds p:=hA0
 clear hA0
 rw [Tryz.params7] at hA hval hsz
 obtain ⟨v0,vs0,d0,ds0,p0,q0,hargs,rfl,rfl,h0,r0⟩:=trodAll_cons hA
 obtain ⟨v1,vs1,d1,ds1,p1,q1,rfl,rfl,rfl,h1,r1⟩:=trodAll_cons r0
 obtain ⟨v2,vs2,d2,ds2,p2,q2,rfl,rfl,rfl,h2,r2⟩:=trodAll_cons r1
 obtain ⟨rfl,rfl,rfl⟩:=trodAll_nil r2
 obtain rfl:args=#[v0,v1,v2]:=by cases args; simp_all
 obtain ⟨rfl,rfl⟩:=trodVars_none hV
 have k0:=h0
 have lt0:∀ x ∈ p0,x.block < W.heap.size:=by obtain ⟨m,hm⟩:=k0; exact DataW.trod_lt m _ _ _ hm
 obtain ⟨x0,rfl,rfl,rfl,wf0⟩:=open_int Tryz.underlying66 (hval 0 66 v0 rfl rfl) h0
 have k1:=h1
 have lt1:∀ x ∈ p1,x.block < W.heap.size:=by obtain ⟨m,hm⟩:=k1; exact DataW.trod_lt m _ _ _ hm
 obtain ⟨cs1,rfl,_⟩:=okWide_struct Tryz.underlying71 (hval 1 71 v1 rfl rfl)
 have z1:Light Tryz.prog 71 d1:=light_each hsz (j:=1) rfl rfl
 obtain ⟨g1,e1,R1⟩:=arg_ft rfl h1 z1
 injection e1 with e1a
 subst e1a
 have k2:=h2
 have lt2:∀ x ∈ p2,x.block < W.heap.size:=by obtain ⟨m,hm⟩:=k2; exact DataW.trod_lt m _ _ _ hm
 obtain ⟨cs2,rfl,_⟩:=okWide_struct Tryz.underlying71 (hval 2 71 v2 rfl rfl)
 have z2:Light Tryz.prog 71 d2:=light_each hsz (j:=2) rfl rfl
 obtain ⟨g2,e2,R2⟩:=arg_ft rfl h2 z2
 injection e2 with e2a
 subst e2a
 refine (fwdnames_any x0 g1 g2 W R1 R2).mono fun e W' ⟨he,bel⟩=>?_
 subst he
 exact ⟨_,rfl,_,_,_,[],_,[],hW',trodAll_mk1 (shut_bool Tryz.underlying4 _),(trodAll_cons_mk (shut_int Tryz.underlying66 wf0) (trodAll_cons_mk (Below.trod laidOut (by kernel_rfl) (of_decide_eq_true (by kernel_rfl)) k1 bel lt1) (trodAll_cons_mk (Below.trod laidOut (by kernel_rfl) (of_decide_eq_true (by kernel_rfl)) k2 bel lt2) trodAll_mk0))),rfl,bel.frame _,fun h=>by cases h⟩
theorem over:Rows.fwdNamesRow.holds Tryz.pinned (OpenSpec.ofChange Rows.fwdNamesSpec) :=
 OpenClaim.holds_of_wide 7 Tryz.f7 rfl rfl rfl rfl rfl rfl rfl ⟨rfl,rfl,rfl,rfl,rfl⟩ rfl rfl rfl rfl rfl (by kernel_rfl) Tryz.func7 (by kernel_rfl)
  (of_decide_eq_true (by kernel_rfl)) (by unfold Func.isWrapper; first | (rw [if_pos (by decide +kernel)]; kernel_rfl) | (rw [if_neg (by decide +kernel)]; exact ⟨rfl,rfl⟩))
  (fun os started H enc _=>lifted os started H enc)
theorem proved:Rows.FwdNamesSaid:=over
end Go.Proofs.YthlommalbkhcjaaGreat.fwdNames
