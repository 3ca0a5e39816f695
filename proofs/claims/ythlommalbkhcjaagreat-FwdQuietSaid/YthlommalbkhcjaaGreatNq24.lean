/- Rows of byte slices; guidepostref01.Join. -/
import Derived.Test.YthlommalbkhcjaaGreatNq22
import Derived.Test.YthlommalbkhcjaaGreatNq04
import Derived.Test.YthlommalbkhcjaaGreatNq06
import Derived.Test.YthlommalbkhcjaaGreatNq15
import Derived.Test.YthlommalbkhcjaaGreatNq23
namespace Go.Proofs.YthlommalbkhcjaaGreat
open Go.RowKit Go.Sort
/-! ### The plain law -/
def partsAt:Nat→List (UInt8 × By)→List (Nat × Nat)
 | _,[]=>[]
 | i,s :: r=>(i,s.2.length) :: partsAt (i+s.2.length) r
theorem partsAt_len:∀ (L:List (UInt8 × By)) (i:Nat),(partsAt i L).length=L.length
 | [],_=>rfl
 | s :: r,i=>by simp [partsAt,partsAt_len r]
theorem partsAt_snoc:∀ (L:List (UInt8 × By)) (i:Nat) (s:UInt8 × By),partsAt i (L++[s])=partsAt i L++[(i+(flatF L).length,s.2.length)]
 | [],i,s=>by simp [partsAt,flatF]
 | t :: r,i,s=>by
   show (i,t.2.length) :: partsAt (i+t.2.length) (r++[s])=_
   rw [partsAt_snoc r]
   simp [partsAt,flatF,Nat.add_assoc]
def partC (p:Nat × Nat):List Value:=[.int .i64 (p.1:Int),.int .i64 (p.2:Int)]
def PartR (B:Nat) (W:World) (v:Value) (L:List (Nat × Nat)):Prop:=W.ownsRow B 216 2 v L.length (L.flatMap partC)
def partsF (x:By):List (Nat × Nat):=if goodF x=true then partsAt 0 (steps x) else []
structure StepAt (x:By) (i:Nat) (L:List (UInt8 × By)):Prop where
 le:i≤x.length
 pre:steps x=L++steps (x.drop i)
 flat:flatF L=x.take i
 good:∀ s ∈ L,s.2≠[]
theorem StepAt.zero (x:By):StepAt x 0 []:=⟨Nat.zero_le _,rfl,rfl,fun _ h=>by cases h⟩
theorem StepAt.len {x:By} {i:Nat} {L:List (UInt8 × By)} (h:StepAt x i L):(flatF L).length=i:=by
 rw [h.flat,List.length_take]
 have:=h.le
 omega
theorem goodL {L:List (UInt8 × By)} (h:∀ s ∈ L,s.2≠[]):(L.all fun s=>!s.2.isEmpty)=true:=List.all_eq_true.2 fun s hs=>by
 have:=h s hs
 cases hx:s.2 with
 | nil=>exact absurd hx this
 | cons _ _=>rfl
theorem StepAt.done {x:By} {i:Nat} {L:List (UInt8 × By)} (h:StepAt x i L) (he:steps (x.drop i)=[]):goodF x=true∧partsF x=partsAt 0 L:=by
 have h1:steps x=L:=by rw [h.pre,he,List.append_nil]
 have h2:goodF x=true:=by unfold goodF; rw [h1]; exact goodL h.good
 exact ⟨h2,by unfold partsF; rw [if_pos h2,h1]⟩
theorem StepAt.end_ {x:By} {L:List (UInt8 × By)} (h:StepAt x x.length L):goodF x=true∧partsF x=partsAt 0 L:=h.done (by rw [List.drop_length]; rfl)
theorem StepAt.zero_ {x:By} {i:Nat} {L:List (UInt8 × By)} (h:StepAt x i L) (hi:i < x.length) (h0:x[i]=0):goodF x=true∧partsF x=partsAt 0 L:=h.done (by
 rw [List.drop_eq_getElem_cons hi,h0]; exact steps_zero _)
theorem StepAt.bad {x:By} {i:Nat} {L:List (UInt8 × By)} (h:StepAt x i L) (hi:i < x.length) (h0:x[i]≠0) (hn:stepN (x.drop i)=0):goodF x=false∧partsF x=[]:=by
 have h1:steps (x.drop i)=[(x[i],[])]:=by
  rw [List.drop_eq_getElem_cons hi] at hn ⊢
  exact steps_bad h0 hn
 have h2:goodF x=false:=by
  unfold goodF
  rw [h.pre,h1]
  simp
 exact ⟨h2,by unfold partsF; rw [if_neg (by rw [h2]; decide)]⟩
theorem StepAt.next {x:By} {i m:Nat} {L:List (UInt8 × By)} (h:StepAt x i L) (hi:i < x.length) (h0:x[i]≠0) (hn:stepN (x.drop i)=m) (hm:m≠0) :
  i+m≤x.length∧StepAt x (i+m) (L++[(x[i],(x.drop i).take m)])∧partsAt 0 (L++[(x[i],(x.drop i).take m)])=partsAt 0 L++[(i,m)]:=by
 have hle:=stepN_le (x.drop i)
 rw [hn,List.length_drop] at hle
 have hl:((x.drop i).take m).length=m:=by rw [List.length_take,List.length_drop]; omega
 refine ⟨by omega,⟨by omega,?_,?_,fun s hs=>?_⟩,?_⟩
 ·have h1:steps (x.drop i)=(x[i],(x.drop i).take m) :: steps (x.drop (i+m)):=by
   have e:=List.drop_eq_getElem_cons hi
   have h2:=steps_good (k:=x[i]) (r:=x.drop (i+1)) h0 (by rw [← e,hn]; exact hm)
   rw [← e,hn,List.drop_drop] at h2
   exact h2
  rw [h.pre,h1]
  simp
 ·have:flatF (L++[(x[i],(x.drop i).take m)])=flatF L++(x.drop i).take m:=by simp [flatF]
  rw [this,h.flat,List.take_add]
 ·rcases List.mem_append.1 hs with hs | hs
  ·exact h.good s hs
  ·rw [List.mem_singleton.1 hs]
   intro e
   rw [show (x.drop i).take m=[] from e] at hl
   exact hm (by simpa using hl.symm)
 ·rw [partsAt_snoc,h.len,Nat.zero_add,hl]
theorem stepN_at {x:By} {i:Nat} (hi:i < x.length):stepN (x.drop i)=if x[i]=1 then 1 else if i+1 < x.length∧2≤(x.getD (i+1) 0).toNat∧i+(x.getD (i+1) 0).toNat≤x.length then (x.getD (i+1) 0).toNat else 0:=by
 rw [List.drop_eq_getElem_cons hi]
 unfold stepN
 simp only
 split
 ·rfl
 ·by_cases h1:i+1 < x.length
  ·rw [List.drop_eq_getElem_cons h1]
   simp only [List.length_cons,List.length_drop]
   rw [List.getD_eq_getElem?_getD,List.getElem?_eq_getElem h1]
   simp only [Option.getD_some]
   by_cases h2:2≤x[i+1].toNat∧x[i+1].toNat≤x.length - (i+1+1)+1+1
   ·rw [if_pos h2,if_pos ⟨h1,h2.1,by omega⟩]
   ·rw [if_neg h2,if_neg (by omega)]
  ·rw [List.drop_eq_nil_of_le (by omega),if_neg (by omega)]
/-! ### Rows of structs: append one -/
section
variable {P:Program} {ops:Array Oper} {rest:List Oper} {o:Oper} {a:Act} {Q:Exit→Act→World→Prop}
end
theorem info_part:(Tryz.prog.info? 216).map (fun i=>(i.zero,i.size,i.bytes))=some (some (.agg #[.int .i64 0,.int .i64 0]),2,16):=by kernel_rfl
theorem one_part (p:Nat × Nat):∀ u ∈ partC p,u.oneCell'=true:=by
 intro u hu
 simp only [partC,List.mem_cons,List.not_mem_nil,or_false] at hu
 rcases hu with rfl | rfl <;> rfl
def PartsPost (w:World) (x:By) (e:Ending) (w':World):Prop:=∃ v,e=.returned (.tuple #[v,.bool (goodF x)])∧PartR w.heap.size w' v (partsF x)∧Below w.heap.size w w'
set_option maxRecDepth 20000 in
set_option maxHeartbeats 2000000 in
theorem parts_any (A:Option Addr) (n c:Nat) (x:By) (I:Nat→Prop) (w:World) (h:Reads w I 1 A n (bytesV x)) (hn:x.length=n) (hsm:n≤1000000) :
  Calls Tryz.prog 74 #[.slice A n c] w (PartsPost w x):=by
 have HR:=Lib.hid h.lt
 have HL:=Lib.hid hn
 obtain ⟨i0,hi,hz0,hz1,hz2⟩:=info_parts info_part
 clear h hn
 go_enter Tryz.func74,Tryz.ntmps74
 go_wp2_with fail
 go_loopw [4,5] (fun v i wr=>∃ (k:Nat) (L:List (UInt8 × By)),k≤n∧i=.int .i64 (k:Int)∧L.length≤k∧StepAt x k L∧PartR w.heap.size wr v (partsAt 0 L)∧Below w.heap.size w wr) (fun _ i _=>n - (intOf i).toNat)
 case atStart=>exact ⟨0,[],Nat.zero_le _,rfl,Nat.le_refl _,StepAt.zero x,World.ownsRow_nil _ _ _ _,Below.refl _ _⟩
 case round =>
  obtain ⟨k,L,hk,rfl,hLk,hs,hv,hb⟩:=hrel
  have HS:=Lib.hid hs
  have HV:=Lib.hid hv
  have HB:=Lib.hid hb
  have hrd:=HR.out.keep (Same.ofBelow hb fun k hk=>hk.2)
  clear hv hb hs
  by_cases hlt:k < n
  ·have hkx:k < x.length:=by rw [HL.out]; exact hlt
   obtain ⟨ad,rfl,_,hc0⟩:=byte_at hrd hkx
   obtain ⟨b0,hbe⟩:∃ b0,b0=x[k].toNat:=⟨_,rfl⟩
   have hb0:b0 < 256:=by rw [hbe]; exact x[k].toNat_lt
   have hN:=stepN_at hkx
   rw [← hbe] at hc0
   have hi0:(0:Int)≤k:=by omega
   have hi1:(k:Int) < n:=by omega
   have hd0:decide ((k:Int) < (n:Int))=true:=decide_eq_true (by omega)
   have hd1:decide (k < n)=true:=decide_eq_true hlt
   by_cases h0:b0=0
   ·obtain ⟨hg,hp⟩:=HS.out.zero_ hkx (by apply UInt8.toNat_inj.1; rw [← hbe,h0]; rfl)
    have HG:=Lib.hid hg
    have HP:=Lib.hid hp
    subst h0
    clear hN hg hp hbe hrd
    go_wp2_with fail
    go_ret2
    exact ⟨_,by rw [HG.out]; rfl,by rw [HP.out]; exact HV.out,HB.out⟩
   ·have hx0:x[k]≠0:=fun e=>h0 (by rw [hbe,e]; rfl)
    have h00:((b0:Int) == 0)=false:=by rw [beq_eq_false_iff_ne]; omega
    by_cases h1:b0=1
    ·rw [if_pos (by apply UInt8.toNat_inj.1; rw [← hbe,h1]; rfl)] at hN
     obtain ⟨hle,hst,hpa⟩:=HS.out.next hkx hx0 hN (by decide)
     have HST:=Lib.hid hst
     have HPA:=Lib.hid hpa
     have hle':k+1≤n:=by omega
     subst h1
     have hmx:(partsAt 0 L).length+1≤maxLen:=by unfold maxLen; rw [partsAt_len]; omega
     have hmb:((partsAt 0 L).length+1) * 16≤140737488355328:=by rw [partsAt_len]; omega
     clear hN hbe hrd hx0 hpa hst hle
     go_wp2_with (at_builtin; refine wpList_pushN wr rfl (.tmp 54) (.tmp 58) _ 216 rfl rfl i0 _ 2 16 Tryz.underlying149 hi hz0 hz1 hz2 rfl (by decide) w.heap.size u4 _ _ (partC (k,1)) rfl (one_part _) rfl HV.out rfl hmx hmb HB.out.size ?_; intro v2 w2 h2 hg2 hat2)
     have hb2:=HB.out.grown hg2 HB.out.size fun g hg=>(own_lt HV.out hg).1
     have h2':PartR w.heap.size w2 v2 (partsAt 0 (L++[(x[k],(x.drop k).take 1)])):=by
      unfold PartR
      rw [HPA.out,List.length_append,List.flatMap_append]
      exact h2
     have H2:=Lib.hid h2'
     have HB2:=Lib.hid hb2
     clear h2 hg2 hat2 hb2 h2'
     go_wp2_with fail
     go_roundw
     case rel=>exact ⟨k+1,_,by omega,rfl,by rw [List.length_append]; simp; omega,HST.out,H2.out,HB2.out⟩
     case measure=>simp [intOf]; omega
    ·rw [if_neg (fun e=>h1 (by rw [hbe,e]; rfl))] at hN
     have h11:((b0:Int) != 1)=true:=by rw [bne_iff_ne]; omega
     by_cases h2:k+1 < n
     ·have hk1:k+1 < x.length:=by rw [HL.out]; exact h2
      obtain ⟨ad',he,_,hc1⟩:=byte_at hrd hk1
      injection he with he
      subst he
      obtain ⟨b1,hbe1⟩:∃ b1,b1=x[k+1].toNat:=⟨_,rfl⟩
      have hb1:b1 < 256:=by rw [hbe1]; exact x[k+1].toNat_lt
      have hg1:(x.getD (k+1) 0).toNat=b1:=by rw [hbe1,List.getD_eq_getElem?_getD,List.getElem?_eq_getElem hk1]; rfl
      rw [← hbe1,add_pos _ _ (by omega)] at hc1
      rw [hg1,HL.out] at hN
      have hc2:wr.cell? ⟨ad.block,ad.off+(k+1),none⟩=some (.int .u8 (b1:Int)):=hc1
      have hd2:decide ((n:Int)≤(k:Int)+1)=false:=decide_eq_false (by omega)
      have hd3:decide (n≤k+1)=false:=decide_eq_false (by omega)
      have hi2:(0:Int)≤(k:Int)+1:=by omega
      have hi3:(k:Int)+1 < n:=by omega
      by_cases h3:b1 < 2
      ·rw [if_neg (by omega)] at hN
       obtain ⟨hg,hp⟩:=HS.out.bad hkx hx0 hN
       have HG:=Lib.hid hg
       have HP:=Lib.hid hp
       have hd4:decide ((b1:Int) < 2)=true:=decide_eq_true (by omega)
       clear hN hg hp hbe hrd hbe1 hg1 hc1
       go_wp2_with fail
       go_ret2
       exact ⟨_,by rw [HG.out]; rfl,by rw [HP.out]; exact World.ownsRow_nil _ _ _ _,HB.out⟩
      ·have hd4:decide ((b1:Int) < 2)=false:=decide_eq_false (by omega)
       by_cases h4:k+b1≤n
       ·rw [if_pos ⟨h2,by omega,h4⟩] at hN
        have hd5:decide ((n:Int) < (k:Int)+(b1:Int))=false:=decide_eq_false (by omega)
        have hd6:decide (n < k+b1)=false:=decide_eq_false (by omega)
        obtain ⟨hle,hst,hpa⟩:=HS.out.next hkx hx0 hN (by omega)
        have HST:=Lib.hid hst
        have HPA:=Lib.hid hpa
        clear hbe1 hg1 hc1
        have hmx:(partsAt 0 L).length+1≤maxLen:=by unfold maxLen; rw [partsAt_len]; omega
        have hmb:((partsAt 0 L).length+1) * 16≤140737488355328:=by rw [partsAt_len]; omega
        clear hN hbe hrd hx0 hpa hst hle
        go_wp2_with (at_builtin; refine wpList_pushN wr rfl (.tmp 54) (.tmp 58) _ 216 rfl rfl i0 _ 2 16 Tryz.underlying149 hi hz0 hz1 hz2 rfl (by decide) w.heap.size u4 _ _ (partC (k,b1)) rfl (one_part _) rfl HV.out rfl hmx hmb HB.out.size ?_; intro v2 w2 h2 hg2 hat2)
        have hb2:=HB.out.grown hg2 HB.out.size fun g hg=>(own_lt HV.out hg).1
        have h2':PartR w.heap.size w2 v2 (partsAt 0 (L++[(x[k],(x.drop k).take b1)])):=by
         unfold PartR
         rw [HPA.out,List.length_append,List.flatMap_append]
         exact h2
        have H2:=Lib.hid h2'
        have HB2:=Lib.hid hb2
        clear h2 hg2 hat2 hb2 h2'
        go_wp2_with fail
        go_roundw
        case rel=>exact ⟨k+b1,_,by omega,rfl,by rw [List.length_append]; simp; omega,HST.out,H2.out,HB2.out⟩
        case measure=>simp [intOf]; omega
       ·rw [if_neg (by omega)] at hN
        obtain ⟨hg,hp⟩:=HS.out.bad hkx hx0 hN
        have HG:=Lib.hid hg
        have HP:=Lib.hid hp
        have hd5:decide ((n:Int) < (k:Int)+(b1:Int))=true:=decide_eq_true (by omega)
        have hd6:decide (n < k+b1)=true:=decide_eq_true (by omega)
        clear hN hg hp hbe hrd hbe1 hg1 hc1
        go_wp2_with fail
        go_ret2
        exact ⟨_,by rw [HG.out]; rfl,by rw [HP.out]; exact World.ownsRow_nil _ _ _ _,HB.out⟩
     ·rw [if_neg (by rw [HL.out]; omega)] at hN
      obtain ⟨hg,hp⟩:=HS.out.bad hkx hx0 hN
      have HG:=Lib.hid hg
      have HP:=Lib.hid hp
      have hd2:decide ((n:Int)≤(k:Int)+1)=true:=decide_eq_true (by omega)
      have hd3:decide (n≤k+1)=true:=decide_eq_true (by omega)
      clear hN hg hp hbe hrd
      go_wp2_with fail
      go_ret2
      exact ⟨_,by rw [HG.out]; rfl,by rw [HP.out]; exact World.ownsRow_nil _ _ _ _,HB.out⟩
  ·obtain rfl:k=n:=by omega
   have hp:=HS.out
   have e:x.length=k:=HL.out
   subst e
   obtain ⟨hg,hp⟩:=hp.end_
   have HG:=Lib.hid hg
   have HP:=Lib.hid hp
   clear hg hp hrd
   go_wp2_with fail
   go_ret2
   exact ⟨_,by rw [HG.out]; rfl,by rw [HP.out]; exact HV.out,HB.out⟩
end Go.Proofs.YthlommalbkhcjaaGreat
namespace Go.Proofs.YthlommalbkhcjaaGreat
open Go.RowKit Go.Sort Go.BigFrame
theorem frag_any (h:Hd) (A:Option Addr) (n c:Nat) (w:World) :
  Calls Tryz.prog 96 #[hdV h (.slice A n c)] w fun e w'=>e=.returned (.bool (fragH h))∧Below w.heap.size w w':=by
 have HB:=Lib.hid ((Below.refl w.heap.size w).alloc (Nat.le_refl _) (.cells (hdC h (.slice A n c)) 76))
 unfold hdC at HB
 unfold hdV fragH
 cases hm:h.mf with
 | true =>
   rw [hm] at HB
   clear hm
   go_enter Tryz.func96,Tryz.ntmps96
   go_wp2_with fail
   go_ret
   exact ⟨rfl,HB.out⟩
 | false =>
   rw [hm] at HB
   clear hm
   obtain ⟨b,hb⟩:∃ b,b=decide (0 < h.off):=⟨_,rfl⟩
   rw [← hb]
   have e:=hb.symm
   have HBB:=Lib.hid hb
   clear hb
   go_enter Tryz.func96,Tryz.ntmps96
   go_wp2_with fail
   go_ret
   exact ⟨rfl,HB.out⟩
def multiF (a:Nat):Bool:=decide (224 * 2 ^ 24≤a)
theorem rmulti_any (a:Nat) (w:World) (ha:a < 2 ^ 32) :
  Calls Tryz.prog 31 #[.int .u32 (a:Int)] w fun e w'=>e=.returned (.bool (multiF a))∧w=w':=by
 have u:IntKind.u64.wrap (a:Int)=(a:Int):=wraps_u64 _ (by omega) (by omega)
 obtain ⟨b,hb⟩:∃ b,b=multiF a:=⟨_,rfl⟩
 rw [← hb]
 have e:decide ((3758096384:Int)≤(a:Int))=b:=by rw [hb]; unfold multiF; rw [decide_eq_decide]; omega
 have e2:decide (3758096384≤a)=b:=by rw [hb]; rfl
 clear hb
 go_enter Tryz.func31,Tryz.ntmps31
 go_wp2_with fail
 go_ret
 exact ⟨rfl,rfl⟩
theorem multi_any (a:Nat) (w:World) :
  Calls Tryz.prog 163 #[.int .u32 (a:Int)] w fun e w'=>e=.returned (.bool (multiF a))∧w=w':=by
 obtain ⟨b,hb⟩:∃ b,b=multiF a:=⟨_,rfl⟩
 rw [← hb]
 have e:decide ((224:Int)≤(a:Int) / 16777216)=b:=by rw [hb]; unfold multiF; rw [decide_eq_decide]; omega
 clear hb
 go_enter Tryz.func163,Tryz.ntmps163
 go_wp2_with fail
 go_ret
 exact ⟨rfl,rfl⟩
theorem bit_any (b:Bool) (n:Nat) (w:World):Calls Tryz.prog 120 #[.bool b,.int .u64 (n:Int)] w fun e w'=>e=.returned (.int .u64 (bitF b n:Int))∧w=w':=by
 cases b with
 | true =>
   go_enter Tryz.func120,Tryz.ntmps120
   go_wp2_with fail
   go_ret
   exact ⟨rfl,rfl⟩
 | false =>
   go_enter Tryz.func120,Tryz.ntmps120
   go_wp2_with fail
   go_ret
   exact ⟨rfl,rfl⟩
end Go.Proofs.YthlommalbkhcjaaGreat
namespace Go.Proofs.YthlommalbkhcjaaGreat
structure Ic where
 ty:UInt8
 co:UInt8
 r0:UInt8
 r1:UInt8
 r2:UInt8
 r3:UInt8
 body:By
def ic0:Ic:=⟨0,0,0,0,0,0,[]⟩
def icW (m:Ic) (s0 s1:UInt8):By:=m.ty :: m.co :: s0 :: s1 :: m.r0 :: m.r1 :: m.r2 :: m.r3 :: m.body
def icB (m:Ic):By:=icW m (u8 (checkF (icW m 0 0) / 256)) (u8 (checkF (icW m 0 0)))
def icOf (b:By):Ic × Nat :=
 if b.length < 8∨totalF b≠65535 then (ic0,4) else (⟨b.getD 0 0,b.getD 1 0,b.getD 4 0,b.getD 5 0,b.getD 6 0,b.getD 7 0,b.drop 8⟩,0)
theorem icB_len (m:Ic):(icB m).length=8+m.body.length:=by unfold icB icW; simp; omega
theorem icW_words (m:Ic) (s0 s1:UInt8):wordsF (icW m s0 s1)=(256 * m.ty.toNat+m.co.toNat) :: (256 * s0.toNat+s1.toNat) :: (256 * m.r0.toNat+m.r1.toNat) :: (256 * m.r2.toNat+m.r3.toNat) :: wordsF m.body:=by
 simp [icW,wordsF]
theorem icW_sum (m:Ic) (s0 s1:UInt8):totalF (icW m s0 s1) < 65536∧totalF (icW m s0 s1) % 65535=((wordsF (icW m 0 0)).sum+(256 * s0.toNat+s1.toNat)) % 65535:=by
 refine ⟨totalF_lt _,?_⟩
 unfold totalF sumF
 rw [fold_mod _ 0 (by omega) (wordsF_lt _),icW_words,icW_words]
 congr 1
 simp
 omega
theorem ic_total (m:Ic):totalF (icB m)=65535:=by
 obtain ⟨a1,a3⟩:=icW_sum m 0 0
 obtain ⟨b1,b3⟩:=icW_sum m (u8 (checkF (icW m 0 0) / 256)) (u8 (checkF (icW m 0 0)))
 have hc:checkF (icW m 0 0)=65535 - totalF (icW m 0 0):=rfl
 simp only [u8_nat] at b3
 rw [bytes_word (by omega)] at b3
 have a3':totalF (icW m 0 0) % 65535=(wordsF (icW m 0 0)).sum % 65535:=by simpa using a3
 refine total_plain (B:=(wordsF (icW m 0 0)).sum) a1 hc b1 ?_ a3' b3
 intro e
 have e2:=(fold_zero _ 0 (by omega) (wordsF_lt _)).1 (show (wordsF (icB m)).foldl addF 0=0 from e)
 unfold icB at e2
 rw [icW_words] at e2
 have z0:=e2.2 _ (List.mem_cons_self)
 have z1:=e2.2 _ (List.mem_cons_of_mem _ List.mem_cons_self)
 have z2:=e2.2 _ (List.mem_cons_of_mem _ (List.mem_cons_of_mem _ List.mem_cons_self))
 have z3:=e2.2 _ (List.mem_cons_of_mem _ (List.mem_cons_of_mem _ (List.mem_cons_of_mem _ List.mem_cons_self)))
 simp only [u8_nat] at z1
 rw [bytes_word (by omega)] at z1
 have t0:totalF (icW m 0 0)=0:=by
  unfold totalF sumF
  refine (fold_zero _ 0 (by omega) (wordsF_lt _)).2 ⟨rfl,fun n hn=>?_⟩
  rw [icW_words] at hn
  simp only [List.mem_cons] at hn
  rcases hn with rfl | rfl | rfl | rfl | hn
  ·exact z0
  ·rfl
  ·exact z2
  ·exact z3
  ·exact e2.2 n (by simp [hn])
 omega
theorem ic_back (m:Ic):icOf (icB m)=(m,0):=by
 unfold icOf
 rw [if_neg (by rw [icB_len,ic_total]; omega)]
 unfold icB icW
 rfl
def errT (t:UInt8):Bool:=t == 3 || t == 4 || t == 5 || t == 11 || t == 12
def emayH (h:Hd) (p:By):Bool:=!(decide (h.off≠0) || decide (h.src=0) || multiF h.src || multiF h.dst) && (decide (h.proto≠1) || (decide (8≤p.length) && !errT (p.getD 0 0)))
def emayF (x:By):Bool:=decide ((prsF x).2.2=0) && emayH (prsF x).1 (prsF x).2.1
def quoteF (x:By):By × Nat:=if (prsF x).2.2≠0 then ([],4) else (x.take (20+(prsF x).1.opts.length+min 8 (prsF x).2.1.length),0)
def errArg (k mtu:Int):Bool:=decide (k < 1) || decide (3 < k) || decide (mtu < 0) || decide (65535 < mtu) || (decide (k≠2) && decide (mtu≠0))
def errM (k:Int) (mtu:Nat) (q:By):Ic:=⟨if k=3 then 11 else 3,if k=2 then 4 else 0,0,0,u8 (mtu / 256),u8 mtu,q⟩
def errH (fr dt:Nat):Hd:={ hd0 with ttl:=64,proto:=1,src:=fr,dst:=dt }
def errF (k:Int) (x:By) (fr:Nat) (mtu:Int):By × Nat :=
 if errArg k mtu=true then ([],2) else if (prsF x).2.2≠0 then ([],4) else if emayF x=false then ([],7)
 else (bytesF (errH fr (prsF x).1.src) (icB (errM k mtu.toNat (quoteF x).1)),0)
def echoH (h:Hd) (p:By):Bool:=!fragH h && decide (h.proto=1) && decide ((icOf p).2=0) && ((icOf p).1.ty == 8) && ((icOf p).1.co == 0)
def echoF (x:By):Bool:=decide ((prsF x).2.2=0) && echoH (prsF x).1 (prsF x).2.1
def replyH (h:Hd):Hd:={ hd0 with tos:=h.tos,id:=h.id,df:=h.df,ttl:=64,proto:=1,src:=h.dst,dst:=h.src }
def replyF (x:By):By × Nat :=
 if (prsF x).2.2≠0 then ([],4) else if echoF x=false then ([],7) else (bytesF (replyH (prsF x).1) (icB { (icOf (prsF x).2.1).1 with ty:=0 }),0)
theorem errH_ok {fr dt:Nat} (h1:fr < 2 ^ 32) (h2:dt < 2 ^ 32):(errH fr dt).ok:=⟨by show 0 < 256; decide,by show 0 < 65536; decide,by show 64 < 256; decide,by show 1 < 256; decide,h1,h2⟩
theorem replyH_ok {h:Hd} (ok:h.ok):(replyH h).ok:=⟨ok.1,ok.2.1,by show 64 < 256; decide,by show 1 < 256; decide,ok.2.2.2.2.2,ok.2.2.2.2.1⟩
theorem errH_fits (fr dt:Nat) {p:By} (hp:p.length≤65515):fitsH (errH fr dt) p=true:=by
 unfold fitsH mayH errH hd0
 simp [goodF,steps,stepsF]
 omega
theorem replyH_fits (h:Hd) {p:By} (hp:p.length≤65515):fitsH (replyH h) p=true:=by
 unfold fitsH mayH replyH hd0
 simp [goodF,steps,stepsF]
 omega
theorem quote_len (x:By):(quoteF x).1.length≤68:=by
 unfold quoteF
 split
 ·simp
 ·rename_i h
  have hm:=(prs_may (by omega:(prsF x).2.2=0)).1
  obtain ⟨_,h40,_⟩:=may_opts hm
  simp only [List.length_take]
  omega
theorem err_fits (k:Int) (x:By) (fr:Nat) (mtu:Nat):fitsH (errH fr (prsF x).1.src) (icB (errM k mtu (quoteF x).1))=true:=by
 refine errH_fits _ _ ?_
 rw [icB_len]
 have:=quote_len x
 unfold errM
 simp only
 omega
theorem icOf_len {b:By} (h:(icOf b).2=0):(icOf b).1.body.length+8=b.length:=by
 unfold icOf at h ⊢
 split at h
 ·cases h
 ·rename_i hh
  rw [if_neg hh]
  simp
  omega
theorem echo_of {x:By} (h:echoF x=true):(prsF x).2.2=0∧(icOf (prsF x).2.1).2=0∧(prsF x).1.proto=1∧fragH (prsF x).1=false∧(icOf (prsF x).2.1).1.ty=8∧(icOf (prsF x).2.1).1.co=0:=by
 unfold echoF echoH at h
 simp only [Bool.and_eq_true,decide_eq_true_eq,Bool.not_eq_true',beq_iff_eq] at h
 exact ⟨h.1,h.2.1.1.2,h.2.1.1.1.2,h.2.1.1.1.1,h.2.1.2,h.2.2⟩
theorem prs_small {x:By} (h:(prsF x).2.2=0):20+(prsF x).1.opts.length+(prsF x).2.1.length≤65535:=by
 obtain ⟨_,h0⟩:=prs_may h
 obtain ⟨h1,h2,h3,h4,h5⟩:=wrong0 h0
 have e:prsF x=(hdF x,partF x (sizeF x) (lenF x),0):=by unfold prsF; rw [if_pos h0]
 rw [e]
 have hl:lenF x < 65536:=by
  have:=getF_lt (partF x 2 4)
  have hq:(partF x 2 4).length≤2:=by unfold partF; simp; omega
  have:256 ^ (partF x 2 4).length≤256 ^ 2:=Nat.pow_le_pow_right (by omega) hq
  unfold lenF
  omega
 have e1:(hdF x).opts.length=sizeF x - 20:=by
  show (partF x 20 (sizeF x)).length=_
  unfold partF
  simp
  omega
 have e2:(partF x (sizeF x) (lenF x)).length=lenF x - sizeF x:=by
  unfold partF
  simp
  omega
 show 20+(hdF x).opts.length+(partF x (sizeF x) (lenF x)).length≤65535
 rw [e1,e2]
 omega
theorem reply_len {x:By} (h:echoF x=true):8+(icOf (prsF x).2.1).1.body.length≤65515:=by
 obtain ⟨h0,h1,_⟩:=echo_of h
 have:=icOf_len h1
 have:=prs_small h0
 omega
end Go.Proofs.YthlommalbkhcjaaGreat
namespace Go.Proofs.YthlommalbkhcjaaGreat
open Go.RowKit Go.Sort
theorem Sl8.below {w w':World} {u:Value} {x:By} (h:Sl8 w (fun _=>True) u x) (hb:Below w.heap.size w w'):Sl8 w' (fun _=>True) u x:=by
 obtain ⟨A,c,e,hc,hr⟩:=h
 exact ⟨A,c,e,hc,(hr.lt.keep (Same.ofBelow hb fun k hk=>hk.2)).mono fun _ _=>trivial⟩
def RowsE (w:World):List Value→List By→Prop
 | [],[]=>True
 | u :: us,x :: xs=>Sl8 w (fun _=>True) u x∧RowsE w us xs
 | _,_=>False
theorem RowsE.below {w w':World} (hb:Below w.heap.size w w'):∀ {us:List Value} {xs:List By},RowsE w us xs→RowsE w' us xs
 | [],[],_=>trivial
 | _ :: _,_ :: _,h=>⟨h.1.below hb,RowsE.below hb h.2⟩
 | [],_ :: _,h=>h.elim
 | _ :: _,[],h=>h.elim
theorem RowsE.len {w:World}:∀ {us:List Value} {xs:List By},RowsE w us xs→us.length=xs.length
 | [],[],_=>rfl
 | _ :: _,_ :: _,h=>by simp [RowsE.len h.2]
 | [],_ :: _,h=>h.elim
 | _ :: _,[],h=>h.elim
theorem RowsE.get {w:World}:∀ {us:List Value} {xs:List By} {i:Nat} {x:By},RowsE w us xs→xs[i]?=some x→∃ u,us[i]?=some u∧Sl8 w (fun _=>True) u x
 | u :: _,y :: _,0,x,h,e=>by
   obtain rfl:y=x:=by simpa using e
   exact ⟨u,rfl,h.1⟩
 | _ :: us,_ :: xs,i+1,x,h,e=>by
   have:=RowsE.get (i:=i) h.2 (by simpa using e)
   simpa using this
 | [],[],_,_,_,e=>by cases e
 | [],_ :: _,_,_,h,_=>h.elim
 | _ :: _,[],_,_,h,_=>h.elim
set_option maxHeartbeats 800000 in
theorem join_any (A:Option Addr) (n c:Nat) (us:List Value) (xs:List By) (I:Nat→Prop) (w:World) (h:Reads w I 1 A n us) (hx:RowsE w us xs) (hsm:xs.flatten.length≤1000000) (hn:n≤1000000) :
  Calls Tryz.prog 118 #[.slice A n c] w fun e w'=>∃ v,e=.returned v∧Row8 w.heap.size w' v xs.flatten∧Below w.heap.size w w':=by
 have HR:=Lib.hid h.lt
 have HX:=Lib.hid hx
 have HL:=Lib.hid (show xs.length=n by have:=h.1; rw [← hx.len]; omega)
 obtain ⟨i0,hi,hz0,hz1,hz2⟩:=info_parts info_u8
 clear h hx
 go_enter Tryz.func118,Tryz.ntmps118
 go_wp2_with fail
 go_loopw [3,4] (fun v i wr=>∃ k:Nat,k≤n∧i=.int .i64 (k:Int)∧Row8 w.heap.size wr v (xs.take k).flatten∧Below w.heap.size w wr) (fun _ i _=>n - (intOf i).toNat)
 case atStart=>exact ⟨0,Nat.zero_le _,rfl,Row8.nil _ _,Below.refl _ _⟩
 case round =>
  obtain ⟨k,hk,rfl,hv,hb⟩:=hrel
  have HV:=Lib.hid hv
  have HB:=Lib.hid hb
  clear hv hb
  by_cases hlt:k < n
  ·obtain ⟨x,hx⟩:∃ x,xs[k]?=some x:=⟨xs[k]'(by rw [HL.out]; exact hlt),List.getElem?_eq_getElem _⟩
   obtain ⟨u,hu,hs⟩:=HX.out.get hx
   obtain ⟨A2,c2,rfl,hc2,hr2⟩:=hs.below HB.out
   obtain ⟨ad,rfl,_,hadl,hc⟩:=HR.out.2 (by omega)
   have hcell:wr.cell? (ad.add k)=some (.slice A2 x.length c2):=(HB.out.cell (by rw [block_of_add]; exact hadl)).trans (hc _ _ hu)
   have htk:(xs.take (k+1)).flatten=(xs.take k).flatten++x:=by
    have hkl:k < xs.length:=by rw [HL.out]; exact hlt
    rw [List.take_succ_eq_append_getElem hkl,(List.getElem?_eq_some_iff.1 hx).2,List.flatten_append]
    simp
   have hlen:(xs.take (k+1)).flatten.length≤1000000:=by
    have h1:=congrArg (fun l=>l.flatten.length) (List.take_append_drop (k+1) xs)
    simp only [List.flatten_append,List.length_append] at h1
    omega
   rw [htk,List.length_append] at hlen
   obtain ⟨m,hm⟩:∃ m,m=x.length:=⟨_,rfl⟩
   rw [← hm] at hcell hr2 hlen
   have HTK:=Lib.hid htk
   have HR2:=Lib.hid hr2
   have HM:=Lib.hid hm
   have hi0:(0:Int)≤k:=by omega
   have hi1:(k:Int) < n:=by omega
   have h63:((xs.take k).flatten).length+m≤140737488355328:=by omega
   clear hx hu hs hc hc2 hr2 htk hlen hm
   go_wp2_with (at_builtin; refine wpList_app8 wr rfl (.tmp 11) (.tmp 15) rfl rfl w.heap.size _ ((xs.take k).flatten) rfl HV.out _ A2 m c2 x rfl HM.out.symm HR2.out h63 HB.out.size ?_; intro v2 w2 h2 hg2 _)
   have H2:=Lib.hid h2
   have HB2:=Lib.hid (HB.out.grown hg2 HB.out.size fun g hg=>(HV.out.lt hg).1)
   clear h2 hg2
   go_wp2_with fail
   go_roundw
   case rel=>exact ⟨k+1,by omega,rfl,by rw [HTK.out]; exact H2.out,HB2.out⟩
   case measure=>simp [intOf]; omega
  ·obtain rfl:k=n:=by omega
   have hv:=HV.out
   rw [List.take_of_length_le (by rw [HL.out]; exact Nat.le_refl _)] at hv
   have HV2:=Lib.hid hv
   clear hv
   go_wp2_with fail
   go_ret
   exact ⟨_,rfl,HV2.out,HB.out⟩
end Go.Proofs.YthlommalbkhcjaaGreat
