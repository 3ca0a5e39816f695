/- Plain law of ip. -/
/- Plain law of ip. -/
namespace Go.Proofs.YthlommalbkhcjaaGreat
abbrev By:=List UInt8
theorem snocInd {P:By→Prop} (h0:P []) (hs:∀ x c,P x→P (x++[c])) (x:By):P x:=by
 have key:∀ y:By,P y.reverse:=by
  intro y
  induction y with
  | nil=>exact h0
  | cons c y ih=>rw [List.reverse_cons]; exact hs _ _ ih
 have:=key x.reverse
 rwa [List.reverse_reverse] at this
/-! ### Numbers -/
def getF (x:By):Nat:=x.foldl (fun n c=>n * 256+c.toNat) 0
def putF (n size:Nat):By:=(List.range size).map fun i=>UInt8.ofNat (n / 256 ^ (size - 1 - i))
theorem putF_len (n size:Nat):(putF n size).length=size:=by simp [putF]
theorem getF_snoc (x:By) (c:UInt8):getF (x++[c])=getF x * 256+c.toNat:=by simp [getF,List.foldl_append]
theorem getF_lt:∀ x:By,getF x < 256 ^ x.length:=by
 intro x
 induction x using snocInd with
 | h0=>simp [getF]
 | hs x c ih =>
   rw [getF_snoc,List.length_append,List.length_singleton,Nat.pow_succ]
   have:=c.toNat_lt
   omega
/-! ### The checksum -/
def addF (x y:Nat):Nat:=if 65536≤x+y then x+y+1 - 65536 else x+y
theorem addF_lt {x y:Nat} (hx:x < 65536) (hy:y < 65536):addF x y < 65536:=by unfold addF; split <;> omega
def wordsF:By→List Nat
 | []=>[]
 | [a]=>[256 * a.toNat]
 | a :: b :: r=>(256 * a.toNat+b.toNat) :: wordsF r
def sumF (l:List Nat):Nat:=l.foldl addF 0
def totalF (x:By):Nat:=sumF (wordsF x)
def checkF (x:By):Nat:=65535 - totalF x
theorem wordsF_lt:∀ x:By,∀ n ∈ wordsF x,n < 65536
 | [],n,h=>by cases h
 | [a],n,h=>by
   have:=a.toNat_lt
   obtain rfl:n=256 * a.toNat:=by simpa [wordsF] using h
   omega
 | a :: b :: r,n,h=>by
   have h1:=a.toNat_lt
   have h2:=b.toNat_lt
   rcases List.mem_cons.1 h with rfl | h
   ·omega
   ·exact wordsF_lt r n h
theorem fold_lt:∀ (l:List Nat) (s:Nat),s < 65536→(∀ n ∈ l,n < 65536)→l.foldl addF s < 65536
 | [],_,h,_=>h
 | a :: r,_,h,hl=>fold_lt r _ (addF_lt h (hl a List.mem_cons_self)) fun n hn=>hl n (List.mem_cons_of_mem _ hn)
theorem totalF_lt (x:By):totalF x < 65536:=fold_lt _ _ (by omega) (wordsF_lt x)
def accF (x:By):Nat × Nat × Bool:=x.foldl (fun s c=>(if s.2.2=true then addF s.1 (256 * s.2.1+c.toNat) else s.1,c.toNat,!s.2.2)) (0,0,false)
def accGo (s:Nat × Nat × Bool) (x:By):Nat × Nat × Bool:=x.foldl (fun s c=>(if s.2.2=true then addF s.1 (256 * s.2.1+c.toNat) else s.1,c.toNat,!s.2.2)) s
theorem accF_snoc (x:By) (c:UInt8):accF (x++[c])=(if (accF x).2.2=true then addF (accF x).1 (256 * (accF x).2.1+c.toNat) else (accF x).1,c.toNat,!(accF x).2.2):=by
 unfold accF
 rw [List.foldl_append]
 rfl
theorem acc_even:∀ (x:By) (n h:Nat),(let s:=accGo (n,h,false) x; if s.2.2=true then addF s.1 (256 * s.2.1) else s.1)=(wordsF x).foldl addF n
 | [],n,h=>rfl
 | [a],n,h=>rfl
 | a :: b :: r,n,h=>by
   have:=acc_even r (addF n (256 * a.toNat+b.toNat)) b.toNat
   exact this
theorem acc_total (x:By):(if (accF x).2.2=true then addF (accF x).1 (256 * (accF x).2.1) else (accF x).1)=totalF x:=acc_even x 0 0
theorem accF_lt:∀ x:By,(accF x).1 < 65536∧(accF x).2.1 < 256:=by
 intro x
 induction x using snocInd with
 | h0=>exact ⟨by simp [accF],by simp [accF]⟩
 | hs x c ih =>
   rw [accF_snoc]
   have:=c.toNat_lt
   refine ⟨?_,this⟩
   simp only
   split
   ·exact addF_lt ih.1 (by omega)
   ·exact ih.1
def changeF (c m n:Nat):Nat:=65535 - addF (addF (65535 - c) (65535 - m)) n
/-! Sums with carry are sums modulo 65535,but for nought. -/
theorem addF_mod {x y:Nat}:addF x y % 65535=(x+y) % 65535:=by unfold addF; split <;> omega
theorem addF_zero {x y:Nat} (hx:x < 65536) (hy:y < 65536):addF x y=0↔x=0∧y=0:=by unfold addF; split <;> omega
theorem fold_mod:∀ (l:List Nat) (s:Nat),s < 65536→(∀ n ∈ l,n < 65536)→l.foldl addF s % 65535=(s+l.sum) % 65535
 | [],s,_,_=>by simp
 | a :: r,s,h,hl=>by
   have ha:=hl a List.mem_cons_self
   rw [List.foldl_cons,fold_mod r _ (addF_lt h ha) fun n hn=>hl n (List.mem_cons_of_mem _ hn),List.sum_cons]
   have:=addF_mod (x:=s) (y:=a)
   omega
theorem fold_zero:∀ (l:List Nat) (s:Nat),s < 65536→(∀ n ∈ l,n < 65536)→(l.foldl addF s=0↔s=0∧∀ n ∈ l,n=0)
 | [],s,_,_=>by simp
 | a :: r,s,h,hl=>by
   have ha:=hl a List.mem_cons_self
   rw [List.foldl_cons,fold_zero r _ (addF_lt h ha) fun n hn=>hl n (List.mem_cons_of_mem _ hn),addF_zero h ha]
   simp [and_assoc]
/-! ### Options -/
def stepsF:Nat→By→List (UInt8 × By)
 | 0,_=>[]
 | _,[]=>[]
 | f+1,k :: r =>
   if k=0 then [] else if k=1 then (1,[1]) :: stepsF f r else
   match r with
   | []=>[(k,[])]
   | m :: _=>if 2≤m.toNat∧m.toNat≤r.length+1 then (k,(k :: r).take m.toNat) :: stepsF f ((k :: r).drop m.toNat) else [(k,[])]
def steps (x:By):List (UInt8 × By):=stepsF x.length x
def stepN (x:By):Nat:=match x with
 | []=>0
 | k :: r=>if k=1 then 1 else match r with
   | []=>0
   | m :: _=>if 2≤m.toNat∧m.toNat≤r.length+1 then m.toNat else 0
theorem stepN_le (x:By):stepN x≤x.length:=by
 unfold stepN
 split
 ·exact Nat.le_refl _
 ·split
  ·simp
  ·split
   ·simp
   ·split
    ·simp only [List.length_cons]; rename_i h; have:=h.2; simp only [List.length_cons] at this; omega
    ·simp
theorem stepsF_more:∀ (f:Nat) (x:By),x.length≤f→stepsF f x=stepsF x.length x:=by
 intro f
 induction f using Nat.strongRecOn with
 | _ f ih =>
   intro x hx
   match f,x with
   | 0,[]=>rfl
   | 0,_ :: _=>simp at hx
   | f+1,[]=>rfl
   | f+1,k :: r =>
     simp only [List.length_cons] at hx
     show (if k=0 then _ else _)=(if k=0 then _ else _)
     split
     ·rfl
     ·split
      ·rw [ih f (by omega) r (by omega)]
      ·cases r with
       | nil=>rfl
       | cons m r2 =>
         simp only
         split
         ·rename_i h
          have hd:((k :: m :: r2).drop m.toNat).length≤(m :: r2).length:=by simp; omega
          rw [ih f (by omega) _ (Nat.le_trans hd (by omega)),← ih (m :: r2).length (by omega) _ hd]
         ·rfl
theorem steps_nil:steps []=[]:=rfl
theorem steps_cons (k:UInt8) (r:By):steps (k :: r)=if k=0 then [] else if stepN (k :: r)=0 then [(k,[])] else (k,(k :: r).take (stepN (k :: r))) :: steps ((k :: r).drop (stepN (k :: r))):=by
 unfold steps
 show (if k=0 then _ else _)=_
 split
 ·rfl
 ·unfold stepN
  split
  ·rename_i h
   subst h
   simp
  ·rename_i h1
   cases r with
   | nil=>simp [h1]
   | cons m r2 =>
     simp only
     split
     ·rename_i h
      rw [if_neg (by omega)]
      have hd:((k :: m :: r2).drop m.toNat).length≤(m :: r2).length:=by simp; omega
      rw [stepsF_more _ _ hd]
     ·rfl
theorem steps_len:∀ (n:Nat) (x:By),x.length≤n→(steps x).length≤x.length
 | 0,x,h=>by
   obtain rfl:x=[]:=List.eq_nil_of_length_eq_zero (by omega)
   exact Nat.le_refl _
 | n+1,[],_=>Nat.le_refl _
 | n+1,k :: r,h=>by
   rw [steps_cons]
   split
   ·exact Nat.zero_le _
   ·split
    ·simp
    ·rename_i _ h0
     have hl:=stepN_le (k :: r)
     have:=steps_len n ((k :: r).drop (stepN (k :: r))) (by rw [List.length_drop]; simp only [List.length_cons] at h ⊢; omega)
     rw [List.length_drop] at this
     simp only [List.length_cons] at *
     omega
end Go.Proofs.YthlommalbkhcjaaGreat
namespace Go.Proofs.YthlommalbkhcjaaGreat
def goodF (x:By):Bool:=(steps x).all fun s=>!s.2.isEmpty
def optsOf (L:List (UInt8 × By)):List (UInt8 × By):=(L.filter fun s=>s.1 != 1).map fun s=>(s.1,s.2.drop 2)
def optsF (x:By):List (UInt8 × By):=if goodF x=true then optsOf (steps x) else []
def flatF (L:List (UInt8 × By)):By:=L.flatMap fun s=>s.2
def highF (L:List (UInt8 × By)):List (UInt8 × By):=L.filter fun s=>decide (128≤s.1)
def padF (x:By):By:=x++List.replicate ((4 - x.length % 4) % 4) 0
def copF (x:By):By:=if goodF x=true then padF (flatF (highF (steps x))) else []
def routedF (x:By):Bool:=(optsF x).any fun s=>s.1 == 131 || s.1 == 137
def OkStep (s:UInt8 × By):Prop:=(s.1=1∧s.2=[1])∨(s.1≠0∧s.1≠1∧∃ m d,s.2=s.1 :: m :: d∧m.toNat=d.length+2)
theorem stepN_cons (k:UInt8) (r:By):stepN (k :: r)=if k=1 then 1 else match r with
  | []=>0
  | m :: _=>if 2≤m.toNat∧m.toNat≤r.length+1 then m.toNat else 0:=rfl
theorem step_ok (k:UInt8) (r:By) (hk:k≠0) (hn:stepN (k :: r)≠0):OkStep (k,(k :: r).take (stepN (k :: r))):=by
 rw [stepN_cons] at hn ⊢
 by_cases h1:k=1
 ·subst h1
  exact .inl ⟨rfl,rfl⟩
 ·rw [if_neg h1] at hn ⊢
  cases r with
  | nil=>exact absurd rfl hn
  | cons m r2 =>
    simp only at hn ⊢
    split
    ·rename_i h
     rw [List.length_cons] at h
     obtain ⟨j,hj⟩:∃ j,m.toNat=j+2:=⟨m.toNat - 2,by omega⟩
     refine .inr ⟨hk,h1,m,r2.take j,?_,?_⟩
     ·rw [hj]; rfl
     ·rw [List.length_take]; omega
    ·rename_i h
     rw [if_neg h] at hn
     exact absurd rfl hn
theorem steps_ok:∀ (n:Nat) (x:By),x.length≤n→∀ s ∈ steps x,s.2≠[]→OkStep s
 | 0,x,hx,s,hs,_=>by
   obtain rfl:x=[]:=List.eq_nil_of_length_eq_zero (by omega)
   cases hs
 | n+1,[],_,s,hs,_=>by cases hs
 | n+1,k :: r,hx,s,hs,hne=>by
   rw [steps_cons] at hs
   split at hs
   ·cases hs
   ·rename_i hk
    split at hs
    ·rename_i h0
     obtain rfl:=List.mem_singleton.1 hs
     exact absurd rfl hne
    ·rename_i h0
     rcases List.mem_cons.1 hs with rfl | hs
     ·exact step_ok k r hk h0
     ·refine steps_ok n _ ?_ s hs hne
      rw [List.length_drop]
      omega
theorem steps_of_ok (s:UInt8 × By) (h:OkStep s) (y:By):steps (s.2++y)=s :: steps y:=by
 obtain ⟨k,b⟩:=s
 rcases h with ⟨h1,h2⟩ | ⟨h0,h1,m,d,h2,hm⟩
 ·simp only at h1 h2
  subst h1 h2
  show steps (1 :: y)=_
  rw [steps_cons,if_neg (by decide)]
  have:stepN (1 :: y)=1:=rfl
  rw [this]
  rfl
 ·simp only at h0 h1 h2 hm
  subst h2
  show steps (k :: (m :: (d++y)))=_
  rw [steps_cons,if_neg h0]
  have:stepN (k :: m :: (d++y))=m.toNat:=by
   rw [stepN_cons,if_neg h1]
   simp only
   rw [if_pos (by simp; omega)]
  rw [this,hm,if_neg (by omega)]
  simp
theorem steps_flat:∀ (L:List (UInt8 × By)) (y:By),(∀ s ∈ L,OkStep s)→steps (flatF L++y)=L++steps y
 | [],y,_=>rfl
 | s :: L,y,h=>by
   have:flatF (s :: L)++y=s.2++(flatF L++y):=by simp [flatF]
   rw [this,steps_of_ok s (h s List.mem_cons_self),steps_flat L y fun t ht=>h t (List.mem_cons_of_mem _ ht)]
   rfl
theorem steps_zeros (n:Nat):steps (List.replicate n 0)=[]:=by
 cases n with
 | zero=>rfl
 | succ n=>rw [List.replicate_succ,steps_cons,if_pos rfl]
theorem good_ok {x:By} (h:goodF x=true):∀ s ∈ steps x,OkStep s:=fun s hs=>by
 refine steps_ok _ x (Nat.le_refl _) s hs ?_
 have:=List.all_eq_true.1 h s hs
 intro e
 rw [e] at this
 cases this
theorem ok_ne {s:UInt8 × By} (h:OkStep s):s.2≠[]:=by
 rcases h with ⟨_,h⟩ | ⟨_,_,m,d,h,_⟩ <;> rw [h] <;> simp
theorem good_of {x:By} (h:∀ s ∈ steps x,OkStep s):goodF x=true:=List.all_eq_true.2 fun s hs=>by
 have:=ok_ne (h s hs)
 cases h2:s.2 with
 | nil=>exact absurd h2 this
 | cons _ _=>rfl
theorem padF_len (x:By):(padF x).length % 4=0:=by unfold padF; simp; omega
theorem high_ok {x:By} (h:goodF x=true):∀ s ∈ highF (steps x),OkStep s:=fun s hs=>good_ok h s (List.mem_filter.1 hs).1
theorem steps_cop {x:By} (h:goodF x=true):steps (copF x)=highF (steps x):=by
 unfold copF padF
 rw [if_pos h,steps_flat _ _ (high_ok h),steps_zeros,List.append_nil]
theorem good_cop (x:By):goodF (copF x)=true:=by
 by_cases h:goodF x=true
 ·exact good_of (by rw [steps_cop h]; exact high_ok h)
 ·unfold copF
  rw [if_neg h]; rfl
/-! ### Headers -/
structure Hd where
 tos:Nat
 id:Nat
 evil:Bool
 df:Bool
 mf:Bool
 off:Int
 ttl:Nat
 proto:Nat
 src:Nat
 dst:Nat
 opts:By
def Hd.ok (h:Hd):Prop:=h.tos < 256∧h.id < 65536∧h.ttl < 256∧h.proto < 256∧h.src < 2 ^ 32∧h.dst < 2 ^ 32
def hd0:Hd:=⟨0,0,false,false,false,0,0,0,0,0,[]⟩
def partF (x:By) (a b:Nat):By:=(x.take b).drop a
def sizeF (x:By):Nat:=4 * ((x.getD 0 0).toNat % 16)
def lenF (x:By):Nat:=getF (partF x 2 4)
def wrongF (x:By):Nat :=
 if x.length < 20 then 1 else if (x.getD 0 0).toNat / 16≠4 then 2 else if sizeF x < 20∨x.length < sizeF x then 3 else if lenF x < sizeF x∨x.length < lenF x then 4
 else if totalF (x.take (sizeF x))≠65535 then 5 else if goodF (partF x 20 (sizeF x))=true then 0 else 6
def hdF (x:By):Hd :=
 { tos:=(x.getD 1 0).toNat,id:=getF (partF x 4 6),evil:=decide (getF (partF x 6 8) / 32768 % 2=1),df:=decide (getF (partF x 6 8) / 16384 % 2=1),mf:=decide (getF (partF x 6 8) / 8192 % 2=1),off:=(getF (partF x 6 8) % 8192:Nat),ttl:=(x.getD 8 0).toNat,proto:=(x.getD 9 0).toNat,src:=getF (partF x 12 16),dst:=getF (partF x 16 20),opts:=partF x 20 (sizeF x) }
def prsF (x:By):Hd × By × Nat:=if wrongF x=0 then (hdF x,partF x (sizeF x) (lenF x),0) else (hd0,[],wrongF x)
def mayH (h:Hd):Bool:=goodF h.opts && decide (h.opts.length≤40) && decide (h.opts.length % 4=0) && decide (0≤h.off) && decide (h.off≤8191)
def bitF (b:Bool) (n:Nat):Nat:=if b=true then n else 0
def flagsF (h:Hd):Nat:=bitF h.evil 32768+bitF h.df 16384+bitF h.mf 8192+h.off.toNat
def headF (h:Hd) (n:Nat) (sum:By):By :=
 putF (64+(20+h.opts.length) / 4) 1++(putF h.tos 1++(putF n 2++(putF h.id 2++(putF (flagsF h) 2++(putF h.ttl 1++(putF h.proto 1++(sum++(putF h.src 4++(putF h.dst 4++h.opts)))))))))
def bytesF (h:Hd) (p:By):By :=
 let n:=20+h.opts.length+p.length
 headF h n (putF (checkF (headF h n [0,0])) 2)++p
def fitsH (h:Hd) (p:By):Bool:=mayH h && decide (p.length≤65535 - 20 - h.opts.length)
def fragH (h:Hd):Bool:=h.mf || decide (0 < h.off)
def lessF (x:By):By × Nat :=
 if wrongF x≠0 then ([],4) else if (x.getD 8 0).toNat=0 then ([],7) else
 let m:=getF (partF x 8 10)
 (((x.set 8 (UInt8.ofNat ((x.getD 8 0).toNat - 1))).set 10 (UInt8.ofNat (changeF (getF (partF x 10 12)) m (m - 256) / 256))).set 11 (UInt8.ofNat (changeF (getF (partF x 10 12)) m (m - 256))),0)
end Go.Proofs.YthlommalbkhcjaaGreat
namespace Go.Proofs.YthlommalbkhcjaaGreat
def u8 (n:Nat):UInt8:=UInt8.ofNat n
theorem u8_nat (n:Nat):(u8 n).toNat=n % 256:=by simp [u8]
theorem put1 (n:Nat):putF n 1=[u8 n]:=by simp [putF,u8]
theorem put2 (n:Nat):putF n 2=[u8 (n / 256),u8 n]:=by simp [putF,u8,List.range_succ]
theorem put4 (n:Nat):putF n 4=[u8 (n / 16777216),u8 (n / 65536),u8 (n / 256),u8 n]:=by simp [putF,u8,List.range_succ]
theorem head_eq (h:Hd) (n:Nat) (s0 s1:UInt8):headF h n [s0,s1] =
  u8 (64+(20+h.opts.length) / 4) :: u8 h.tos :: u8 (n / 256) :: u8 n :: u8 (h.id / 256) :: u8 h.id :: u8 (flagsF h / 256) :: u8 (flagsF h) :: u8 h.ttl :: u8 h.proto :: s0 :: s1 ::
  u8 (h.src / 16777216) :: u8 (h.src / 65536) :: u8 (h.src / 256) :: u8 h.src :: u8 (h.dst / 16777216) :: u8 (h.dst / 65536) :: u8 (h.dst / 256) :: u8 h.dst :: h.opts:=by
 unfold headF
 rw [put1,put1,put2,put2,put2,put1,put1,put4,put4]
 rfl
theorem head_len (h:Hd) (n:Nat) (s0 s1:UInt8):(headF h n [s0,s1]).length=20+h.opts.length:=by rw [head_eq]; simp; omega
theorem bytesF_eq (h:Hd) (p:By):∃ s0 s1,bytesF h p=headF h (20+h.opts.length+p.length) [s0,s1]++p∧s0=u8 (checkF (headF h (20+h.opts.length+p.length) [0,0]) / 256)∧s1=u8 (checkF (headF h (20+h.opts.length+p.length) [0,0])):=by
 refine ⟨_,_,?_,rfl,rfl⟩
 unfold bytesF
 simp only [put2]
theorem bytesF_len (h:Hd) (p:By):(bytesF h p).length=20+h.opts.length+p.length:=by
 obtain ⟨s0,s1,e,_⟩:=bytesF_eq h p
 rw [e,List.length_append,head_len]
structure MayH (h:Hd):Prop where
 good:goodF h.opts=true
 l40:h.opts.length≤40
 l4:h.opts.length % 4=0
 o0:0≤h.off
 o1:h.off≤8191
theorem may_of {h:Hd} (hm:mayH h=true):MayH h:=by
 unfold mayH at hm
 simp only [Bool.and_eq_true,decide_eq_true_eq] at hm
 exact ⟨hm.1.1.1.1,hm.1.1.1.2,hm.1.1.2,hm.1.2,hm.2⟩
theorem flags_lt {h:Hd} (hm:MayH h):flagsF h < 65536:=by
 have h1:=hm.o0
 have h2:=hm.o1
 unfold flagsF bitF
 split <;> split <;> split <;> omega
theorem flags_bits {h:Hd} (hm:MayH h):decide (flagsF h / 32768 % 2=1)=h.evil∧decide (flagsF h / 16384 % 2=1)=h.df∧decide (flagsF h / 8192 % 2=1)=h.mf∧((flagsF h % 8192:Nat):Int)=h.off:=by
 have h1:=hm.o0
 have h2:=hm.o1
 unfold flagsF bitF
 cases h.evil <;> cases h.df <;> cases h.mf <;> simp <;> omega
theorem get2 (a b:UInt8):getF [a,b]=a.toNat * 256+b.toNat:=by simp [getF]
theorem get4 (a b c d:UInt8):getF [a,b,c,d]=((a.toNat * 256+b.toNat) * 256+c.toNat) * 256+d.toNat:=by simp [getF]
def wHd (h:Hd) (n s:Nat):List Nat:=[256 * (64+(20+h.opts.length) / 4)+h.tos,n,h.id,flagsF h,256 * h.ttl+h.proto,s,h.src / 65536,h.src % 65536,h.dst / 65536,h.dst % 65536]
theorem words_head {h:Hd} (ok:h.ok) (hm:MayH h) {n:Nat} (hn:n < 65536) (s0 s1:UInt8):wordsF (headF h n [s0,s1])=wHd h n (256 * s0.toNat+s1.toNat)++wordsF h.opts:=by
 rw [head_eq]
 have hf:=flags_lt hm
 obtain ⟨o1,o2,o3,o4,o5,o6⟩:=ok
 have hl:=hm.l40
 simp only [wordsF,wHd,List.cons_append,List.nil_append,u8_nat]
 congr 1
 ·omega
 congr 1
 ·omega
 congr 1
 ·omega
 congr 1
 ·omega
 congr 1
 ·omega
 congr 1
 congr 1
 ·omega
 congr 1
 ·omega
 congr 1
 ·omega
 congr 1
 ·omega
theorem wHd_lt {h:Hd} (ok:h.ok) (hm:MayH h) {n s:Nat} (hn:n < 65536) (hs:s < 65536):∀ x ∈ wHd h n s++wordsF h.opts,x < 65536:=by
 have hf:=flags_lt hm
 obtain ⟨o1,o2,o3,o4,o5,o6⟩:=ok
 have hl:=hm.l40
 intro x hx
 rcases List.mem_append.1 hx with hx | hx
 ·simp only [wHd,List.mem_cons,List.not_mem_nil,or_false] at hx
  rcases hx with rfl | rfl | rfl | rfl | rfl | rfl | rfl | rfl | rfl | rfl <;> omega
 ·exact wordsF_lt _ x hx
theorem eq_mod {a b:Nat} (ha:a < 65536) (hb:b < 65536) (h0:a≠0) (h1:b≠0) (h:a % 65535=b % 65535):a=b:=by omega
theorem total_head {h:Hd} (ok:h.ok) (hm:MayH h) {n:Nat} (hn:n < 65536) (s0 s1:UInt8) :
  totalF (headF h n [s0,s1]) < 65536∧totalF (headF h n [s0,s1])≠0∧totalF (headF h n [s0,s1]) % 65535=((wHd h n (256 * s0.toNat+s1.toNat)).sum+(wordsF h.opts).sum) % 65535:=by
 have h0:=s0.toNat_lt
 have h1:=s1.toNat_lt
 have hl:=wHd_lt ok hm hn (s:=256 * s0.toNat+s1.toNat) (by omega)
 refine ⟨totalF_lt _,?_,?_⟩
 ·unfold totalF sumF
  rw [words_head ok hm hn]
  intro e
  have:=((fold_zero _ 0 (by omega) hl).1 e).2 (256 * (64+(20+h.opts.length) / 4)+h.tos) (by simp [wHd])
  omega
 ·unfold totalF sumF
  rw [words_head ok hm hn,fold_mod _ 0 (by omega) hl,List.sum_append]
  simp
theorem sum_head (h:Hd) (n s:Nat):(wHd h n s).sum=256 * (64+(20+h.opts.length) / 4)+h.tos+n+h.id+flagsF h+(256 * h.ttl+h.proto)+s+h.src / 65536+h.src % 65536+h.dst / 65536+h.dst % 65536:=by
 simp [wHd]; omega
theorem sum_with (h:Hd) (n s:Nat):(wHd h n s).sum=(wHd h n 0).sum+s:=by rw [sum_head,sum_head]; omega
theorem sum_less (h:Hd) (n s:Nat) (ht:h.ttl≠0):(wHd { h with ttl:=h.ttl - 1 } n s).sum+256=(wHd h n s).sum:=by
 rw [sum_head,sum_head]
 simp only [flagsF]
 omega
theorem bytes_word {c:Nat} (hc:c < 65536):256 * (c / 256 % 256)+c % 256=c:=by omega
theorem total_plain {T c U B:Nat} (a1:T < 65536) (hc:c=65535 - T) (b1:U < 65536) (b2:U≠0) (a3:T % 65535=B % 65535) (b3:U % 65535=(B+c) % 65535):U=65535:=by omega
theorem total_ok {h:Hd} (ok:h.ok) (hm:MayH h) {n:Nat} (hn:n < 65536):totalF (headF h n [u8 (checkF (headF h n [0,0]) / 256),u8 (checkF (headF h n [0,0]))])=65535:=by
 obtain ⟨a1,a2,a3⟩:=total_head ok hm hn 0 0
 obtain ⟨b1,b2,b3⟩:=total_head ok hm hn (u8 (checkF (headF h n [0,0]) / 256)) (u8 (checkF (headF h n [0,0])))
 have hc:checkF (headF h n [0,0])=65535 - totalF (headF h n [0,0]):=rfl
 rw [sum_with] at b3
 simp only [u8_nat] at b3
 rw [bytes_word (by omega)] at b3
 refine total_plain (B:=(wHd h n 0).sum+(wordsF h.opts).sum) a1 hc b1 b2 a3 ?_
 rw [b3]
 congr 1
 omega
def lessH (h:Hd):Hd:={ h with ttl:=h.ttl - 1 }
theorem less_ok {h:Hd} (ok:h.ok):(lessH h).ok:=by
 obtain ⟨o1,o2,o3,o4,o5,o6⟩:=ok
 exact ⟨o1,o2,Nat.lt_of_le_of_lt (Nat.sub_le _ _) o3,o4,o5,o6⟩
theorem less_may {h:Hd} (hm:MayH h):MayH (lessH h):=⟨hm.good,hm.l40,hm.l4,hm.o0,hm.o1⟩
theorem change_plain {T U m B:Nat} (a1:T < 65536) (a2:T≠0) (b1:U < 65536) (b2:U≠0) (hm:m < 65536) (hm2:256≤m) (a3:T % 65535=(B+256) % 65535) (b3:U % 65535=B % 65535):changeF (65535 - T) m (m - 256)=65535 - U:=by
 unfold changeF
 have hT:65535 - (65535 - T)=T:=by omega
 rw [hT]
 have g1:=addF_mod (x:=T) (y:=65535 - m)
 have g2:=addF_lt (x:=T) (y:=65535 - m) a1 (by omega)
 have g3:=addF_zero (x:=T) (y:=65535 - m) a1 (by omega)
 generalize addF T (65535 - m)=A at *
 have k1:=addF_mod (x:=A) (y:=m - 256)
 have k2:=addF_lt (x:=A) (y:=m - 256) g2 (by omega)
 have k3:=addF_zero (x:=A) (y:=m - 256) g2 (by omega)
 generalize addF A (m - 256)=C at *
 have hC:C≠0:=fun e=>a2 ((g3.1 (k3.1 e).1).1)
 have:=eq_mod k2 b1 hC b2 (by omega)
 omega
theorem check_less {h:Hd} (ok:h.ok) (hm:MayH h) {n:Nat} (hn:n < 65536) (ht:h.ttl≠0) :
  changeF (checkF (headF h n [0,0])) (256 * h.ttl+h.proto) (256 * h.ttl+h.proto - 256)=checkF (headF (lessH h) n [0,0]):=by
 obtain ⟨a1,a2,a3⟩:=total_head ok hm hn 0 0
 obtain ⟨b1,b2,b3⟩:=total_head (less_ok ok) (less_may hm) hn 0 0
 have hs:=sum_less h n (256 * (0:UInt8).toNat+(0:UInt8).toNat) ht
 have hp:=ok.2.2.2.1
 have ht2:=ok.2.2.1
 have ho:wordsF (lessH h).opts=wordsF h.opts:=rfl
 rw [ho] at b3
 refine change_plain (B:=(wHd (lessH h) n (256 * (0:UInt8).toNat+(0:UInt8).toNat)).sum+(wordsF h.opts).sum) a1 a2 b1 b2 (by omega) (by omega) ?_ b3
 rw [a3,← hs]
 congr 1
 unfold lessH
 omega
theorem read_back {h:Hd} (ok:h.ok) {p:By} (hf:fitsH h p=true) (z:By):prsF (bytesF h p++z)=(h,p,0):=by
 unfold fitsH at hf
 simp only [Bool.and_eq_true,decide_eq_true_eq] at hf
 have hm:=may_of hf.1
 have hp:=hf.2
 obtain ⟨s0,s1,e,e0,e1⟩:=bytesF_eq h p
 obtain ⟨n,hn⟩:∃ n,n=20+h.opts.length+p.length:=⟨_,rfl⟩
 rw [← hn] at e e0 e1
 have hl:=hm.l40
 have hl4:=hm.l4
 have hn2:n < 65536:=by omega
 have ht:totalF (headF h n [s0,s1])=65535:=by rw [e0,e1]; exact total_ok ok hm hn2
 have hlen:=head_len h n s0 s1
 have hfl:=flags_lt hm
 obtain ⟨f1,f2,f3,f4⟩:=flags_bits hm
 obtain ⟨o1,o2,o3,o4,o5,o6⟩:=ok
 obtain ⟨x,hx⟩:∃ x,x=bytesF h p++z:=⟨_,rfl⟩
 rw [← hx]
 have hx1:x=headF h n [s0,s1]++(p++z):=by rw [hx,e,List.append_assoc]
 have hxl:x.length=n+z.length:=by rw [hx1]; simp [hlen]; omega
 have hx2:=hx1
 rw [head_eq] at hx2
 simp only [List.cons_append] at hx2
 have g0:(x.getD 0 0).toNat=64+(20+h.opts.length) / 4:=by rw [hx2]; show (u8 _).toNat=_; rw [u8_nat]; omega
 have hsz:sizeF x=20+h.opts.length:=by unfold sizeF; rw [g0]; omega
 have hln:lenF x=n:=by
  unfold lenF
  rw [hx2]
  show getF [u8 (n / 256),u8 n]=n
  rw [get2,u8_nat,u8_nat]; omega
 have htk:x.take (sizeF x)=headF h n [s0,s1]:=by rw [hsz,← hlen,hx1,List.take_left]
 have hop:partF x 20 (sizeF x)=h.opts:=by
  unfold partF
  rw [htk,head_eq]
  rfl
 have hpy:partF x (sizeF x) (lenF x)=p:=by
  unfold partF
  rw [hln,hsz,hx1,List.take_append,List.drop_append]
  rw [List.drop_of_length_le (by rw [List.length_take,hlen]; omega),List.nil_append,hlen,List.length_take,hlen]
  rw [show 20+h.opts.length - min n (20+h.opts.length)=0 by omega,List.drop_zero,show n - (20+h.opts.length)=p.length by omega,List.take_left]
 have hw:wrongF x=0:=by
  unfold wrongF
  rw [if_neg (by omega),if_neg (by rw [g0]; omega),if_neg (by omega),if_neg (by rw [hln,hsz]; omega),htk,if_neg (by omega),hop,if_pos hm.good]
 unfold prsF
 rw [if_pos hw,hpy]
 have q1:(x.getD 1 0).toNat=h.tos:=by rw [hx2]; show (u8 _).toNat=_; rw [u8_nat]; omega
 have q2:getF (partF x 4 6)=h.id:=by rw [hx2]; show getF [u8 (h.id / 256),u8 h.id]=_; rw [get2,u8_nat,u8_nat]; omega
 have q3:getF (partF x 6 8)=flagsF h:=by rw [hx2]; show getF [u8 (flagsF h / 256),u8 (flagsF h)]=_; rw [get2,u8_nat,u8_nat]; omega
 have q4:(x.getD 8 0).toNat=h.ttl:=by rw [hx2]; show (u8 _).toNat=_; rw [u8_nat]; omega
 have q5:(x.getD 9 0).toNat=h.proto:=by rw [hx2]; show (u8 _).toNat=_; rw [u8_nat]; omega
 have q6:getF (partF x 12 16)=h.src:=by rw [hx2]; show getF [u8 (h.src / 16777216),u8 (h.src / 65536),u8 (h.src / 256),u8 h.src]=_; rw [get4,u8_nat,u8_nat,u8_nat,u8_nat]; omega
 have q7:getF (partF x 16 20)=h.dst:=by rw [hx2]; show getF [u8 (h.dst / 16777216),u8 (h.dst / 65536),u8 (h.dst / 256),u8 h.dst]=_; rw [get4,u8_nat,u8_nat,u8_nat,u8_nat]; omega
 have:hdF x=h:=by
  unfold hdF
  rw [q1,q2,q3,q4,q5,q6,q7,hop,f1,f2,f3,f4]
 rw [this]
theorem wrong_back {h:Hd} (ok:h.ok) {p:By} (hf:fitsH h p=true) (z:By):wrongF (bytesF h p++z)=0:=by
 have:=read_back ok hf z
 unfold prsF at this
 split at this
 ·assumption
 ·rename_i hne
  exact absurd (congrArg (fun t=>t.2.2) this) hne
theorem less_back {h:Hd} (ok:h.ok) {p:By} (hf:fitsH h p=true):lessF (bytesF h p)=if h.ttl=0 then ([],7) else (bytesF (lessH h) p,0):=by
 have hw:=wrong_back ok hf []
 rw [List.append_nil] at hw
 unfold fitsH at hf
 simp only [Bool.and_eq_true,decide_eq_true_eq] at hf
 have hm:=may_of hf.1
 have hp:=hf.2
 have hl:=hm.l40
 unfold lessF
 rw [if_neg (by omega)]
 obtain ⟨s0,s1,e,e0,e1⟩:=bytesF_eq h p
 obtain ⟨n,hn⟩:∃ n,n=20+h.opts.length+p.length:=⟨_,rfl⟩
 rw [← hn] at e e0 e1
 have hn2:n < 65536:=by omega
 have e2:=e
 rw [head_eq] at e2
 simp only [List.cons_append] at e2
 have ok2:=ok
 obtain ⟨o1,o2,o3,o4,o5,o6⟩:=ok
 have q4:((bytesF h p).getD 8 0).toNat=h.ttl:=by rw [e2]; show (u8 _).toNat=_; rw [u8_nat]; omega
 rw [q4]
 by_cases ht:h.ttl=0
 ·rw [if_pos ht,if_pos ht]
 ·rw [if_neg ht,if_neg ht]
  have q5:getF (partF (bytesF h p) 8 10)=256 * h.ttl+h.proto:=by rw [e2]; show getF [u8 h.ttl,u8 h.proto]=_; rw [get2,u8_nat,u8_nat]; omega
  have q6:getF (partF (bytesF h p) 10 12)=checkF (headF h n [0,0]):=by
   rw [e2]
   show getF [s0,s1]=_
   have:checkF (headF h n [0,0]) < 65536:=by unfold checkF; omega
   rw [get2,e0,e1,u8_nat,u8_nat]; omega
  simp only [q5,q6]
  rw [check_less ok2 hm hn2 ht]
  obtain ⟨t0,t1,r,r0,r1⟩:=bytesF_eq (lessH h) p
  have ho:(lessH h).opts=h.opts:=rfl
  rw [ho,← hn] at r r0 r1
  rw [r,r0,r1,e2]
  generalize checkF (headF (lessH h) n [0,0])=C
  rw [head_eq (lessH h) n]
  rfl
end Go.Proofs.YthlommalbkhcjaaGreat
