/- Tries and sorted lists: looks. -/
import Derived.Lib.BitFns
namespace Go.Proofs.YthlommalbkhcjaaGreat
def valB:List Bool→Nat
 | []=>0
 | b :: l=>(if b then 2 ^ l.length else 0)+valB l
def padB (l:List Bool):Nat:=valB l * 2 ^ (32 - l.length)
def bitsB (a n:Nat):List Bool:=(List.range n).map fun i=>a.testBit (31 - i)
def bitB (a i:Nat):Bool:=a.testBit (31 - i)
theorem valB_lt:∀ l:List Bool,valB l < 2 ^ l.length
 | []=>by simp [valB]
 | b :: l=>by
   have:=valB_lt l
   rw [valB,List.length_cons,Nat.pow_succ]
   split <;> omega
theorem valB_bit:∀ (l:List Bool) (j:Nat),j < l.length→(valB l).testBit j=l.getD (l.length - 1 - j) false
 | [],j,h=>by simp at h
 | b :: l,j,h=>by
   rw [valB]
   have hl:=valB_lt l
   by_cases hj:j=l.length
   ·subst hj
    rw [List.length_cons,Nat.add_sub_cancel,Nat.sub_self]
    cases b
    ·simp [Nat.testBit_lt_two_pow hl]
    ·rw [if_pos rfl,Nat.testBit_two_pow_add_eq,Nat.testBit_lt_two_pow hl]; rfl
   ·have hj2:j < l.length:=by simp at h; omega
    have ih:=valB_bit l j hj2
    have e:(b :: l).length - 1 - j=(l.length - 1 - j)+1:=by simp; omega
    rw [e,List.getD_cons_succ,← ih]
    cases b
    ·simp
    ·rw [if_pos rfl,Nat.testBit_two_pow_add_gt (by omega)]
theorem padB_bit (l:List Bool) (h:l.length≤32) (i:Nat) (hi:i < 32):(padB l).testBit (31 - i)=l.getD i false:=by
 unfold padB
 rw [← Nat.shiftLeft_eq,Nat.testBit_shiftLeft]
 by_cases hil:i < l.length
 ·have e1:decide (31 - i ≥ 32 - l.length)=true:=decide_eq_true (by omega)
  rw [e1,valB_bit l _ (by omega),Bool.true_and]
  congr 1; omega
 ·have e1:decide (31 - i ≥ 32 - l.length)=false:=decide_eq_false (by omega)
  rw [e1,Bool.false_and]
  simp [List.getD,List.getElem?_eq_none (Nat.le_of_not_lt hil)]
theorem padB_lt (l:List Bool) (h:l.length≤32):padB l < 2 ^ 32:=by
 unfold padB
 have:=valB_lt l
 calc valB l * 2 ^ (32 - l.length) < 2 ^ l.length * 2 ^ (32 - l.length):=Nat.mul_lt_mul_of_pos_right this (Nat.two_pow_pos _)
  _=2 ^ 32:=by rw [← Nat.pow_add]; congr 1; omega
theorem bitsB_len (a n:Nat):(bitsB a n).length=n:=by simp [bitsB]
theorem bitsB_get (a n i:Nat) (h:i < n):(bitsB a n).getD i false=a.testBit (31 - i):=by
 simp [bitsB,List.getD,List.getElem?_map,List.getElem?_range h]
theorem ext32 {a b:Nat} (ha:a < 2 ^ 32) (hb:b < 2 ^ 32) (h:∀ i,i < 32→a.testBit (31 - i)=b.testBit (31 - i)):a=b:=by
 apply Nat.eq_of_testBit_eq
 intro j
 by_cases hj:j < 32
 ·have:=h (31 - j) (by omega)
  rwa [show 31 - (31 - j)=j from by omega] at this
 ·rw [Nat.testBit_lt_two_pow (Nat.lt_of_lt_of_le ha (Nat.pow_le_pow_right (by decide) (by omega))),Nat.testBit_lt_two_pow (Nat.lt_of_lt_of_le hb (Nat.pow_le_pow_right (by decide) (by omega)))]
theorem ext_get {l m:List Bool} (hl:l.length=m.length) (h:∀ i,i < l.length→l.getD i false=m.getD i false):l=m:=by
 apply List.ext_getElem hl
 intro i h1 h2
 have:=h i h1
 simpa [List.getD,List.getElem?_eq_getElem h1,List.getElem?_eq_getElem h2] using this
theorem bits_pad (l:List Bool) (h:l.length≤32):bitsB (padB l) l.length=l:=by
 apply ext_get (bitsB_len _ _)
 intro i hi
 rw [bitsB_len] at hi
 rw [bitsB_get _ _ _ hi,padB_bit l h i (by omega)]
theorem pad_inj {l m:List Bool} (hl:l.length≤32) (hm:l.length=m.length) (h:padB l=padB m):l=m:=by
 rw [← bits_pad l hl,h,hm,bits_pad m (by omega)]
def firstB (a n:Nat):Nat:=a / 2 ^ (32 - n) * 2 ^ (32 - n)
theorem firstB_bit (a n i:Nat) (hn:n≤32) (hi:i < 32):(firstB a n).testBit (31 - i)=(decide (i < n) && a.testBit (31 - i)):=by
 unfold firstB
 rw [← Nat.shiftLeft_eq,Nat.testBit_shiftLeft,Nat.testBit_div_two_pow]
 by_cases h:i < n
 ·have e1:decide (31 - i ≥ 32 - n)=true:=decide_eq_true (by omega)
  rw [e1,decide_eq_true h,Bool.true_and,Bool.true_and]
  congr 1; omega
 ·have e1:decide (31 - i ≥ 32 - n)=false:=decide_eq_false (by omega)
  rw [e1,decide_eq_false h,Bool.false_and,Bool.false_and]
theorem firstB_le (a n:Nat):firstB a n≤a:=Nat.div_mul_le_self _ _
theorem firstB_pad {a n:Nat} (ha:a < 2 ^ 32) (hn:n≤32):firstB a n=padB (bitsB a n):=by
 have hl:(bitsB a n).length≤32:=by rw [bitsB_len]; exact hn
 apply ext32 (Nat.lt_of_le_of_lt (firstB_le a n) ha) (padB_lt _ hl)
 intro i hi
 rw [firstB_bit a n i hn hi,padB_bit _ hl i hi]
 by_cases h:i < n
 ·rw [decide_eq_true h,Bool.true_and,bitsB_get a n i h]
 ·rw [decide_eq_false h,Bool.false_and]
  simp [List.getD,List.getElem?_eq_none (show (bitsB a n).length≤i by rw [bitsB_len]; omega)]
theorem and_mask {a n:Nat} (ha:a < 2 ^ 32) (hn:n≤32):a &&& (2 ^ 32 - 2 ^ (32 - n))=firstB a n:=by
 have hle:2 ^ (32 - n)≤2 ^ 32:=Nat.pow_le_pow_right (by decide) (by omega)
 have hm:2 ^ 32 - 2 ^ (32 - n) < 2 ^ 32:=by have:=Nat.two_pow_pos (32 - n); omega
 apply ext32 (Nat.lt_of_le_of_lt Nat.and_le_left ha) (Nat.lt_of_le_of_lt (firstB_le a n) ha)
 intro i hi
 rw [Nat.testBit_and,firstB_bit a n i hn hi]
 have e:2 ^ 32 - 2 ^ (32 - n)=(2 ^ n - 1) * 2 ^ (32 - n):=by
  rw [Nat.sub_mul,← Nat.pow_add,Nat.one_mul]; congr 2; omega
 rw [e,← Nat.shiftLeft_eq,Nat.testBit_shiftLeft,Nat.testBit_two_pow_sub_one]
 by_cases h:i < n
 ·have e1:decide (31 - i ≥ 32 - n)=true:=decide_eq_true (by omega)
  have e2:decide (31 - i - (32 - n) < n)=true:=decide_eq_true (by omega)
  rw [e1,e2,decide_eq_true h]; simp
 ·have e1:decide (31 - i ≥ 32 - n)=false:=decide_eq_false (by omega)
  rw [e1,decide_eq_false h]; simp
theorem bitsB_take (a n m:Nat) (h:n≤m):(bitsB a m).take n=bitsB a n:=by
 unfold bitsB
 rw [← List.map_take,List.take_range,Nat.min_eq_left h]
theorem has_iff {l:List Bool} {a:Nat} (hl:l.length≤32) (ha:a < 2 ^ 32):firstB a l.length=padB l↔l <+: bitsB a 32:=by
 rw [firstB_pad ha hl]
 constructor
 ·intro h
  have:=pad_inj (by rw [bitsB_len]; exact hl) (bitsB_len _ _) h
  rw [List.prefix_iff_eq_take,bitsB_take a _ 32 hl]
  exact this.symm
 ·intro h
  rw [List.prefix_iff_eq_take,bitsB_take a _ 32 hl] at h
  rw [← h]
theorem mod_iff {a n:Nat} (ha:a < 2 ^ 32) (hn:n≤32):a % 2 ^ (32 - n)=0↔a=padB (bitsB a n):=by
 rw [← firstB_pad ha hn]
 unfold firstB
 have:=Nat.div_add_mod a (2 ^ (32 - n))
 rw [Nat.mul_comm] at this
 omega
def lcpB:List Bool→List Bool→List Bool
 | a :: l,b :: m=>if a=b then a :: lcpB l m else []
 | _,_=>[]
theorem lcp_left:∀ l m:List Bool,lcpB l m <+: l
 | [],_=>by simp [lcpB]
 | a :: l,[]=>by simp [lcpB]
 | a :: l,b :: m=>by
   unfold lcpB
   split
   ·rw [List.cons_prefix_cons]; exact ⟨rfl,lcp_left l m⟩
   ·exact List.nil_prefix
theorem lcp_comm:∀ l m:List Bool,lcpB l m=lcpB m l
 | [],[]=>rfl
 | [],_ :: _=>rfl
 | _ :: _,[]=>rfl
 | a :: l,b :: m=>by
   unfold lcpB
   by_cases h:a=b
   ·subst h; rw [if_pos rfl,if_pos rfl,lcp_comm l m]
   ·rw [if_neg h,if_neg (fun e=>h e.symm)]
theorem lcp_right (l m:List Bool):lcpB l m <+: m:=by rw [lcp_comm]; exact lcp_left m l
theorem lcp_great:∀ {c l m:List Bool},c <+: l→c <+: m→c <+: lcpB l m
 | [],_,_,_,_=>List.nil_prefix
 | x :: c,l,m,h1,h2=>by
   obtain ⟨l',rfl⟩:=h1
   obtain ⟨m',rfl⟩:=h2
   show x :: c <+: lcpB (x :: (c++l')) (x :: (c++m'))
   unfold lcpB
   rw [if_pos rfl,List.cons_prefix_cons]
   exact ⟨rfl,lcp_great ⟨l',rfl⟩ ⟨m',rfl⟩⟩
theorem lcp_eq_left {l m:List Bool}:lcpB l m=l↔l <+: m:=by
 constructor
 ·intro h; rw [← h]; exact lcp_right l m
 ·intro h
  exact (lcp_left l m).eq_of_length_le (List.IsPrefix.length_le (lcp_great (List.prefix_refl l) h))
theorem lcp_part:∀ l m:List Bool,(lcpB l m).length=l.length∨(lcpB l m).length=m.length∨∃ b,lcpB l m++[b] <+: l∧lcpB l m++[!b] <+: m
 | [],m=>.inl (by cases m <;> rfl)
 | a :: l,[]=>.inr (.inl rfl)
 | a :: l,b :: m=>by
   unfold lcpB
   by_cases h:a=b
   ·subst h
    rw [if_pos rfl]
    rcases lcp_part l m with h | h | ⟨b,h1,h2⟩
    ·exact .inl (by simp [h])
    ·exact .inr (.inl (by simp [h]))
    ·exact .inr (.inr ⟨b,by rw [List.cons_append,List.cons_prefix_cons]; exact ⟨rfl,h1⟩,by rw [List.cons_append,List.cons_prefix_cons]; exact ⟨rfl,h2⟩⟩)
   ·rw [if_neg h]
    refine .inr (.inr ⟨a,?_,?_⟩)
    ·show [a] <+: a :: l
     rw [List.cons_prefix_cons]; exact ⟨rfl,List.nil_prefix⟩
    ·have:(!a)=b:=by cases a <;> cases b <;> simp_all
     rw [this]
     show [b] <+: b :: m
     rw [List.cons_prefix_cons]; exact ⟨rfl,List.nil_prefix⟩
theorem lcp_get (l m:List Bool) (i:Nat) (h:i < (lcpB l m).length):l.getD i false=m.getD i false:=by
 obtain ⟨x,hx⟩:=lcp_left l m
 obtain ⟨y,hy⟩:=lcp_right l m
 have e1:l.getD i false=(lcpB l m).getD i false:=by
  conv=>lhs; rw [← hx]
  simp [List.getD,List.getElem?_append_left h]
 have e2:m.getD i false=(lcpB l m).getD i false:=by
  conv=>lhs; rw [← hy]
  simp [List.getD,List.getElem?_append_left h]
 rw [e1,e2]
theorem getD_of_snoc {c l:List Bool} {b:Bool} (h:c++[b] <+: l):l.getD c.length false=b∧c.length < l.length:=by
 obtain ⟨x,rfl⟩:=h
 refine ⟨?_,by simp⟩
 simp [List.getD]
theorem lt_bitLen (n:Nat) (h:n < 2 ^ 64):n < 2 ^ Lib.bitLen n:=by
 induction n using Nat.strongRecOn with
 | _ n ih =>
   by_cases h0:n=0
   ·subst h0; decide
   ·rw [Lib.bitLen_half n h0 h,Nat.pow_add]
    have:=ih (n / 2) (by omega) (by omega)
    omega
theorem bitLen_le_iff (n k:Nat) (hn:n < 2 ^ 64) (hk:k≤64):Lib.bitLen n≤k↔n < 2 ^ k:=by
 constructor
 ·intro h
  exact Nat.lt_of_lt_of_le (lt_bitLen n hn) (Nat.pow_le_pow_right (by decide) h)
 ·intro h; exact Lib.bitLen_le n k hk h
theorem common_len {l m:List Bool} (hl:l.length≤32) (hm:m.length≤32):min (min l.length m.length) (32 - Lib.bitLen (padB l ^^^ padB m))=(lcpB l m).length:=by
 have hx:padB l ^^^ padB m < 2 ^ 32:=Nat.xor_lt_two_pow (padB_lt l hl) (padB_lt m hm)
 have h1:(lcpB l m).length≤l.length:=(lcp_left l m).length_le
 have h2:(lcpB l m).length≤m.length:=(lcp_right l m).length_le
 have hb:∀ i,i < 32→(padB l ^^^ padB m).testBit (31 - i)=(l.getD i false != m.getD i false):=fun i hi=>by
  rw [Nat.testBit_xor,padB_bit l hl i hi,padB_bit m hm i hi]
 have h3:(lcpB l m).length≤32 - Lib.bitLen (padB l ^^^ padB m):=by
  have:Lib.bitLen (padB l ^^^ padB m)≤32 - (lcpB l m).length:=by
   rw [bitLen_le_iff _ _ (by omega) (by omega)]
   apply Nat.lt_pow_two_of_testBit
   intro j hj
   by_cases hj2:j < 32
   ·have:=hb (31 - j) (by omega)
    rw [show 31 - (31 - j)=j from by omega] at this
    rw [this,lcp_get l m _ (by omega)]; simp
   ·exact Nat.testBit_lt_two_pow (Nat.lt_of_lt_of_le hx (Nat.pow_le_pow_right (by decide) (by omega)))
  omega
 rcases lcp_part l m with h | h | ⟨b,g1,g2⟩
 ·omega
 ·omega
 ·obtain ⟨p1,p2⟩:=getD_of_snoc g1
  obtain ⟨p3,p4⟩:=getD_of_snoc g2
  have hbit:=hb (lcpB l m).length (by omega)
  rw [p1,p3] at hbit
  have hne:(padB l ^^^ padB m).testBit (31 - (lcpB l m).length)=true:=by rw [hbit]; cases b <;> rfl
  have h4:32 - Lib.bitLen (padB l ^^^ padB m)≤(lcpB l m).length:=by
   by_cases hle:Lib.bitLen (padB l ^^^ padB m)≤31 - (lcpB l m).length
   ·rw [bitLen_le_iff _ _ (by omega) (by omega)] at hle
    rw [Nat.testBit_lt_two_pow hle] at hne; cases hne
   ·omega
  omega
theorem common_addr {l m:List Bool} (hl:l.length≤32):firstB (padB l) (lcpB l m).length=padB (lcpB l m):=by
 have h1:(lcpB l m).length≤l.length:=(lcp_left l m).length_le
 rw [firstB_pad (padB_lt l hl) (by omega)]
 congr 1
 rw [← bitsB_take _ _ l.length h1,bits_pad l hl]
 exact ((List.prefix_iff_eq_take).1 (lcp_left l m)).symm
end Go.Proofs.YthlommalbkhcjaaGreat
namespace Go.Proofs.YthlommalbkhcjaaGreat
abbrev Bs:=List Bool
def ltB:Bs→Bs→Bool
 | [],[]=>false
 | [],_ :: _=>true
 | _ :: _,[]=>false
 | a :: l,b :: m=>if a=b then ltB l m else b
theorem ltB_irrefl:∀ l,ltB l l=false
 | []=>rfl
 | a :: l=>by simp [ltB,ltB_irrefl l]
theorem ltB_trans:∀ {l m n:Bs},ltB l m=true→ltB m n=true→ltB l n=true
 | [],m,n,h1,h2=>by
   cases n with
   | nil=>cases m <;> simp [ltB] at h2
   | cons=>rfl
 | a :: l,[],n,h1,h2=>by simp [ltB] at h1
 | a :: l,b :: m,[],h1,h2=>by simp [ltB] at h2
 | a :: l,b :: m,c :: n,h1,h2=>by
   simp only [ltB] at h1 h2 ⊢
   by_cases e1:a=b
   ·subst e1
    rw [if_pos rfl] at h1
    by_cases e2:a=c
    ·subst e2; rw [if_pos rfl] at h2 ⊢; exact ltB_trans h1 h2
    ·rw [if_neg e2] at h2 ⊢; exact h2
   ·rw [if_neg e1] at h1
    subst h1
    by_cases e2:true=c
    ·subst e2; rw [if_neg e1]
    ·rw [if_neg e2] at h2; subst h2; exact absurd rfl e2
theorem ltB_tri:∀ l m:Bs,ltB l m=true∨l=m∨ltB m l=true
 | [],[]=>.inr (.inl rfl)
 | [],_ :: _=>.inl rfl
 | _ :: _,[]=>.inr (.inr rfl)
 | a :: l,b :: m=>by
   simp only [ltB]
   by_cases e:a=b
   ·subst e
    rw [if_pos rfl,if_pos rfl]
    rcases ltB_tri l m with h | h | h
    ·exact .inl h
    ·exact .inr (.inl (by rw [h]))
    ·exact .inr (.inr h)
   ·rw [if_neg e,if_neg (fun h=>e h.symm)]
    cases a <;> cases b <;> simp_all
theorem ltB_asymm {l m:Bs} (h:ltB l m=true):ltB m l=false:=by
 cases e:ltB m l with
 | false=>rfl
 | true=>have:=ltB_trans h e; rw [ltB_irrefl] at this; cases this
theorem ltB_pre:∀ {l m:Bs},l <+: m→l≠m→ltB l m=true
 | [],[],_,h=>absurd rfl h
 | [],_ :: _,_,_=>rfl
 | a :: l,m,h,hn=>by
   obtain ⟨x,rfl⟩:=h
   show ltB (a :: l) (a :: (l++x))=true
   simp only [ltB,if_pos]
   exact ltB_pre ⟨x,rfl⟩ fun e=>hn (by show a :: l=a :: (l++x); rw [← e])
theorem ltB_part:∀ (c:Bs) (l m:Bs),c++[false] <+: l→c++[true] <+: m→ltB l m=true
 | [],l,m,h1,h2=>by
   obtain ⟨x,rfl⟩:=h1
   obtain ⟨y,rfl⟩:=h2
   rfl
 | a :: c,l,m,h1,h2=>by
   obtain ⟨x,rfl⟩:=h1
   obtain ⟨y,rfl⟩:=h2
   show ltB (a :: (c++[false]++x)) (a :: (c++[true]++y))=true
   simp only [ltB,if_pos]
   exact ltB_part c _ _ ⟨x,rfl⟩ ⟨y,rfl⟩
inductive TT where
 | nil
 | node (p:Bs) (v:Int) (h:Bool) (l r:TT)
def TT.wf (c:Bs):TT→Prop
 | .nil=>True
 | .node p _ h l r=>c <+: p∧p.length≤32∧(h=false→l≠.nil∧r≠.nil)∧l.wf (p++[false])∧r.wf (p++[true])
def TT.list:TT→List (Bs × Int)
 | .nil=>[]
 | .node p v h l r=>(if h then [(p,v)] else [])++(l.list++r.list)
theorem TT.keys_pre:∀ {c:Bs} {T:TT},T.wf c→∀ e ∈ T.list,c <+: e.1∧e.1.length≤32
 | c,.nil,_,e,h=>by simp [TT.list] at h
 | c,.node p v h l r,w,e,he=>by
   obtain ⟨w1,w2,_,w4,w5⟩:=w
   simp only [TT.list,List.mem_append] at he
   rcases he with he | he | he
   ·cases h
    ·simp at he
    ·simp at he; subst he; exact ⟨w1,w2⟩
   ·obtain ⟨k1,k2⟩:=TT.keys_pre w4 e he
    exact ⟨w1.trans ((List.prefix_append _ _).trans k1),k2⟩
   ·obtain ⟨k1,k2⟩:=TT.keys_pre w5 e he
    exact ⟨w1.trans ((List.prefix_append _ _).trans k1),k2⟩
def SortedB (L:List (Bs × Int)):Prop:=L.Pairwise fun a b=>ltB a.1 b.1=true
theorem pre_snoc_ne {p q:Bs} {b:Bool} (h:p++[b] <+: q):p <+: q∧p≠q:=by
 obtain ⟨x,rfl⟩:=h
 refine ⟨⟨[b]++x,by simp⟩,fun e=>?_⟩
 have:=congrArg List.length e
 simp at this
theorem TT.sorted:∀ {c:Bs} {T:TT},T.wf c→SortedB T.list
 | _,.nil,_=>List.Pairwise.nil
 | c,.node p v h l r,w=>by
   obtain ⟨w1,w2,_,w4,w5⟩:=w
   have s1:=TT.sorted w4
   have s2:=TT.sorted w5
   have k1:=TT.keys_pre w4
   have k2:=TT.keys_pre w5
   have s3:SortedB (l.list++r.list):=List.pairwise_append.2 ⟨s1,s2,fun a ha b hb=>ltB_part p _ _ (k1 a ha).1 (k2 b hb).1⟩
   unfold TT.list
   cases h
   ·exact s3
   ·refine List.pairwise_cons.2 ⟨fun b hb=>?_,s3⟩
    have hb2:b ∈ l.list++r.list:=hb
    rcases List.mem_append.1 hb2 with hb | hb
    ·obtain ⟨x1,x2⟩:=pre_snoc_ne (k1 b hb).1; exact ltB_pre x1 x2
    ·obtain ⟨x1,x2⟩:=pre_snoc_ne (k2 b hb).1; exact ltB_pre x1 x2
def insS (p:Bs) (v:Int):List (Bs × Int)→List (Bs × Int)
 | []=>[(p,v)]
 | e :: r=>if ltB e.1 p=true then e :: insS p v r else if e.1=p then (p,v) :: r else (p,v) :: e :: r
def getS (p:Bs) (L:List (Bs × Int)):Option Int:=(L.find? fun e=>decide (e.1=p)).map (·.2)
theorem insS_left {p:Bs} {v:Int} {B:List (Bs × Int)}:∀ {A:List (Bs × Int)},(∀ e ∈ A,ltB e.1 p=true)→insS p v (A++B)=A++insS p v B
 | [],_=>rfl
 | a :: A,h=>by
   show insS p v (a :: (A++B))=a :: (A++insS p v B)
   rw [insS,if_pos (h a (List.mem_cons_self ..)),insS_left fun e he=>h e (List.mem_cons_of_mem _ he)]
theorem insS_first {p:Bs} {v:Int} {B:List (Bs × Int)} (h:∀ e ∈ B,ltB p e.1=true):insS p v B=(p,v) :: B:=by
 cases B with
 | nil=>rfl
 | cons b B =>
   have hb:=h b (List.mem_cons_self ..)
   have hne:b.1≠p:=fun e=>by rw [e,ltB_irrefl] at hb; cases hb
   rw [insS,if_neg (by rw [ltB_asymm hb]; decide),if_neg hne]
theorem insS_right {p:Bs} {v:Int} {B:List (Bs × Int)} (h:∀ e ∈ B,ltB p e.1=true):∀ (A:List (Bs × Int)),insS p v (A++B)=insS p v A++B
 | []=>by rw [List.nil_append,insS_first h]; rfl
 | a :: A=>by
   show insS p v (a :: (A++B))=insS p v (a :: A)++B
   rw [insS,insS,insS_right h A]
   split
   ·rfl
   ·split <;> rfl
abbrev nth (p:Bs) (n:Nat):Bool:=p.getD n false
theorem pre_nth {q p:Bs} (h:q <+: p) (hn:q≠p):q++[nth p q.length] <+: p:=by
 obtain ⟨x,rfl⟩:=h
 cases x with
 | nil=>simp at hn
 | cons b x =>
   have:nth (q++b :: x) q.length=b:=by simp [nth,List.getD]
   rw [this]
   exact ⟨x,by simp⟩
def fork (c:Bs) (b:Bool) (x y:TT):TT:=if b then .node c 0 false y x else .node c 0 false x y
def TT.ins (p:Bs) (v:Int):TT→TT
 | .nil=>.node p v true .nil .nil
 | .node q x h l r =>
   if q=p then .node q v true l r
   else if q <+: p then (if nth p q.length then .node q x h l (r.ins p v) else .node q x h (l.ins p v) r)
   else if lcpB q p=p then (if nth q p.length then .node p v true .nil (.node q x h l r) else .node p v true (.node q x h l r) .nil)
   else fork (lcpB q p) (nth p (lcpB q p).length) (.node p v true .nil .nil) (.node q x h l r)
theorem TT.ins_ne (p:Bs) (v:Int) (T:TT):T.ins p v≠.nil:=by
 cases T with
 | nil=>intro h; cases h
 | node q x h l r =>
   unfold TT.ins fork
   intro e
   split at e
   ·cases e
   ·split at e
    ·split at e <;> cases e
    ·split at e
     ·split at e <;> cases e
     ·split at e <;> cases e
theorem part_of {q p:Bs} (h1:¬ q <+: p) (h2:lcpB q p≠p):∃ b,lcpB q p++[b] <+: q∧lcpB q p++[!b] <+: p:=by
 rcases lcp_part q p with h | h | h
 ·exact absurd (lcp_eq_left.1 ((lcp_left q p).eq_of_length h)) h1
 ·exact absurd ((lcp_right q p).eq_of_length h) h2
 ·exact h
theorem nth_snoc {c l:Bs} {b:Bool} (h:c++[b] <+: l):nth l c.length=b:=(getD_of_snoc h).1
theorem TT.ins_wf:∀ {c p:Bs} {v:Int} {T:TT},T.wf c→c <+: p→p.length≤32→(T.ins p v).wf c
 | c,p,v,.nil,_,hc,hp=>⟨hc,hp,(fun h=>by cases h),trivial,trivial⟩
 | c,p,v,.node q x h l r,w,hc,hp=>by
   have w':=w
   obtain ⟨w1,w2,w3,w4,w5⟩:=w
   unfold TT.ins
   split
   ·exact ⟨w1,w2,(fun h=>by cases h),w4,w5⟩
   ·rename_i hne
    split
    ·rename_i hpre
     have hn:=pre_nth hpre hne
     split
     ·rename_i hb
      rw [hb] at hn
      exact ⟨w1,w2,fun h=>⟨(w3 h).1,TT.ins_ne _ _ _⟩,w4,TT.ins_wf w5 hn hp⟩
     ·rename_i hb
      have hb':nth p q.length=false:=by simpa using hb
      rw [hb'] at hn
      exact ⟨w1,w2,fun h=>⟨TT.ins_ne _ _ _,(w3 h).2⟩,TT.ins_wf w4 hn hp,w5⟩
    ·rename_i hpre
     split
     ·rename_i hl
      have hpq:p <+: q:=by rw [← hl]; exact lcp_left q p
      have hn:=pre_nth hpq (fun e=>hne e.symm)
      split
      ·rename_i hb
       rw [hb] at hn
       exact ⟨hc,hp,(fun h=>by cases h),trivial,⟨hn,w2,w3,w4,w5⟩⟩
      ·rename_i hb
       have hb':nth q p.length=false:=by simpa using hb
       rw [hb'] at hn
       exact ⟨hc,hp,(fun h=>by cases h),⟨hn,w2,w3,w4,w5⟩,trivial⟩
     ·rename_i hl
      obtain ⟨b,g1,g2⟩:=part_of hpre hl
      have e:=nth_snoc g2
      have hcl:=lcp_great w1 hc
      have h32:(lcpB q p).length≤32:=Nat.le_trans (lcp_left q p).length_le w2
      rw [e]
      unfold fork
      cases b
      ·exact ⟨hcl,h32,fun _=>⟨(fun e=>by cases e),(fun e=>by cases e)⟩,⟨g1,w2,w3,w4,w5⟩,⟨g2,hp,(fun h=>by cases h),trivial,trivial⟩⟩
      ·exact ⟨hcl,h32,fun _=>⟨(fun e=>by cases e),(fun e=>by cases e)⟩,⟨g2,hp,(fun h=>by cases h),trivial,trivial⟩,⟨g1,w2,w3,w4,w5⟩⟩
theorem TT.ins_list:∀ {c p:Bs} {v:Int} {T:TT},T.wf c→c <+: p→p.length≤32→(T.ins p v).list=insS p v T.list
 | c,p,v,.nil,_,hc,hp=>rfl
 | c,p,v,.node q x h l r,w,hc,hp=>by
   have w':=w
   obtain ⟨w1,w2,w3,w4,w5⟩:=w
   have k1:=TT.keys_pre w4
   have k2:=TT.keys_pre w5
   unfold TT.ins
   split
   ·rename_i he
    subst he
    show _=insS q v ((if h then [(q,x)] else [])++(l.list++r.list))
    have hlt:∀ e ∈ l.list++r.list,ltB q e.1=true:=fun e he=>by
     rcases List.mem_append.1 he with he | he
     ·obtain ⟨x1,x2⟩:=pre_snoc_ne (k1 e he).1; exact ltB_pre x1 x2
     ·obtain ⟨x1,x2⟩:=pre_snoc_ne (k2 e he).1; exact ltB_pre x1 x2
    cases h
    ·show _=insS q v (l.list++r.list)
     rw [insS_first hlt]; rfl
    ·show _=insS q v ((q,x) :: (l.list++r.list))
     rw [insS,if_neg (by rw [ltB_irrefl]; decide),if_pos rfl]; rfl
   ·rename_i hne
    split
    ·rename_i hpre
     have hn:=pre_nth hpre hne
     have hq:ltB q p=true:=ltB_pre hpre hne
     have hh:∀ e ∈ (if h then [(q,x)] else []:List (Bs × Int)),ltB e.1 p=true:=fun e he=>by
      cases h
      ·simp at he
      ·simp at he; subst he; exact hq
     split
     ·rename_i hb
      rw [hb] at hn
      show _=insS p v ((if h then [(q,x)] else [])++(l.list++r.list))
      rw [insS_left hh,insS_left fun e he=>ltB_part q _ _ (k1 e he).1 hn,← TT.ins_list w5 hn hp]
      rfl
     ·rename_i hb
      have hb':nth p q.length=false:=by simpa using hb
      rw [hb'] at hn
      show _=insS p v ((if h then [(q,x)] else [])++(l.list++r.list))
      rw [insS_left hh,insS_right (fun e he=>ltB_part q _ _ hn (k2 e he).1),← TT.ins_list w4 hn hp]
      rfl
    ·rename_i hpre
     have hall:∀ e ∈ (TT.node q x h l r).list,q <+: e.1:=fun e he=>(TT.keys_pre (c:=q) (T:=.node q x h l r) ⟨List.prefix_refl q,w2,w3,w4,w5⟩ e he).1
     split
     ·rename_i hl
      have hpq:p <+: q:=by rw [← hl]; exact lcp_left q p
      have hlt:∀ e ∈ (TT.node q x h l r).list,ltB p e.1=true:=fun e he=>ltB_pre (hpq.trans (hall e he)) fun e2=>hne (by
       have h1:=(hall e he).length_le
       have h2:=hpq.length_le
       rw [← e2] at h1
       exact (hpq.eq_of_length (by omega)).symm)
      rw [insS_first hlt]
      split
      ·simp [TT.list]
      ·simp [TT.list]
     ·rename_i hl
      obtain ⟨b,g1,g2⟩:=part_of hpre hl
      rw [nth_snoc g2]
      cases b
      ·have hlt:∀ e ∈ (TT.node q x h l r).list,ltB e.1 p=true:=fun e he=>ltB_part _ _ _ (g1.trans (hall e he)) g2
       have:=insS_left (p:=p) (v:=v) (B:=[]) hlt
       rw [List.append_nil] at this
       rw [this]
       simp [fork,TT.list,insS]
      ·have hlt:∀ e ∈ (TT.node q x h l r).list,ltB p e.1=true:=fun e he=>ltB_part _ _ _ g2 (g1.trans (hall e he))
       rw [insS_first hlt]
       simp [fork,TT.list]
end Go.Proofs.YthlommalbkhcjaaGreat
namespace Go.Proofs.YthlommalbkhcjaaGreat
def TT.get (p:Bs):TT→Option Int
 | .nil=>none
 | .node q x h l r=>if q=p then (if h then some x else none) else if q <+: p then (if nth p q.length then r.get p else l.get p) else none
theorem getS_app (p:Bs) (A B:List (Bs × Int)):getS p (A++B)=(getS p A).or (getS p B):=by
 unfold getS
 rw [List.find?_append]
 cases A.find? fun e=>decide (e.1=p) <;> simp
theorem getS_none {p:Bs} {L:List (Bs × Int)} (h:∀ e ∈ L,e.1≠p):getS p L=none:=by
 unfold getS
 rw [List.find?_eq_none.2 fun e he=>by simpa using h e he]; rfl
theorem getS_mem {p:Bs} {L:List (Bs × Int)}:(getS p L).isSome=true↔p ∈ L.map (·.1):=by
 unfold getS
 simp [List.find?_isSome]
theorem TT.get_list:∀ {c p:Bs} {T:TT},T.wf c→T.get p=getS p T.list
 | _,_,.nil,_=>rfl
 | c,p,.node q x h l r,w=>by
   obtain ⟨w1,w2,w3,w4,w5⟩:=w
   have k1:=TT.keys_pre w4
   have k2:=TT.keys_pre w5
   show _=getS p ((if h then [(q,x)] else [])++(l.list++r.list))
   unfold TT.get
   split
   ·rename_i he
    subst he
    rw [getS_app,getS_none (L:=l.list++r.list) fun e he=>by
     rcases List.mem_append.1 he with he | he
     ·exact fun e2=>(pre_snoc_ne (k1 e he).1).2 e2.symm
     ·exact fun e2=>(pre_snoc_ne (k2 e he).1).2 e2.symm]
    cases h <;> simp [getS]
   ·rename_i hne
    have hself:getS p (if h then [(q,x)] else [])=none:=getS_none fun e he=>by
     cases h
     ·simp at he
     ·simp at he; subst he; exact hne
    rw [getS_app,hself,Option.none_or,getS_app]
    split
    ·rename_i hpre
     split
     ·rename_i hb
      rw [getS_none (L:=l.list) fun e he e2=>(by have:=nth_snoc (k1 e he).1; rw [e2,hb] at this; cases this),Option.none_or]
      exact TT.get_list w5
     ·rename_i hb
      have hb':nth p q.length=false:=by simpa using hb
      rw [getS_none (L:=r.list) fun e he e2=>(by have:=nth_snoc (k2 e he).1; rw [e2,hb'] at this; cases this),Option.or_none]
      exact TT.get_list w4
    ·rename_i hpre
     rw [getS_none (L:=l.list) fun e he e2=>hpre (by rw [← e2]; exact (List.prefix_append _ _).trans (k1 e he).1),getS_none (L:=r.list) fun e he e2=>hpre (by rw [← e2]; exact (List.prefix_append _ _).trans (k2 e he).1)]
     rfl
def TT.cov (A:Bs):TT→List (Bs × Int)
 | .nil=>[]
 | .node q x h l r=>if q <+: A then (if h then [(q,x)] else [])++(if q.length=32 then [] else if nth A q.length then r.cov A else l.cov A) else []
theorem sorted_tail {e:Bs × Int} {r:List (Bs × Int)} (h:SortedB (e :: r)):SortedB r:=(List.pairwise_cons.1 h).2
theorem insS_mem {p:Bs} {v:Int}:∀ {L:List (Bs × Int)} {e:Bs × Int},e ∈ insS p v L→e=(p,v)∨e ∈ L
 | [],e,h=>by simp [insS] at h; exact .inl h
 | f :: r,e,h=>by
   unfold insS at h
   split at h
   ·rcases List.mem_cons.1 h with h | h
    ·exact .inr (h ▸ List.mem_cons_self ..)
    ·rcases insS_mem h with h | h
     ·exact .inl h
     ·exact .inr (List.mem_cons_of_mem _ h)
   ·split at h
    ·rcases List.mem_cons.1 h with h | h
     ·exact .inl h
     ·exact .inr (List.mem_cons_of_mem _ h)
    ·rcases List.mem_cons.1 h with h | h
     ·exact .inl h
     ·exact .inr h
theorem insS_sorted {p:Bs} {v:Int}:∀ {L:List (Bs × Int)},SortedB L→SortedB (insS p v L)
 | [],_=>List.pairwise_singleton ..
 | f :: r,hs=>by
   obtain ⟨h1,h2⟩:=List.pairwise_cons.1 hs
   unfold insS
   split
   ·rename_i h
    refine List.pairwise_cons.2 ⟨fun e he=>?_,insS_sorted h2⟩
    rcases insS_mem he with rfl | he
    ·exact h
    ·exact h1 e he
   ·rename_i h
    split
    ·rename_i he
     exact List.pairwise_cons.2 ⟨fun e hm=>by rw [← he]; exact h1 e hm,h2⟩
    ·rename_i hne
     have hlt:ltB p f.1=true:=by
      rcases ltB_tri f.1 p with h3 | h3 | h3
      ·exact absurd h3 h
      ·exact absurd h3 hne
      ·exact h3
     refine List.pairwise_cons.2 ⟨fun e he=>?_,hs⟩
     rcases List.mem_cons.1 he with rfl | he
     ·exact hlt
     ·exact ltB_trans hlt (h1 e he)
end Go.Proofs.YthlommalbkhcjaaGreat
