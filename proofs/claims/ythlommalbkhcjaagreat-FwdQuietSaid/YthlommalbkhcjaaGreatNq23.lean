/- Frag, plain law. -/
import Derived.Test.YthlommalbkhcjaaGreatNq15
import Derived.Test.YthlommalbkhcjaaGreatNq22
namespace Go.Proofs.YthlommalbkhcjaaGreat
theorem flat_steps_le:∀ (n:Nat) (x:By),x.length≤n→(flatF (steps x)).length≤x.length
 | 0,x,h=>by
   obtain rfl:x=[]:=List.eq_nil_of_length_eq_zero (by omega)
   simp [steps_nil,flatF]
 | n+1,[],_=>by simp [steps_nil,flatF]
 | n+1,k :: r,h=>by
   rw [steps_cons]
   by_cases h0:k=0
   ·rw [if_pos h0]; simp [flatF]
   rw [if_neg h0]
   by_cases h1:stepN (k :: r)=0
   ·rw [if_pos h1]; simp [flatF]
   rw [if_neg h1]
   have hle:=stepN_le (k :: r)
   have ih:=flat_steps_le n ((k :: r).drop (stepN (k :: r))) (by rw [List.length_drop]; simp at h ⊢; omega)
   rw [List.length_drop] at ih
   have e:flatF ((k,(k :: r).take (stepN (k :: r))) :: steps ((k :: r).drop (stepN (k :: r))))=(k :: r).take (stepN (k :: r))++flatF (steps ((k :: r).drop (stepN (k :: r)))):=rfl
   rw [e,List.length_append,List.length_take]
   omega
theorem flat_filter_le (p:UInt8 × By→Bool):∀ L:List (UInt8 × By),(flatF (L.filter p)).length≤(flatF L).length
 | []=>Nat.le_refl _
 | s :: L=>by
   have ih:=flat_filter_le p L
   have e:flatF (s :: L)=s.2++flatF L:=rfl
   rw [e,List.length_append]
   cases h:p s with
   | true =>
     rw [List.filter_cons_of_pos h]
     have e2:flatF (s :: L.filter p)=s.2++flatF (L.filter p):=rfl
     rw [e2,List.length_append]
     omega
   | false =>
     rw [List.filter_cons_of_neg (by simp [h])]
     omega
theorem cop_le {x:By} (h4:x.length % 4=0):(copF x).length≤x.length∧(copF x).length % 4=0:=by
 unfold copF
 split
 ·refine ⟨?_,padF_len _⟩
  have h1:=flat_filter_le (fun s=>decide (128≤s.1)) (steps x)
  have h2:=flat_steps_le x.length x (Nat.le_refl _)
  unfold padF highF
  simp only [List.length_append,List.length_replicate]
  omega
 ·simp
def pcF (h:Hd) (L m at_:Nat):Hd × Nat :=
 let o:=if 0 < at_ then copF h.opts else h.opts
 let room:=m - (20+o.length)
 if room < L - at_ then ({ h with off:=h.off+((at_ / 8:Nat):Int),opts:=o,mf:=true },room / 8 * 8) else ({ h with off:=h.off+((at_ / 8:Nat):Int),opts:=o },L - at_)
theorem may_opts {h:Hd} (hm:mayH h=true):goodF h.opts=true∧h.opts.length≤40∧h.opts.length % 4=0∧0≤h.off∧h.off≤8191:=by
 unfold mayH at hm
 simp only [Bool.and_eq_true,decide_eq_true_eq] at hm
 exact ⟨hm.1.1.1.1,hm.1.1.1.2,hm.1.1.2,hm.1.2,hm.2⟩
theorem pc_opts (h:Hd) (L m at_:Nat):(pcF h L m at_).1.opts=if 0 < at_ then copF h.opts else h.opts:=by
 unfold pcF
 generalize (if 0 < at_ then copF h.opts else h.opts)=o
 simp only
 split <;> rfl
theorem pc_off (h:Hd) (L m at_:Nat):(pcF h L m at_).1.off=h.off+((at_ / 8:Nat):Int):=by
 unfold pcF
 generalize (if 0 < at_ then copF h.opts else h.opts)=o
 simp only
 split <;> rfl
theorem pc_pos {h:Hd} (hm:mayH h=true) {L m at_:Nat} (h68:68≤m) (hlt:at_ < L):0 < (pcF h L m at_).2∧(pcF h L m at_).2≤L - at_∧((pcF h L m at_).2 % 8=0∨(pcF h L m at_).2=L - at_)∧20+(pcF h L m at_).1.opts.length+(pcF h L m at_).2≤m:=by
 obtain ⟨_,h40,h4,_⟩:=may_opts hm
 obtain ⟨hc,_⟩:=cop_le h4
 rw [pc_opts]
 unfold pcF
 simp only
 have ho:(if 0 < at_ then copF h.opts else h.opts).length≤40:=by split <;> omega
 generalize (if 0 < at_ then copF h.opts else h.opts)=o at ho
 by_cases hr:m - (20+o.length) < L - at_
 ·rw [if_pos hr]
  simp only
  omega
 ·rw [if_neg hr]
  exact ⟨by simp only; omega,by simp only; omega,.inr rfl,by simp only; omega⟩
theorem pc_may {h:Hd} (hm:mayH h=true) {L m at_:Nat} (ho:(pcF h L m at_).1.off≤8191):mayH (pcF h L m at_).1=true:=by
 obtain ⟨hg,h40,h4,h0,_⟩:=may_opts hm
 obtain ⟨hc,hc4⟩:=cop_le h4
 have hof:=pc_off h L m at_
 have hop:=pc_opts h L m at_
 unfold mayH
 simp only [Bool.and_eq_true,decide_eq_true_eq]
 rw [hop]
 refine ⟨⟨⟨⟨?_,?_⟩,?_⟩,?_⟩,ho⟩
 ·split
  ·exact good_cop _
  ·exact hg
 ·split <;> omega
 ·split <;> omega
 ·rw [hof]; omega
end Go.Proofs.YthlommalbkhcjaaGreat
namespace Go.Proofs.YthlommalbkhcjaaGreat
def pcsF (h:Hd) (L m:Nat):Nat→Nat→List (Nat × Hd × Nat)
 | 0,_=>[]
 | f+1,at_=>if at_ < L then (at_,pcF h L m at_) :: pcsF h L m f (at_+(pcF h L m at_).2) else []
theorem pcs_end (h:Hd) (L m f at_:Nat) (hl:L≤at_):pcsF h L m f at_=[]:=by
 cases f with
 | zero=>rfl
 | succ f=>unfold pcsF; rw [if_neg (by omega)]
theorem pcs_cons (h:Hd) (L m f at_:Nat) (hl:at_ < L):pcsF h L m (f+1) at_=(at_,pcF h L m at_) :: pcsF h L m f (at_+(pcF h L m at_).2):=by
 rw [pcsF,if_pos hl]
theorem pcs_fuel {h:Hd} (hm:mayH h=true) {L m:Nat} (h68:68≤m):∀ f g at_,L - at_≤f→L - at_≤g→pcsF h L m f at_=pcsF h L m g at_
 | 0,g,at_,h1,_=>by rw [pcs_end h L m 0 at_ (by omega),pcs_end h L m g at_ (by omega)]
 | f+1,0,at_,_,h2=>by rw [pcs_end h L m (f+1) at_ (by omega),pcs_end h L m 0 at_ (by omega)]
 | f+1,g+1,at_,h1,h2=>by
   by_cases hl:at_ < L
   ·obtain ⟨hp,_⟩:=pc_pos hm h68 hl
    rw [pcs_cons _ _ _ _ _ hl,pcs_cons _ _ _ _ _ hl,pcs_fuel hm h68 f g _ (by omega) (by omega)]
   ·rw [pcs_end _ _ _ _ _ (by omega),pcs_end _ _ _ _ _ (by omega)]
end Go.Proofs.YthlommalbkhcjaaGreat
namespace Go.Proofs.YthlommalbkhcjaaGreat
open Go.RowKit
theorem prs_may {x:By} (h:(prsF x).2.2=0):mayH (prsF x).1=true∧wrongF x=0:=by
 have h0:wrongF x=0:=by
  by_cases e:wrongF x=0
  ·exact e
  ·unfold prsF at h
   rw [if_neg e] at h
   exact absurd h e
 refine ⟨?_,h0⟩
 obtain ⟨h1,h2,h3,h4,h5⟩:=wrong0 h0
 have hg:goodF (partF x 20 (sizeF x))=true:=by
  have:=h0
  unfold wrongF at this
  repeat' split at this
  all_goals first | assumption | (cases this; done) | omega
 have e:(prsF x).1=hdF x:=by unfold prsF; rw [if_pos h0]
 rw [e]
 have hl:(partF x 20 (sizeF x)).length=sizeF x - 20:=part_len h3
 have hs:sizeF x≤60:=by unfold sizeF; omega
 have hs4:sizeF x % 4=0:=by unfold sizeF; omega
 unfold mayH hdF
 simp only [hg,Bool.true_and,Bool.and_eq_true,decide_eq_true_eq]
 refine ⟨⟨⟨?_,?_⟩,?_⟩,?_⟩ <;> omega
def fitsF (x:By) (m:Int):Bool × Nat :=
 if m < 68∨65535 < m then (false,2) else if (prsF x).2.2≠0 then (false,4) else (decide (((20+(prsF x).1.opts.length+(prsF x).2.1.length:Nat):Int)≤m),0)
theorem prs_size {x:By} (h:(prsF x).2.2=0):sizeH (prsF x).1=20+(prsF x).1.opts.length:=by
 unfold sizeH
 rw [if_pos (prs_may h).1]
end Go.Proofs.YthlommalbkhcjaaGreat
namespace Go.Proofs.YthlommalbkhcjaaGreat
open Go.RowKit
def pbF (p:By) (q:Nat × Hd × Nat):By:=bytesF q.2.1 (partF p q.1 (q.1+q.2.2))
def cutF (x:By) (m:Int):List By × Nat :=
 if (fitsF x m).2≠0 then ([],(fitsF x m).2)
 else if (fitsF x m).1=true then ([x.take (20+(prsF x).1.opts.length+(prsF x).2.1.length)],0)
 else if (prsF x).1.df=true then ([],7)
 else if ∃ q ∈ pcsF (prsF x).1 (prsF x).2.1.length m.toNat (prsF x).2.1.length 0,8191 < q.2.1.off then ([],3)
 else ((pcsF (prsF x).1 (prsF x).2.1.length m.toNat (prsF x).2.1.length 0).map (pbF (prsF x).2.1),0)
def cutP (h:Hd) (L m:Nat):List (Nat × Hd × Nat):=if 20+h.opts.length+L≤m then [(0,h,L)] else pcsF h L m L 0
def posF (Q:List (Nat × Hd × Nat)) (i:Nat):Nat:=((Q.take i).map (·.2.2)).sum
theorem posF_succ {Q:List (Nat × Hd × Nat)} {i:Nat} {q:Nat × Hd × Nat} (h:Q[i]?=some q):posF Q (i+1)=posF Q i+q.2.2:=by
 unfold posF
 rw [List.take_add_one,h]
 simp
theorem pcs_at {h:Hd} (hm:mayH h=true) {L m:Nat} (h68:68≤m):∀ f a i q,L - a≤f→a % 8=0→(pcsF h L m f a)[i]?=some q →
  q.1 % 8=0∧a≤q.1∧q.1 < L∧q.2=pcF h L m q.1∧posF (pcsF h L m f a) i+a=q.1∧(i=0↔q.1=a)∧(i+1 < (pcsF h L m f a).length↔q.1+q.2.2 < L)
 | 0,a,i,q,_,_,hq=>by simp [pcsF] at hq
 | f+1,a,i,q,hf,h8,hq=>by
   by_cases hl:a < L
   ·obtain ⟨hp,hle,h88,_⟩:=pc_pos hm h68 hl
    rw [pcs_cons _ _ _ _ _ hl] at hq ⊢
    cases i with
    | zero =>
      obtain rfl:(a,pcF h L m a)=q:=by simpa using hq
      refine ⟨h8,Nat.le_refl _,hl,rfl,by simp [posF],by simp,?_⟩
      simp only [List.length_cons]
      by_cases ht:a+(pcF h L m a).2 < L
      ·obtain ⟨g,rfl⟩:∃ g,f=g+1:=⟨f - 1,by omega⟩
       rw [pcs_cons _ _ _ _ _ ht]
       simp [ht]
      ·rw [pcs_end _ _ _ _ _ (by omega)]
       simp; omega
    | succ i =>
      rw [List.getElem?_cons_succ] at hq
      rcases h88 with h88 | h88
      ·obtain ⟨b1,b2,b3,b4,b5,b6,b7⟩:=pcs_at hm h68 f _ i q (by omega) (by omega) hq
       refine ⟨b1,by omega,b3,b4,?_,⟨fun e=>by omega,fun e=>by omega⟩,?_⟩
       ·rw [← b5]
        unfold posF
        simp only [List.take_succ_cons,List.map_cons,List.sum_cons]
        omega
       ·rw [List.length_cons,← b7]; omega
      ·rw [pcs_end _ _ _ _ _ (by omega)] at hq
       simp at hq
   ·rw [pcs_end _ _ _ _ _ (by omega)] at hq
    simp at hq
theorem pc_mf (h:Hd) (L m a:Nat) (hl:a < L) (_:68≤m):(pcF h L m a).1={ h with off:=h.off+((a / 8:Nat):Int),opts:=if 0 < a then copF h.opts else h.opts,mf:=h.mf || decide (a+(pcF h L m a).2 < L) }:=by
 unfold pcF
 generalize (if 0 < a then copF h.opts else h.opts)=o
 simp only
 by_cases hr:m - (20+o.length) < L - a
 ·rw [if_pos hr]
  simp only
  rw [show decide (a+(m - (20+o.length)) / 8 * 8 < L)=true from by simp; omega]
  simp
 ·rw [if_neg hr]
  simp only
  rw [show decide (a+(L - a) < L)=false from by simp; omega]
  simp
structure PcAt (h:Hd) (L m:Nat) (i:Nat) (q:Nat × Hd × Nat) (n:Nat):Prop where
 m8:q.1 % 8=0
 le:q.1+q.2.2≤L
 hd:q.2.1={ h with off:=h.off+((q.1 / 8:Nat):Int),opts:=if 0 < i then copF h.opts else h.opts,mf:=h.mf || decide (i+1 < n) }
 n8:i+1 < n→q.2.2 % 8=0
 size:20+q.2.1.opts.length+q.2.2≤m
 last:i+1=n→q.1+q.2.2=L
 pos:1 < n→0 < q.2.2
theorem cut_at {h:Hd} (hm:mayH h=true) {L m:Nat} (h68:68≤m) {i:Nat} {q:Nat × Hd × Nat} (hq:(cutP h L m)[i]?=some q):posF (cutP h L m) i=q.1∧PcAt h L m i q (cutP h L m).length:=by
 unfold cutP at hq ⊢
 by_cases hf:20+h.opts.length+L≤m
 ·rw [if_pos hf] at hq ⊢
  cases i with
  | zero =>
    obtain rfl:(0,h,L)=q:=by simpa using hq
    exact ⟨rfl,rfl,by simp,by simp,by simp,hf,by simp,by simp⟩
  | succ i=>simp at hq
 ·rw [if_neg hf] at hq ⊢
  obtain ⟨b1,b2,b3,b4,b5,b6,b7⟩:=pcs_at hm h68 L 0 i q (by omega) rfl hq
  obtain ⟨c1,c2,c3,c4⟩:=pc_pos hm h68 b3
  have e:=pc_mf h L m q.1 b3 h68
  rw [← b4] at c1 c2 c3 c4 e
  have hi:i+1≤(pcsF h L m L 0).length:=(List.getElem?_eq_some_iff.1 hq).1
  refine ⟨by omega,b1,by omega,?_,fun hh=>?_,c4,fun hh=>?_,fun _=>c1⟩
  ·rw [e]
   have e1:(0 < q.1)=(0 < i):=by
    apply propext
    constructor
    ·intro hh; rcases Nat.eq_zero_or_pos i with h0 | h0
     ·have:=b6.1 h0; omega
     ·exact h0
    ·intro hh; rcases Nat.eq_zero_or_pos q.1 with h0 | h0
     ·have:=b6.2 h0; omega
     ·exact h0
   have e2:(q.1+q.2.2 < L)=(i+1 < (pcsF h L m L 0).length):=propext b7.symm
   simp only [e1,e2]
  ·have:=b7.1 hh; omega
  ·have:¬ q.1+q.2.2 < L:=fun hc=>by have:=b7.2 hc; omega
   omega
theorem cut_ne {h:Hd} {L m:Nat} (h68:68≤m) (hm:mayH h=true):0 < (cutP h L m).length:=by
 unfold cutP
 obtain ⟨_,h40,_⟩:=may_opts hm
 split
 ·simp
 ·rename_i hf
  obtain ⟨g,rfl⟩:∃ g,L=g+1:=⟨L - 1,by omega⟩
  rw [pcs_cons _ _ _ _ _ (by omega)]
  simp
theorem pc_ok {h:Hd} (ok:h.ok) {i n:Nat} {L m:Nat} {q:Nat × Hd × Nat} (k:PcAt h L m i q n):q.2.1.ok:=by rw [k.hd]; exact ok
theorem pc_fits {h:Hd} (hm:mayH h=true) {i n:Nat} {L m:Nat} {q:Nat × Hd × Nat} (k:PcAt h L m i q n) (hm2:m≤65535) (ho:q.2.1.off≤8191) (p:By) (hp:p.length=q.2.2):fitsH q.2.1 p=true:=by
 obtain ⟨hg,h40,h4,h0,_⟩:=may_opts hm
 obtain ⟨hc,hc4⟩:=cop_le h4
 have hs:=k.size
 unfold fitsH mayH
 simp only [Bool.and_eq_true,decide_eq_true_eq]
 have e:=k.hd
 have e1:q.2.1.opts=if 0 < i then copF h.opts else h.opts:=by rw [e]
 have e2:q.2.1.off=h.off+((q.1 / 8:Nat):Int):=by rw [e]
 rw [e1] at hs ⊢
 refine ⟨⟨⟨⟨⟨?_,?_⟩,?_⟩,?_⟩,ho⟩,?_⟩
 ·split
  ·exact good_cop _
  ·exact hg
 ·split <;> omega
 ·split <;> omega
 ·rw [e2]; omega
 ·rw [hp]; omega
theorem part_len2 {p:By} {a n:Nat} (h:a+n≤p.length):(partF p a (a+n)).length=n:=by
 unfold partF
 rw [List.length_drop,List.length_take]
 omega
theorem take_part {p:By} {a n:Nat}:p.take a++partF p a (a+n)=p.take (a+n):=by
 unfold partF
 rw [List.drop_take,show a+n - a=n from by omega,← List.take_add]
theorem cut_bytes {h:Hd} (ok:h.ok) {p:By} (hf:fitsH h p=true) (m:Int) :
  (cutF (bytesF h p) m).2=0∧68≤m∧m≤65535∧(cutF (bytesF h p) m).1=(cutP h p.length m.toNat).map (pbF p)∧(∀ q ∈ cutP h p.length m.toNat,q.2.1.off≤8191) ∨
  (cutF (bytesF h p) m).1=[]∧((cutF (bytesF h p) m).2=2∨(cutF (bytesF h p) m).2=3∨(cutF (bytesF h p) m).2=7∧h.df=true):=by
 have hr:prsF (bytesF h p)=(h,p,0):=by have:=read_back ok hf []; rwa [List.append_nil] at this
 unfold cutF
 rw [hr]
 simp only
 have hf2:fitsF (bytesF h p) m=if m < 68∨65535 < m then (false,2) else (decide (((20+h.opts.length+p.length:Nat):Int)≤m),0):=by
  unfold fitsF
  rw [hr]
  simp
 have hmy:mayH h=true:=by unfold fitsH at hf; simp only [Bool.and_eq_true] at hf; exact hf.1
 rw [hf2]
 by_cases hm:m < 68∨65535 < m
 ·rw [if_pos hm]
  exact .inr ⟨rfl,.inl rfl⟩
 rw [if_neg hm]
 simp only [ne_eq,not_true_eq_false,if_false,decide_eq_true_eq]
 have e:cutP h p.length m.toNat=if ((20+h.opts.length+p.length:Nat):Int)≤m then [(0,h,p.length)] else pcsF h p.length m.toNat p.length 0:=by
  unfold cutP
  by_cases hfm:((20+h.opts.length+p.length:Nat):Int)≤m
  ·rw [if_pos hfm,if_pos (by omega)]
  ·rw [if_neg hfm,if_neg (by omega)]
 rw [e]
 by_cases hfm:((20+h.opts.length+p.length:Nat):Int)≤m
 ·rw [if_pos hfm,if_pos hfm]
  refine .inl ⟨rfl,by omega,by omega,?_,fun q hq=>?_⟩
  ·simp only [List.map_cons,List.map_nil,pbF,partF]
   rw [List.take_of_length_le (by rw [bytesF_len]; omega)]
   simp
  ·obtain rfl:q=(0,h,p.length):=by simpa using hq
   exact (may_opts hmy).2.2.2.2
 ·rw [if_neg hfm,if_neg hfm]
  by_cases hd:h.df=true
  ·rw [if_pos hd]
   exact .inr ⟨rfl,.inr (.inr ⟨rfl,hd⟩)⟩
  rw [if_neg hd]
  by_cases hx:∃ q ∈ pcsF h p.length m.toNat p.length 0,8191 < q.2.1.off
  ·rw [if_pos hx]
   exact .inr ⟨rfl,.inr (.inl rfl)⟩
  ·rw [if_neg hx]
   exact .inl ⟨rfl,by omega,by omega,rfl,fun q hq=>by
    by_cases hh:q.2.1.off≤8191
    ·exact hh
    ·exact (hx ⟨q,hq,by omega⟩).elim⟩
theorem pcs_len (h:Hd) (L m:Nat):∀ f a,(pcsF h L m f a).length≤f
 | 0,_=>Nat.le_refl _
 | f+1,a=>by
   unfold pcsF
   split
   ·exact Nat.succ_le_succ (pcs_len h L m f _)
   ·exact Nat.zero_le _
theorem cut_len (x:By) (m:Int):(cutF x m).1.length≤x.length+1:=by
 unfold cutF
 have:=pcs_len (prsF x).1 (prsF x).2.1.length m.toNat (prsF x).2.1.length 0
 have:=(prs_len x).1
 split
 ·exact Nat.zero_le _
 split
 ·simp
 split
 ·exact Nat.zero_le _
 split
 ·exact Nat.zero_le _
 ·rw [List.length_map]; omega
theorem cut_eq {x:By} {m:Int} {fb:Bool} {fe:Nat} {g:Hd} {p:By} {f:Nat} (hF:(fb,fe)=fitsF x m) (hP:(g,p,f)=prsF x):cutF x m =
  if fe≠0 then ([],fe) else if fb=true then ([x.take (20+g.opts.length+p.length)],0) else if g.df=true then ([],7)
  else if ∃ q ∈ pcsF g p.length m.toNat p.length 0,8191 < q.2.1.off then ([],3) else ((pcsF g p.length m.toNat p.length 0).map (pbF p),0):=by
 unfold cutF
 rw [← hF,← hP]
theorem fits_ok {x:By} {m:Int} {fb:Bool} (hF:(fb,0)=fitsF x m):68≤m∧m≤65535∧(prsF x).2.2=0∧fb=decide (((20+(prsF x).1.opts.length+(prsF x).2.1.length:Nat):Int)≤m):=by
 unfold fitsF at hF
 split at hF
 ·cases hF
 split at hF
 ·cases hF
 ·injection hF with h1 h2
  exact ⟨by omega,by omega,by omega,h1⟩
theorem prs_whole {x:By} (h:(prsF x).2.2=0):20+(prsF x).1.opts.length+(prsF x).2.1.length≤x.length:=by
 obtain ⟨_,h0⟩:=prs_may h
 obtain ⟨h1,h2,h3,h4,h5⟩:=wrong0 h0
 have e:prsF x=(hdF x,partF x (sizeF x) (lenF x),0):=by unfold prsF; rw [if_pos h0]
 rw [e]
 have hl:(partF x 20 (sizeF x)).length=sizeF x - 20:=part_len h3
 have hl2:(partF x (sizeF x) (lenF x)).length=lenF x - sizeF x:=part_len h5
 simp only [hdF,hl,hl2]
 omega
theorem cut_two {h:Hd} (hm:mayH h=true) {L m:Nat} (h68:68≤m) (hf:¬ 20+h.opts.length+L≤m):1 < (cutP h L m).length:=by
 have hn:=cut_ne (L:=L) h68 hm
 obtain ⟨q,hq⟩:∃ q,(cutP h L m)[0]?=some q:=⟨_,List.getElem?_eq_getElem hn⟩
 obtain ⟨e,k⟩:=cut_at hm h68 hq
 rcases Nat.lt_or_ge 1 (cutP h L m).length with h1 | h1
 ·exact h1
 ·have hl:=k.last (by omega)
  have hs:=k.size
  have hh:=k.hd
  rw [hh] at hs
  simp only [Nat.lt_irrefl,if_false] at hs
  have:posF (cutP h L m) 0=0:=rfl
  omega
structure PcK (h:Hd) (p:By) (m:Nat) (k N:Nat) (x:By) (g:Hd) (a:Nat) (y:By):Prop where
 prs:prsF x=(g,y,0)
 gok:g.ok
 fit:fitsF x (m:Int)=(true,0)
 hd:g={ h with off:=h.off+(a:Int) / 8,opts:=if 0 < k then copF h.opts else h.opts,mf:=h.mf || decide (k+1 < N) }
 n8:k+1 < N→y.length % 8=0
 pos:1 < N→0 < y.length
 app:p.take a++y=p.take (a+y.length)
 le:a+y.length≤p.length
 len:x.length≤65535
 m8:a % 8=0
 bts:x=bytesF g y
 fts:fitsH g y=true
theorem cut_k {h:Hd} (ok:h.ok) (hm:mayH h=true) {p:By} {m:Nat} (h68:68≤m) (hm2:m≤65535) (hoff:∀ q ∈ cutP h p.length m,q.2.1.off≤8191) {k:Nat} (hk:k < (cutP h p.length m).length) :
  ∃ x g y,((cutP h p.length m).map (pbF p))[k]?=some x∧PcK h p m k (cutP h p.length m).length x g (posF (cutP h p.length m) k) y∧posF (cutP h p.length m) (k+1)=posF (cutP h p.length m) k+y.length:=by
 obtain ⟨q,hq⟩:∃ q,(cutP h p.length m)[k]?=some q:=⟨_,List.getElem?_eq_getElem hk⟩
 obtain ⟨e,K⟩:=cut_at hm h68 hq
 have hyl:(partF p q.1 (q.1+q.2.2)).length=q.2.2:=part_len2 K.le
 have hfit:=pc_fits hm K hm2 (hoff q (List.mem_of_getElem? hq)) _ hyl
 have hp:=read_back (pc_ok ok K) hfit []
 rw [List.append_nil] at hp
 have hlen:(pbF p q).length=20+q.2.1.opts.length+q.2.2:=by unfold pbF; rw [bytesF_len,hyl]
 refine ⟨pbF p q,q.2.1,partF p q.1 (q.1+q.2.2),by rw [List.getElem?_map,hq]; rfl,⟨hp,pc_ok ok K,?_,?_,fun hh=>by rw [hyl]; exact K.n8 hh,fun hh=>by rw [hyl]; exact K.pos hh,?_,?_,?_,by rw [e]; exact K.m8,rfl,hfit⟩,by rw [posF_succ hq,hyl]⟩
 ·unfold fitsF
  rw [show prsF (pbF p q)=(q.2.1,partF p q.1 (q.1+q.2.2),0) from hp,if_neg (by omega)]
  have hs:=K.size
  simp only [hyl]
  rw [if_neg (by simp),decide_eq_true (by omega)]
 ·rw [K.hd,e]
  rw [show ((q.1 / 8:Nat):Int)=(q.1:Int) / 8 by omega]
 ·rw [e,hyl,take_part]
 ·rw [e,hyl]; exact K.le
 ·rw [hlen]; have:=K.size; omega
end Go.Proofs.YthlommalbkhcjaaGreat
