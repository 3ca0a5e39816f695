/- split: a flow's hash; bytes mixed. -/
import Derived.Test.YthlommalbkhcjaaGreatNq24
import Derived.Test.YthlommalbkhcjaaGreatNq21
namespace Go.Proofs.YthlommalbkhcjaaGreat
open Go.RowKit Go.Sort
def mixF (h:Nat) (b:UInt8):Nat:=((h ^^^ b.toNat) * 16777619) % 4294967296
def hashG (h:Nat) (x:By):Nat:=x.foldl mixF h
def hashF (x:By):Nat:=hashG 2166136261 x
theorem hashG_app (h:Nat) (x y:By):hashG h (x++y)=hashG (hashG h x) y:=List.foldl_append
theorem hashG_snoc (h:Nat) (x:By) (b:UInt8):hashG h (x++[b])=mixF (hashG h x) b:=by rw [hashG_app]; unfold hashG; rw [List.foldl_cons,List.foldl_nil]
theorem mixF_lt (h:Nat) (b:UInt8):mixF h b < 4294967296:=Nat.mod_lt _ (by decide)
theorem hashG_lt {h:Nat} (h0:h < 4294967296):∀ x:By,hashG h x < 4294967296:=fun x=>by
 induction x using snocInd with
 | h0=>exact h0
 | hs x b _=>rw [hashG_snoc]; exact mixF_lt _ _
theorem wraps_u32 (n:Int) (h0:0≤n) (h1:n < 2 ^ 32):IntKind.u32.wrap n=n:=by
 simp [IntKind.wrap,IntKind.bits,IntKind.signed]; omega
theorem xor_nat (k:IntKind) (j:Nat) (hj:j≤k.bits) (hk:∀ n:Int,0≤n→n < 2 ^ j→k.wrap n=n) (a b:Nat) (ha:a < 2 ^ j) (hb:b < 2 ^ j):bits .xor k a b=((a ^^^ b:Nat):Int):=by
 have hp:2 ^ j≤2 ^ k.bits:=Nat.pow_le_pow_right (by decide) hj
 have ha':a % 2 ^ k.bits=a:=Nat.mod_eq_of_lt (Nat.lt_of_lt_of_le ha hp)
 have hb':b % 2 ^ k.bits=b:=Nat.mod_eq_of_lt (Nat.lt_of_lt_of_le hb hp)
 have cast:∀ n:Nat,n < 2 ^ j→((n:Nat):Int) < 2 ^ j:=fun n h=>by exact_mod_cast h
 simp only [bits,BitVec.ofInt_natCast,BitVec.toNat_xor,BitVec.toNat_ofNat,ha',hb']
 exact hk _ (Int.natCast_nonneg _) (cast _ (Nat.xor_lt_two_pow ha hb))
theorem xor_u32 (a b:Nat) (ha:a < 2 ^ 32) (hb:b < 2 ^ 32):bits .xor .u32 (a:Int) (b:Int)=((a ^^^ b:Nat):Int):=xor_nat .u32 32 (by decide) wraps_u32 a b ha hb
theorem mul_u32 (a:Nat):IntKind.u32.wrap ((a:Int) * 16777619)=((a * 16777619 % 4294967296:Nat):Int):=by
 simp [IntKind.wrap,IntKind.bits,IntKind.signed]
theorem take_snoc8 {x:By} {j:Nat} {b:UInt8} (h:x[j]?=some b):x.take (j+1)=x.take j++[b]:=by
 obtain ⟨h1,h2⟩:=List.getElem?_eq_some_iff.1 h
 rw [List.take_succ_eq_append_getElem h1,h2]
theorem u8_u32 (b:UInt8):IntKind.u32.wrap (b.toNat:Int)=(b.toNat:Int):=wraps_u32 _ (by omega) (by have:=b.toNat_lt; omega)
set_option maxHeartbeats 1600000 in
theorem mixed_any (A:Option Addr) (n c:Nat) (us:List Value) (xs:List By) (I:Nat→Prop) (w:World) (h:Reads w I 1 A n us) (hx:RowsE w us xs) (hsm:xs.flatten.length≤1000000) (hn:n≤1000000) :
  Calls Tryz.prog 205 #[.slice A n c] w fun e w'=>e=.returned (.int .u32 (hashF xs.flatten:Int))∧w=w':=by
 have HR:=Lib.hid h.lt
 have HX:=Lib.hid hx
 have HL:=Lib.hid (show xs.length=n by have:=h.1; rw [← hx.len]; omega)
 clear h hx
 go_enter Tryz.func205,Tryz.ntmps205
 go_wp2_with fail
 go_loop [3,10] (fun v i=>∃ k:Nat,k≤n∧i=.int .i64 (k:Int)∧v=.int .u32 (hashF (xs.take k).flatten:Int)) (fun _ i=>n - (intOf i).toNat)
 case atStart=>exact ⟨0,Nat.zero_le _,rfl,rfl⟩
 case round =>
  obtain ⟨k,hk,rfl,rfl⟩:=hrel
  by_cases hlt:k < n
  ·obtain ⟨x,hx⟩:∃ x,xs[k]?=some x:=⟨xs[k]'(by rw [HL.out]; exact hlt),List.getElem?_eq_getElem _⟩
   obtain ⟨u,hu,hs⟩:=HX.out.get hx
   obtain ⟨A2,c2,rfl,hc2,hr2⟩:=hs
   obtain ⟨ad,rfl,_,hadl,hc⟩:=HR.out.2 (by omega)
   have hcell:w.cell? (ad.add k)=some (.slice A2 x.length c2):=hc _ _ hu
   have htk:(xs.take (k+1)).flatten=(xs.take k).flatten++x:=by
    have hkl:k < xs.length:=by rw [HL.out]; exact hlt
    rw [List.take_succ_eq_append_getElem hkl,(List.getElem?_eq_some_iff.1 hx).2,List.flatten_append]
    simp
   have hlen:(xs.take (k+1)).flatten.length≤1000000:=by
    have h1:=congrArg (fun l=>l.flatten.length) (List.take_append_drop (k+1) xs)
    simp only [List.flatten_append,List.length_append] at h1
    omega
   rw [htk,List.length_append] at hlen
   obtain ⟨m,hm⟩:∃ m,m=x.length:=⟨_,rfl⟩
   rw [← hm] at hcell hr2 hlen
   have hm6:m≤1000000:=by omega
   have HTK:=Lib.hid htk
   have HR2:=Lib.hid hr2
   have HM:=Lib.hid hm
   obtain ⟨y,hy⟩:∃ y,y=hashF (xs.take k).flatten:=⟨_,rfl⟩
   have HY:=Lib.hid hy
   have HYL:=Lib.hid (show y < 4294967296 from by rw [hy]; exact hashG_lt (by decide) _)
   rw [← hy]
   have hi0:(0:Int)≤k:=by omega
   have hi1:(k:Int) < n:=by omega
   have hi2:(k:Int) < 1000000:=by omega
   have hd0:decide ((k:Int) < (n:Int))=true:=decide_eq_true (by omega)
   have hd1:decide (k < n)=true:=decide_eq_true hlt
   clear hx hu hc hc2 hr2 htk hlen hm hy
   go_wp2_with fail
   clear hcell hd0 hd1
   go_loop [3,16] (fun v i=>∃ j:Nat,j≤m∧i=.int .i64 (j:Int)∧v=.int .u32 (hashG y (x.take j):Int)) (fun _ i=>m - (intOf i).toNat)
   case atStart=>exact ⟨0,Nat.zero_le _,rfl,rfl⟩
   case round =>
    obtain ⟨j,hj,rfl,rfl⟩:=hrel
    by_cases hjt:j < m
    ·have hxj:x[j]?=some (x[j]'(by rw [← HM.out]; exact hjt)):=List.getElem?_eq_getElem _
     obtain ⟨b,hb⟩:∃ b,x[j]?=some b:=⟨_,hxj⟩
     obtain ⟨ad2,rfl,_,_,hc⟩:=HR2.out.2 (by omega)
     have hcell:w.cell? (ad2.add j)=some (.int .u8 (b.toNat:Int)):=hc _ _ (by simp [bytesV,hb])
     obtain ⟨z,hz⟩:∃ z,z=hashG y (x.take j):=⟨_,rfl⟩
     have hzl:z < 4294967296:=by rw [hz]; exact hashG_lt HYL.out _
     have hbl:=b.toNat_lt
     have HN2:=Lib.hid (show hashG y (x.take (j+1))=mixF z b by rw [take_snoc8 hb,hashG_snoc,hz])
     have e0:=u8_u32 b
     have e1:=xor_u32 z b.toNat hzl (by omega)
     obtain ⟨v,hv⟩:∃ v,v=z ^^^ b.toNat:=⟨_,rfl⟩
     have e2:=mul_u32 v
     obtain ⟨r,hr⟩:∃ r,r=v * 16777619 % 4294967296:=⟨_,rfl⟩
     have HRE:=Lib.hid (show mixF z b=r by rw [hr,hv]; rfl)
     rw [← hv] at e1
     rw [← hr] at e2
     rw [← hz]
     have ji0:(0:Int)≤j:=by omega
     have ji1:(j:Int) < m:=by omega
     have ji2:(j:Int) < 1000000:=by omega
     have jd0:decide ((j:Int) < (m:Int))=true:=decide_eq_true (by omega)
     have jd1:decide (j < m)=true:=decide_eq_true hjt
     clear hxj hb hc hz hzl hbl hv hr
     go_wp2_with fail
     go_round
     case rel=>exact ⟨j+1,hjt,rfl,by rw [HN2.out,HRE.out]⟩
     case measure=>simp [intOf]; omega
    ·obtain rfl:j=m:=by omega
     have jd0:decide ((j:Int) < (j:Int))=false:=decide_eq_false (by omega)
     have jd1:decide (j < j)=false:=decide_eq_false (by omega)
     have HE:=Lib.hid (show hashG y (x.take j)=hashF (xs.take (k+1)).flatten by
      rw [HM.out,List.take_length,HTK.out]
      unfold hashF
      rw [hashG_app]
      rw [HY.out]
      rfl)
     clear hj hjt
     go_wp2_with fail
     go_round
     case rel=>exact ⟨k+1,hlt,rfl,by rw [HE.out]⟩
     case measure=>simp [intOf]; omega
  ·obtain rfl:k=n:=by omega
   have hd0:decide ((k:Int) < (k:Int))=false:=decide_eq_false (by omega)
   have hd1:decide (k < k)=false:=decide_eq_false (by omega)
   have HE:=Lib.hid (show xs.take k=xs from List.take_of_length_le (by rw [HL.out]; exact Nat.le_refl _))
   clear hk hlt
   go_wp2_with fail
   go_ret
   exact ⟨by rw [← congrArg List.flatten HE.out]; rfl,rfl⟩
end Go.Proofs.YthlommalbkhcjaaGreat
