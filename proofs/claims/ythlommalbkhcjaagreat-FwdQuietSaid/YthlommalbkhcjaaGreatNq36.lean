/- ip.Bytes$1, ip.flags. -/
import Derived.Test.YthlommalbkhcjaaGreatNq22
import Derived.Test.YthlommalbkhcjaaGreatNq04
import Derived.Maps.RangeWalk
import Derived.Deep.DeepCutAuto
import Derived.Maps.OwnSet
import Derived.Maps.Views
namespace Go.Proofs.YthlommalbkhcjaaGreat
open Go.RowKit Go.Sort
def Fld (w:World) (Bb:Nat) (y:By):Prop:=∃ v,Blk w Bb 61 #[v]∧Row8 (Bb+1) w v y
def FldPost (w:World) (Bb:Nat) (y:By) (e:Ending) (w':World):Prop:=e=.returned (.tuple #[])∧Fld w' Bb y∧Below Bb w w'
theorem field_any (n size Bb:Nat) (y:By) (w:World) (hp:∀ wx,Calls Tryz.prog 170 #[.int .u64 (n:Int),.int .i64 (size:Int)] wx fun e w'=>∃ v,e=.returned v∧Row8 wx.heap.size w' v (putF n size)∧Below wx.heap.size wx w') (hy:Fld w Bb y) (hsm:y.length+size≤1000000) :
  Calls Tryz.prog 181 #[.int .u64 (n:Int),.int .i64 (size:Int),.pointer (some ⟨Bb,0,none⟩)] w (FldPost w Bb (y++putF n size)):=by
 obtain ⟨v,hk,hr⟩:=hy
 obtain ⟨Av,cv,rfl,_⟩:=hr.form
 obtain ⟨m,hm⟩:∃ m,m=y.length:=⟨_,rfl⟩
 rw [← hm] at hk
 have HM:=Lib.hid hm
 have HP:=Lib.hid hp
 have HK:=Lib.hid hk
 have HR:=Lib.hid (show w.ownsRow (Bb+1) 5 1 (.slice Av m cv) m (bytesV y) by have h:=hr; unfold Row8 at h; rw [← hm] at h; exact h)
 obtain ⟨i0,hi,hz0,hz1,hz2⟩:=info_parts info_u8
 have hmx:m+size≤maxLen:=by unfold maxLen; omega
 have hmb:(m+size) * 1≤140737488355328:=by omega
 clear hp hk hr hm
 go_enter Tryz.func181,Tryz.ntmps181
 go_wp2_with fail
 refine wp_region_mix [(true,3),(false,3)] 1 (by kernel_rfl) (fun wx=>Blk wx Bb 61 #[.slice Av m cv]) (fun _ _ h k=>h.below k h.lt) (by kernel_rfl) HK.out (a':=?_) (fun wz hz=>?_) fun wz hz=>?_
 rotate_left
 ·have z1:=cell_regrown (hz.cell 0:wz.cell? ⟨Bb,0,none⟩=some (.slice Av m cv))
  simp only [pick_nil,pick_tt,pick_ft,List.take_succ_cons,List.take_zero,List.drop_succ_cons,List.drop_zero,List.append_nil]
  repeat (go_big_quiet_step (fail))
  refine wpQuiet_nil ?_
  rfl
 ·simp only [pick_nil,pick_ff,pick_tf,List.take_succ_cons,List.take_zero,List.drop_succ_cons,List.drop_zero,List.append_nil]
  have HKZ:=Lib.hid (HK.out.below hz HK.out.lt)
  have HRZ:=Lib.hid (own_below HR.out hz)
  have HBZ:=Lib.hid (hz.mono (Nat.le_of_lt HK.out.lt):Below Bb w wz)
  clear hz
  refine wpMix_step HKZ.out fun wa ha=>?_
  have HKA:=Lib.hid (HKZ.out.below ha HKZ.out.lt)
  have HRA:=Lib.hid (own_below HRZ.out ha)
  have HBA:=Lib.hid (HBZ.out.trans (ha.mono (Nat.le_of_lt HKZ.out.lt)))
  clear ha
  go_wp2_with fail
  refine (HP.out wa).mono ?_
  rintro e wb ⟨vp,rfl,hvp,hb⟩
  obtain ⟨Ap,cp,rfl,_⟩:=hvp.form
  have hvr:=(hvp.reads).2
  rw [putF_len] at hvr ⊢
  have HKB:=Lib.hid (HKA.out.below hb HKA.out.lt)
  have HRB:=Lib.hid (own_below HRA.out hb)
  have HBB:=Lib.hid (HBA.out.trans (hb.mono (Nat.le_of_lt HKA.out.lt)))
  have HVR:=Lib.hid hvr
  clear hb hvp hvr
  go_wp2_with fail
  refine wpMix_append HKB.out rfl (.tmp 5) (.tmp 8) _ rfl rfl (Bb+1) 5 i0 _ 1 1 Tryz.underlying61 hi hz0 hz1 hz2 rfl (by decide) _ _ _ rfl HRB.out _ Ap size cp _ rfl HVR.out (bytesV_one _) hmx hmb HKB.out.lt fun v2 w2 h2 hg2 _=>?_
  refine wpMix_plain ?_
  have hk2:Blk w2 Bb 61 #[.slice Av m cv]:=(hg2.block Bb HKB.out.lt fun e=>by have:=(own_lt HRB.out e.symm).1; omega).trans HKB.out
  have c2:=hk2.cell 0
  have z2:=hk2.frozen 0
  obtain ⟨A2,d2,rfl,_⟩:=own_form h2
  have H2:=Lib.hid h2
  have HK2:=Lib.hid hk2
  have HB2:=Lib.hid (HBB.out.grown hg2 (Nat.le_of_lt HKB.out.lt) fun g hg=>by have:=(own_lt HRB.out hg).1; omega)
  clear h2 hk2 hg2
  go_wp2_with fail
  go_end0
  refine ⟨rfl,⟨_,HK2.out.set_ 0 _,?_⟩,HB2.out.setCell (p:=⟨Bb,0,none⟩) (Nat.le_refl _) _⟩
  have h3:Row8 (Bb+1) w2 (.slice A2 (m+size) d2) (y++putF n size):=by
   unfold Row8
   rw [bytesV_app,List.length_append,putF_len,← HM.out]
   exact H2.out
  exact h3.keep (I:=fun k=>k≠Bb) (Upd.same (F:=fun k=>k=Bb) ((Upd.refl (fun k=>k=Bb) w2).setCell (p:=⟨Bb,0,none⟩) (.inl rfl) _) fun k hk hi=>hi hk) fun g hg=>by have:=(own_lt h3 hg).1; omega
/-! ### flags -/
theorem or_bit (n k:Nat) (h:n / 2 ^ k % 2=0):n ||| 2 ^ k=n+2 ^ k:=by
 have hp:0 < 2 ^ k:=Nat.two_pow_pos k
 obtain ⟨q,hq⟩:∃ q,q=n / 2 ^ (k+1):=⟨_,rfl⟩
 obtain ⟨r,hr⟩:∃ r,r=n % 2 ^ k:=⟨_,rfl⟩
 have hrl:r < 2 ^ k:=by rw [hr]; exact Nat.mod_lt _ hp
 have hn:n=2 ^ (k+1) * q+r:=by
  have h1:=Nat.div_add_mod n (2 ^ k)
  have h2:=Nat.div_add_mod (n / 2 ^ k) 2
  rw [h,Nat.add_zero,Nat.div_div_eq_div_mul,← Nat.pow_succ,← hq] at h2
  rw [← h2,← hr,← Nat.mul_assoc,← Nat.pow_succ] at h1
  exact h1.symm
 have e1:2 ^ (k+1) * q+r=2 ^ (k+1) * q ||| r:=Nat.two_pow_add_eq_or_of_lt (by rw [Nat.pow_succ]; omega) q
 have e2:2 ^ k * 1+r=2 ^ k * 1 ||| r:=Nat.two_pow_add_eq_or_of_lt hrl 1
 have e3:2 ^ (k+1) * q+(2 ^ k+r)=2 ^ (k+1) * q ||| (2 ^ k+r):=Nat.two_pow_add_eq_or_of_lt (by rw [Nat.pow_succ]; omega) q
 rw [Nat.mul_one] at e2
 rw [hn,e1,Nat.or_assoc,Nat.or_comm r,← e2,← e3]
 omega
theorem or15 (b1 b2:Bool) (o:Nat) (ho:o < 8192):(bitF false 32768+bitF b1 16384+bitF b2 8192+o) ||| 32768=bitF true 32768+bitF b1 16384+bitF b2 8192+o:=by
 have:=or_bit (bitF false 32768+bitF b1 16384+bitF b2 8192+o) 15 (by cases b1 <;> cases b2 <;> simp [bitF] <;> omega)
 rw [show (2:Nat) ^ 15=32768 from rfl] at this
 rw [this]
 simp [bitF]; omega
theorem or14 (b1 b2:Bool) (o:Nat) (ho:o < 8192):(bitF b1 32768+bitF false 16384+bitF b2 8192+o) ||| 16384=bitF b1 32768+bitF true 16384+bitF b2 8192+o:=by
 have:=or_bit (bitF b1 32768+bitF false 16384+bitF b2 8192+o) 14 (by cases b1 <;> cases b2 <;> simp [bitF] <;> omega)
 rw [show (2:Nat) ^ 14=16384 from rfl] at this
 rw [this]
 simp [bitF]; omega
theorem or13 (b1 b2:Bool) (o:Nat) (ho:o < 8192):(bitF b1 32768+bitF b2 16384+bitF false 8192+o) ||| 8192=bitF b1 32768+bitF b2 16384+bitF true 8192+o:=by
 have:=or_bit (bitF b1 32768+bitF b2 16384+bitF false 8192+o) 13 (by cases b1 <;> cases b2 <;> simp [bitF] <;> omega)
 rw [show (2:Nat) ^ 13=8192 from rfl] at this
 rw [this]
 simp [bitF]; omega
def flE (v:Value):Option (DataW Unit × List MemPlace):=match v with
 | .agg cs=>match cs.toList with
   | [.bool x]=>some (.lit (.bool x),[])
   | _=>none
 | _=>none
theorem flE_inv (v:Value) (y:DataW Unit × List MemPlace) (h:flE v=some y):∃ c:Bool,v=.agg #[.bool c]∧y=(.lit (.bool c),[]):=by
 unfold flE at h
 split at h
 ·rename_i cs
  split at h
  ·rename_i x hx
   injection h with h
   refine ⟨x,?_,h.symm⟩
   have e:cs=#[.bool x]:=by
    apply Array.ext'
    rw [hx]
   rw [e]
  ·cases h
 ·cases h
theorem u64Keyed:Maps.Keyed Tryz.prog 146:=Maps.int_keyed Tryz.underlying146
def flK (n:Nat):Lit:=.int .u64 (n:Int)
theorem flK_lit (n:Nat):WideAt.IsKeyLit (flK n):=trivial
theorem flK_ne {m n:Nat} (h:m≠n):flK m≠flK n:=fun e=>by
 unfold flK at e
 injection e with _ e
 exact h (by omega)
def flD (e d m:Bool):DataW Unit:=(((DataW.map []).put (flK 32768) (.lit (.bool e))).put (flK 16384) (.lit (.bool d))).put (flK 8192) (.lit (.bool m))
theorem flD_has (e d m:Bool) (kl:Lit) (h:Maps.has (flD e d m) kl=true):kl=flK 32768∨kl=flK 16384∨kl=flK 8192:=by
 by_cases h1:kl=flK 8192
 ·exact .inr (.inr h1)
 ·by_cases h2:kl=flK 16384
  ·exact .inr (.inl h2)
  ·by_cases h3:kl=flK 32768
   ·exact .inl h3
   ·unfold flD at h
    rw [Maps.has_put_other h1,Maps.has_put_other h2,Maps.has_put_other h3] at h
    cases h
theorem flD_has1 (e d m:Bool):Maps.has (flD e d m) (flK 32768)=true∧Maps.has (flD e d m) (flK 16384)=true∧Maps.has (flD e d m) (flK 8192)=true:=by
 have m0:Maps.IsMap (DataW.map []:DataW Unit):=Maps.isMap_empty
 unfold flD
 refine ⟨?_,?_,Maps.has_put_same ((m0.put _ _).put _ _) (flK_lit _) _⟩
 ·rw [Maps.has_put_other (flK_ne (by decide)),Maps.has_put_other (flK_ne (by decide))]
  exact Maps.has_put_same m0 (flK_lit _) _
 ·rw [Maps.has_put_other (flK_ne (by decide))]
  exact Maps.has_put_same (m0.put _ _) (flK_lit _) _
theorem flD_at (e d m:Bool) (z:DataW Unit):(flD e d m).atKey (flK 32768) z=.lit (.bool e)∧(flD e d m).atKey (flK 16384) z=.lit (.bool d)∧(flD e d m).atKey (flK 8192) z=.lit (.bool m):=by
 have m0:Maps.IsMap (DataW.map []:DataW Unit):=Maps.isMap_empty
 unfold flD
 refine ⟨?_,?_,Maps.atKey_put_same ((m0.put _ _).put _ _) (flK_lit _) _ _⟩
 ·rw [Maps.atKey_put_other (flK_ne (by decide)),Maps.atKey_put_other (flK_ne (by decide))]
  exact Maps.atKey_put_same m0 (flK_lit _) _ _
 ·rw [Maps.atKey_put_other (flK_ne (by decide))]
  exact Maps.atKey_put_same (m0.put _ _) (flK_lit _) _ _
def flN (h:Hd) (left:Lit→Bool):Nat:=bitF (h.evil && !left (flK 32768)) 32768+bitF (h.df && !left (flK 16384)) 16384+bitF (h.mf && !left (flK 8192)) 8192+h.off.toNat
structure FlS (h:Hd) (left:Lit→Bool) (n:Nat):Prop where
 eq:n=flN h left
 only:∀ kl,left kl=true→kl=flK 32768∨kl=flK 16384∨kl=flK 8192
theorem FlS.start (h:Hd):FlS h (Maps.has (flD h.evil h.df h.mf)) h.off.toNat:=by
 obtain ⟨h1,h2,h3⟩:=flD_has1 h.evil h.df h.mf
 exact ⟨by unfold flN; rw [h1,h2,h3]; simp [bitF],fun kl=>flD_has _ _ _ kl⟩
theorem FlS.done {h:Hd} {left:Lit→Bool} {n:Nat} (hs:FlS h left n) (hl:∀ kl,left kl=false):n=flagsF h:=by
 rw [hs.eq]
 unfold flN flagsF
 rw [hl,hl,hl]
 simp
theorem FlS.next {h:Hd} {left:Lit→Bool} {n:Nat} {kl:Lit} {c:Bool} (hs:FlS h left n) (hl:left kl=true) (hat:∀ z,(flD h.evil h.df h.mf).atKey kl z=.lit (.bool c)) (h0:0≤h.off) (h1:h.off≤8191) :
  ∃ x:Nat,kl=flK x∧x < 65536∧n < 65536∧FlS h (fun z=>left z && !z.sameKey kl) (if c=true then n ||| x else n):=by
 have key:∀ x,kl=flK x→(x=32768∨x=16384∨x=8192)→FlS h (fun z=>left z && !z.sameKey kl) (if c=true then n ||| x else n):=by
  intro x hx hx3
  refine ⟨?_,fun k hk=>hs.only k (by simp only [Bool.and_eq_true] at hk; exact hk.1)⟩
  have a1:=(flD_at h.evil h.df h.mf (.lit (.bool c)))
  have hn:=hs.eq
  obtain ⟨o,ho⟩:∃ o,o=h.off.toNat:=⟨_,rfl⟩
  have hol:o < 8192:=by omega
  unfold flN at hn ⊢
  rw [← ho] at hn ⊢
  rcases hx3 with rfl | rfl | rfl
  ·have hc:c=h.evil:=by
    have h1:=hat (.lit (.bool c))
    rw [hx,a1.1] at h1
    injection h1 with h1
    injection h1 with h1
    exact h1.symm
   rw [hx] at hl ⊢
   rw [hl] at hn
   have s1:(flK 32768).sameKey (flK 32768)=true:=by decide
   have s2:(flK 16384).sameKey (flK 32768)=false:=by decide
   have s3:(flK 8192).sameKey (flK 32768)=false:=by decide
   simp only [s1,s2,s3,Bool.not_true,Bool.not_false,Bool.and_true,Bool.and_false]
   rw [hc]
   cases he:h.evil with
   | false=>rw [he] at hn; rw [if_neg (by decide)]; exact hn
   | true =>
     rw [he] at hn
     rw [if_pos rfl,hn]
     exact or15 _ _ o hol
  ·have hc:c=h.df:=by
    have h1:=hat (.lit (.bool c))
    rw [hx,a1.2.1] at h1
    injection h1 with h1
    injection h1 with h1
    exact h1.symm
   rw [hx] at hl ⊢
   rw [hl] at hn
   have s1:(flK 32768).sameKey (flK 16384)=false:=by decide
   have s2:(flK 16384).sameKey (flK 16384)=true:=by decide
   have s3:(flK 8192).sameKey (flK 16384)=false:=by decide
   simp only [s1,s2,s3,Bool.not_true,Bool.not_false,Bool.and_true,Bool.and_false]
   rw [hc]
   cases he:h.df with
   | false=>rw [he] at hn; rw [if_neg (by decide)]; exact hn
   | true =>
     rw [he] at hn
     rw [if_pos rfl,hn]
     exact or14 _ _ o hol
  ·have hc:c=h.mf:=by
    have h1:=hat (.lit (.bool c))
    rw [hx,a1.2.2] at h1
    injection h1 with h1
    injection h1 with h1
    exact h1.symm
   rw [hx] at hl ⊢
   rw [hl] at hn
   have s1:(flK 32768).sameKey (flK 8192)=false:=by decide
   have s2:(flK 16384).sameKey (flK 8192)=false:=by decide
   have s3:(flK 8192).sameKey (flK 8192)=true:=by decide
   simp only [s1,s2,s3,Bool.not_true,Bool.not_false,Bool.and_true,Bool.and_false]
   rw [hc]
   cases he:h.mf with
   | false=>rw [he] at hn; rw [if_neg (by decide)]; exact hn
   | true =>
     rw [he] at hn
     rw [if_pos rfl,hn]
     exact or13 _ _ o hol
 have hnl:n < 65536:=by
  rw [hs.eq]
  unfold flN bitF
  split <;> split <;> split <;> omega
 rcases hs.only kl hl with e | e | e
 ·exact ⟨32768,e,by decide,hnl,key _ e (.inl rfl)⟩
 ·exact ⟨16384,e,by decide,hnl,key _ e (.inr (.inl rfl))⟩
 ·exact ⟨8192,e,by decide,hnl,key _ e (.inr (.inr rfl))⟩
structure FlB where
 b:Bool
set_option maxRecDepth 20000 in
set_option maxHeartbeats 4000000 in
theorem flags_any (h:Hd) (A:Option Addr) (no c:Nat) (w:World) (h0:0≤h.off) (h1:h.off≤8191) :
  Calls Tryz.prog 182 #[hdV h (.slice A no c)] w fun e w'=>e=.returned (.int .u64 (flagsF h:Int))∧Below w.heap.size w w':=by
 obtain ⟨W0,hW0⟩:∃ W0,W0=w.alloc (.cells (hdC h (.slice A no c)) 76):=⟨_,rfl⟩
 have hk0:Blk W0 w.heap.size 76 (hdC h (.slice A no c)):=by rw [hW0]; exact Blk.new _ _ _
 have hb0:Below w.heap.size w W0:=by rw [hW0]; exact (Below.refl _ _).alloc (Nat.le_refl _) _
 have hz0:W0.heap.size=w.heap.size+1:=by rw [hW0]; simp
 have hm0:=World.ownsMap_made W0 Tryz.prog 146 flE
 obtain ⟨mb,hmb⟩:∃ mb,mb=W0.heap.size:=⟨_,rfl⟩
 obtain ⟨W1,hW1⟩:∃ W1,W1=W0.alloc (.map #[] 0):=⟨_,rfl⟩
 rw [← hmb,← hW1] at hm0
 have hb1:Below mb W0 W1:=by rw [hW1,hmb]; exact (Below.refl _ _).alloc (Nat.le_refl _) _
 obtain ⟨W2,hr2,hm2,hg2⟩:=hm0.update u64Keyed Tryz.underlying312 (by decide) (Maps.keyOf_int_mk (a:=32768) Tryz.underlying146 (by decide)) (show flE (.agg #[.bool h.evil])=some (.lit (.bool h.evil),[]) from rfl)
 obtain ⟨W3,hr3,hm3,hg3⟩:=hm2.update u64Keyed Tryz.underlying312 (by decide) (Maps.keyOf_int_mk (a:=16384) Tryz.underlying146 (by decide)) (show flE (.agg #[.bool h.df])=some (.lit (.bool h.df),[]) from rfl)
 obtain ⟨W4,hr4,hm4,hg4⟩:=hm3.update u64Keyed Tryz.underlying312 (by decide) (Maps.keyOf_int_mk (a:=8192) Tryz.underlying146 (by decide)) (show flE (.agg #[.bool h.mf])=some (.lit (.bool h.mf),[]) from rfl)
 have hown:W4.ownsMap Tryz.prog 146 flE mb 3 (flD h.evil h.df h.mf):=hm4
 have hkk:∀ {wx:World},Blk wx w.heap.size 76 (hdC h (.slice A no c))→wx.cell? ⟨w.heap.size,2,none⟩=some (.bool h.evil)∧wx.cell? ⟨w.heap.size,3,none⟩=some (.bool h.df)∧wx.cell? ⟨w.heap.size,4,none⟩=some (.bool h.mf):=fun hb=>⟨hb.cell 2,hb.cell 3,hb.cell 4⟩
 have hk1:Blk W1 w.heap.size 76 (hdC h (.slice A no c)):=hk0.below hb1 (by omega)
 have hk2:=hk1.grown hg2 (fun e=>by injection e with e; omega)
 have hk3:=hk2.grown hg3 (fun e=>by injection e with e; omega)
 have c0:W0.cell? ⟨w.heap.size,5,none⟩=some (.int .i64 h.off):=hk0.cell 5
 have c1:=(hkk hk1).1
 have c2:=(hkk hk2).2.1
 have c3:=(hkk hk3).2.2
 have hb4:Below w.heap.size w W4:=((((hb0.trans (hb1.mono (by omega))).grown hg2 (by have:=hb1.size; omega) fun k e=>by injection e with e; omega).grown hg3 (by have:=hb1.size; have:=hg2.size; omega) fun k e=>by injection e with e; omega).grown hg4 (by have:=hb1.size; have:=hg2.size; have:=hg3.size; omega) fun k e=>by injection e with e; omega)
 have hmm:(Instr.makeMap 312 none).run Tryz.prog W0=.ok (.map (some mb)) W1:=by rw [hW1,hmb]; exact run_makeMap _ _
 obtain ⟨o,ho⟩:∃ o,o=h.off.toNat:=⟨_,rfl⟩
 have hoff:h.off=(o:Int):=by omega
 have hol:o < 8192:=by omega
 have huo:IntKind.u64.wrap (o:Int)=(o:Int):=wraps_u64 _ (by omega) (by omega)
 rw [hoff] at c0
 have hst:=FlS.start h
 rw [← ho] at hst
 have HST:=Lib.hid hst
 have HB4:=Lib.hid hb4
 have HOWN:=Lib.hid hown
 have HMB:=Lib.hid (show mb=w.heap.size+1 by omega)
 have HG4:=Lib.hid hg4.size
 unfold hdV
 unfold hdC at hW0
 rw [hoff] at hW0
 rw [hoff]
 have HW0:=Lib.hid hW0
 have H01:=Lib.hid (And.intro h0 h1)
 have hlt4:mb < W4.heap.size:=by
  obtain ⟨es,clock,hb,_⟩:=hown
  exact (Array.getElem?_eq_some_iff.1 hb).1
 obtain ⟨e,he⟩:∃ e,e=h.evil:=⟨_,rfl⟩
 obtain ⟨d,hd⟩:∃ d,d=h.df:=⟨_,rfl⟩
 obtain ⟨m,hm⟩:∃ m,m=h.mf:=⟨_,rfl⟩
 rw [← he] at c1 hr2
 rw [← hd] at c2 hr3
 rw [← hm] at c3 hr4
 clear hst hb4 hown hmb hW1 hW0 hk0 hb0 hz0 hm0 hb1 hm2 hg2 hm3 hg3 hm4 hg4 hkk hk1 hk2 hk3 hoff ho h0 h1 he hd hm
 go_enter Tryz.func182,Tryz.ntmps182
 go_upto_region 2 with (fail)
 rw [← HW0.out]
 have hlt:=H01.out
 have HLT:=Lib.hid hlt4
 clear hlt hlt4 HW0
 go_wp2_with (at_range; refine wpList_range_own W4 rfl _ 312 rfl 146 311 u64Keyed Tryz.underlying312 _ mb 3 _ rfl HOWN.out ?_; intro w5 hrg5 hg5 hs5)
 go_frame
 have HRG5:=Lib.hid hrg5
 have HG5:=Lib.hid (HB4.out.grown hg5 HB4.out.size fun _ e=>by cases e)
 have HS5:=Lib.hid hs5
 clear hrg5 hg5 hs5
 go_loopw [3] (fun v wr=>∃ (left:Lit→Bool) (cnt n:Nat),wr.ranges Tryz.prog 146 flE mb W4.heap.size 3 (flD h.evil h.df h.mf) left cnt∧v=.int .u64 (n:Int)∧FlS h left n∧Below w.heap.size w wr) (fun _ wr=>wr.rangeLeft mb W4.heap.size)
 case atStart=>exact ⟨_,_,o,HRG5.out,rfl,HST.out,HG5.out⟩
 case round =>
  obtain ⟨left,cnt,n,hrg,rfl,hfs,hb⟩:=hrel
  have HRG:=Lib.hid hrg
  have HFS:=Lib.hid hfs
  have HB:=Lib.hid hb
  clear hrg hfs hb
  go_wp2_with (at_next; refine wpList_next_ranges wr rfl _ rfl 146 u64Keyed flE (fun x:Int=>Value.int .u64 x) (fun c:FlB=>Value.agg #[.bool c.b]) (fun key kl hk=>by obtain ⟨x,e,_⟩:=Maps.keyOf_int_inv Tryz.underlying146 hk; exact ⟨x,e⟩) (fun v y hv=>by obtain ⟨c,e,_⟩:=flE_inv v y hv; exact ⟨⟨c⟩,e⟩) mb W4.heap.size 3 _ left cnt rfl HRG.out ?_ ?_)
  ·intro _ hl0
   have hfin:=HFS.out.done hl0
   have HF:=Lib.hid hfin
   clear hfin hl0
   go_wp2_with fail
   go_ret
   exact ⟨by rw [← HF.out]; rfl,HB.out⟩
  ·intro x c kl ya yb w1 cnt1 hkey hlk hv hat hrg1 hlt hg1 hs1 hen
   obtain ⟨c⟩:=c
   obtain ⟨c',e1,e2⟩:=flE_inv _ _ hv
   injection e1 with e1
   injection e1 with e1
   injection e1 with e1 _
   injection e1 with e1
   subst e1
   injection e2 with e2 _
   subst e2
   obtain ⟨xn,hkx,hxl,hnl,hfs2⟩:=HFS.out.next hlk hat H01.out.1 H01.out.2
   have hxe:x=(xn:Int):=by
    obtain ⟨x',ex,el,_⟩:=Maps.keyOf_int_inv Tryz.underlying146 hkey
    injection ex with _ ex
    rw [hkx] at el
    unfold flK at el
    injection el with _ el
    omega
   subst hxe
   have HRG1:=Lib.hid hrg1
   have HLT1:=Lib.hid hlt
   have HB1:=Lib.hid (HB.out.grown hg1 HB.out.size fun k e=>by injection e with e; have:=HB4.out.size; omega)
   have HFS2:=Lib.hid hfs2
   have hor:bits .or .u64 (n:Int) (xn:Int)=((n ||| xn:Nat):Int):=(bits_nat .u64 64 (by decide) wraps_u64 n xn (by omega) (by omega)).2
   clear hkey hlk hv hat hrg1 hlt hg1 hs1 hfs2 hkx
   cases c with
   | true =>
     go_wp2_with fail
     have hrg2:=HRG1.out.alloc (.cells #[.bool true] 311)
     go_roundw
     case rel=>exact ⟨_,_,_,hrg2,rfl,HFS2.out,HB1.out.alloc HB1.out.size _⟩
     case measure=>rw [hrg2.left_eq,HRG.out.left_eq]; exact HLT1.out
   | false =>
     go_wp2_with fail
     have hrg2:=HRG1.out.alloc (.cells #[.bool false] 311)
     go_roundw
     case rel=>exact ⟨_,_,_,hrg2,rfl,HFS2.out,HB1.out.alloc HB1.out.size _⟩
     case measure=>rw [hrg2.left_eq,HRG.out.left_eq]; exact HLT1.out
end Go.Proofs.YthlommalbkhcjaaGreat
