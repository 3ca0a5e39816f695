/- Layer 18: out. -/
import Derived.Test.YthlommalbkhcjaaGreatNm30
import Derived.Test.YthlommalbkhcjaaGreatNm31
import Derived.Test.YthlommalbkhcjaaGreatNm36
import Derived.ChangeKeysEq
namespace Go.Proofs.YthlommalbkhcjaaGreat
open Go.RowKit Go.Sort
def wkL (l:List Rt) (v:Int):Int × List Int:=match l[(v - 1).toNat]? with
 | some r=>if 1≤v∧mayR r=true then wayR r else (0,zs0)
 | none=>(0,zs0)
theorem wayR_len {r:Rt} (h:mayR r=true):(wayR r).2.length=256:=by
 unfold wayR
 split
 ·exact zs0_len
 ·split
  ·exact zs0_len
  ·rename_i h1 h2
   have hm:mayF r.nx=true:=by
    unfold mayR at h
    rw [decide_eq_false (fun e=>h2 (.inr e))] at h
    simp at h
    exact h.2
   exact table_len hm
theorem wkL_len (l:List Rt) (v:Int):(wkL l v).2.length=256:=by
 unfold wkL
 split
 ·split
  ·rename_i r _ h
   exact wayR_len h.2
  ·exact zs0_len
 ·exact zs0_len
def dcL (l:List Rt) (v:Int):Array Value:=wayC (wkL l v)
theorem dcL_ok (l:List Rt):Dc (dcL l):=⟨fun v=>wyC_size (wkL_len l v),fun v=>wyC_one _ _,by
 unfold dcL wkL
 split
 ·rw [if_neg (by omega)]; exact wyC_zero
 ·exact wyC_zero⟩
theorem wkL_at {l:List Rt} {i:Nat} {r:Rt} (h:l[i]?=some r) (hm:mayR r=true):wkL l ((i:Int)+1)=wayR r:=by
 unfold wkL
 rw [show ((i:Int)+1 - 1).toNat=i by omega,h]
 show (if _ then _ else _)=_
 rw [if_pos ⟨by omega,hm⟩]
theorem dcL_at {l:List Rt} (i:Nat) (r:Rt) (h:l[i]?=some r) (hm:mayR r=true):dcL l ((i:Int)+1)=wayC (wayR r):=by
 unfold dcL
 rw [wkL_at h hm]
theorem dcL_wk (l:List Rt) (v:Int):dcL l v=wayC (wkL l v)∧(wkL l v).2.length=256:=⟨rfl,wkL_len l v⟩
end Go.Proofs.YthlommalbkhcjaaGreat
namespace Go.Proofs.YthlommalbkhcjaaGreat
open Go.RowKit Go.Sort
def vk (i:Nat):Int:=(i:Int)+1
def T2:TT:=.node (bitsB 167772160 8) 1 true (.node (bitsB 167837696 16) 2 true .nil .nil) .nil
variable {dc:Int→Array Value}
end Go.Proofs.YthlommalbkhcjaaGreat
namespace Go.Proofs.YthlommalbkhcjaaGreat
open Go.RowKit Go.Sort Go.BigFrame
def pkF (wk:Int→Int × List Int) (T:TT) (a hash:Nat):Int × Int:=if (T.cov (bitsB a 32)).isEmpty=true then (0,0) else ((wk (lastE (T.cov (bitsB a 32))).2).1,(wk (lastE (T.cov (bitsB a 32))).2).2.getD (hash % 256) 0)
theorem pickV_pk (wk:Int→Int × List Int) (T:TT) (a hash:Nat):pickV wk (T.cov (bitsB a 32)) hash=.tuple #[.int .i64 (pkF wk T a hash).1,.int .i64 (pkF wk T a hash).2]:=by
 unfold pickV pkF
 split <;> rfl
def izV (l:List Int):List Value:=l.map fun z=>.int .i64 z
structure TbE (w0:World) (E:Re) (pk:Nat→Nat→Int × Int):Prop where
 ex:∃ (dc:Int→Array Value) (wk:Int→Int × List Int) (T:TT) (M:Nat→Prop) (tb:Nat) (limit:Int),Dc dc∧(∀ v,dc v=wayC (wk v)∧(wk v).2.length=256)∧FbM dc w0 M E.fb tb limit T∧T.list.length≤1000000∧(¬ M E.bb∧E.fb≠E.bb)∧pk=pkF wk T
 mt:Reads w0 (fun k=>k < w0.heap.size∧k≠E.bb) 1 E.Am E.mtus.length (izV E.mtus)
 ml:E.mtus.length≤8
 own:E.own < 2 ^ 32
 m8:∀ m ∈ E.mtus,68≤m∧m≤1500
theorem TbE.fbm {w0 wx:World} {E:Re} {dc:Int→Array Value} {M:Nat→Prop} {tb:Nat} {limit:Int} {T:TT} (h:FbM dc w0 M E.fb tb limit T) (hn:¬ M E.bb∧E.fb≠E.bb) (hu:Upd (fun k=>k=E.bb) w0 wx):FbM dc wx M E.fb tb limit T :=
 ⟨h.f.upd hu hn.2,h.t.keep ⟨hu.size,fun k hm hk=>hu.block k hk fun (e:k=E.bb)=>hn.1 (by rw [← e]; exact hm)⟩,h.ne⟩
end Go.Proofs.YthlommalbkhcjaaGreat
namespace Go.Proofs.YthlommalbkhcjaaGreat
open Go.RowKit Go.Sort Go.BigFrame
section
variable {w0 w:World} {rb:Nat} {E:Re} {S:Rs} {pk:Nat→Nat→Int × Int}
set_option maxRecDepth 100000 in
set_option maxHeartbeats 4000000 in
theorem fway_any (H:TbE w0 E pk) (h:RnW w0 w rb E S) (A:Option Addr) (n c:Nat) (x:By) (I:Nat→Prop) (hx:Reads w I 1 A n (bytesV x)) (hn:x.length=n) (hc:n≤c) (hsm:n≤1000000) (dt:Nat) (hto:dt < 2 ^ 32) :
  Calls Tryz.prog 127 #[.pointer (some ⟨rb,0,none⟩),.slice A n c,.int .u32 (dt:Int)] w fun e w'=>e=.returned (.tuple #[.int .i64 (fwWay pk E.mtus.length x dt).1,.int .i64 (fwWay pk E.mtus.length x dt).2])∧Below w.heap.size w w':=by
 have HH:=Lib.hid (hash_any A n c x I w hx hn hc hsm)
 have HP:∀ wx,Below w.heap.size w wx→Calls Tryz.prog 16 #[.pointer (some ⟨E.fb,0,none⟩),.int .u32 (dt:Int),.int .u32 (hashR (prsF x):Int)] wx fun e w'=>e=.returned (.tuple #[.int .i64 (pk dt (hashR (prsF x))).1,.int .i64 (pk dt (hashR (prsF x))).2])∧Below wx.heap.size wx w':=by
  obtain ⟨dc,wk,T,M,tb,limit,hd,hwk,hfb,hT,hne,hpk⟩:=H.ex
  intro wx hb
  have:=fpick_any hd hwk dt (hashR (prsF x)) E.fb tb M limit T wx (TbE.fbm hfb hne (h.below hb).upd) hto hT
  rwa [pickV_pk,← hpk] at this
 have HP:=Lib.hid HP
 unfold fwWay
 obtain ⟨u,hu⟩:∃ u,u=hashR (prsF x):=⟨_,rfl⟩
 rw [← hu] at HH HP ⊢
 obtain ⟨kd,po,hkp⟩:∃ kd po,pk dt u=(kd,po):=⟨_,_,rfl⟩
 rw [hkp] at HP ⊢
 simp only at HP ⊢
 have HK:=Lib.hid h.blk
 have hlt:=h.blk.lt
 obtain ⟨hf,hhf⟩:∃ z:Int,z=(if (prsF x).2.2=0 then 0 else 4):=⟨_,rfl⟩
 rw [← hhf] at HH
 clear h H hx hu hkp hhf
 obtain ⟨m,hm⟩:∃ m,m=E.mtus.length:=⟨_,rfl⟩
 have g0:∀ wx,Below w.heap.size w wx→wx.cell? ⟨rb,0,none⟩=some (.pointer (some ⟨E.fb,0,none⟩)):=fun wx hb=>(HK.out.below hb hlt).cell 0
 have g2:∀ wx,Below w.heap.size w wx→wx.cell? ⟨rb,2,none⟩=some (.slice E.Am m E.cm):=fun wx hb=>by rw [hm]; exact (HK.out.below hb hlt).cell 2
 have G0:=Lib.hid g0
 have G2:=Lib.hid g2
 rw [← hm]
 clear g0 g2 HK hlt hm
 go_enter Tryz.func127,Tryz.ntmps127
 go_wp2_with fail
 refine HH.out.mono ?_
 rintro e w1 ⟨rfl,hb1⟩
 have q0:=G0.out w1 hb1
 have HC:=Lib.hid (HP.out w1 hb1)
 have HB1:=Lib.hid hb1
 clear hb1
 go_wp2_with fail
 refine HC.out.mono ?_
 rintro e w2 ⟨rfl,hb2⟩
 have hb2':=HB1.out.trans (hb2.mono HB1.out.size)
 have q2:=G2.out w2 hb2'
 have HB2:=Lib.hid hb2'
 clear hb2 hb2' q0
 by_cases hk:kd=3
 ·subst hk
  by_cases hp:(m:Int)≤po
  ·have hp':decide (po ≥ (m:Int))=true:=decide_eq_true hp
   go_wp2_with fail
   go_ret2
   first | exact ⟨rfl,HB2.out⟩ | (rw [if_pos ⟨rfl,hp⟩]; exact ⟨rfl,HB2.out⟩)
  ·have hp':decide (po ≥ (m:Int))=false:=decide_eq_false hp
   go_wp2_with fail
   go_ret2
   first | exact ⟨rfl,HB2.out⟩ | (rw [if_neg fun h=>hp h.2]; exact ⟨rfl,HB2.out⟩)
 ·have hk':(kd == 3)=false:=by rw [beq_eq_false_iff_ne]; exact hk
  go_wp2_with fail
  go_ret2
  first | exact ⟨rfl,HB2.out⟩ | (rw [if_neg fun h=>hk h.1]; exact ⟨rfl,HB2.out⟩)
end
end Go.Proofs.YthlommalbkhcjaaGreat
namespace Go.Proofs.YthlommalbkhcjaaGreat
open Go.RowKit Go.Sort Go.BigFrame
theorem info_sent:(Tryz.prog.info? 83).map (fun i=>(i.zero,i.size,i.bytes))=some (some (.agg #[.int .i64 0,.slice none 0 0]),2,32):=by kernel_rfl
theorem flatZ_snoc (Z:List Zs) (z:Zs):flatZ (Z++[z])=flatZ Z++zsC z:=by unfold flatZ; rw [List.flatMap_append]; simp
section
variable {w0 w wy:World} {rb:Nat} {E:Re} {S:Rs} {pk:Nat→Nat→Int × Int}
def AddU (rb:Nat) (S:Rs) (k:Nat):Prop:=k=rb∨S.ov.ownBlock=some k
theorem AddU.ty (h:RnW w0 w rb E S) (hu:Upd (AddU rb S) w wy) {k:Nat} {t:TypeId} {cs:Array Value} (n1:t≠142) (n2:t≠83) (hb:Blk w k t cs):wy.heap[k]?=w.heap[k]?:=by
 refine hu.block k hb.lt fun hx=>?_
 rcases hx with rfl | hx
 ·have:=h.blk
  unfold Blk at this hb
  rw [this] at hb
  injection hb with hb
  injection hb with _ hb
  exact n1 hb.symm
 ·obtain ⟨Z,_,ho,_⟩:=h.ou
  exact own_blk_ne ho hb (fun e=>n2 e.symm) hx
theorem ld_prun {w:World} {a:Addr} {b:Nat} (hu:w.cell? a=some (.pointer (some ⟨b,0,none⟩))):(Instr.loadAt 140 (.pointer (some a))).run Tryz.prog w=.ok (.pointer (some ⟨b,0,none⟩)) w:=by
 simp [go_sem,hu]
theorem ld_snts {w:World} {a:Addr} {A:Option Addr} {n c:Nat} (hu:w.cell? a=some (.slice A n c)):(Instr.loadAt 69 (.pointer (some a))).run Tryz.prog w=.ok (.slice A n c) w:=by
 simp [go_sem,hu]
theorem st_snts {w:World} {g i:Nat} {u:Value} (hu:w.cell? ⟨g,i,none⟩=some u) (hf:w.frozen? ⟨g,i,none⟩=false) (A:Option Addr) (n c:Nat):(Instr.storeAt 69 (.pointer (some ⟨g,i,none⟩)) (.slice A n c)).run Tryz.prog w=.ok () (w.setCell ⟨g,i,none⟩ (.slice A n c)):=by
 simp [go_sem,hu,hf]
theorem Snts.push {w2:World} {B:Nat} {v v2 u:Value} {Z:List Zs} {po:Int} {y:By} (h2:w2.ownsRow B 83 2 v2 (Z.length+1) (flatZ Z++[.int .i64 po,u])) (ho:w.ownsRow B 83 2 v Z.length (flatZ Z)) (hg:w.grownBy w2 v.ownBlock) (hz:∀ z ∈ Z,Row8 B w z.u z.x) (hy:Row8 B w u y):Snts B w2 v2 ((Z.map fun z=>(z.p,z.x))++[(po,y)]):=by
 have hrow:∀ {n:Nat} {u:Value} {ys:List Value},w.ownsRow B 5 1 u n ys→w2.ownsRow B 5 1 u n ys:=fun hr=>own_type hr hg.size fun k cs hk hb=>hg.block k hk fun e=>own_blk_ne ho hb (by decide) e.symm
 refine ⟨Z++[⟨po,y,u⟩],by simp,by rw [flatZ_snoc,List.length_append]; exact h2,fun z h=>?_⟩
 rcases List.mem_append.1 h with h | h
 ·exact hrow (hz z h)
 ·rw [List.mem_singleton.1 h]
  exact hrow hy
set_option maxRecDepth 100000 in
set_option maxHeartbeats 4000000 in
attribute [-go_sem] Instr.storeAt Instr.loadAt in
theorem fadd_any (h:RnW w0 w rb E S) {b3 b4:Nat} {po:Int} (k3:Blk w b3 140 #[.pointer (some ⟨rb,0,none⟩)]) (k4:Blk w b4 3 #[.int .i64 po]) {Au:Option Addr} {nu cu:Nat} {y:By} (hy:Row8 w0.heap.size w (.slice Au nu cu) y) (hl:S.ft.out.length≤1000000) :
  Calls Tryz.prog 173 #[.slice Au nu cu,.pointer (some ⟨b3,0,none⟩),.pointer (some ⟨b4,0,none⟩)] w fun e w'=>e=.returned (.tuple #[])∧(∃ ov,RnW w0 w' rb E { S with ov:=ov,ft:={ S.ft with out:=S.ft.out++[(po,y)] } })∧Upd (AddU rb S) w w':=by
 obtain ⟨Z,hZ,ho,hz⟩:=h.ou
 have hzl:Z.length=S.ft.out.length:=by rw [← hZ,List.length_map]
 obtain ⟨Ao,co,hov,hco⟩:=own_form ho
 obtain ⟨n,hn⟩:∃ n,n=Z.length:=⟨_,rfl⟩
 have H:=Lib.hid h
 have HO:=Lib.hid ho
 have HZZ:=Lib.hid hz
 have HZE:=Lib.hid hZ
 have HOV:=Lib.hid hov
 have HY:=Lib.hid hy
 have K3:=Lib.hid k3
 have K4:=Lib.hid k4
 have HN:=Lib.hid hn
 have hmx:Z.length+1≤maxLen:=by unfold maxLen; omega
 have hmb:(Z.length+1) * 32≤140737488355328:=by omega
 obtain ⟨i0,hi,hz0,hz1,hz2⟩:=info_parts info_sent
 clear h ho hz hZ hov hy k3 k4 hn hzl hl hco
 go_enter Tryz.func173,Tryz.ntmps173
 refine wp_region_mix [(true,9),(false,6)] 2 (by kernel_rfl) (fun wx=>RnC w0 wx rb E S∧Blk wx b3 140 #[.pointer (some ⟨rb,0,none⟩)]∧Blk wx b4 3 #[.int .i64 po]) (fun _ _ h k=>⟨h.1.below k,h.2.1.below k h.2.1.lt,h.2.2.below k h.2.2.lt⟩) (by kernel_rfl) ⟨H.out.toRnC,K3.out,K4.out⟩ (a':=?_) (fun wz hz=>?_) fun wz hz=>?_
 rotate_left
 ·have q1:=fun (dd:Nat) (os:Array Obj)=>ld_prun (w:=grow (redrawn wz dd) os) (cell_regrown (show wz.cell? ⟨b3,0,none⟩=some (.pointer (some ⟨rb,0,none⟩)) from hz.2.1.cell 0) dd os)
  have q2:=fun (dd:Nat) (os:Array Obj)=>ld_snts (w:=grow (redrawn wz dd) os) (cell_regrown (show wz.cell? ⟨rb,21,none⟩=some (.slice Ao n co) by rw [hz.1.blk.cell 21,HN.out,← HOV.out]; rfl) dd os)
  have q3:=fun (dd:Nat) (os:Array Obj)=>ld_int (w:=grow (redrawn wz dd) os) (cell_regrown (show wz.cell? ⟨b4,0,none⟩=some (.int .i64 po) from hz.2.2.cell 0) dd os)
  clear hz
  simp only [pick_nil,pick_tt,pick_ft,List.take_succ_cons,List.take_zero,List.drop_succ_cons,List.drop_zero,List.append_nil]
  repeat (go_big_quiet_step (fail))
  refine wpQuiet_nil ?_
  rfl
 ·simp only [pick_nil,pick_ff,pick_tf,List.take_succ_cons,List.take_zero,List.drop_succ_cons,List.drop_zero,List.append_nil]
  have HZ:=Lib.hid hz
  clear hz
  have hcz:=H.out.below HZ.out
  have hCm:RnC w0 wz rb E S∧Blk wz b3 140 #[.pointer (some ⟨rb,0,none⟩)]∧Blk wz b4 3 #[.int .i64 po]:=⟨hcz.toRnC,K3.out.below HZ.out K3.out.lt,K4.out.below HZ.out K4.out.lt⟩
  refine wpMix_push (fun _ _ h k=>⟨h.1.below k,h.2.1.below k h.2.1.lt,h.2.2.below k h.2.2.lt⟩) hCm 83 [.int .i64 po,.slice Au nu cu] rfl (fun w'=>by go_simp) rfl (.tmp 9) (.tmp 13) _ rfl rfl w0.heap.size i0 _ 2 32 Tryz.underlying69 hi hz0 hz1 hz2 rfl (by decide) S.ov Z.length _ (fun _=>by rw [HOV.out,HN.out]; rfl) (fun _=>rfl) (own_below HO.out HZ.out) rfl (by simp [Value.oneCell']) hmx hmb (Nat.le_trans H.out.upd.size HZ.out.size) fun q v2 w2 h2 hg2 h3=>?_
  have hoz:=own_below HO.out HZ.out
  have hC2:=hCm.1.grown hoz (by decide) (by decide) hg2
  have hl2:Rows8 w0.heap.size w2 S.lv S.ft.loc:=hcz.lc.types hg2.size (fun k cs hk hb=>hg2.block k hk fun e=>own_blk_ne hoz hb (by decide) e.symm) (fun k cs hk hb=>hg2.block k hk fun e=>own_blk_ne hoz hb (by decide) e.symm)
  have hs2:=Snts.push h2 hoz hg2 (fun z hz=>(HZZ.out z hz).below HZ.out) (HY.out.below HZ.out)
  have hu2:Upd (AddU rb S) w w2:=(Upd.ofBelow HZ.out _).grown hg2 fun k hk=>.inl (.inr hk)
  rw [HZE.out] at hs2
  obtain ⟨A2,c2,rfl,_⟩:=own_form h2
  have hk3:Blk w2 b3 140 #[.pointer (some ⟨rb,0,none⟩)]:=(hg2.block b3 hCm.2.1.lt fun e=>own_blk_ne hoz hCm.2.1 (by decide) e.symm).trans hCm.2.1
  have hk4:Blk w2 b4 3 #[.int .i64 po]:=(hg2.block b4 hCm.2.2.lt fun e=>own_blk_ne hoz hCm.2.2 (by decide) e.symm).trans hCm.2.2
  refine wpMix_step ⟨hC2,hk3,hk4⟩ fun w3 hw3=>?_
  have hC3:=hC2.below hw3
  have hl3:=hl2.below hw3
  have hs3:=hs2.below hw3
  have HU3:=Lib.hid (hu2.trans_ (Upd.ofBelow hw3 _))
  have c0:=hC3.blk.cell 21
  have f0:=hC3.blk.frozen 21
  obtain ⟨m,hm⟩:∃ m,m=Z.length+1:=⟨_,rfl⟩
  rw [← hm] at hs3 ⊢
  have s1:=st_snts c0 f0 A2 m c2
  have HC:=Lib.hid hC3
  have HL:=Lib.hid hl3
  have HS:=Lib.hid hs3
  clear hCm hcz hoz hC2 hl2 hs2 hu2 hk3 hk4 hw3 hC3 hl3 hs3 h2 hg2 h3 hm c0 f0
  go_wp2_with fail
  refine wpMix_plain ?_
  go_wp2_with fail
  go_end0
  refine ⟨rfl,⟨.slice A2 m c2,⟨HC.out.put (i:=21) (S':={ S with ov:=.slice A2 m c2,ft:={ S.ft with out:=S.ft.out++[(po,y)] } }) rfl HC.out.pk HC.out.hv rfl,HL.out.set HC.out.blk 21 _,HS.out.set HC.out.blk 21 _⟩⟩,HU3.out.setCell (p:=⟨rb,21,none⟩) (.inl (.inl rfl)) _⟩
end
end Go.Proofs.YthlommalbkhcjaaGreat
namespace Go.Proofs.YthlommalbkhcjaaGreat
open Go.RowKit Go.Sort Go.BigFrame
section
variable {w0 w wx wy:World} {rb:Nat} {E:Re} {S:Rs} {pk:Nat→Nat→Int × Int}
def FtPost (w0:World) (rb:Nat) (E:Re) (S:Rs) (F:Ft) (tok:Int) (e:Ending) (w':World):Prop:=e=.returned (.bool true)∧∃ lv ov,RnW w0 w' rb E { S with ft:=F,tok:=tok,lv:=lv,ov:=ov }
theorem TbE.mtu (H:TbE w0 E pk) (hu:Upd (fun k=>k=E.bb) w0 wx) {po:Nat} (hp:po < E.mtus.length):∃ ad,E.Am=some ad∧wx.cell? (ad.add po)=some (.int .i64 (E.mtus.getD po 0)):=by
 have hk:=(H.mt.keep (hu.same fun k (e:k=E.bb) hI=>hI.2 e)).2 (by omega)
 obtain ⟨ad,e,_,_,hc⟩:=hk
 refine ⟨ad,e,?_⟩
 have:=hc po (.int .i64 (E.mtus.getD po 0)) (by unfold izV; rw [List.getElem?_map,List.getElem?_eq_getElem hp]; simp [hp])
 simpa using this
theorem Rows8.add (h:RnW w0 wx rb E S) (hu:Upd (AddU rb S) wx wy) {B:Nat} {v:Value} {L:List By} (hr:Rows8 B wx v L):Rows8 B wy v L :=
 hr.types hu.size (fun _ _ _ hb=>AddU.ty h hu (by decide) (by decide) hb) fun _ _ _ hb=>AddU.ty h hu (by decide) (by decide) hb
def BxM (wx:World) (rb b3:Nat) (po:Int):Prop:=Blk wx b3 140 #[.pointer (some ⟨rb,0,none⟩)]∧Blk wx (b3+1) 3 #[.int .i64 po]
theorem BxM.below {b3:Nat} {po:Int} (h:BxM wx rb b3 po) (hb:Below wx.heap.size wx wy):BxM wy rb b3 po:=⟨h.1.below hb h.1.lt,h.2.below hb h.2.lt⟩
theorem BxM.add (h:RnW w0 wx rb E S) (hu:Upd (AddU rb S) wx wy) {b3:Nat} {po:Int} (hx:BxM wx rb b3 po):BxM wy rb b3 po :=
 ⟨(AddU.ty h hu (by decide) (by decide) hx.1).trans hx.1,(AddU.ty h hu (by decide) (by decide) hx.2).trans hx.2⟩
theorem Rows8.get {B:Nat} {A:Option Addr} {n c:Nat} {L:List By} (h:Rows8 B wx (.slice A n c) L) {k:Nat} {x:By} (hx:L[k]?=some x):∃ ad A' c',A=some ad∧wx.cell? (ad.add k)=some (.slice A' x.length c')∧Row8 B wx (.slice A' x.length c') x:=by
 obtain ⟨us,h1,h2,h3⟩:=h
 obtain ⟨u,e,r⟩:=h3 k x hx
 obtain ⟨A',c',rfl,_⟩:=own_form r
 have hk:=(List.getElem?_eq_some_iff.1 hx).1
 obtain ⟨g,c1,e1,_⟩:=own_form1 h1 (by omega)
 injection e1 with e1 e2 e3
 subst e1 e2 e3
 have:=h1.cellAt k (by omega)
 rw [e] at this
 exact ⟨_,A',c',rfl,by rw [add_off,Nat.zero_add]; exact this,r⟩
theorem Rs.snoc {L:List By} {k:Nat} {y:By} (hk:L[k]?=some y) (po:Int) (O:List (Int × By)):(O++(L.take k).map fun y=>(po,y))++[(po,y)]=O++(L.take (k+1)).map fun y=>(po,y):=by
 rw [List.take_add_one,hk]
 simp
set_option maxRecDepth 100000 in
set_option maxHeartbeats 8000000 in
theorem fout_any (H:TbE w0 E pk) (h:RnW w0 w rb E S) {po:Nat} (hp:po < E.mtus.length) (A:Option Addr) (n c:Nat) (x:By) (I:Nat→Prop) (hx:Reads w I 1 A n (bytesV x)) (hn:x.length=n) (hc:n≤c) (hsm:n≤100000) (hl:S.ft.out.length≤100000) :
  Calls Tryz.prog 133 #[.pointer (some ⟨rb,0,none⟩),.int .i64 (po:Int),.slice A n c] w (FtPost w0 rb E S (fwOut E.mtus (po:Int) x S.ft) S.tok):=by
 obtain ⟨m,hm⟩:∃ m,m=E.mtus.getD po 0:=⟨_,rfl⟩
 obtain ⟨W,hW⟩:∃ W,W=(w.alloc (.cells #[.pointer (some ⟨rb,0,none⟩)] 140)).alloc (.cells #[.int .i64 (po:Int)] 3):=⟨_,rfl⟩
 have hbW:Below w.heap.size w W:=by rw [hW]; exact ((Below.refl _ _).alloc (Nat.le_refl _) _).alloc (by simp) _
 have hbx:BxM W rb w.heap.size (po:Int):=by
  rw [hW]
  refine ⟨(Blk.new w _ _).alloc _,?_⟩
  have:=Blk.new (w.alloc (.cells #[.pointer (some ⟨rb,0,none⟩)] 140)) 3 #[.int .i64 (po:Int)]
  simpa using this
 have hsz:W.heap.size=w.heap.size+2:=by rw [hW]; simp
 have hlen:=cut_len x m
 have HC:=Lib.hid (fun wx (hb:Below w.heap.size w wx)=>fcut_any A n c x m (fun k=>I k∧k < w.heap.size) wx (hx.lt.keep (Same.ofBelow hb fun k hk=>hk.2)) hn hc (by omega))
 obtain ⟨R,hR⟩:∃ R,R=cutF x m:=⟨_,rfl⟩
 rw [← hR] at HC hlen
 have hout:fwOut E.mtus (po:Int) x S.ft=match R.2 with
   | 0=>{ S.ft with out:=S.ft.out++R.1.map fun y=>((po:Int),y) }
   | 7=>dropF S.ft 14
   | _=>dropF S.ft 13:=by
  unfold fwOut
  rw [hR,hm,Int.toNat_natCast]
  rfl
 rw [hout]
 obtain ⟨L,en⟩:=R
 obtain ⟨N,hN⟩:∃ N,N=L.length:=⟨_,rfl⟩
 have hN1:N≤100001:=by rw [hN]; simp only at hlen; omega
 obtain ⟨M,hM⟩:∃ M,M=E.mtus.length:=⟨_,rfl⟩
 have HMT:=Lib.hid (fun wx (hu:RnW w0 wx rb E S)=>TbE.mtu H hu.upd hp)
 obtain ⟨am,ham,_⟩:=HMT.out w h
 have p0:(0:Int)≤(po:Int):=by omega
 have p1:(po:Int) < (M:Int):=by omega
 have p2:po < M:=by omega
 have HH:=Lib.hid (h.below hbW)
 have HX:=Lib.hid hbx
 have HBW:=Lib.hid hbW
 have HSZ:=Lib.hid hsz
 have HLL:=Lib.hid hl
 have HW:=Lib.hid hW
 have HAM:=Lib.hid ham
 have HM:=Lib.hid hM
 have HMM:=Lib.hid hm
 have HN:=Lib.hid hN
 clear H h hp hx hn hc hsm hl hm hW hbW hbx hsz hlen hR hout hN hM ham
 go_enter Tryz.func133,Tryz.ntmps133
 go_upto_region 1 with (fail)
 rw [← HW.out]
 refine wp_region_stages [(true,8),(false,1),(true,5)] (by kernel_rfl) (by kernel_rfl) fun wz hz _=>?_
 have HZ:=Lib.hid (⟨HH.out.below hz,HX.out.below hz⟩:RnW w0 wz rb E S∧BxM wz rb w.heap.size (po:Int))
 have HBZ:=Lib.hid (HBW.out.trans (hz.mono HBW.out.size))
 have q1:=cell_regrown (show wz.cell? ⟨w.heap.size,0,none⟩=some (.pointer (some ⟨rb,0,none⟩)) from HZ.out.2.1.cell 0)
 have q2:=cell_regrown (show wz.cell? ⟨rb,2,none⟩=some (.slice (some am) M E.cm) by rw [HZ.out.1.blk.cell 2,HM.out,← HAM.out]; rfl)
 have q3:=cell_regrown (show wz.cell? ⟨w.heap.size+1,0,none⟩=some (.int .i64 (po:Int)) from HZ.out.2.2.cell 0)
 have q4:=cell_regrown (show wz.cell? (am.add po)=some (.int .i64 m) by
  obtain ⟨ad,e,hc⟩:=HMT.out wz HZ.out.1
  rw [HAM.out] at e
  injection e with e
  rw [HMM.out,e]
  exact hc)
 clear hz HH HX
 refine wpSt_q ?_
 simp only [List.take_succ_cons,List.take_zero,List.drop_succ_cons,List.drop_zero]
 repeat (go_big_quiet_step (fail))
 refine wpQuiet_nil ?_
 intro _ hw'
 obtain ⟨⟨dq,osq⟩,hw''⟩:=hw'
 subst hw''
 have hq:=below_regrown wz dq osq
 generalize grow (redrawn wz dq) osq=wa at hq ⊢
 have HA:=Lib.hid (⟨HZ.out.1.below hq,HZ.out.2.below hq⟩:RnW w0 wa rb E S∧BxM wa rb w.heap.size (po:Int))
 have HCA:=Lib.hid (HC.out wa (HBZ.out.trans (hq.mono HBZ.out.size)))
 clear hq q1 q2 q3 q4 HZ
 refine wpSt_l ?_
 go_wp2_with (refine HCA.out.mono ?_; rintro e wb0 ⟨v,rfl,hr,hb0⟩; obtain ⟨Al,cl,rfl,hcl⟩:=hr.form)
 try simp only at hr hcl
 refine wpSt_q ?_
 simp only [List.take_succ_cons,List.take_zero,List.drop_succ_cons,List.drop_zero]
 repeat (go_big_quiet_step (fail))
 refine wpQuiet_nil ?_
 intro _ hw'
 obtain ⟨⟨dr,osr⟩,hw''⟩:=hw'
 subst hw''
 have hbr:=below_regrown wb0 dr osr
 generalize grow (redrawn wb0 dr) osr=wb at hbr ⊢
 refine wpSt_end ?_
 have hb:=hb0.trans (hbr.mono hb0.size)
 have hr:=hr.below hbr
 have HB:=Lib.hid (⟨HA.out.1.below hb,HA.out.2.below hb⟩:RnW w0 wb rb E S∧BxM wb rb w.heap.size (po:Int))
 have HR:=Lib.hid (show Rows8 w0.heap.size wb (.slice Al L.length cl) L from by
  obtain ⟨us,a,b,c⟩:=hr
  have hle:=HA.out.1.upd.size
  exact ⟨us,own_base a hle,b,fun k x hx=>by obtain ⟨u,e,r⟩:=c k x hx; exact ⟨u,e,own_base r hle⟩⟩)
 rw [← HN.out] at HR ⊢
 clear hr hb hb0 hbr hcl HA HCA HC
 have b3:wb.cell? ⟨w.heap.size,0,none⟩=some (.pointer (some ⟨rb,0,none⟩)):=HB.out.2.1.cell 0
 have HD:∀ d:Nat,Hid (Calls Tryz.prog 124 #[.pointer (some ⟨rb,0,none⟩),.int .i64 (d:Int)] wb fun e w'=>e=.returned (.bool true)∧RnW w0 w' rb E { S with ft:=dropF S.ft d }):=fun d=>Lib.hid (fdrop_any HB.out.1 d)
 by_cases e0:en=0
 ·subst e0
  have HI:=Lib.hid (show RnW w0 wb rb E { S with ov:=S.ov,ft:={ S.ft with out:=S.ft.out++(L.take 0).map fun y=>((po:Int),y) } } from by
   have:S.ft.out++(L.take 0).map (fun y=>((po:Int),y))=S.ft.out:=by simp
   rw [this]
   exact HB.out.1)
  clear b3 HD
  have hN0:(N:Int)=(L.length:Int):=by rw [HN.out]
  go_wp2_with fail
  go_loopw [36] (fun i wr=>∃ k:Nat,k≤N∧i=.int .i64 (k:Int)∧(∃ ov,RnW w0 wr rb E { S with ov:=ov,ft:={ S.ft with out:=S.ft.out++(L.take k).map fun y=>((po:Int),y) } })∧Rows8 w0.heap.size wr (.slice Al N cl) L∧BxM wr rb w.heap.size (po:Int)) (fun i _=>N - (intOf i).toNat)
  case atStart=>exact ⟨0,Nat.zero_le _,rfl,⟨S.ov,HI.out⟩,HR.out,HB.out.2⟩
  case round =>
   obtain ⟨k,hk,rfl,⟨ov,hw⟩,hr,hx⟩:=hrel
   by_cases hlt:k < N
   ·obtain ⟨y,hy⟩:∃ y,L[k]?=some y:=⟨_,List.getElem?_eq_getElem (by rw [← HN.out]; exact hlt)⟩
    obtain ⟨ad,A',c',rfl,hcell,hrow⟩:=hr.get hy
    have hlen:(S.ft.out++(L.take k).map fun y=>((po:Int),y)).length≤1000000:=by
     have:=HLL.out
     rw [List.length_append,List.length_map,List.length_take]
     omega
    have HAD:=Lib.hid (fadd_any (po:=(po:Int)) hw hx.1 hx.2 hrow hlen)
    have HRR:=Lib.hid (fun wy (hu:Upd _ wr wy)=>(⟨hr.add hw hu,hx.add hw hu⟩:Rows8 w0.heap.size wy (.slice (some ad) N cl) L∧BxM wy rb w.heap.size (po:Int)))
    have HY:=Lib.hid hy
    have k0:(0:Int)≤(k:Int):=by omega
    have k1:(k:Int) < (N:Int):=by omega
    have d1:decide ((k:Int) < (N:Int))=true:=decide_eq_true k1
    clear hw hr hx hrow hlen hy
    go_wp2_with fail
    refine HAD.out.mono ?_
    rintro e wy ⟨rfl,⟨ov2,hw2⟩,hu2⟩
    have HW2:=Lib.hid hw2
    have HR2:=Lib.hid (HRR.out wy hu2)
    clear hw2 hu2 hcell
    go_wp2_with fail
    go_roundw
    case rel =>
     refine ⟨k+1,by omega,rfl,⟨ov2,?_⟩,HR2.out.1,HR2.out.2⟩
     have:=HW2.out
     rw [Rs.snoc HY.out] at this
     exact this
    case measure=>simp [intOf]; omega
   ·obtain rfl:k=N:=by omega
    have d1:decide ((k:Int) < (k:Int))=false:=decide_eq_false (by omega)
    have HF:=Lib.hid hw
    clear hw hr hx
    go_wp2_with fail
    go_ret
    refine ⟨rfl,S.lv,ov,?_⟩
    have:=HF.out
    rw [HN.out,List.take_length] at this
    exact this
 ·have e0b:((en:Int) == 0)=false:=by rw [beq_eq_false_iff_ne]; omega
  by_cases e7:en=7
  ·subst e7
   have hd:=HD 14
   go_wp2_with fail
   refine hd.out.mono ?_
   rintro e wc ⟨rfl,hw⟩
   have HF:=Lib.hid hw
   clear hw
   go_wp2_with fail
   go_ret
   exact ⟨rfl,_,_,HF.out⟩
  ·have e7b:((en:Int) == 7)=false:=by rw [beq_eq_false_iff_ne]; omega
   have hd:=HD 13
   go_wp2_with fail
   refine hd.out.mono ?_
   rintro e wc ⟨rfl,hw⟩
   have HF:=Lib.hid hw
   clear hw
   go_wp2_with fail
   go_ret
   exact ⟨rfl,S.lv,S.ov,HF.out⟩
end
end Go.Proofs.YthlommalbkhcjaaGreat
