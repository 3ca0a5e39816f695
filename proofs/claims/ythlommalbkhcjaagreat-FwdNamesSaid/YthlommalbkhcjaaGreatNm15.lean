/- Structs of many cells; rows of structs. -/
import Derived.Test.YthlommalbkhcjaaGreatNm10
import Derived.Test.YthlommalbkhcjaaGreatNm14
import Derived.Test.YthlommalbkhcjaaGreatNm02
import Derived.Test.YthlommalbkhcjaaGreatNm08
namespace Go.Proofs.YthlommalbkhcjaaGreat
structure Ft where
 drop:Nat
 err:Nat
 loc:List By
 out:List (Int × By)
def ft0:Ft:=⟨0,0,[],[]⟩
def dropF (F:Ft) (d:Nat):Ft:={ F with drop:=d }
def fwWay (pk:Nat→Nat→Int × Int) (ports:Nat) (x:By) (dt:Nat):Int × Int :=
 if (pk dt (hashR (prsF x))).1=3∧(ports:Int)≤(pk dt (hashR (prsF x))).2 then (2,(pk dt (hashR (prsF x))).2) else pk dt (hashR (prsF x))
def fwOut (mtus:List Int) (po:Int) (x:By) (F:Ft):Ft :=
 match (cutF x (mtus.getD po.toNat 0)).2 with
 | 0=>{ F with out:=F.out++(cutF x (mtus.getD po.toNat 0)).1.map fun y=>(po,y) }
 | 7=>dropF F 14
 | _=>dropF F 13
def fwSend (pk:Nat→Nat→Int × Int) (mtus:List Int) (x:By) (F:Ft):Ft :=
 if (fwWay pk mtus.length x (prsF x).1.dst).1=1 then { F with loc:=F.loc++[x] }
 else if (fwWay pk mtus.length x (prsF x).1.dst).1=3 then fwOut mtus (fwWay pk mtus.length x (prsF x).1.dst).2 x F
 else dropF F 12
def fwTell (pk:Nat→Nat→Int × Int) (mtus:List Int) (own:Nat) (tok:Int) (k:Nat) (mtu:Int) (x:By) (F:Ft):Ft × Int :=
 if emayF x=false then (dropF F 10,tok)
 else if tok≤0 then (dropF F 11,tok)
 else (fwSend pk mtus (errF k x own mtu).1 { F with err:=k },tok - 1)
def oddF (a:Nat):Bool:=decide (a=0) || decide (224 * 2 ^ 24≤a)
def fwOn (pk:Nat→Nat→Int × Int) (mtus:List Int) (own:Nat) (tok:Int) (h:Hd) (kd po:Int) (x:By) (F:Ft):Ft × Int :=
 if h.ttl≤1 then fwTell pk mtus own tok 3 0 x F
 else if kd≠3 then fwTell pk mtus own tok 1 0 x F
 else if (fitsF (lessF x).1 (mtus.getD po.toNat 0)).1=false∧h.df=true then fwTell pk mtus own tok 2 (mtus.getD po.toNat 0) x F
 else (fwOut mtus po (lessF x).1 F,tok)
def fwHere (pk:Nat→Nat→Int × Int) (mtus:List Int) (own:Nat) (h:Hd) (x:By) (F:Ft):Ft :=
 if h.dst=own∧echoF x=true then fwSend pk mtus (replyF x).1 F else { F with loc:=[x] }
def fwJudge (pk:Nat→Nat→Int × Int) (mtus:List Int) (own:Nat) (tok:Int) (b:By):Ft × Int :=
 if (prsF b).2.2≠0 then (dropF ft0 (prsF b).2.2,tok)
 else
  let h:=(prsF b).1
  let x:=b.take (20+h.opts.length+(prsF b).2.1.length)
  if oddF h.src=true then (dropF ft0 7,tok)
  else if oddF h.dst=true then (dropF ft0 8,tok)
  else if routedF h.opts=true then (dropF ft0 9,tok)
  else if (fwWay pk mtus.length x h.dst).1=1 then (fwHere pk mtus own h x ft0,tok)
  else fwOn pk mtus own tok h (fwWay pk mtus.length x h.dst).1 (fwWay pk mtus.length x h.dst).2 x ft0
end Go.Proofs.YthlommalbkhcjaaGreat
namespace Go.Proofs.YthlommalbkhcjaaGreat
open Go.RowKit
def IsBk (w:World) (b:Nat) (most refill has ticks:Int):Prop :=
 Blk w b 145 #[.int .i64 most,.int .i64 refill,.int .i64 has,.int .i64 ticks]
def BkOk (most refill has ticks:Int):Prop:=0≤most∧most≤64∧1≤refill∧refill≤100∧0≤has∧has≤most∧0≤ticks∧ticks < refill
def takeN (has:Int):Int:=if 0 < has then has - 1 else has
set_option maxHeartbeats 400000 in
theorem btake_any (b:Nat) (most refill has ticks:Int) (w:World) (h:IsBk w b most refill has ticks) (ok:BkOk most refill has ticks) :
  Calls Tryz.prog 65 #[.pointer (some ⟨b,0,none⟩)] w fun e w'=>e=.returned (.bool (decide (0 < has)))∧IsBk w' b most refill (takeN has) ticks∧Upd (only b) w w':=by
 obtain ⟨o1,o2,o3,o4,o5,o6,o7,o8⟩:=ok
 have hc:w.cell? ⟨b,2,none⟩=some (.int .i64 has):=h.cell 2
 have hf:w.frozen? ⟨b,2,none⟩=false:=h.frozen 2
 have H:=Lib.hid h
 clear h
 by_cases h0:0 < has
 ·have hb:(has == 0)=false:=by simp; omega
  go_enter Tryz.func65,Tryz.ntmps65
  go_wp2
  go_ret
  refine ⟨by simp [h0],?_,upd_set _ _ _ _⟩
  have:=Blk.set_ H.out 2 (.int .i64 (has - 1))
  simpa [IsBk,takeN,h0] using this
 ·obtain rfl:has=0:=by omega
  clear o5 o6 h0
  go_enter Tryz.func65,Tryz.ntmps65
  go_wp2
  go_ret
  exact ⟨rfl,H.out,Upd.refl _ _⟩
theorem bhas_any (b:Nat) (most refill has ticks:Int) (w:World) (h:IsBk w b most refill has ticks) :
  Calls Tryz.prog 29 #[.pointer (some ⟨b,0,none⟩)] w fun e w'=>e=.returned (.int .i64 has)∧w=w':=by
 have hc:w.cell? ⟨b,2,none⟩=some (.int .i64 has):=h.cell 2
 clear h
 go_enter Tryz.func29,Tryz.ntmps29
 go_wp2
 go_ret
 exact ⟨rfl,rfl⟩
theorem bcopy_any (b:Nat) (most refill has ticks:Int) (w:World) (h:IsBk w b most refill has ticks) (ok:BkOk most refill has ticks) :
  Calls Tryz.prog 66 #[.pointer (some ⟨b,0,none⟩)] w fun e w'=>e=.returned (.pointer (some ⟨w.heap.size,0,none⟩))∧w'=w.alloc (.cells #[.int .i64 most,.int .i64 refill,.int .i64 has,.int .i64 ticks] 145):=by
 obtain ⟨o1,o2,o3,o4,o5,o6,o7,o8⟩:=ok
 have h0:w.cell? ⟨b,0,none⟩=some (.int .i64 most):=h.cell 0
 have h1:w.cell? ⟨b,1,none⟩=some (.int .i64 refill):=h.cell 1
 have h2:w.cell? ⟨b,2,none⟩=some (.int .i64 has):=h.cell 2
 have h3:w.cell? ⟨b,3,none⟩=some (.int .i64 ticks):=h.cell 3
 have hr:(refill == 0)=false:=by simp; omega
 clear h
 go_enter Tryz.func66,Tryz.ntmps66
 go_wp2
 go_ret
 exact ⟨rfl,rfl⟩
theorem newbk_yes (most refill:Int) (w:World) (o1:0≤most) (o2:most≤64) (o3:1≤refill) (o4:refill≤100) :
  Calls Tryz.prog 64 #[.int .i64 most,.int .i64 refill] w fun e w'=>e=.returned (.tuple #[.pointer (some ⟨w.heap.size,0,none⟩),.int .i64 0])∧w'=w.alloc (.cells #[.int .i64 most,.int .i64 refill,.int .i64 most,.int .i64 0] 145):=by
 go_enter Tryz.func64,Tryz.ntmps64
 go_wp2
 go_ret2
 exact ⟨rfl,rfl⟩
end Go.Proofs.YthlommalbkhcjaaGreat
namespace Go.Proofs.YthlommalbkhcjaaGreat
open Go.RowKit
section
variable {w:World} {g k:Nat} {cs vs:Array Value} {t:TypeId}
theorem stc_store (hi:(Tryz.prog.info? t).map (·.size)=some k) (h:Blk w g t cs) (hc:cs.size=k) (hv:vs.size=k) (h1:vs.all (·.oneCell')=true):(Instr.storeAt t (.pointer (some ⟨g,0,none⟩)) (.agg vs)).run Tryz.prog w=.ok () (w.setCells g 0 vs.toList) :=
 run_storeAt_mid w g 0 _ vs (by have:=blk_there h; rwa [hc,← hv] at this) (by rw [hv]; exact hi) h1
theorem stc_load {d:TypeDesc} (hu:Tryz.prog.underlying t=some d) (hd:d.isRow=true) (hi:(Tryz.prog.info? t).map (·.size)=some k) (h:Blk w g t cs) (hc:cs.size=k):(Instr.loadAt t (.pointer (some ⟨g,0,none⟩))).run Tryz.prog w=.ok (.agg cs) w:=by
 have:=run_loadAt_mid (P:=Tryz.prog) w g 0 t cs.toList d (blk_range h) hu hd (by simpa [hc] using hi)
 simpa using this
theorem stc_loadVar {d:TypeDesc} (hu:Tryz.prog.underlying t=some d) (hd:d.isRow=true) (hi:(Tryz.prog.info? t).map (·.size)=some k) (h:Blk w g t cs) (hc:cs.size=k):(loadVar t ⟨g,0,none⟩).run Tryz.prog w=.ok (.agg cs) w:=by
 have:=run_loadVar_mid (P:=Tryz.prog) w g 0 t cs.toList d (blk_range h) hu hd (by simpa [hc] using hi)
 simpa using this
theorem res_cell2 {d:TypeDesc} (hu:Tryz.prog.underlying t=some d) (hd:d.isRow=true) (hi:(Tryz.prog.info? t).map (·.size)=some k) {fn:Func} {p u:Tmp} (hf:fn.results=#[.cell p t,.tmp u]) (tmps:Array Value) (hp:tmps.getD p undef=.pointer (some ⟨g,0,none⟩)) (h:Blk w g t cs) (hc:cs.size=k) :
  (results fn tmps).run Tryz.prog w=.ok (.tuple #[.agg cs,tmps.getD u undef]) w:=by
 have hl:=stc_loadVar hu hd hi h hc
 have e1:tmps[p]?.getD undef=.pointer (some ⟨g,0,none⟩):=by simpa using hp
 simp only [results,hf]
 simp [Result.andThen,e1,asAddr,hl]
end
end Go.Proofs.YthlommalbkhcjaaGreat
