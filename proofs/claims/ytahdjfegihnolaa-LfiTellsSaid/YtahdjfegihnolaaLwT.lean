/- Layer 12: LfiTells' second loop (printed by gen_lwt.py). -/
import Derived.Test.YtahdjfegihnolaaLwS
namespace Go.Proofs.Ytahdjfegihnolaa
open Go.RowKit Go.Sort
theorem st_up_new (wx : World) (a n d : Int) : (Instr.storeAt 54 (.pointer (some ⟨wx.heap.size, 0, none⟩)) (.agg #[.int .u32 a, .int .i64 n, .int .i64 d])).run Try.prog (wx.alloc (.cells #[.int .u32 0, .int .i64 0, .int .i64 0] 54)) = .ok () (wx.alloc (.cells #[.int .u32 a, .int .i64 n, .int .i64 d] 54)) := by
  go_simp
/-- What Entry answers, in parts. -/
def enX (S : Lc) (p : Pf) : Array Value := match findE S.all p with
  | none => viZ
  | some x => viC S.pc x
def enB (S : Lc) (p : Pf) : Bool := match findE S.all p with
  | none => false
  | some _ => true
def enA (S : Lc) (p : Pf) : Bool := match findE S.all p with
  | none => false
  | some x => actF x
theorem EnF_eq (S : Lc) (p : Pf) : EnF S p = .tuple #[.agg (enX S p), .bool (enB S p)] := by
  unfold EnF enX enB
  cases findE S.all p <;> rfl
theorem enX_size (S : Lc) (p : Pf) : (enX S p).size = 16 := by
  unfold enX
  cases findE S.all p <;> rfl
theorem enX_one (S : Lc) (p : Pf) : (enX S p).all (·.oneCell') = true := by
  unfold enX
  cases findE S.all p with
  | none => simp [viZ, Value.oneCell']
  | some x => simp [viC, Value.oneCell']
theorem enX_act (S : Lc) (p : Pf) : (enX S p)[4]? = some (.bool (enA S p)) := by
  unfold enX enA
  cases findE S.all p <;> rfl
theorem TsK.wasE {w wx : World} {cb cbw : Nat} {T S : Lc} {Av : Option Addr} {no cv : Nat} {o : List Tl} (h : TsK w wx cb cbw T S Av no cv o) {p : Pf} (hp : pfOk p) : Calls Try.prog 14 #[.pointer (some ⟨cbw, 0, none⟩), .agg #[.int .u32 (p.1 : Int), .int .i64 p.2]] wx fun e w' => e = .returned (.tuple #[.agg (enX S p), .bool (enB S p)]) ∧ Below wx.heap.size wx w' := by
  obtain ⟨M, mb, h1⟩ := h.was
  have := core_entry h1 hp
  rwa [EnF_eq] at this
theorem ld_pfB {w : World} {b : Nat} {p : Pf} {d : Int} (h : Blk w b 54 (upC p d)) : (Instr.loadAt 36 (.pointer (some ⟨b, 0, none⟩))).run Try.prog w = .ok (.agg #[.int .u32 (p.1 : Int), .int .i64 p.2]) w := ld_pfo (h.cell 0) (h.cell 1)
set_option maxRecDepth 100000 in
set_option maxHeartbeats 8000000 in
attribute [-go_sem] Instr.storeAt Instr.loadAt Instr.build in
theorem tells2 {u0 u1 u3 u4 u5 u6 u8 u12 u15 u16 u17 u18 u19 u20 u21 u22 u23 u24 u25 u26 u27 u28 u29 u30 u31 u32 u33 u34 u35 u36 u37 u38 u39 u40 u41 u42 u43 u44 u45 u46 u47 u48 u49 u50 u51 u52 u53 u54 u55 u56 u57 u58 u59 u60 u61 u62 u63 u64 u65 u66 u67 u68 u69 u70 u71 u72 u73 u74 u75 u76 u77 u78 u79 u80 u81 u82 u83 u84 u85 u86 u87 u88 u89 u90 u91 u92 u93 u94 u95 u96 u97 u98 u99 u100 u101 u102 u103 u104 u105 u106 u107 u108 u109 u110 u111 u112 u113 u114 u115 u116 u117 u118 u119 u120 u121 u122 u123 u124 u125 u126 u127 u128 u129 u130 u131 u132 u133 u134 u135 u136 u137 u138 u139 u140 u141 u142 u143 u144 u145 u146 u147 u148 u149 u150 u151 u152 u153 u154 u155 u156 u157 u158 u159 u160 u161 u162 u163 u164 u165 u166 u167 u168 u169 u170 u171 u172 u173 u174 u175 u176 u177 u178 u179 u180 u181 u182 u183 u184 u185 u186 u187 u188 u189 u190 u191 u192 u193 u194 u195 u196 u197 u198 u199 u200 u201 u202 u203 u204 u205 u206 u207 u208 u209 u210 u211 u212 u213 u214 u215 u216 u217 u218 u219 u220 u221 u222 u223 u224 u225 u226 u227 u228 u229 u230 u231 u232 u233 u234 u235 u236 u237 u238 u239 u240 u241 u242 u243 u244 u245 u246 u247 : Value} {Q : Exit → Act → World → Prop} {ds : List Deferred} {w wr : World} {cb cbw i : Nat} {T S : Lc} {Av : Option Addr} {no cv m d : Nat} {o : List Tl} {ad : Addr} {al : Bool} {e : Ev} {le : List Ev}
    (h : TsK w wr cb cbw T S Av no cv o) (hr : Reads w (fun k => k < w.heap.size) 6 (some ad) m (le.flatMap evC)) (hl : le.length = m) (he : le[i]? = some e) (hal : al = (e.kind == 1))
    (hP : TlP S T e o) (hmay : ∀ t ∈ o, mayP t.2.1 = true ∧ t.2.1.1 < 2 ^ 32)
    (hK : ∀ (y6 y14 y15 y16 y17 y18 y19 y20 y21 y22 y23 y24 y78 y79 y80 y81 y82 y83 y84 y85 y86 y87 y88 y89 y90 y91 y92 y93 y94 y95 y96 y97 y98 y99 y100 y101 y102 y103 y104 y105 y106 y107 y108 y109 y110 y111 y112 y113 y114 y115 y116 y117 y118 y119 y120 y121 y122 y123 y124 y125 y126 y127 y128 y129 y130 y131 y132 y133 y134 y135 y136 y137 y138 y139 y140 y141 y142 y143 y144 y145 y146 y147 y148 y149 y150 y151 y152 y153 y154 y155 y156 y157 y158 y159 y160 y161 y162 y163 y164 y165 y166 y167 y168 y169 y170 y171 y172 y173 y174 y175 y176 y177 y178 y179 y180 y181 y182 y183 y184 y185 y186 y187 y188 y189 y190 y191 y192 y193 y194 y195 y196 y197 : Value) (wx : World), Below wr.heap.size wr wx → Q .normal ⟨#[u0, u1, .slice (some ad) m d, u3, u4, u5, y6, .pointer (some ⟨cb, 0, none⟩), u8, .int .i64 (i : Int), .pointer (some ⟨cbw, 0, none⟩), .slice Av no cv, u12, .bool al, y14, y15, y16, y17, y18, y19, y20, y21, y22, y23, y24, u25, u26, u27, u28, u29, u30, u31, u32, u33, u34, u35, u36, u37, u38, u39, u40, u41, u42, u43, u44, u45, u46, u47, u48, u49, u50, u51, u52, u53, u54, u55, u56, u57, u58, u59, u60, u61, u62, u63, u64, u65, u66, u67, u68, u69, u70, u71, u72, u73, u74, u75, u76, u77, y78, y79, y80, y81, y82, y83, y84, y85, y86, y87, y88, y89, y90, y91, y92, y93, y94, y95, y96, y97, y98, y99, y100, y101, y102, y103, y104, y105, y106, y107, y108, y109, y110, y111, y112, y113, y114, y115, y116, y117, y118, y119, y120, y121, y122, y123, y124, y125, y126, y127, y128, y129, y130, y131, y132, y133, y134, y135, y136, y137, y138, y139, y140, y141, y142, y143, y144, y145, y146, y147, y148, y149, y150, y151, y152, y153, y154, y155, y156, y157, y158, y159, y160, y161, y162, y163, y164, y165, y166, y167, y168, y169, y170, y171, y172, y173, y174, y175, y176, y177, y178, y179, y180, y181, y182, y183, y184, y185, y186, y187, y188, y189, y190, y191, y192, y193, y194, y195, y196, y197, u198, u199, u200, u201, u202, u203, u204, u205, u206, u207, u208, u209, u210, u211, u212, u213, u214, u215, u216, u217, u218, u219, u220, u221, u222, u223, u224, u225, u226, u227, u228, u229, u230, u231, u232, u233, u234, u235, u236, u237, u238, u239, u240, u241, u242, u243, u244, u245, u246, u247], ds⟩ wx) :
    Code.wp Try.prog (tlBlk 2) Q ⟨#[u0, u1, .slice (some ad) m d, u3, u4, u5, u6, .pointer (some ⟨cb, 0, none⟩), u8, .int .i64 (i : Int), .pointer (some ⟨cbw, 0, none⟩), .slice Av no cv, u12, .bool al, .int .i64 0, u15, u16, u17, u18, u19, u20, u21, u22, u23, u24, u25, u26, u27, u28, u29, u30, u31, u32, u33, u34, u35, u36, u37, u38, u39, u40, u41, u42, u43, u44, u45, u46, u47, u48, u49, u50, u51, u52, u53, u54, u55, u56, u57, u58, u59, u60, u61, u62, u63, u64, u65, u66, u67, u68, u69, u70, u71, u72, u73, u74, u75, u76, u77, u78, u79, u80, u81, u82, u83, u84, u85, u86, u87, u88, u89, u90, u91, u92, u93, u94, u95, u96, u97, u98, u99, u100, u101, u102, u103, u104, u105, u106, u107, u108, u109, u110, u111, u112, u113, u114, u115, u116, u117, u118, u119, u120, u121, u122, u123, u124, u125, u126, u127, u128, u129, u130, u131, u132, u133, u134, u135, u136, u137, u138, u139, u140, u141, u142, u143, u144, u145, u146, u147, u148, u149, u150, u151, u152, u153, u154, u155, u156, u157, u158, u159, u160, u161, u162, u163, u164, u165, u166, u167, u168, u169, u170, u171, u172, u173, u174, u175, u176, u177, u178, u179, u180, u181, u182, u183, u184, u185, u186, u187, u188, u189, u190, u191, u192, u193, u194, u195, u196, u197, u198, u199, u200, u201, u202, u203, u204, u205, u206, u207, u208, u209, u210, u211, u212, u213, u214, u215, u216, u217, u218, u219, u220, u221, u222, u223, u224, u225, u226, u227, u228, u229, u230, u231, u232, u233, u234, u235, u236, u237, u238, u239, u240, u241, u242, u243, u244, u245, u246, u247], ds⟩ wr := by
  have H := Lib.hid h
  have HR := Lib.hid hr
  have HL := Lib.hid hl
  have HE := Lib.hid he
  have HAL := Lib.hid hal
  have HP := Lib.hid hP
  have HM := Lib.hid hmay
  have HK := Lib.hid hK
  have him : i < m := by rw [← hl]; exact (List.getElem?_eq_some_iff.1 he).1
  have hi0 : (0 : Int) ≤ i := by omega
  have hi1 : (i : Int) < m := by omega
  have HW0 := Lib.hid (show ∃ w0, w0 = wr from ⟨_, rfl⟩)
  obtain ⟨w0, hw0⟩ := HW0.out
  have HW := Lib.hid (show Below w0.heap.size w0 wr by rw [hw0]; exact Below.refl _ _)
  rw [← hw0] at H HK
  clear h hr hl he hal hP hmay hK hw0 HW0 him
  refine wp_of_calm ?_
  conv => arg 2; whnf
  go_wp2_with fail
  go_loopg [14] (no + 1) (fun gk s14 wy => ∃ k : Nat, k + gk = no + 1 ∧ k ≤ no ∧ s14 = .int .i64 (k : Int) ∧ Below w0.heap.size w0 wy)
  case atStart => exact ⟨0, by omega, by omega, rfl, HW.out⟩
  case round =>
    clear HW
    obtain ⟨k, hgk, hk, rfl, hB⟩ := hrel
    have HB := Lib.hid hB
    have HKR := Lib.hid (H.out.later hB)
    clear hB
    by_cases hlk : k < no
    · obtain ⟨t, htk⟩ : ∃ t, o[k]? = some t := ⟨_, List.getElem?_eq_getElem (by have := HKR.out.hn.1; omega)⟩
      have htm := List.mem_of_getElem? htk
      obtain ⟨gr, cq, e8, _⟩ := own_form1 HKR.out.out (by have := HKR.out.hn.1; omega)
      obtain ⟨rfl, rfl⟩ : Av = some ⟨gr, 0, none⟩ ∧ cv = cq := by cases e8; exact ⟨rfl, rfl⟩
      have HGK := Lib.hid hgk
      have hnob := HKR.out.hn.2
      have k0 : (0 : Int) ≤ k := by omega
      have k1 : (k : Int) < no := by omega
      have lu := tl_upd HKR.out.out htk
      have HTK := Lib.hid htk
      have HTM := Lib.hid htm
      obtain ⟨V, hV⟩ : ∃ Z, Z = wr.alloc (.cells #[.int .u32 (t.2.1.1 : Int), .int .i64 t.2.1.2, .int .i64 t.2.2] 54) := ⟨_, rfl⟩
      have sp := st_up_new wr (t.2.1.1 : Int) t.2.1.2 t.2.2
      obtain ⟨ub, hub⟩ : ∃ b, b = wr.heap.size := ⟨_, rfl⟩
      rw [← hV] at sp
      have hbv : Below wr.heap.size wr V := by rw [hV]; exact (Below.refl _ _).alloc (Nat.le_refl _) _
      have HBV := Lib.hid (HB.out.trans (hbv.mono HB.out.size))
      have HUB := Lib.hid (show Blk V ub 54 (upC t.2.1 t.2.2) by rw [hV, hub]; exact Blk.new _ _ _)
      have HKV := Lib.hid (H.out.later HBV.out)
      have lp := tl_port HKV.out.out htk
      obtain ⟨u8, uup⟩ := HP.out.up t htm
      have hup := HKV.out.up ((t.1 : Nat) : Int)
      have hur : upsR T.pc ((t.1 : Nat) : Int) = (T.pc.cost t.1, true) := by unfold upsR; rw [if_pos ⟨by omega, by omega, uup⟩]; rfl
      rw [hur] at hup
      obtain ⟨cst, hcst⟩ : ∃ z, z = T.pc.cost t.1 := ⟨_, rfl⟩
      rw [← hcst] at hup
      have HUP := Lib.hid hup
      have HUQ := Lib.hid hub
      clear hgk htk htm e8 hV hbv u8 uup hup hur hcst hub
      go_upto_region 22 with (go_at_call 15; refine HUP.out.mono ?_; rintro en w' ⟨rfl, rfl⟩)
      rw [← HUQ.out]
      clear lu sp lp
      have l1 := fun (dd : Nat) (os : Array Obj) => tl_port (HKV.out.later (below_regrown V dd os)).out HTK.out
      have l2 := fun (dd : Nat) (os : Array Obj) => (ev_flds HR.out HL.out (HKV.out.later (below_regrown V dd os)).bel HE.out).2
      go_cut [13, 114] from 78 to 197 (fun s13 s114 wx => s13 = .bool al ∧ s114 = .bool (al && (((t.1 : Nat) : Int) == e.port)) ∧ Below w0.heap.size w0 wx ∧ Below V.heap.size V wx)
      case first =>
        cases hA : al with
        | false =>
          have HA := Lib.hid hA
          clear hA
          refine wp_region_quiet_below (by kernel_rfl) (by kernel_rfl) ?_
          repeat (go_big_quiet_step (fail))
          refine wpQuiet_nil ?_
          intro _ hw'
          obtain ⟨⟨dq, osq⟩, hw''⟩ := hw'
          subst hw''
          have HBq := Lib.hid (And.intro (HBV.out.trans ((below_regrown V dq osq).mono HBV.out.size)) (below_regrown V dq osq))
          generalize grow (redrawn V dq) osq = wq at HBq ⊢
          go_wp2_with fail
          go_meet
          case rel => exact ⟨by rw [HA.out], by rw [HA.out]; rfl, HBq.out.1, HBq.out.2⟩
        | true =>
          have HA := Lib.hid hA
          cases hq : (((t.1 : Nat) : Int) == e.port) with
          | false =>
            have HQQ := Lib.hid hq
            clear hA
            refine wp_region_quiet_below (by kernel_rfl) (by kernel_rfl) ?_
            repeat (go_big_quiet_step (fail))
            refine wpQuiet_nil ?_
            intro _ hw'
            obtain ⟨⟨dq, osq⟩, hw''⟩ := hw'
            subst hw''
            have HBq := Lib.hid (And.intro (HBV.out.trans ((below_regrown V dq osq).mono HBV.out.size)) (below_regrown V dq osq))
            generalize grow (redrawn V dq) osq = wq at HBq ⊢
            go_wp2_with fail
            go_meet
            case rel => exact ⟨by rw [HA.out], by rw [HA.out, HQQ.out]; rfl, HBq.out.1, HBq.out.2⟩
          | true =>
            have HQQ := Lib.hid hq
            clear hA
            refine wp_region_quiet_below (by kernel_rfl) (by kernel_rfl) ?_
            repeat (go_big_quiet_step (fail))
            refine wpQuiet_nil ?_
            intro _ hw'
            obtain ⟨⟨dq, osq⟩, hw''⟩ := hw'
            subst hw''
            have HBq := Lib.hid (And.intro (HBV.out.trans ((below_regrown V dq osq).mono HBV.out.size)) (below_regrown V dq osq))
            generalize grow (redrawn V dq) osq = wq at HBq ⊢
            go_wp2_with fail
            go_meet
            case rel => exact ⟨by rw [HA.out], by rw [HA.out, HQQ.out]; rfl, HBq.out.1, HBq.out.2⟩
      case rest =>
        obtain ⟨rfl, hsk, hBc, hVc⟩ := hcut
        have HBc := Lib.hid hBc
        have HVc := Lib.hid hVc
        clear hBc hVc l1 l2
        obtain ⟨sk, hske⟩ : ∃ b, b = (al && (((t.1 : Nat) : Int) == e.port)) := ⟨_, rfl⟩
        rw [← hske] at hsk
        have HSK := Lib.hid hske
        subst hsk
        clear hske
        cases sk with
        | true =>
          go_wp2_with fail
          go_roundg (no + 1 - (k + 1))
          case rel => exact ⟨k + 1, by omega, by omega, by go_num, HBc.out⟩
          case measure => have := HGK.out; omega
        | false =>
          have HKC := Lib.hid (HKV.out.later HVc.out)
          have HUC := Lib.hid (HUB.out.below HVc.out HUB.out.lt)
          have lpf := ld_pfB HUC.out
          have hpo := may_ok (HM.out t HTM.out)
          have HEN := Lib.hid (HKC.out.wasE hpo)
          clear hpo
          go_upto_region 24 with (go_at_call 14; refine HEN.out.mono ?_; rintro en w5 ⟨rfl, hb5⟩; have HB5 := Lib.hid hb5; have st := stc_store vi_info (Blk.new w5 43 viZ) rfl (vs := enX S t.2.1) (enX_size _ _) (enX_one _ _); obtain ⟨V5, hV5⟩ : ∃ Z, Z = (w5.alloc (.cells viZ 43)).setCells w5.heap.size 0 (enX S t.2.1).toList := ⟨_, rfl⟩; rw [← hV5] at st; unfold viZ at st; have HV5 := Lib.hid hV5; clear hb5 hV5)
          clear st lpf
          obtain ⟨xb, hxb⟩ : ∃ b, b = w5.heap.size := ⟨_, rfl⟩
          have hbv5 : Below w5.heap.size w5 V5 := by
            rw [HV5.out]
            exact below_setCells (Nat.le_refl _) _ _ _ ((Below.refl _ _).alloc (Nat.le_refl _) _)
          have hk5 : Blk V5 xb 43 (enX S t.2.1) := by
            rw [HV5.out, hxb]
            exact blk_setCells (Blk.new w5 43 viZ) (by rw [enX_size]; rfl)
          have hbc5 := HB5.out.trans (hbv5.mono HB5.out.size)
          have HB6 := Lib.hid (HBc.out.trans (hbc5.mono HBc.out.size))
          have HV6 := Lib.hid (HVc.out.trans (hbc5.mono HVc.out.size))
          have HK6 := Lib.hid (HKC.out.later hbc5)
          have HU6 := Lib.hid (HUC.out.below hbc5 HUC.out.lt)
          rw [← hxb]
          have la := ld_bC (w := V5) (b := xb) (o := 4) (z := enA S t.2.1) ((hk5.cell 4).trans (enX_act _ _))
          obtain ⟨ek, ep⟩ := ev_flds HR.out HL.out HK6.out.bel HE.out
          obtain ⟨bB, hbB⟩ : ∃ b, b = enB S t.2.1 := ⟨_, rfl⟩
          obtain ⟨bA, hbA⟩ : ∃ b, b = enA S t.2.1 := ⟨_, rfl⟩
          have HPAS := Lib.hid (show bB = true → bA = true → e.kind = 5 ∨ e.kind = 2 ∨ e.kind = 1 from fun h1 h2 => by
            rw [hbA] at h2
            unfold enA at h2
            cases hf : findE S.all t.2.1 with
            | none => rw [hf] at h2; cases h2
            | some x => rw [hf] at h2; exact HP.out.pas t HTM.out x hf h2)
          rw [← hbA] at la
          rw [← hbB]
          clear hxb hbv5 hk5 hbc5 hbB hbA ep
          go_cut [13, 19, 146] from 78 to 197 (fun s13 s19 s146 wx => s13 = .bool al ∧ s146 = .bool false ∧ (∃ b, s19 = .bool b) ∧ wx = V5)
          case first =>
            cases bB with
            | false =>
              go_wp2_with fail
              go_meet
              case rel => exact ⟨rfl, rfl, ⟨_, rfl⟩, rfl⟩
            | true =>
              cases bA with
              | false =>
                go_wp2_with fail
                go_meet
                case rel => exact ⟨rfl, rfl, ⟨_, rfl⟩, rfl⟩
              | true =>
                by_cases h5 : e.kind = 5
                · have d5 : (e.kind != 5) = false := by rw [h5]; decide
                  have HAL2 := Lib.hid h5
                  clear h5
                  go_wp2_with fail
                  go_meet
                  case rel => exact ⟨rfl, rfl, ⟨_, rfl⟩, rfl⟩
                · have d5 : (e.kind != 5) = true := by rw [bne_iff_ne]; exact h5
                  by_cases h2 : e.kind = 2
                  · have d2 : (e.kind != 2) = false := by rw [h2]; decide
                    have HAL2 := Lib.hid (And.intro h5 h2)
                    clear h5 h2
                    go_wp2_with fail
                    go_meet
                    case rel => exact ⟨rfl, rfl, ⟨_, rfl⟩, rfl⟩
                  · have d2 : (e.kind != 2) = true := by rw [bne_iff_ne]; exact h2
                    have hal1 : al = true := by
                      rcases HPAS.out rfl rfl with h | h | h
                      · exact absurd h h5
                      · exact absurd h h2
                      · rw [HAL.out, h]; rfl
                    have HA := Lib.hid hal1
                    clear h5 h2 hal1
                    cases hA : al with
                    | false => exact absurd (hA.symm.trans HA.out) (by decide)
                    | true =>
                      clear hA
                      go_wp2_with fail
                      go_meet
                      case rel => exact ⟨by rw [HA.out], rfl, ⟨_, rfl⟩, rfl⟩
          case rest =>
            obtain ⟨rfl, rfl, ⟨bb, rfl⟩, rfl⟩ := hcut
            clear la ek
            go_upto_block 4 with fail
            refine tells3 HK6.out HU6.out HR.out HL.out HE.out HAL.out HTK.out (fun p hp hup hn => HP.out.all t HTM.out (fun hh => ?_) p hp hup hn) ?_
            · have h1 := HSK.out
              rw [HAL.out, hh.1, hh.2] at h1
              simp at h1
            · intro z0 z1 z2 z3 z4 z5 z6 z7 z8 z9 z10 z11 z12 z13 z14 z15 z16 z17 z18 z19 z20 z21 z22 z23 z24 z25 z26 z27 z28 z29 z30 z31 z32 z33 z34 z35 z36 z37 z38 z39 z40 z41 z42 z43 z44 z45 z46 z47 z48 z49 z50 z51 z52 z53 z54 z55 z56 wx hbx
              have HBX := Lib.hid (HB6.out.trans (hbx.mono HB6.out.size))
              clear hbx
              go_wp2_with fail
              go_roundg (no + 1 - (k + 1))
              case rel => exact ⟨k + 1, by omega, by omega, by go_num, HBX.out⟩
              case measure => have := HGK.out; omega
    · obtain rfl : k = no := by omega
      clear hgk
      go_wp2_with fail
      exact HK.out _ _ _ _ _ _ _ _ _ _ _ _ _ _ _ _ _ _ _ _ _ _ _ _ _ _ _ _ _ _ _ _ _ _ _ _ _ _ _ _ _ _ _ _ _ _ _ _ _ _ _ _ _ _ _ _ _ _ _ _ _ _ _ _ _ _ _ _ _ _ _ _ _ _ _ _ _ _ _ _ _ _ _ _ _ _ _ _ _ _ _ _ _ _ _ _ _ _ _ _ _ _ _ _ _ _ _ _ _ _ _ _ _ _ _ _ _ _ _ _ _ _ _ _ _ _ _ _ _ _ _ _ _ HB.out
end Go.Proofs.Ytahdjfegihnolaa
