/- Layer 12: LfiHeld's loops over the routes (printed by gen_lxd.py). -/
import Derived.Test.YtahdjfegihnolaaLxC
namespace Go.Proofs.Ytahdjfegihnolaa
open Go.RowKit Go.Sort
/-- What LfiHeld reads. -/
structure HrK (w wx : World) (cb hb : Nat) (mq : Nat → Option Nat) (H : Held) (N : Nat) (T : Lc) : Prop where
  core : ∃ M mb, Core w wx M cb mb T
  hd : HdM w wx hb mq H N
  hi : HI T H
  hl : ∀ q p, (H q p).length ≤ 100000000
theorem HrK.later {w wx wy : World} {cb hb : Nat} {mq : Nat → Option Nat} {H : Held} {N : Nat} {T : Lc} (h : HrK w wx cb hb mq H N T) (hbl : Below wx.heap.size wx wy) : HrK w wy cb hb mq H N T := by
  obtain ⟨⟨M, mb, h1⟩, h2, h3, h4⟩ := h
  exact ⟨⟨M, mb, h1.later hbl⟩, h2.below hbl, h3, h4⟩
theorem HrK.up {w wx : World} {cb hb : Nat} {mq : Nat → Option Nat} {H : Held} {N : Nat} {T : Lc} (h : HrK w wx cb hb mq H N T) (po : Int) : Calls Try.prog 15 #[.pointer (some ⟨cb, 0, none⟩), .int .i64 po] wx fun e w' => e = .returned (.tuple #[.int .i64 (upsR T.pc po).1, .bool (upsR T.pc po).2]) ∧ wx = w' := by
  obtain ⟨M, mb, h1⟩ := h.core
  exact core_up h1 po
theorem HrK.ok {w wx : World} {cb hb : Nat} {mq : Nat → Option Nat} {H : Held} {N : Nat} {T : Lc} (h : HrK w wx cb hb mq H N T) : LcOk T := by
  obtain ⟨M, mb, h1⟩ := h.core
  exact h1.ok
theorem HrK.ent {w wx : World} {cb hb : Nat} {mq : Nat → Option Nat} {H : Held} {N : Nat} {T : Lc} (h : HrK w wx cb hb mq H N T) {x : Le} (hx : x ∈ T.all) : Calls Try.prog 14 #[.pointer (some ⟨cb, 0, none⟩), .agg #[.int .u32 (x.p.1 : Int), .int .i64 x.p.2]] wx fun e w' => e = .returned (.tuple #[.agg (viC T.pc x), .bool true]) ∧ Below wx.heap.size wx w' := by
  obtain ⟨M, mb, h1⟩ := h.core
  have := core_entry h1 (may_ok (h1.mayx x hx))
  unfold EnF at this
  rw [find_sorted h1.ok.srt hx] at this
  exact this
theorem HrK.may {w wx : World} {cb hb : Nat} {mq : Nat → Option Nat} {H : Held} {N : Nat} {T : Lc} (h : HrK w wx cb hb mq H N T) {x : Le} (hx : x ∈ T.all) : pfOk x.p := by
  obtain ⟨M, mb, h1⟩ := h.core
  exact may_ok (h1.mayx x hx)
set_option maxRecDepth 100000 in
set_option maxHeartbeats 8000000 in
attribute [-go_sem] Instr.storeAt Instr.loadAt Instr.build in
theorem held6 {u0 u1 u2 u3 u4 u5 u6 u8 u10 u11 u12 u13 u14 u15 u16 u17 u21 u23 u24 u25 u26 u27 u28 u29 u30 u31 u32 u33 u34 u35 u36 u37 u38 u39 u40 u41 u42 u43 u44 u45 u46 u47 u48 u49 u50 u51 u52 u53 u54 u55 u56 u57 u58 u59 u60 u61 u62 u63 u64 u65 u66 u67 u68 u69 u70 u71 u72 u73 u74 u75 u76 u77 u78 u79 u80 u81 u82 u83 u84 u85 u86 u87 u88 u89 u90 u91 u92 u93 u94 u95 u96 u97 u98 u99 u100 u101 u102 u103 u104 u105 u106 u107 u108 u109 u110 u111 u112 u113 u114 u115 u116 u117 u118 u119 u120 u121 u122 u123 u124 u125 u126 u127 u128 u129 u130 u131 u132 u133 u134 u135 u136 u137 u138 u139 u140 u141 u142 u143 u144 u145 u146 u147 u148 u149 u150 u151 u152 u153 u154 u155 u156 u157 u158 u159 u160 u161 u162 u163 u164 u165 u166 u167 u168 u169 u170 u171 u172 u173 u174 u175 u176 u177 u178 u179 u180 u181 u182 u183 u184 u185 u186 u187 u188 u189 u190 u191 u192 u193 u194 u195 u196 u197 u198 u199 u200 u201 u202 u203 u204 u205 u206 u207 u208 u209 u210 u211 u212 u213 u214 u215 u216 u217 u218 u219 u220 u221 u222 u223 u224 u225 u226 u227 u228 u229 u230 u231 u232 u233 u234 u235 u236 u237 u238 u239 u240 u241 u242 u243 u244 u245 u246 u247 u248 u249 u250 u251 u252 u253 u254 u255 u256 u257 u258 u259 u260 u261 u262 u263 u264 u265 u266 u267 u268 u269 u270 u271 u272 u273 u274 u275 : Value} {Q : Exit → Act → World → Prop} {ds : List Deferred} {w wr : World} {cb hb gr q cr i xb B : Nat} {mq : Nat → Option Nat} {H : Held} {N : Nat} {T : Lc} {L : List Rx} {x : Le} {sv : Value}
    (h : HrK w wr cb hb mq H N T) (hR : RtL wr B (.slice (some ⟨gr, 0, none⟩) q cr) T.pc L) (hx : L[i]? = some (x, sv)) (hq : q = L.length) (_hq9 : q ≤ 1024) (hxm : x ∈ T.all) (hxb : Blk wr xb 43 (viC T.pc x))
    (hK : ∀ (y6 y22 y23 y24 y25 y26 y187 y188 y189 y190 y191 y192 y193 y194 y195 y196 y197 y198 y199 y200 y201 y202 y203 y204 y205 y206 y207 y208 y209 y210 y211 y212 y213 y214 y215 y216 y217 y218 y219 y220 y221 : Value) (wx : World), Below wr.heap.size wr wx → Q .normal ⟨#[u0, u1, u2, u3, u4, u5, y6, .pointer (some ⟨cb, 0, none⟩), u8, .pointer (some ⟨hb, 0, none⟩), u10, u11, u12, u13, u14, u15, u16, u17, .slice (some ⟨gr, 0, none⟩) q cr, .int .i64 (i : Int), .pointer (some ⟨xb, 0, none⟩), u21, y22, y23, y24, y25, y26, u27, u28, u29, u30, u31, u32, u33, u34, u35, u36, u37, u38, u39, u40, u41, u42, u43, u44, u45, u46, u47, u48, u49, u50, u51, u52, u53, u54, u55, u56, u57, u58, u59, u60, u61, u62, u63, u64, u65, u66, u67, u68, u69, u70, u71, u72, u73, u74, u75, u76, u77, u78, u79, u80, u81, u82, u83, u84, u85, u86, u87, u88, u89, u90, u91, u92, u93, u94, u95, u96, u97, u98, u99, u100, u101, u102, u103, u104, u105, u106, u107, u108, u109, u110, u111, u112, u113, u114, u115, u116, u117, u118, u119, u120, u121, u122, u123, u124, u125, u126, u127, u128, u129, u130, u131, u132, u133, u134, u135, u136, u137, u138, u139, u140, u141, u142, u143, u144, u145, u146, u147, u148, u149, u150, u151, u152, u153, u154, u155, u156, u157, u158, u159, u160, u161, u162, u163, u164, u165, u166, u167, u168, u169, u170, u171, u172, u173, u174, u175, u176, u177, u178, u179, u180, u181, u182, u183, u184, u185, u186, y187, y188, y189, y190, y191, y192, y193, y194, y195, y196, y197, y198, y199, y200, y201, y202, y203, y204, y205, y206, y207, y208, y209, y210, y211, y212, y213, y214, y215, y216, y217, y218, y219, y220, y221, u222, u223, u224, u225, u226, u227, u228, u229, u230, u231, u232, u233, u234, u235, u236, u237, u238, u239, u240, u241, u242, u243, u244, u245, u246, u247, u248, u249, u250, u251, u252, u253, u254, u255, u256, u257, u258, u259, u260, u261, u262, u263, u264, u265, u266, u267, u268, u269, u270, u271, u272, u273, u274, u275], ds⟩ wx) :
    Code.wp Try.prog (hdBlk 6) Q ⟨#[u0, u1, u2, u3, u4, u5, u6, .pointer (some ⟨cb, 0, none⟩), u8, .pointer (some ⟨hb, 0, none⟩), u10, u11, u12, u13, u14, u15, u16, u17, .slice (some ⟨gr, 0, none⟩) q cr, .int .i64 (i : Int), .pointer (some ⟨xb, 0, none⟩), u21, .int .i64 0, u23, u24, u25, u26, u27, u28, u29, u30, u31, u32, u33, u34, u35, u36, u37, u38, u39, u40, u41, u42, u43, u44, u45, u46, u47, u48, u49, u50, u51, u52, u53, u54, u55, u56, u57, u58, u59, u60, u61, u62, u63, u64, u65, u66, u67, u68, u69, u70, u71, u72, u73, u74, u75, u76, u77, u78, u79, u80, u81, u82, u83, u84, u85, u86, u87, u88, u89, u90, u91, u92, u93, u94, u95, u96, u97, u98, u99, u100, u101, u102, u103, u104, u105, u106, u107, u108, u109, u110, u111, u112, u113, u114, u115, u116, u117, u118, u119, u120, u121, u122, u123, u124, u125, u126, u127, u128, u129, u130, u131, u132, u133, u134, u135, u136, u137, u138, u139, u140, u141, u142, u143, u144, u145, u146, u147, u148, u149, u150, u151, u152, u153, u154, u155, u156, u157, u158, u159, u160, u161, u162, u163, u164, u165, u166, u167, u168, u169, u170, u171, u172, u173, u174, u175, u176, u177, u178, u179, u180, u181, u182, u183, u184, u185, u186, u187, u188, u189, u190, u191, u192, u193, u194, u195, u196, u197, u198, u199, u200, u201, u202, u203, u204, u205, u206, u207, u208, u209, u210, u211, u212, u213, u214, u215, u216, u217, u218, u219, u220, u221, u222, u223, u224, u225, u226, u227, u228, u229, u230, u231, u232, u233, u234, u235, u236, u237, u238, u239, u240, u241, u242, u243, u244, u245, u246, u247, u248, u249, u250, u251, u252, u253, u254, u255, u256, u257, u258, u259, u260, u261, u262, u263, u264, u265, u266, u267, u268, u269, u270, u271, u272, u273, u274, u275], ds⟩ wr := by
  have HH := Lib.hid h
  have HR := Lib.hid hR
  have HX := Lib.hid hx
  have HXM := Lib.hid hxm
  have HXB := Lib.hid hxb
  have HK := Lib.hid hK
  have hiq : i < q := by rw [hq]; exact (List.getElem?_eq_some_iff.1 hx).1
  have i0 : (0 : Int) ≤ i := by omega
  have i1 : (i : Int) < q := by omega
  have HW0 := Lib.hid (show ∃ w0, w0 = wr from ⟨_, rfl⟩)
  obtain ⟨w0, hw0⟩ := HW0.out
  have HW := Lib.hid (show Below w0.heap.size w0 wr by rw [hw0]; exact Below.refl _ _)
  rw [← hw0] at HH HR HXB HK
  clear h hR hx hq hxm hxb hK hw0 HW0 hiq
  refine wp_of_calmH ?_
  conv => arg 2; whnf
  go_wp2_with fail
  go_loopw [22] (fun s22 wy => ∃ r : Nat, r ≤ 8 ∧ s22 = .int .i64 (r : Int) ∧ Below w0.heap.size w0 wy) (fun s22 _ => 8 - (intOf s22).toNat)
  case atStart => exact ⟨0, by omega, rfl, HW.out⟩
  case round =>
    clear HW
    obtain ⟨r, hr, rfl, hBz⟩ := hrel
    have HBz := Lib.hid hBz
    have HKR := Lib.hid (HH.out.later hBz)
    clear hBz
    by_cases hlr : r < 8
    · have hup := HKR.out.up (r : Int)
      have r0 : (0 : Int) ≤ r := by omega
      have r1 : (r : Int) < 8 := by omega
      have hpo := HKR.out.may HXM.out
      obtain ⟨Ah, nh, ch, hlook, hnh, hch, hrd⟩ := HKR.out.hd.look hlr hpo
      have hlk := fun (dd : Nat) (os : Array Obj) => hlook _ (below_regrown wr dd os)
      have lm := fun (dd : Nat) (os : Array Obj) => (HKR.out.hd.below (below_regrown wr dd os)).ldm hlr
      have lp := fun (dd : Nat) (os : Array Obj) => rt_p (HR.out.below (HBz.out.trans ((below_regrown wr dd os).mono HBz.out.size))) HX.out
      dsimp only at lp
      have hnb : nh ≤ 100000000 := by rw [hnh]; exact HKR.out.hl _ _
      have HRD := Lib.hid (And.intro hnh (And.intro hch hrd))
      clear hpo hlook hnh hch hrd
      obtain ⟨bu, hbu⟩ : ∃ b, b = T.pc.up r := ⟨_, rfl⟩
      obtain ⟨cst, hcst⟩ : ∃ z, z = (upsR T.pc (r : Int)).1 := ⟨_, rfl⟩
      have hur : (upsR T.pc (r : Int)).2 = bu := by
        unfold upsR
        rw [hbu]
        cases hu : T.pc.up r with
        | true => rw [if_pos ⟨r0, r1, hu⟩]
        | false => rw [if_neg (fun e => by rw [show T.pc.up (r : Int).toNat = false from hu] at e; cases e.2.2)]
      rw [← hcst, hur] at hup
      have HUP := Lib.hid hup
      have HBU := Lib.hid hbu
      clear hup hur hbu hcst
      go_upto_region 39 with (go_at_call 15; refine HUP.out.mono ?_; rintro en w' ⟨rfl, rfl⟩)
      refine wp_region_quiet_below (by kernel_rfl) (by kernel_rfl) ?_
      repeat (go_big_quiet_step (fail))
      refine wpQuiet_nil ?_
      intro _ hw'
      obtain ⟨⟨dq, osq⟩, hw''⟩ := hw'
      subst hw''
      have HBq := Lib.hid (HBz.out.trans ((below_regrown wr dq osq).mono HBz.out.size))
      have HB9 := Lib.hid (below_regrown wr dq osq)
      generalize grow (redrawn wr dq) osq = wq at HBq HB9 ⊢
      clear hlk lm lp
      go_wp2_with fail
      go_loopw [26] (fun s26 wz => ∃ j : Nat, j ≤ nh ∧ s26 = .int .i64 (j : Int) ∧ Below w0.heap.size w0 wz ∧ RdI wz Ah nh (H r x.p)) (fun s26 _ => nh - (intOf s26).toNat)
      case atStart => exact ⟨0, Nat.zero_le _, rfl, HBq.out, HRD.out.2.2.below HB9.out⟩
      case round =>
        clear HB9 HBq
        obtain ⟨j, hj, rfl, hBz2, hrd⟩ := hrel
        have HB2 := Lib.hid hBz2
        have HRR := Lib.hid hrd
        clear hBz2 hrd
        by_cases hlj : j < nh
        · have hd1 : decide (j < nh) = true := decide_eq_true hlj
          have hd2 : decide ((j : Int) < (nh : Int)) = true := decide_eq_true (by omega)
          cases bu with
          | false =>
            go_wp2_with fail
            go_roundw
            case rel => exact ⟨r + 1, by omega, by go_num, HB2.out⟩
            case measure => simp [intOf]; omega
          | true =>
            obtain ⟨z, hz⟩ : ∃ z, (H r x.p)[j]? = some z := ⟨_, List.getElem?_eq_getElem (by have := HRD.out.1; omega)⟩
            obtain ⟨ad, rfl, _⟩ := HRR.out.ld hz
            have j0 : (0 : Int) ≤ j := by omega
            have j1 : (j : Int) < nh := by omega
            have hle := held_le HKR.out.ok HKR.out.hi HBU.out.symm HXM.out z (List.mem_of_getElem? hz)
            have l1 : ∀ (dd : Nat) (os : Array Obj), (Instr.loadAt 3 (.pointer (some (ad.add j)))).run Try.prog (grow (redrawn wr dd) os) = .ok (.int .i64 z) (grow (redrawn wr dd) os) := fun dd os => by
              have := ((HRR.out.below (below_regrown wr dd os)).ld hz)
              obtain ⟨ad', e, hl⟩ := this
              injection e with e
              subst e
              exact hl
            have l2 := fun (dd : Nat) (os : Array Obj) => ld_iC (w := grow (redrawn wr dd) os) (b := xb) (o := 7) (z := x.feas) ((HXB.out.below (HB2.out.trans ((below_regrown wr dd os).mono HB2.out.size)) HXB.out.lt).cell 7)
            have hg : decide (z < x.feas) = false := decide_eq_false (by omega)
            have HZ := Lib.hid hz
            clear hz hle
            go_upto_region 43 with (fail)
            refine wp_region_quiet_below (by kernel_rfl) (by kernel_rfl) ?_
            repeat (go_big_quiet_step (fail))
            refine wpQuiet_nil ?_
            intro _ hw'
            obtain ⟨⟨dq, osq⟩, hw''⟩ := hw'
            subst hw''
            have HBq := Lib.hid (HB2.out.trans ((below_regrown wr dq osq).mono HB2.out.size))
            have HB9 := Lib.hid (below_regrown wr dq osq)
            generalize grow (redrawn wr dq) osq = wq at HBq HB9 ⊢
            clear l1 l2
            go_wp2_with fail
            go_roundw
            case rel => exact ⟨j + 1, by omega, by go_num, HBq.out, HRR.out.below HB9.out⟩
            case measure => simp [intOf]; omega
        · obtain rfl : j = nh := by omega
          go_wp2_with fail
          go_roundw
          case rel => exact ⟨r + 1, by omega, by go_num, HB2.out⟩
          case measure => simp [intOf]; omega
    · obtain rfl : r = 8 := by omega
      go_wp2_with fail
      exact HK.out _ _ _ _ _ _ _ _ _ _ _ _ _ _ _ _ _ _ _ _ _ _ _ _ _ _ _ _ _ _ _ _ _ _ _ _ _ _ _ _ _ _ HBz.out
end Go.Proofs.Ytahdjfegihnolaa
