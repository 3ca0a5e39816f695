/- Layer 12: LfiTells' inner loops (printed by gen_lws.py). -/
import Derived.Test.YtahdjfegihnolaaLwN
import Derived.Test.YtahdjfegihnolaaLwR
import Derived.Test.YtahdjfegihnolaaLwG
import Derived.Deep.CutRange
import Derived.Deep.CutBlock
import Derived.Deep.LoopGhost
namespace Go.Proofs.Ytahdjfegihnolaa
open Go.RowKit Go.Sort
def findBlk (n : Nat) : Code → Option Code
  | .block k c => if k = n then some (.block k c) else findBlk n c
  | .seq a b => match findBlk n a with
    | some c => some c
    | none => findBlk n b
  | .cond _ a b => match findBlk n a with
    | some c => some c
    | none => findBlk n b
  | .loop c => findBlk n c
  | _ => none
noncomputable def tlBlk (n : Nat) : Code := (Try.f7.body.bind (findBlk n)).getD .skip
/-- A piece that ends in nothing but its end. -/
theorem wp_of_calm {P : Program} {c : Code} {Q : Exit → Act → World → Prop} {a : Act} {w : World} (h : c.wp P (Exit.then (fun a w => Q .normal a w) (fun _ _ _ => False)) a w) : c.wp P Q a w :=
  wp_mono h fun e a w h => by cases e <;> first | exact h | exact h.elim
/-- The core, the one ahead of the event, and what was told. -/
structure TsK (w wx : World) (cb cbw : Nat) (T S : Lc) (Av : Option Addr) (no cv : Nat) (o : List Tl) : Prop where
  core : ∃ M mb, Core w wx M cb mb T
  was : ∃ M mb, Core w wx M cbw mb S
  out : OutM wx w.heap.size (.slice Av no cv) o
  hn : no = o.length ∧ no ≤ 9223372036854775807
theorem TsK.later {w wx wy : World} {cb cbw : Nat} {T S : Lc} {Av : Option Addr} {no cv : Nat} {o : List Tl} (h : TsK w wx cb cbw T S Av no cv o) (hb : Below wx.heap.size wx wy) : TsK w wy cb cbw T S Av no cv o := by
  obtain ⟨⟨M, mb, h1⟩, ⟨M2, mb2, h2⟩, h3, h4⟩ := h
  exact ⟨⟨M, mb, h1.later hb⟩, ⟨M2, mb2, h2.later hb⟩, own_below h3 hb, h4⟩
theorem TsK.bel {w wx : World} {cb cbw : Nat} {T S : Lc} {Av : Option Addr} {no cv : Nat} {o : List Tl} (h : TsK w wx cb cbw T S Av no cv o) : Below w.heap.size w wx := by
  obtain ⟨M, mb, h1⟩ := h.core
  exact h1.bel
theorem TsK.up {w wx : World} {cb cbw : Nat} {T S : Lc} {Av : Option Addr} {no cv : Nat} {o : List Tl} (h : TsK w wx cb cbw T S Av no cv o) (po : Int) : Calls Try.prog 15 #[.pointer (some ⟨cb, 0, none⟩), .int .i64 po] wx fun e w' => e = .returned (.tuple #[.int .i64 (upsR T.pc po).1, .bool (upsR T.pc po).2]) ∧ wx = w' := by
  obtain ⟨M, mb, h1⟩ := h.core
  exact core_up h1 po
set_option maxRecDepth 100000 in
/-- An event's kind and port, out of the argument. -/
theorem ev_flds {w w' : World} {ad : Addr} {n : Nat} {l : List Ev} (hr : Reads w (fun k => k < w.heap.size) 6 (some ad) n (l.flatMap evC)) (hl : l.length = n) (hb : Below w.heap.size w w') {k : Nat} {e : Ev} (he : l[k]? = some e) :
    (Instr.loadAt 32 (.pointer (some (ad.add (k * 6))))).run Try.prog w' = .ok (.int .i64 e.kind) w' ∧ (Instr.loadAt 3 (.pointer (some ⟨(ad.add (k * 6)).block, (ad.add (k * 6)).off + 1, none⟩))).run Try.prog w' = .ok (.int .i64 e.port) w' := by
  have hk : k < n := by rw [← hl]; exact (List.getElem?_eq_some_iff.1 he).1
  obtain ⟨ad', e2, hlt, _, hc⟩ := hr.2 (by omega)
  injection e2 with e2
  subst e2
  have h : ∀ j u, j < 6 → (evC e)[j]? = some u → w'.cell? (ad.add (k * 6 + j)) = some u := fun j u hj hu => (hb.cell (by rw [block_of_add]; exact hlt)).trans (hc _ _ (by rw [evC_get l k e he j hj]; exact hu))
  have h0 := h 0 _ (by omega) rfl
  have h1 := h 1 _ (by omega) rfl
  rw [Nat.add_zero] at h0
  rw [add_afterE ad (k * 6) _ (by omega)] at h1
  exact ⟨by simp [go_sem, h0], by simp [go_sem, h1]⟩
theorem ld_upd {w : World} {b o : Nat} {p : Pf} {d : Int} (h0 : w.cell? ⟨b, o, none⟩ = some (.int .u32 (p.1 : Int))) (h1 : w.cell? ⟨b, o + 1, none⟩ = some (.int .i64 p.2)) (h2 : w.cell? ⟨b, o + 2, none⟩ = some (.int .i64 d)) : (Instr.loadAt 54 (.pointer (some ⟨b, o, none⟩))).run Try.prog w = .ok (.agg #[.int .u32 (p.1 : Int), .int .i64 p.2, .int .i64 d]) w := by
  simp [go_sem, h0, h1, h2]
theorem tl_upd {w : World} {B b n cp k : Nat} {o : List Tl} {t : Tl} (h : OutM w B (.slice (some ⟨b, 0, none⟩) n cp) o) (hk : o[k]? = some t) : (Instr.loadAt 54 (.pointer (some ⟨b, k * 4 + 1, none⟩))).run Try.prog w = .ok (.agg #[.int .u32 (t.2.1.1 : Int), .int .i64 t.2.1.2, .int .i64 t.2.2]) w :=
  ld_upd (h.cell hk (j := 1) (by omega)) (h.cell hk (j := 2) (by omega)) (h.cell hk (j := 3) (by omega))
def upC (p : Pf) (d : Int) : Array Value := #[.int .u32 (p.1 : Int), .int .i64 p.2, .int .i64 d]
theorem eq_upd (a b : Nat) (m n d e : Int) (w : World) : (binOp .eql 54 (.agg #[.int .u32 (a : Int), .int .i64 m, .int .i64 d]) (.agg #[.int .u32 (b : Int), .int .i64 n, .int .i64 e])).run Try.prog w = .ok (.bool ((((a, m), d) : Pf × Int) == ((b, n), e))) w := by
  go_simp
  by_cases h1 : (a : Int) = (b : Int)
  · have h1' : a = b := by omega
    by_cases h2 : m = n
    · by_cases h3 : d = e
      · simp [h1', h2, h3]
      · simp [h1', h2, h3]
    · simp [h1', h2]
  · have h1' : ¬ a = b := by omega
    simp [h1', h1]
set_option maxRecDepth 100000 in
set_option maxHeartbeats 8000000 in
attribute [-go_sem] Instr.storeAt Instr.loadAt Instr.build in
theorem tells3 {u0 u1 u3 u4 u5 u6 u8 u10 u12 u14 u16 u17 u18 u19 u21 u22 u23 u24 u25 u26 u27 u28 u29 u30 u31 u32 u33 u34 u35 u36 u37 u38 u39 u40 u41 u42 u43 u44 u45 u46 u47 u48 u49 u50 u51 u52 u53 u54 u55 u56 u57 u58 u59 u60 u61 u62 u63 u64 u65 u66 u67 u68 u69 u70 u71 u72 u73 u74 u75 u76 u77 u78 u79 u80 u81 u82 u83 u84 u85 u86 u87 u88 u89 u90 u91 u92 u93 u94 u95 u96 u97 u98 u99 u100 u101 u102 u103 u104 u105 u106 u107 u108 u109 u110 u111 u112 u113 u114 u115 u116 u117 u118 u119 u120 u121 u122 u123 u124 u125 u126 u127 u128 u129 u130 u131 u132 u133 u134 u135 u136 u137 u138 u139 u140 u141 u142 u143 u144 u145 u146 u147 u148 u149 u150 u151 u152 u153 u154 u155 u156 u157 u158 u159 u160 u161 u162 u163 u164 u165 u166 u167 u168 u169 u170 u171 u172 u173 u174 u175 u176 u177 u178 u179 u180 u181 u182 u183 u184 u185 u186 u187 u188 u189 u190 u191 u192 u193 u194 u195 u196 u197 u198 u199 u200 u201 u202 u203 u204 u205 u206 u207 u208 u209 u210 u211 u212 u213 u214 u215 u216 u217 u218 u219 u220 u221 u222 u223 u224 u225 u226 u227 u228 u229 u230 u231 u232 u233 u234 u235 u236 u237 u238 u239 u240 u241 u242 u243 u244 u245 u246 u247 : Value} {Q : Exit → Act → World → Prop} {ds : List Deferred} {w wr : World} {cb cbw ub i k : Nat} {T S : Lc} {Av : Option Addr} {no cv m d : Nat} {o : List Tl} {ad : Addr} {al : Bool} {e : Ev} {le : List Ev} {t : Tl}
    (h : TsK w wr cb cbw T S Av no cv o) (hu : Blk wr ub 54 (upC t.2.1 t.2.2)) (hr : Reads w (fun k => k < w.heap.size) 6 (some ad) m (le.flatMap evC)) (hl : le.length = m) (he : le[i]? = some e) (hal : al = (e.kind == 1)) (_hk : o[k]? = some t)
    (hall : ∀ p, p < 8 → T.pc.up p = true → ¬ (e.kind = 1 ∧ (p : Int) = e.port) → ∃ t' ∈ o, t'.1 = p ∧ t'.2 = t.2)
    (hK : ∀ (y6 y20 y21 y22 y23 y24 y147 y148 y149 y150 y151 y152 y153 y154 y155 y156 y157 y158 y159 y160 y161 y162 y163 y164 y165 y166 y167 y168 y169 y170 y171 y172 y173 y174 y175 y176 y177 y178 y179 y180 y181 y182 y183 y184 y185 y186 y187 y188 y189 y190 y191 y192 y193 y194 y195 y196 y197 : Value) (wx : World), Below wr.heap.size wr wx → Q .normal ⟨#[u0, u1, .slice (some ad) m d, u3, u4, u5, y6, .pointer (some ⟨cb, 0, none⟩), u8, .int .i64 (i : Int), u10, .slice Av no cv, u12, .bool al, u14, .pointer (some ⟨ub, 0, none⟩), u16, u17, u18, u19, y20, y21, y22, y23, y24, u25, u26, u27, u28, u29, u30, u31, u32, u33, u34, u35, u36, u37, u38, u39, u40, u41, u42, u43, u44, u45, u46, u47, u48, u49, u50, u51, u52, u53, u54, u55, u56, u57, u58, u59, u60, u61, u62, u63, u64, u65, u66, u67, u68, u69, u70, u71, u72, u73, u74, u75, u76, u77, u78, u79, u80, u81, u82, u83, u84, u85, u86, u87, u88, u89, u90, u91, u92, u93, u94, u95, u96, u97, u98, u99, u100, u101, u102, u103, u104, u105, u106, u107, u108, u109, u110, u111, u112, u113, u114, u115, u116, u117, u118, u119, u120, u121, u122, u123, u124, u125, u126, u127, u128, u129, u130, u131, u132, u133, u134, u135, u136, u137, u138, u139, u140, u141, u142, u143, u144, u145, u146, y147, y148, y149, y150, y151, y152, y153, y154, y155, y156, y157, y158, y159, y160, y161, y162, y163, y164, y165, y166, y167, y168, y169, y170, y171, y172, y173, y174, y175, y176, y177, y178, y179, y180, y181, y182, y183, y184, y185, y186, y187, y188, y189, y190, y191, y192, y193, y194, y195, y196, y197, u198, u199, u200, u201, u202, u203, u204, u205, u206, u207, u208, u209, u210, u211, u212, u213, u214, u215, u216, u217, u218, u219, u220, u221, u222, u223, u224, u225, u226, u227, u228, u229, u230, u231, u232, u233, u234, u235, u236, u237, u238, u239, u240, u241, u242, u243, u244, u245, u246, u247], ds⟩ wx) :
    Code.wp Try.prog (tlBlk 4) Q ⟨#[u0, u1, .slice (some ad) m d, u3, u4, u5, u6, .pointer (some ⟨cb, 0, none⟩), u8, .int .i64 (i : Int), u10, .slice Av no cv, u12, .bool al, u14, .pointer (some ⟨ub, 0, none⟩), u16, u17, u18, u19, .int .i64 0, u21, u22, u23, u24, u25, u26, u27, u28, u29, u30, u31, u32, u33, u34, u35, u36, u37, u38, u39, u40, u41, u42, u43, u44, u45, u46, u47, u48, u49, u50, u51, u52, u53, u54, u55, u56, u57, u58, u59, u60, u61, u62, u63, u64, u65, u66, u67, u68, u69, u70, u71, u72, u73, u74, u75, u76, u77, u78, u79, u80, u81, u82, u83, u84, u85, u86, u87, u88, u89, u90, u91, u92, u93, u94, u95, u96, u97, u98, u99, u100, u101, u102, u103, u104, u105, u106, u107, u108, u109, u110, u111, u112, u113, u114, u115, u116, u117, u118, u119, u120, u121, u122, u123, u124, u125, u126, u127, u128, u129, u130, u131, u132, u133, u134, u135, u136, u137, u138, u139, u140, u141, u142, u143, u144, u145, u146, u147, u148, u149, u150, u151, u152, u153, u154, u155, u156, u157, u158, u159, u160, u161, u162, u163, u164, u165, u166, u167, u168, u169, u170, u171, u172, u173, u174, u175, u176, u177, u178, u179, u180, u181, u182, u183, u184, u185, u186, u187, u188, u189, u190, u191, u192, u193, u194, u195, u196, u197, u198, u199, u200, u201, u202, u203, u204, u205, u206, u207, u208, u209, u210, u211, u212, u213, u214, u215, u216, u217, u218, u219, u220, u221, u222, u223, u224, u225, u226, u227, u228, u229, u230, u231, u232, u233, u234, u235, u236, u237, u238, u239, u240, u241, u242, u243, u244, u245, u246, u247], ds⟩ wr := by
  have H := Lib.hid h
  have HU := Lib.hid hu
  have HR := Lib.hid hr
  have HL := Lib.hid hl
  have HE := Lib.hid he
  have HAL := Lib.hid hal
  have HALL := Lib.hid hall
  have HK := Lib.hid hK
  have him : i < m := by rw [← hl]; exact (List.getElem?_eq_some_iff.1 he).1
  have hi0 : (0 : Int) ≤ i := by omega
  have hi1 : (i : Int) < m := by omega
  have HW0 := Lib.hid (show ∃ w0, w0 = wr from ⟨_, rfl⟩)
  obtain ⟨w0, hw0⟩ := HW0.out
  have HW := Lib.hid (show Below w0.heap.size w0 wr by rw [hw0]; exact Below.refl _ _)
  rw [← hw0] at H HU HK
  clear h hu hr hl he hal hall hK hw0 HW0 him
  refine wp_of_calm ?_
  conv => arg 2; whnf
  go_wp2_with fail
  go_loopg [20] 9 (fun gk s20 wy => ∃ j : Nat, j + gk = 9 ∧ j ≤ 8 ∧ s20 = .int .i64 (j : Int) ∧ Below w0.heap.size w0 wy)
  case atStart => exact ⟨0, by omega, by omega, rfl, HW.out⟩
  case round =>
    clear HW
    obtain ⟨j, hgk, hj, rfl, hB⟩ := hrel
    have HB := Lib.hid hB
    have HKR := Lib.hid (H.out.later hB)
    clear hB
    by_cases hlj : j < 8
    · have hup := HKR.out.up (j : Int)
      have HGK := Lib.hid hgk
      have j0 : (0 : Int) ≤ j := by omega
      have j1 : (j : Int) < 8 := by omega
      clear hgk
      cases hu : T.pc.up j with
      | false =>
        have hur : upsR T.pc (j : Int) = (0, false) := by unfold upsR; rw [if_neg (fun e => by rw [show T.pc.up (j : Int).toNat = false from hu] at e; cases e.2.2)]
        rw [hur] at hup
        have HUP := Lib.hid hup
        clear hup hur hu
        go_wp2_with (go_at_call 15; refine HUP.out.mono ?_; rintro en w' ⟨rfl, rfl⟩)
        go_roundg (9 - (j + 1))
        case rel => exact ⟨j + 1, by omega, by omega, by go_num, HB.out⟩
        case measure => have := HGK.out; omega
      | true =>
        have hur : upsR T.pc (j : Int) = (T.pc.cost j, true) := by unfold upsR; rw [if_pos ⟨j0, j1, hu⟩]; rfl
        rw [hur] at hup
        have HUP := Lib.hid hup
        have HU2 := Lib.hid hu
        obtain ⟨ek, ep⟩ := ev_flds HR.out HL.out HKR.out.bel HE.out
        obtain ⟨cst, hcst⟩ : ∃ z, z = T.pc.cost j := ⟨_, rfl⟩
        rw [← hcst] at HUP
        clear hup hur hu hcst
        go_upto_region 30 with (go_at_call 15; refine HUP.out.mono ?_; rintro en w' ⟨rfl, rfl⟩)
        go_cut [13, 170] from 147 to 197 (fun s13 s170 wx => s13 = .bool al ∧ s170 = .bool (al && ((j : Int) == e.port)) ∧ Below w0.heap.size w0 wx)
        case first =>
          cases hA : al with
          | false =>
            have HA := Lib.hid hA
            clear ek ep hA
            go_wp2_with fail
            go_meet
            case rel => exact ⟨by rw [HA.out], by rw [HA.out]; rfl, HB.out⟩
          | true =>
            have HA := Lib.hid hA
            cases hq : ((j : Int) == e.port) with
            | false =>
              have HQQ := Lib.hid hq
              clear hA
              go_wp2_with fail
              go_meet
              case rel => exact ⟨by rw [HA.out], by rw [HA.out, HQQ.out]; rfl, HB.out⟩
            | true =>
              have HQQ := Lib.hid hq
              clear hA
              go_wp2_with fail
              go_meet
              case rel => exact ⟨by rw [HA.out], by rw [HA.out, HQQ.out]; rfl, HB.out⟩
        case rest =>
          obtain ⟨rfl, hsk, hBc⟩ := hcut
          have HBc := Lib.hid hBc
          clear hBc ek ep
          obtain ⟨sk, hske⟩ : ∃ b, b = (al && ((j : Int) == e.port)) := ⟨_, rfl⟩
          rw [← hske] at hsk
          have HSK := Lib.hid hske
          subst hsk
          clear hske
          cases sk with
          | true =>
            go_wp2_with fail
            go_roundg (9 - (j + 1))
            case rel => exact ⟨j + 1, by omega, by omega, by go_num, HBc.out⟩
            case measure => have := HGK.out; omega
          | false =>
            have HFN := Lib.hid (show ∃ t' ∈ o, t'.1 = j ∧ t'.2 = t.2 from HALL.out j hlj HU2.out fun hh => by
              have h1 := HSK.out
              rw [HAL.out, hh.1, hh.2] at h1
              simp at h1)
            have HKC := Lib.hid (H.out.later HBc.out)
            have hno := HKC.out.hn.2
            go_wp2_with fail
            go_loopw [23, 24] (fun s23 s24 wz => ∃ q : Nat, q ≤ no ∧ s24 = .int .i64 (q : Int) ∧ s23 = .bool (fndK o j t.2 q) ∧ Below w0.heap.size w0 wz) (fun _ s24 _ => no - (intOf s24).toNat)
            case atStart => exact ⟨0, Nat.zero_le _, rfl, rfl, HBc.out⟩
            case round =>
              obtain ⟨q, hq, rfl, rfl, hBz⟩ := hrel
              have HBz := Lib.hid hBz
              clear hBz
              obtain ⟨f, hf⟩ : ∃ b, b = fndK o j t.2 q := ⟨_, rfl⟩
              rw [← hf]
              have HF := Lib.hid hf
              clear hf
              by_cases hlq : q < no
              · obtain ⟨t', htq⟩ : ∃ t', o[q]? = some t' := ⟨_, List.getElem?_eq_getElem (by have := HKC.out.hn.1; omega)⟩
                have hfs := fndK_succ (p := j) (u := t.2) htq
                rw [← HF.out] at hfs
                have HFS := Lib.hid hfs
                obtain ⟨gr, cq, e8, _⟩ := own_form1 (H.out.later HBz.out).out (by have := HKC.out.hn.1; omega)
                obtain ⟨rfl, rfl⟩ : Av = some ⟨gr, 0, none⟩ ∧ cv = cq := by cases e8; exact ⟨rfl, rfl⟩
                have q0 : (0 : Int) ≤ q := by omega
                have q1 : (q : Int) < no := by omega
                have hbq := fun (dd : Nat) (os : Array Obj) => HBz.out.trans ((below_regrown wr dd os).mono HBz.out.size)
                have l1 := fun (dd : Nat) (os : Array Obj) => tl_port (H.out.later (hbq dd os)).out htq
                have l2 := fun (dd : Nat) (os : Array Obj) => tl_upd (H.out.later (hbq dd os)).out htq
                have l3 := fun (dd : Nat) (os : Array Obj) => ld_upd (w := grow (redrawn wr dd) os) (b := ub) (o := 0) (p := t.2.1) (d := t.2.2) ((HU.out.below (hbq dd os) HU.out.lt).cell 0) ((HU.out.below (hbq dd os) HU.out.lt).cell 1) ((HU.out.below (hbq dd os) HU.out.lt).cell 2)
                have l4 := fun wx => eq_upd t'.2.1.1 t.2.1.1 t'.2.1.2 t.2.1.2 t'.2.2 t.2.2 wx
                have l4' : ∀ wx, (binOp .eql 54 (.agg #[.int .u32 (t'.2.1.1 : Int), .int .i64 t'.2.1.2, .int .i64 t'.2.2]) (.agg #[.int .u32 (t.2.1.1 : Int), .int .i64 t.2.1.2, .int .i64 t.2.2])).run Try.prog wx = .ok (.bool (t'.2 == t.2)) wx := l4
                clear l4 hbq htq hfs e8
                obtain ⟨b2, hb2⟩ : ∃ b, b = (t'.2 == t.2) := ⟨_, rfl⟩
                rw [← hb2] at l4' HFS
                clear hb2
                go_upto_region 35 with (fail)
                cases f with
                | true =>
                  refine wp_region_quiet_below (by kernel_rfl) (by kernel_rfl) ?_
                  repeat (go_big_quiet_step (fail))
                  refine wpQuiet_nil ?_
                  intro _ hw'
                  obtain ⟨⟨dq, osq⟩, hw''⟩ := hw'
                  subst hw''
                  have HBq := Lib.hid (HBz.out.trans ((below_regrown wr dq osq).mono HBz.out.size))
                  generalize grow (redrawn wr dq) osq = wq at HBq ⊢
                  clear l1 l2 l3 l4'
                  have HN1 := Lib.hid (show fndK o j t.2 (q + 1) = true by rw [HFS.out]; rfl)
                  go_wp2_with fail
                  go_roundw
                  case rel => exact ⟨q + 1, by omega, by go_num, by rw [HN1.out], HBq.out⟩
                  case measure => simp [intOf]; omega
                | false =>
                  by_cases hp : t'.1 = j
                  · have p1 : (((t'.1 : Nat) : Int) == (j : Int)) = true := by rw [hp]; simp
                    have p2 : (t'.1 == j) = true := by rw [hp]; simp
                    have HN1 := Lib.hid (show fndK o j t.2 (q + 1) = b2 by rw [HFS.out, p2]; simp)
                    clear hp
                    refine wp_region_quiet_below (by kernel_rfl) (by kernel_rfl) ?_
                    repeat (go_big_quiet_step (fail))
                    refine wpQuiet_nil ?_
                    intro _ hw'
                    obtain ⟨⟨dq, osq⟩, hw''⟩ := hw'
                    subst hw''
                    have HBq := Lib.hid (HBz.out.trans ((below_regrown wr dq osq).mono HBz.out.size))
                    generalize grow (redrawn wr dq) osq = wq at HBq ⊢
                    clear l1 l2 l3 l4' p1 p2
                    go_wp2_with fail
                    go_roundw
                    case rel => exact ⟨q + 1, by omega, by go_num, by rw [HN1.out], HBq.out⟩
                    case measure => simp [intOf]; omega
                  · have p1 : (((t'.1 : Nat) : Int) == (j : Int)) = false := by rw [beq_eq_false_iff_ne]; omega
                    have p2 : (t'.1 == j) = false := by rw [beq_eq_false_iff_ne]; exact hp
                    have HN1 := Lib.hid (show fndK o j t.2 (q + 1) = false by rw [HFS.out, p2]; simp)
                    clear hp
                    refine wp_region_quiet_below (by kernel_rfl) (by kernel_rfl) ?_
                    repeat (go_big_quiet_step (fail))
                    refine wpQuiet_nil ?_
                    intro _ hw'
                    obtain ⟨⟨dq, osq⟩, hw''⟩ := hw'
                    subst hw''
                    have HBq := Lib.hid (HBz.out.trans ((below_regrown wr dq osq).mono HBz.out.size))
                    generalize grow (redrawn wr dq) osq = wq at HBq ⊢
                    clear l1 l2 l3 l4' p1 p2
                    go_wp2_with fail
                    go_roundw
                    case rel => exact ⟨q + 1, by omega, by go_num, by rw [HN1.out], HBq.out⟩
                    case measure => simp [intOf]; omega
              · obtain rfl : q = no := by omega
                have hft : f = true := by rw [HF.out, HKC.out.hn.1]; exact fndK_all HFN.out
                subst hft
                go_wp2_with fail
                go_roundg (9 - (j + 1))
                case rel => exact ⟨j + 1, by omega, by omega, by go_num, HBz.out⟩
                case measure => have := HGK.out; omega
    · obtain rfl : j = 8 := by omega
      clear hgk
      go_wp2_with fail
      exact HK.out _ _ _ _ _ _ _ _ _ _ _ _ _ _ _ _ _ _ _ _ _ _ _ _ _ _ _ _ _ _ _ _ _ _ _ _ _ _ _ _ _ _ _ _ _ _ _ _ _ _ _ _ _ _ _ _ _ _ HB.out
end Go.Proofs.Ytahdjfegihnolaa
