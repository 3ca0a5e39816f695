/- Layer 12: LfiHeld's loop over what was told (printed by gen_lxc.py). -/
import Derived.Test.YtahdjfegihnolaaLxB
import Derived.Deep.CutRange
import Derived.Deep.CutBlock
import Derived.Deep.LoopGhost
namespace Go.Proofs.Ytahdjfegihnolaa
open Go.RowKit Go.Sort
def findBlkH (n : Nat) : Code → Option Code
  | .block k c => if k = n then some (.block k c) else findBlkH n c
  | .seq a b => match findBlkH n a with
    | some c => some c
    | none => findBlkH n b
  | .cond _ a b => match findBlkH n a with
    | some c => some c
    | none => findBlkH n b
  | .loop c => findBlkH n c
  | _ => none
noncomputable def hdBlk (n : Nat) : Code := (Try.f4.body.bind (findBlkH n)).getD .skip
/-- A piece that ends in nothing but its end. -/
theorem wp_of_calmH {P : Program} {c : Code} {Q : Exit → Act → World → Prop} {a : Act} {w : World} (h : c.wp P (Exit.then (fun a w => Q .normal a w) (fun _ _ _ => False)) a w) : c.wp P Q a w :=
  wp_mono h fun e a w h => by cases e <;> first | exact h | exact h.elim
def MapU (mq : Nat → Option Nat) (b : Nat) : Prop := ∃ q, q < 8 ∧ mq q = some b
theorem HdM.rowU {w wx wy : World} {hb : Nat} {mq : Nat → Option Nat} {H : Held} {N : Nat} (h : HdM w wx hb mq H N) (hu : Upd (MapU mq) wx wy) {B : Nat} {e : TypeId} {size n : Nat} {v : Value} {xs : List Value} (hr : wx.ownsRow B e size v n xs) : wy.ownsRow B e size v n xs :=
  own_keep hr (I := fun k => v.ownBlock = some k) (hu.same fun k ⟨q, hq, hm⟩ hk => by
    obtain ⟨cs, hbk⟩ := own_blk hr hk
    exact h.ne hq hm hbk rfl) fun _ e => e
theorem tellH_put (H : Held) (t : Tl) (q : Nat) (p : Pf) : putH H t.1 t.2.1 (hv (H t.1 t.2.1) ++ [t.2.2]) q p = tellH H t q p := by
  unfold putH tellH
  by_cases e : q = t.1 ∧ p = t.2.1
  · rw [if_pos e, if_pos e, e.1, e.2]
  · rw [if_neg e, if_neg e]
theorem rd_255 (w : World) : RdI (w.alloc (.cells #[.int .i64 255] 3)) (some ⟨w.heap.size, 0, none⟩) 1 [255] := by
  refine ⟨rfl, fun _ => ⟨_, rfl, ⟨_, Blk.new _ _ _⟩, by simp, fun j u hu => ?_⟩⟩
  have hk : Blk (w.alloc (.cells #[.int .i64 255] 3)) w.heap.size 3 #[.int .i64 255] := Blk.new _ _ _
  rw [add_off, hk.cell]
  simpa [intV] using hu
def HwΦ (B go no cv hb _pb mb k : Nat) (A : Option Addr) (n c : Nat) (t : Tl) (L : List Int) : Nat → Value → World → Prop
  | 0, u, _ => u = .slice (some ⟨go, 0, none⟩) no cv
  | 1, u, _ => u = .int .i64 (k : Int)
  | 2, u, _ => u = .pointer (some ⟨go, k * 4, none⟩)
  | 3, u, _ => u = .pointer (some ⟨go, k * 4, none⟩)
  | 4, u, _ => u = .int .i64 ((t.1 : Nat) : Int)
  | 5, u, _ => u = .pointer (some ⟨hb, t.1, none⟩)
  | 6, u, _ => u = .map (some mb)
  | 7, u, _ => u = .agg #[.int .u32 (t.2.1.1 : Int), .int .i64 t.2.1.2]
  | 8, u, _ => u = .slice A n c
  | 9, u, w => ∃ A2 c2, u = .slice A2 n c2 ∧ n ≤ c2 ∧ w.ownsRow B 3 1 u n (intV L)
  | 10, u, _ => u = .slice (some ⟨go, 0, none⟩) no cv
  | 11, u, _ => u = .int .i64 (k : Int)
  | 12, u, _ => u = .pointer (some ⟨go, k * 4, none⟩)
  | 13, u, _ => u = .pointer (some ⟨go, k * 4 + 1, none⟩)
  | 14, u, _ => u = .pointer (some ⟨go, k * 4 + 3, none⟩)
  | 15, u, _ => u = .int .i64 t.2.2
  | 16, u, w => ∃ b, u = .slice (some ⟨b, 0, none⟩) 1 1 ∧ Blk w b 3 #[.int .i64 t.2.2]
  | 17, u, w => ∃ A3 c3, u = .slice A3 (n + 1) c3 ∧ n + 1 ≤ c3 ∧ w.ownsRow B 3 1 u (n + 1) (intV (L ++ [t.2.2]))
  | _, _, _ => True
def hwDead (i j : Nat) : Bool := i == 17 && (j == 9 || j == 16)
theorem HwΦ.keep {B go no cv hb pb mb k : Nat} {A : Option Addr} {n c : Nat} {t : Tl} {L : List Int} {wx wy : World} (hb2 : Below wx.heap.size wx wy) : ∀ j u, HwΦ B go no cv hb pb mb k A n c t L j u wx → HwΦ B go no cv hb pb mb k A n c t L j u wy := by
  intro j u h
  unfold HwΦ at h ⊢
  split at h
  all_goals first
    | exact h
    | (obtain ⟨A2, c2, e, h1, h2⟩ := h; exact ⟨A2, c2, e, h1, own_below h2 hb2⟩)
    | (obtain ⟨b, e, h1⟩ := h; exact ⟨b, e, h1.below hb2 h1.lt⟩)
theorem HwΦ.keep2 {B go no cv hb pb mb k : Nat} {A : Option Addr} {n c : Nat} {t : Tl} {L : List Int} {wx wy : World} : ∀ j, j ≠ 17 → j ≠ 9 → j ≠ 16 → ∀ u, HwΦ B go no cv hb pb mb k A n c t L j u wx → HwΦ B go no cv hb pb mb k A n c t L j u wy := by
  intro j h17 h9 h16 u h
  unfold HwΦ at h ⊢
  split at h
  all_goals first
    | exact h
    | exact absurd rfl h17
    | exact absurd rfl h9
    | exact absurd rfl h16
set_option maxRecDepth 100000 in
set_option maxHeartbeats 8000000 in
attribute [-go_sem] Instr.storeAt Instr.loadAt in
theorem held2 {u0 u1 u2 u3 u4 u5 u6 u7 u8 u10 u12 u13 u14 u16 u17 u18 u19 u20 u21 u22 u23 u24 u25 u26 u27 u28 u29 u30 u31 u32 u33 u34 u35 u36 u37 u38 u39 u40 u41 u42 u43 u44 u45 u46 u47 u48 u49 u50 u51 u52 u53 u54 u55 u56 u57 u58 u59 u60 u61 u62 u63 u64 u65 u66 u67 u68 u69 u70 u71 u72 u73 u74 u75 u76 u77 u78 u79 u80 u81 u82 u83 u84 u85 u86 u87 u88 u89 u90 u91 u92 u93 u94 u95 u96 u97 u98 u99 u100 u101 u102 u103 u104 u105 u106 u107 u108 u109 u110 u111 u112 u113 u114 u115 u116 u117 u118 u119 u120 u121 u122 u123 u124 u125 u126 u127 u128 u129 u130 u131 u132 u133 u134 u135 u136 u137 u138 u139 u140 u141 u142 u143 u144 u145 u146 u147 u148 u149 u150 u151 u152 u153 u154 u155 u156 u157 u158 u159 u160 u161 u162 u163 u164 u165 u166 u167 u168 u169 u170 u171 u172 u173 u174 u175 u176 u177 u178 u179 u180 u181 u182 u183 u184 u185 u186 u187 u188 u189 u190 u191 u192 u193 u194 u195 u196 u197 u198 u199 u200 u201 u202 u203 u204 u205 u206 u207 u208 u209 u210 u211 u212 u213 u214 u215 u216 u217 u218 u219 u220 u221 u222 u223 u224 u225 u226 u227 u228 u229 u230 u231 u232 u233 u234 u235 u236 u237 u238 u239 u240 u241 u242 u243 u244 u245 u246 u247 u248 u249 u250 u251 u252 u253 u254 u255 u256 u257 u258 u259 u260 u261 u262 u263 u264 u265 u266 u267 u268 u269 u270 u271 u272 u273 u274 u275 : Value} {Q : Exit → Act → World → Prop} {ds : List Deferred} {w wr : World} {hb : Nat} {mq : Nat → Option Nat} {H : Held} {N : Nat} {Av : Option Addr} {no cv : Nat} {o : List Tl}
    (h : HdM w wr hb mq H N) (ho : OutM wr w.heap.size (.slice Av no cv) o) (hn : no = o.length ∧ no ≤ 20000) (hup : ∀ t ∈ o, t.1 < 8 ∧ (mq t.1).isSome = true ∧ pfOk t.2.1) (hN : N ≤ 90000000) {KL : Nat} (hL : ∀ q p, (H q p).length ≤ KL) (hKL : KL ≤ 10000000) (hw : w.heap.size ≤ wr.heap.size)
    (hK : ∀ (y15 y16 y17 y124 y125 y126 y127 y128 y129 y130 y131 y132 y133 y134 y135 y136 y137 y138 y139 y140 y141 y142 y143 y144 y145 y146 y147 y148 y149 y150 y151 y152 y153 y154 y155 y156 y157 y158 y159 y160 y161 y162 y163 y164 y165 y166 : Value) (wx : World), HdM w wx hb mq (tellsH H o) (N + no) → Upd (MapU mq) wr wx → Q .normal ⟨#[u0, u1, u2, u3, u4, u5, u6, u7, u8, .pointer (some ⟨hb, 0, none⟩), u10, .slice Av no cv, u12, u13, u14, y15, y16, y17, u18, u19, u20, u21, u22, u23, u24, u25, u26, u27, u28, u29, u30, u31, u32, u33, u34, u35, u36, u37, u38, u39, u40, u41, u42, u43, u44, u45, u46, u47, u48, u49, u50, u51, u52, u53, u54, u55, u56, u57, u58, u59, u60, u61, u62, u63, u64, u65, u66, u67, u68, u69, u70, u71, u72, u73, u74, u75, u76, u77, u78, u79, u80, u81, u82, u83, u84, u85, u86, u87, u88, u89, u90, u91, u92, u93, u94, u95, u96, u97, u98, u99, u100, u101, u102, u103, u104, u105, u106, u107, u108, u109, u110, u111, u112, u113, u114, u115, u116, u117, u118, u119, u120, u121, u122, u123, y124, y125, y126, y127, y128, y129, y130, y131, y132, y133, y134, y135, y136, y137, y138, y139, y140, y141, y142, y143, y144, y145, y146, y147, y148, y149, y150, y151, y152, y153, y154, y155, y156, y157, y158, y159, y160, y161, y162, y163, y164, y165, y166, u167, u168, u169, u170, u171, u172, u173, u174, u175, u176, u177, u178, u179, u180, u181, u182, u183, u184, u185, u186, u187, u188, u189, u190, u191, u192, u193, u194, u195, u196, u197, u198, u199, u200, u201, u202, u203, u204, u205, u206, u207, u208, u209, u210, u211, u212, u213, u214, u215, u216, u217, u218, u219, u220, u221, u222, u223, u224, u225, u226, u227, u228, u229, u230, u231, u232, u233, u234, u235, u236, u237, u238, u239, u240, u241, u242, u243, u244, u245, u246, u247, u248, u249, u250, u251, u252, u253, u254, u255, u256, u257, u258, u259, u260, u261, u262, u263, u264, u265, u266, u267, u268, u269, u270, u271, u272, u273, u274, u275], ds⟩ wx) :
    Code.wp Try.prog (hdBlk 2) Q ⟨#[u0, u1, u2, u3, u4, u5, u6, u7, u8, .pointer (some ⟨hb, 0, none⟩), u10, .slice Av no cv, u12, u13, u14, .int .i64 0, u16, u17, u18, u19, u20, u21, u22, u23, u24, u25, u26, u27, u28, u29, u30, u31, u32, u33, u34, u35, u36, u37, u38, u39, u40, u41, u42, u43, u44, u45, u46, u47, u48, u49, u50, u51, u52, u53, u54, u55, u56, u57, u58, u59, u60, u61, u62, u63, u64, u65, u66, u67, u68, u69, u70, u71, u72, u73, u74, u75, u76, u77, u78, u79, u80, u81, u82, u83, u84, u85, u86, u87, u88, u89, u90, u91, u92, u93, u94, u95, u96, u97, u98, u99, u100, u101, u102, u103, u104, u105, u106, u107, u108, u109, u110, u111, u112, u113, u114, u115, u116, u117, u118, u119, u120, u121, u122, u123, u124, u125, u126, u127, u128, u129, u130, u131, u132, u133, u134, u135, u136, u137, u138, u139, u140, u141, u142, u143, u144, u145, u146, u147, u148, u149, u150, u151, u152, u153, u154, u155, u156, u157, u158, u159, u160, u161, u162, u163, u164, u165, u166, u167, u168, u169, u170, u171, u172, u173, u174, u175, u176, u177, u178, u179, u180, u181, u182, u183, u184, u185, u186, u187, u188, u189, u190, u191, u192, u193, u194, u195, u196, u197, u198, u199, u200, u201, u202, u203, u204, u205, u206, u207, u208, u209, u210, u211, u212, u213, u214, u215, u216, u217, u218, u219, u220, u221, u222, u223, u224, u225, u226, u227, u228, u229, u230, u231, u232, u233, u234, u235, u236, u237, u238, u239, u240, u241, u242, u243, u244, u245, u246, u247, u248, u249, u250, u251, u252, u253, u254, u255, u256, u257, u258, u259, u260, u261, u262, u263, u264, u265, u266, u267, u268, u269, u270, u271, u272, u273, u274, u275], ds⟩ wr := by
  have HH := Lib.hid h
  have HO := Lib.hid ho
  have HNN := Lib.hid hn
  have HUP := Lib.hid hup
  have HK := Lib.hid hK
  have hn2 := hn.2
  have HNB := Lib.hid hN
  have HLB := Lib.hid (And.intro hL hKL)
  have HW0 := Lib.hid (show ∃ w0, w0 = wr from ⟨_, rfl⟩)
  obtain ⟨w0, hw0⟩ := HW0.out
  have HU0 := Lib.hid (show Upd (MapU mq) w0 wr by rw [hw0]; exact Upd.refl _ _)
  have HH0 := Lib.hid (show HdM w wr hb mq (tellsH H (o.take 0)) (N + 0) from h)
  have HSZ := Lib.hid hw
  rw [← hw0] at HH HO HK HSZ
  clear h ho hn hup hN hL hKL hK hw0 HW0 hw
  refine wp_of_calmH ?_
  conv => arg 2; whnf
  go_wp2_with fail
  go_loopg [15] (no + 1) (fun gk s15 wy => ∃ k : Nat, k + gk = no + 1 ∧ k ≤ no ∧ s15 = .int .i64 (k : Int) ∧ HdM w wy hb mq (tellsH H (o.take k)) (N + k) ∧ Upd (MapU mq) w0 wy)
  case atStart => exact ⟨0, by omega, by omega, rfl, HH0.out, HU0.out⟩
  case round =>
    clear HH0 HU0
    obtain ⟨k, hgk, hk, rfl, hM, hU⟩ := hrel
    have HM := Lib.hid hM
    have HU := Lib.hid hU
    have HR := Lib.hid (HH.out.rowU hU HO.out)
    clear hM hU
    by_cases hlk : k < no
    · obtain ⟨t, htk⟩ : ∃ t, o[k]? = some t := ⟨_, List.getElem?_eq_getElem (by have := HNN.out.1; omega)⟩
      obtain ⟨hq8, hqs, hpo⟩ := HUP.out t (List.mem_of_getElem? htk)
      obtain ⟨mb, hmb⟩ : ∃ b, mq t.1 = some b := Option.isSome_iff_exists.1 hqs
      have hro : OutM wr w.heap.size (.slice Av no cv) o := HR.out
      obtain ⟨go, cg, e8, _⟩ := own_form1 hro (by have := HNN.out.1; omega)
      obtain ⟨rfl, rfl⟩ : Av = some ⟨go, 0, none⟩ ∧ cv = cg := by cases e8; exact ⟨rfl, rfl⟩
      have HGK := Lib.hid hgk
      have k0 : (0 : Int) ≤ k := by omega
      have k1 : (k : Int) < no := by omega
      have q0 : (0 : Int) ≤ (t.1 : Nat) := by omega
      have q1 : ((t.1 : Nat) : Int) < 8 := by omega
      have lu := tl_pf hro htk
      obtain ⟨V, hV⟩ : ∃ Z, Z = wr.alloc (.cells #[.int .u32 (t.2.1.1 : Int), .int .i64 t.2.1.2] 36) := ⟨_, rfl⟩
      have sp := st_pf_new wr (t.2.1.1 : Int) t.2.1.2
      obtain ⟨pb, hpb⟩ : ∃ b, b = wr.heap.size := ⟨_, rfl⟩
      rw [← hV] at sp
      have hbv : Below wr.heap.size wr V := by rw [hV]; exact (Below.refl _ _).alloc (Nat.le_refl _) _
      have HKP := Lib.hid (show Blk V pb 36 (pfC t.2.1) by rw [hV, hpb]; exact Blk.new _ _ _)
      have HMV := Lib.hid (HM.out.below hbv)
      have HRV := Lib.hid (show OutM V w.heap.size (.slice (some ⟨go, 0, none⟩) no cv) o from own_below HR.out hbv)
      have HUV := Lib.hid (HU.out.trans_ (Upd.ofBelow hbv _))
      obtain ⟨Ah, nh, ch, hlook, hnh, hch, hrd⟩ := HMV.out.look hq8 hpo
      have hlook2 := fun (dd : Nat) (os : Array Obj) => hlook _ (below_regrown V dd os)
      have lm := fun (dd : Nat) (os : Array Obj) => (HMV.out.below (below_regrown V dd os)).ldm hq8
      have lp := fun (dd : Nat) (os : Array Obj) => ld_pf (HKP.out.below (below_regrown V dd os) HKP.out.lt)
      have lt := fun (dd : Nat) (os : Array Obj) => tl_port (own_below HRV.out (below_regrown V dd os)) htk
      obtain ⟨zs, hzs⟩ : ∃ zs, zs = tellsH H (o.take k) t.1 t.2.1 := ⟨_, rfl⟩
      rw [← hzs] at hnh hrd
      have HZS := Lib.hid hzs
      have HT := Lib.hid htk
      have HQ := Lib.hid (And.intro hq8 (And.intro hmb hpo))
      have HRD := Lib.hid (And.intro hnh (And.intro hch hrd))
      have HPB := Lib.hid hpb
      clear hgk hq8 hqs hpo hmb hro e8 hV hbv hlook hzs htk hnh hch hrd hpb
      go_upto_region 24 with (fail)
      rw [← HPB.out]
      clear lu sp
      refine wp_region_quiet_below (by kernel_rfl) (by kernel_rfl) ?_
      repeat (go_big_quiet_step (fail))
      refine wpQuiet_nil ?_
      intro _ hw'
      obtain ⟨⟨dq, osq⟩, hw''⟩ := hw'
      subst hw''
      have HBq := Lib.hid (below_regrown V dq osq)
      generalize grow (redrawn V dq) osq = wq at HBq ⊢
      clear hlook2 lm lp lt
      go_upto_if 147 with (fail)
      go_cut [17] from 124 to 166 (fun s17 wx => ∃ A n c, s17 = .slice A n c ∧ n = (hv zs).length ∧ RdI wx A n (hv zs) ∧ Below V.heap.size V wx)
      case first =>
        obtain ⟨hnh, hch, hrd⟩ := HRD.out
        cases hz : zs with
        | nil =>
          have hn0 : nh = 0 := by rw [hnh, hz]; rfl
          subst hn0
          have HZ := Lib.hid hz
          clear hnh hch hrd hz
          go_wp2_with fail
          go_meet
          case rel =>
            have e9 : hv zs = [255] := by rw [HZ.out]; rfl
            rw [e9]
            exact ⟨_, 1, 1, rfl, rfl, rd_255 wq, HBq.out.alloc HBq.out.size _⟩
        | cons z zr =>
          have hn1 : ((nh : Int) == 0) = false := by rw [beq_eq_false_iff_ne, hnh, hz]; simp; omega
          have HZ := Lib.hid hz
          have HX := Lib.hid (And.intro hnh hrd)
          clear hnh hch hrd hz
          go_wp2_with fail
          go_meet
          case rel =>
            have e9 : hv zs = zs := hv_ne (by rw [HZ.out]; simp)
            rw [e9]
            exact ⟨_, nh, ch, rfl, HX.out.1, HX.out.2.below HBq.out, HBq.out⟩
      case rest =>
        obtain ⟨A, n, c, rfl, hnl, hrd, hBc⟩ := hcut
        have hlen : n ≤ 10050000 := by
          have h1 := tells_len (o.take k) H HLB.out.1 t.1 t.2.1
          have h2 := hv_len zs
          have h3 := HLB.out.2
          rw [← HZS.out] at h1
          rw [List.length_take] at h1
          omega
        have HRC := Lib.hid (And.intro hnl hrd)
        have HBc := Lib.hid hBc
        have HMC := Lib.hid (HMV.out.below hBc)
        clear hnl hrd hBc
        obtain ⟨hq8, hmb, hpo⟩ := HQ.out
        have HPO := Lib.hid hpo
        have HMB := Lib.hid hmb
        clear hpo
        obtain ⟨i0, hi, hz0, hz1, hz2⟩ := info_parts info_int
        go_upto_region 27 with (fail)
        refine wp_region_rel (by kernel_rfl) (fun p q => Below wc.heap.size p q) (HwΦ wc.heap.size go no cv hb pb mb k A n c t (hv zs)) 18 (fun val w9 => HdM w w9 hb mq (tellsH H (o.take (k + 1))) (N + (k + 1)) ∧ Upd (MapU mq) w0 w9) hwDead (by kernel_rfl) (fun p => Below.refl _ p) (fun h k => h.trans k) (obl_of ?_) ?_ ?_
        · refine ⟨fun _ => ?_, fun _ => ?_, fun _ => ?_, fun _ => ?_, fun _ => ?_, fun _ => ?_, fun _ => ?_, fun _ => ?_, fun _ => ?_, fun _ => ?_, fun _ => ?_, fun _ => ?_, fun _ => ?_, fun _ => ?_, fun _ => ?_, fun _ => ?_, fun _ => ?_, fun _ => ?_, fun h => absurd rfl h, trivial⟩
          · -- 0
            intro val wx hg hd hb2s hs K hK
            generalize hρ : rhoV _ _ val = ρ
            have cc : ∀ u, ρ (.const u) = u := fun u => by rw [← hρ]; rfl
            have ff : ∀ u, ρ (.func u) = .func (.func u) #[] #[] := fun u => by rw [← hρ]; rfl
            have r11 : ρ (.tmp 11) = .slice (some ⟨go, 0, none⟩) no cv := by rw [← hρ]; rfl
            clear hρ hd hb2s hs
            refine ifv rfl ?_
            go_simp
            exact hK _ _ (Below.refl _ _) rfl fun _ _ _ _ h => h
          · -- 1
            intro val wx hg hd hb2s hs K hK
            generalize hρ : rhoV _ _ val = ρ
            have cc : ∀ u, ρ (.const u) = u := fun u => by rw [← hρ]; rfl
            have ff : ∀ u, ρ (.func u) = .func (.func u) #[] #[] := fun u => by rw [← hρ]; rfl
            have r15 : ρ (.tmp 15) = .int .i64 (k : Int) := by rw [← hρ]; rfl
            clear hρ hd hb2s hs
            refine ifv rfl ?_
            go_simp
            exact hK _ _ (Below.refl _ _) rfl fun _ _ _ _ h => h
          · -- 2
            intro val wx hg hd hb2s hs K hK
            generalize hρ : rhoV _ _ val = ρ
            have cc : ∀ u, ρ (.const u) = u := fun u => by rw [← hρ]; rfl
            have ff : ∀ u, ρ (.func u) = .func (.func u) #[] #[] := fun u => by rw [← hρ]; rfl
            have r149 : ρ (.tmp 149) = .slice (some ⟨go, 0, none⟩) no cv := by rw [← hρ]; exact hd 0 rfl rfl
            have r150 : ρ (.tmp 150) = .int .i64 (k : Int) := by rw [← hρ]; exact hd 1 rfl rfl
            clear hρ hd hb2s hs
            refine ifv rfl ?_
            go_simp
            exact hK _ _ (Below.refl _ _) rfl fun _ _ _ _ h => h
          · -- 3
            intro val wx hg hd hb2s hs K hK
            generalize hρ : rhoV _ _ val = ρ
            have cc : ∀ u, ρ (.const u) = u := fun u => by rw [← hρ]; rfl
            have ff : ∀ u, ρ (.func u) = .func (.func u) #[] #[] := fun u => by rw [← hρ]; rfl
            have r151 : ρ (.tmp 151) = .pointer (some ⟨go, k * 4, none⟩) := by rw [← hρ]; exact hd 2 rfl rfl
            clear hρ hd hb2s hs
            refine ifv rfl ?_
            go_simp
            exact hK _ _ (Below.refl _ _) rfl fun _ _ _ _ h => h
          · -- 4
            intro val wx hg hd hb2s hs K hK
            generalize hρ : rhoV _ _ val = ρ
            have cc : ∀ u, ρ (.const u) = u := fun u => by rw [← hρ]; rfl
            have ff : ∀ u, ρ (.func u) = .func (.func u) #[] #[] := fun u => by rw [← hρ]; rfl
            have r152 : ρ (.tmp 152) = .pointer (some ⟨go, k * 4, none⟩) := by rw [← hρ]; exact hd 3 rfl rfl
            have hbw : Below wc.heap.size wc wx := ⟨hg.os, hg.tape, hg.output, hg.size, hg.block⟩
            have hbx : Below V.heap.size V wx := HBc.out.trans (hbw.mono HBc.out.size)
            have hl := tl_port (own_below HRV.out hbx) HT.out
            clear hρ hd hb2s hs
            refine ifv rfl ?_
            go_simp
            exact hK _ _ (Below.refl _ _) rfl fun _ _ _ _ h => h
          · -- 5
            intro val wx hg hd hb2s hs K hK
            generalize hρ : rhoV _ _ val = ρ
            have cc : ∀ u, ρ (.const u) = u := fun u => by rw [← hρ]; rfl
            have ff : ∀ u, ρ (.func u) = .func (.func u) #[] #[] := fun u => by rw [← hρ]; rfl
            have r9 : ρ (.tmp 9) = .pointer (some ⟨hb, 0, none⟩) := by rw [← hρ]; rfl
            have r153 : ρ (.tmp 153) = .int .i64 ((t.1 : Nat) : Int) := by rw [← hρ]; exact hd 4 rfl rfl
            clear hρ hd hb2s hs
            refine ifv rfl ?_
            go_simp
            exact hK _ _ (Below.refl _ _) rfl fun _ _ _ _ h => h
          · -- 6
            intro val wx hg hd hb2s hs K hK
            generalize hρ : rhoV _ _ val = ρ
            have cc : ∀ u, ρ (.const u) = u := fun u => by rw [← hρ]; rfl
            have ff : ∀ u, ρ (.func u) = .func (.func u) #[] #[] := fun u => by rw [← hρ]; rfl
            have r154 : ρ (.tmp 154) = .pointer (some ⟨hb, t.1, none⟩) := by rw [← hρ]; exact hd 5 rfl rfl
            have hbw : Below wc.heap.size wc wx := ⟨hg.os, hg.tape, hg.output, hg.size, hg.block⟩
            have hbx : Below V.heap.size V wx := HBc.out.trans (hbw.mono HBc.out.size)
            have hl := (HMV.out.below hbx).ldm hq8
            rw [hmb] at hl
            clear hρ hd hb2s hs
            refine ifv rfl ?_
            go_simp
            exact hK _ _ (Below.refl _ _) rfl fun _ _ _ _ h => h
          · -- 7
            intro val wx hg hd hb2s hs K hK
            generalize hρ : rhoV _ _ val = ρ
            have cc : ∀ u, ρ (.const u) = u := fun u => by rw [← hρ]; rfl
            have ff : ∀ u, ρ (.func u) = .func (.func u) #[] #[] := fun u => by rw [← hρ]; rfl
            have r16 : ρ (.tmp 16) = .pointer (some ⟨pb, 0, none⟩) := by rw [← hρ]; rfl
            have hbw : Below wc.heap.size wc wx := ⟨hg.os, hg.tape, hg.output, hg.size, hg.block⟩
            have hbx : Below V.heap.size V wx := HBc.out.trans (hbw.mono HBc.out.size)
            have hl := ld_pf (HKP.out.below hbx HKP.out.lt)
            clear hρ hd hb2s hs
            refine ifv rfl ?_
            go_simp
            exact hK _ _ (Below.refl _ _) rfl fun _ _ _ _ h => h
          · -- 8
            intro val wx hg hd hb2s hs K hK
            generalize hρ : rhoV _ _ val = ρ
            have cc : ∀ u, ρ (.const u) = u := fun u => by rw [← hρ]; rfl
            have ff : ∀ u, ρ (.func u) = .func (.func u) #[] #[] := fun u => by rw [← hρ]; rfl
            have r17 : ρ (.tmp 17) = .slice A n c := by rw [← hρ]; rfl
            clear hρ hd hb2s hs
            refine ifv rfl ?_
            go_simp
            exact hK _ _ (Below.refl _ _) rfl fun _ _ _ _ h => h
          · -- 9
            intro val wx hg hd hb2s hs K hK
            generalize hρ : rhoV _ _ val = ρ
            have cc : ∀ u, ρ (.const u) = u := fun u => by rw [← hρ]; rfl
            have ff : ∀ u, ρ (.func u) = .func (.func u) #[] #[] := fun u => by rw [← hρ]; rfl
            have r157 : ρ (.tmp 157) = .slice A n c := by rw [← hρ]; exact hd 8 rfl rfl
            have hbw : Below wc.heap.size wc wx := ⟨hg.os, hg.tape, hg.output, hg.size, hg.block⟩
            have hrx := (HRC.out.2.below hbw).reads
            have hsz : wc.heap.size ≤ wx.heap.size := hbw.size
            have hmx : 0 + n ≤ maxLen := by unfold maxLen; omega
            have hmb2 : (0 + n) * 8 ≤ 140737488355328 := by omega
            refine ifv rfl ?_
            refine insRow wx (.const (.slice none 0 0)) (.tmp 157) 52 (by rfl) wc.heap.size 3 i0 _ 1 8 Try.underlying52 hi hz0 hz1 hz2 rfl (by decide) (cc _) (World.ownsRow_nil _ _ _ _) (A := A) (m := n) (c := c) (news := intV (hv zs)) r157 hrx (intV_one _) hmx hmb2 hsz ?_
            intro v2 w2 h2 hg2 hat2
            clear hρ hd hb2s hs
            rw [Nat.zero_add, List.nil_append] at h2
            have hb2 : Below wx.heap.size wx w2 := (Below.refl _ _).grown hg2 (Nat.le_refl _) fun j hj => (by cases hj)
            have hf2 := own_form h2
            obtain ⟨A2, c2, e2, hc2⟩ := hf2
            exact hK _ _ (hb2.mono hsz) ⟨A2, c2, e2, hc2, h2⟩ fun j _ _ _ h => HwΦ.keep hb2 j _ h
          · -- 10
            intro val wx hg hd hb2s hs K hK
            generalize hρ : rhoV _ _ val = ρ
            have cc : ∀ u, ρ (.const u) = u := fun u => by rw [← hρ]; rfl
            have ff : ∀ u, ρ (.func u) = .func (.func u) #[] #[] := fun u => by rw [← hρ]; rfl
            have r11 : ρ (.tmp 11) = .slice (some ⟨go, 0, none⟩) no cv := by rw [← hρ]; rfl
            clear hρ hd hb2s hs
            refine ifv rfl ?_
            go_simp
            exact hK _ _ (Below.refl _ _) rfl fun _ _ _ _ h => h
          · -- 11
            intro val wx hg hd hb2s hs K hK
            generalize hρ : rhoV _ _ val = ρ
            have cc : ∀ u, ρ (.const u) = u := fun u => by rw [← hρ]; rfl
            have ff : ∀ u, ρ (.func u) = .func (.func u) #[] #[] := fun u => by rw [← hρ]; rfl
            have r15 : ρ (.tmp 15) = .int .i64 (k : Int) := by rw [← hρ]; rfl
            clear hρ hd hb2s hs
            refine ifv rfl ?_
            go_simp
            exact hK _ _ (Below.refl _ _) rfl fun _ _ _ _ h => h
          · -- 12
            intro val wx hg hd hb2s hs K hK
            generalize hρ : rhoV _ _ val = ρ
            have cc : ∀ u, ρ (.const u) = u := fun u => by rw [← hρ]; rfl
            have ff : ∀ u, ρ (.func u) = .func (.func u) #[] #[] := fun u => by rw [← hρ]; rfl
            have r159 : ρ (.tmp 159) = .slice (some ⟨go, 0, none⟩) no cv := by rw [← hρ]; exact hd 10 rfl rfl
            have r160 : ρ (.tmp 160) = .int .i64 (k : Int) := by rw [← hρ]; exact hd 11 rfl rfl
            clear hρ hd hb2s hs
            refine ifv rfl ?_
            go_simp
            exact hK _ _ (Below.refl _ _) rfl fun _ _ _ _ h => h
          · -- 13
            intro val wx hg hd hb2s hs K hK
            generalize hρ : rhoV _ _ val = ρ
            have cc : ∀ u, ρ (.const u) = u := fun u => by rw [← hρ]; rfl
            have ff : ∀ u, ρ (.func u) = .func (.func u) #[] #[] := fun u => by rw [← hρ]; rfl
            have r161 : ρ (.tmp 161) = .pointer (some ⟨go, k * 4, none⟩) := by rw [← hρ]; exact hd 12 rfl rfl
            clear hρ hd hb2s hs
            refine ifv rfl ?_
            go_simp
            exact hK _ _ (Below.refl _ _) rfl fun _ _ _ _ h => h
          · -- 14
            intro val wx hg hd hb2s hs K hK
            generalize hρ : rhoV _ _ val = ρ
            have cc : ∀ u, ρ (.const u) = u := fun u => by rw [← hρ]; rfl
            have ff : ∀ u, ρ (.func u) = .func (.func u) #[] #[] := fun u => by rw [← hρ]; rfl
            have r162 : ρ (.tmp 162) = .pointer (some ⟨go, k * 4 + 1, none⟩) := by rw [← hρ]; exact hd 13 rfl rfl
            clear hρ hd hb2s hs
            refine ifv rfl ?_
            go_simp
            exact hK _ _ (Below.refl _ _) rfl fun _ _ _ _ h => h
          · -- 15
            intro val wx hg hd hb2s hs K hK
            generalize hρ : rhoV _ _ val = ρ
            have cc : ∀ u, ρ (.const u) = u := fun u => by rw [← hρ]; rfl
            have ff : ∀ u, ρ (.func u) = .func (.func u) #[] #[] := fun u => by rw [← hρ]; rfl
            have r163 : ρ (.tmp 163) = .pointer (some ⟨go, k * 4 + 3, none⟩) := by rw [← hρ]; exact hd 14 rfl rfl
            have hbw : Below wc.heap.size wc wx := ⟨hg.os, hg.tape, hg.output, hg.size, hg.block⟩
            have hbx : Below V.heap.size V wx := HBc.out.trans (hbw.mono HBc.out.size)
            have hl := tl_d (own_below HRV.out hbx) HT.out
            clear hρ hd hb2s hs
            refine ifv rfl ?_
            go_simp
            exact hK _ _ (Below.refl _ _) rfl fun _ _ _ _ h => h
          · -- 16
            intro val wx hg hd hb2s hs K hK
            generalize hρ : rhoV _ _ val = ρ
            have cc : ∀ u, ρ (.const u) = u := fun u => by rw [← hρ]; rfl
            have ff : ∀ u, ρ (.func u) = .func (.func u) #[] #[] := fun u => by rw [← hρ]; rfl
            have r164 : ρ (.tmp 164) = .int .i64 t.2.2 := by rw [← hρ]; exact hd 15 rfl rfl
            have hbw : Below wc.heap.size wc wx := ⟨hg.os, hg.tape, hg.output, hg.size, hg.block⟩
            have hsz : wc.heap.size ≤ wx.heap.size := hbw.size
            have hal : Below wx.heap.size wx (wx.alloc (.cells #[.int .i64 t.2.2] 3)) := (Below.refl _ _).alloc (Nat.le_refl _) _
            clear hρ hd hb2s hs
            refine ifv rfl ?_
            go_simp
            exact hK _ _ (hal.mono hsz) ⟨_, rfl, Blk.new _ _ _⟩ fun j _ _ _ h => HwΦ.keep hal j _ h
          · -- 17
            intro val wx hg hd hb2s hs K hK
            generalize hρ : rhoV _ _ val = ρ
            have cc : ∀ u, ρ (.const u) = u := fun u => by rw [← hρ]; rfl
            have ff : ∀ u, ρ (.func u) = .func (.func u) #[] #[] := fun u => by rw [← hρ]; rfl
            have r158 : ρ (.tmp 158) = val 9 := by rw [← hρ]; rfl
            have p9 := hd 9 rfl rfl
            have r165 : ρ (.tmp 165) = val 16 := by rw [← hρ]; rfl
            have p16 := hd 16 rfl rfl
            have hbw : Below wc.heap.size wc wx := ⟨hg.os, hg.tape, hg.output, hg.size, hg.block⟩
            obtain ⟨A2, c2, e2, hc2, h2⟩ : ∃ A2 c2, val 9 = .slice A2 n c2 ∧ n ≤ c2 ∧ wx.ownsRow wc.heap.size 3 1 (val 9) n (intV (hv zs)) := p9
            obtain ⟨b, e3, h3⟩ : ∃ b, val 16 = .slice (some ⟨b, 0, none⟩) 1 1 ∧ Blk wx b 3 #[.int .i64 t.2.2] := p16
            rw [e2] at r158 h2
            rw [e3] at r165
            have hrx : Reads wx (fun _ => True) 1 (some ⟨b, 0, none⟩) 1 [.int .i64 t.2.2] := ⟨rfl, fun _ => ⟨_, rfl, trivial, h3.lt, fun j u hu => by rw [add_off, h3.cell]; simpa using hu⟩⟩
            have hsz : wc.heap.size ≤ wx.heap.size := hbw.size
            have hmx : n + 1 ≤ maxLen := by unfold maxLen; omega
            have hmb2 : (n + 1) * 8 ≤ 140737488355328 := by omega
            refine ifv rfl ?_
            refine insRow wx (.tmp 158) (.tmp 165) 52 (by rfl) wc.heap.size 3 i0 _ 1 8 Try.underlying52 hi hz0 hz1 hz2 rfl (by decide) r158 h2 (A := some ⟨b, 0, none⟩) (m := 1) (c := 1) (news := [.int .i64 t.2.2]) r165 hrx (fun u hu => by rw [List.mem_singleton.1 hu]; rfl) hmx hmb2 hsz ?_
            intro v4 w4 h4 hg4 hat4
            clear hρ hd hb2s hs
            have h4b : w4.ownsRow wc.heap.size 3 1 v4 (n + 1) (intV (hv zs ++ [t.2.2])) := by rw [intV_app]; exact h4
            have hb4 : Below wc.heap.size wx w4 := (Below.refl _ _).grown hg4 hsz fun j hj => (own_lt h2 hj).1
            have hf4 := own_form h4b
            obtain ⟨A4, c4, e4, hc4⟩ := hf4
            refine hK _ _ hb4 ⟨A4, c4, e4, hc4, h4b⟩ fun j hj hdd _ h => ?_
            by_cases h9 : j = 9
            · subst h9; exact absurd hdd (by decide)
            · by_cases h16 : j = 16
              · subst h16; exact absurd hdd (by decide)
              · exact HwΦ.keep2 j hj h9 h16 _ h
        · intro o9 ho9
          injection ho9 with ho9
          subst ho9
          intro val wx hg hd hs K hK
          have p17 : ∃ A3 c3, val 17 = .slice A3 (n + 1) c3 ∧ n + 1 ≤ c3 ∧ wx.ownsRow wc.heap.size 3 1 (val 17) (n + 1) (intV (hv zs ++ [t.2.2])) := hd 17 (by decide) (by decide) fun i _ _ => by simp [hwDead]
          generalize hρ : rhoV _ _ val = ρ
          have r155 : ρ (.tmp 155) = .map (some mb) := by rw [← hρ]; exact hd 6 (by decide) (by decide) fun i _ _ => by simp [hwDead]
          have r156 : ρ (.tmp 156) = .agg #[.int .u32 (t.2.1.1 : Int), .int .i64 t.2.1.2] := by rw [← hρ]; exact hd 7 (by decide) (by decide) fun i _ _ => by simp [hwDead]
          have r166 : ρ (.tmp 166) = val 17 := by rw [← hρ]; rfl
          obtain ⟨A3, c3, e3, hc3, h3⟩ := p17
          rw [e3] at r166 h3
          have hbw : Below wc.heap.size wc wx := ⟨hg.os, hg.tape, hg.output, hg.size, hg.block⟩
          obtain ⟨w5, hr5, hm5, hu5⟩ := (HMC.out.below hbw).put (by have := HNB.out; omega) hq8 HMB.out HPO.out (A := A3) (n := n + 1) (c := c3) (zs := hv zs ++ [t.2.2]) (by rw [List.length_append, ← HRC.out.1]; simp) hc3 (RdI.of_own h3)
          have HM5 : HdM w w5 hb mq (tellsH H (o.take (k + 1))) (N + (k + 1)) := hm5.congr fun q p _ _ => by
            rw [tells_snoc H o HT.out, ← tellH_put, HZS.out]
          have HU5 : Upd (MapU mq) w0 w5 := (HUV.out.trans_ (Upd.ofBelow (HBc.out.trans (hbw.mono HBc.out.size)) _)).trans_ (hu5.mono fun b (e : b = mb) => .inl ⟨t.1, hq8, by rw [e]; exact HMB.out⟩)
          clear hρ hd hs
          refine ifv rfl ?_
          go_simp
          exact hK _ _ ⟨HM5, HU5⟩
        intro val w9 h9
        rw [if_pos (by decide)] at h9
        obtain ⟨hm9, hu9⟩ := h9
        have HM5 := Lib.hid hm9
        have HU5 := Lib.hid hu9
        simp only [putAll]
        simp only [Act.put, List.setIfInBounds_toArray, List.set_cons_succ, List.set_cons_zero]
        clear hm9 hu9
        generalize val 0 = x0, val 1 = x1, val 2 = x2, val 3 = x3, val 4 = x4, val 5 = x5, val 6 = x6, val 7 = x7, val 8 = x8, val 9 = x9, val 10 = x10, val 11 = x11, val 12 = x12, val 13 = x13, val 14 = x14, val 15 = x15, val 16 = x16, val 17 = x17
        clear hi hz0 hz1 hz2 hmb
        go_wp2_with fail
        go_roundg (no + 1 - (k + 1))
        case rel => exact ⟨k + 1, by omega, by omega, by go_num, HM5.out, HU5.out⟩
        case measure => have := HGK.out; omega
    · obtain rfl : k = no := by omega
      clear hgk
      go_wp2_with fail
      have h1 := HM.out
      rw [List.take_of_length_le (by have := HNN.out.1; omega)] at h1
      exact HK.out _ _ _ _ _ _ _ _ _ _ _ _ _ _ _ _ _ _ _ _ _ _ _ _ _ _ _ _ _ _ _ _ _ _ _ _ _ _ _ _ _ _ _ _ _ _ _ h1 HU.out
end Go.Proofs.Ytahdjfegihnolaa
