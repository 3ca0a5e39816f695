/- LinePlays: pieces of its loop. -/
import Derived.Test.YtfckagokeimkmaaLpA
import Derived.Test.YtfckagokeimkmaaLpC
import Derived.Test.YtfckagokeimkmaaKn
import Derived.Deep.DeepCutAuto
import Derived.Deep.CutBlock
import Derived.Deep.LoopGhost
import Derived.Deep.RegionWith
import Derived.Deep.QuietTactic
import Derived.BigQuiet
namespace Go.Proofs.Ytfckagokeimkmaa
open Go.RowKit Go.Sort Go.BigFrame
attribute [local go_sem] Oper.semAt_some

def findBlk (n : Nat) : Code → Option Code
  | .block k c => if k = n then some (.block k c) else findBlk n c
  | .seq a b => match findBlk n a with
    | some c => some c
    | none => findBlk n b
  | .cond _ a b => match findBlk n a with
    | some c => some c
    | none => findBlk n b
  | .loop c => findBlk n c
  | _ => none
noncomputable def lpBlk (n : Nat) : Code := (Try.f6.body.bind (findBlk n)).getD .skip

/-- A piece that ends in nothing but its end. -/
theorem wp_of_calm {P : Program} {c : Code} {Q : Exit → Act → World → Prop} {a : Act} {w : World} (h : c.wp P (Exit.then (fun a w => Q .normal a w) (fun _ _ _ => False)) a w) : c.wp P Q a w :=
  wp_mono h fun e a w h => by cases e <;> first | exact h | exact h.elim

/-- Bytes that may be turned. -/
def U8Row (w : World) (A : Option Addr) (n : Nat) : Prop := 0 < n → ∃ ad, A = some ad ∧ (∃ g, ad = ⟨g, 0, none⟩) ∧ ∀ j, j < n → (∃ z, w.cell? (ad.add j) = some (.int .u8 z)) ∧ w.frozen? (ad.add j) = false
theorem U8Row.set_ {w : World} {ad : Addr} {n k : Nat} {z : Int} (h : U8Row w (some ad) n) : U8Row (w.setCell (ad.add k) (.int .u8 z)) (some ad) n := fun hn => by
  obtain ⟨ad', e, ⟨g, hg⟩, hc⟩ := h hn
  injection e with e
  subst e
  subst hg
  refine ⟨_, rfl, ⟨g, rfl⟩, fun j hj => ⟨?_, (World.frozen?_setCell _ _ _ _).trans (hc j hj).2⟩⟩
  by_cases e : k = j
  · subst e
    obtain ⟨y, hy⟩ := (hc k hj).1
    exact ⟨z, World.cell?_setCell_same _ (v := .int .u8 z) (a := (⟨g, 0, none⟩ : Addr).add k) hy⟩
  · have hne : (⟨g, 0, none⟩ : Addr).add k ≠ (⟨g, 0, none⟩ : Addr).add j := fun h => by
      rw [Addr.add_lit, Addr.add_lit] at h
      injection h with _ h
      omega
    obtain ⟨y, hy⟩ := (hc j hj).1
    exact ⟨y, (World.cell?_setCell_other w _ _ _ hne).trans hy⟩
theorem U8Row.ofOwn {w : World} {base n c : Nat} {A : Option Addr} {x : List UInt8} (h : w.ownsRow base 5 1 (.slice A n c) n (bytesV x)) : U8Row w A n := fun hn => by
  rcases h.2 with ⟨e, _⟩ | ⟨g, cap, cur, e, _, hh, h1, _, h3, h4⟩
  · injection e with _ e
    omega
  · injection e with e1 e2 e3
    subst e1
    refine ⟨_, rfl, ⟨g, rfl⟩, fun j hj => ?_⟩
    rw [Addr.add_lit, Nat.zero_add]
    have hl : (bytesV x).length = n := by simpa using h.1
    have hx : j < x.length := by unfold bytesV at hl; simp at hl; omega
    have hj2 : cur[j]? = (bytesV x)[j]? := by
      rw [← h4, Nat.mul_one, List.getElem?_take_of_lt hj]
      simp
    have hv : (bytesV x)[j]? = some (.int .u8 (x[j].toNat : Int)) := by unfold bytesV; simp [hx]
    exact ⟨⟨(x[j].toNat : Int), by simp [World.cell?, hh, hj2, hv]⟩, by simp [World.frozen?, hh]⟩

/-- The line (xs) beside the window (ss) and the marks. -/
structure LpM (w0 w : World) (b : Nat) (most d : Int) (v : Value) (ss xs : List (List UInt8)) (M I : Nat → Prop) (ms : List Nat) : Prop where
  bel : Below w0.heap.size w0 w
  line : IsLine w M I b most d xs
  ge : ∀ k, M k ∨ I k → w0.heap.size ≤ k
  win : WinS w0.heap.size w v ss
  wn : ∀ k, v.ownBlock = some k → ¬ (M k ∨ I k)
  marks : ∀ D ∈ ms, w.heap[D]? = some (.deferred (some [])) ∧ w0.heap.size ≤ D ∧ ¬ (M D ∨ I D) ∧ v.ownBlock ≠ some D
section
variable {w0 w w2 : World} {b : Nat} {most d d2 : Int} {v v2 : Value} {ss ss2 xs xs2 : List (List UInt8)} {M I M2 I2 : Nat → Prop} {ms : List Nat}
theorem LpM.lt (h : LpM w0 w b most d v ss xs M I ms) {k : Nat} (hk : M k ∨ I k ∨ v.ownBlock = some k ∨ k ∈ ms) : k < w.heap.size := by
  rcases hk with hk | hk | hk | hk
  · exact h.line.ltM k hk
  · exact h.line.ltI k hk
  · exact (h.win.lt hk).2
  · exact (Array.getElem?_eq_some_iff.1 (h.marks k hk).1).1
theorem LpM.later (h : LpM w0 w b most d v ss xs M I ms) (hb : Below w.heap.size w w2) : LpM w0 w2 b most d v ss xs M I ms :=
  ⟨h.bel.trans (hb.mono h.bel.size), h.line.keep (Same.ofBelow hb fun k hk => hk.elim (h.line.ltM k) (h.line.ltI k)), h.ge, h.win.keep (X := fun k => k < w.heap.size) (Same.ofBelow hb fun _ hk => hk) fun _ hk => (h.win.lt hk).2, h.wn,
    fun D hD => ⟨(hb.block D (h.lt (.inr (.inr (.inr hD))))).trans (h.marks D hD).1, (h.marks D hD).2⟩⟩
theorem LpM.line_ (h : LpM w0 w b most d v ss xs M I ms) (hl : IsLine w2 M2 I2 b most d2 xs2) (hu : LineUpd w w2 M M2 I I2) : LpM w0 w2 b most d2 v ss xs2 M2 I2 ms := by
  have hout : ∀ k, k < w.heap.size → ¬ (M k ∨ I k) → ¬ (M2 k ∨ I2 k) := fun k hk hn hh => by
    rcases hh with hh | hh
    · rcases hu.m k hh with h | h
      · exact hn (.inl h)
      · omega
    · rcases hu.i k hh with h | h
      · exact hn (.inr h)
      · omega
  refine ⟨h.bel.trans (hu.upd.below (fun k hk => h.ge k (.inl hk)) h.bel.size), hl, fun k hk => ?_, h.win.keep (X := fun k => ¬ M k) (hu.upd.same fun k hk hn => hn hk) fun k hk hm => h.wn k hk (.inl hm), fun k hk => hout k (h.lt (.inr (.inr (.inl hk)))) (h.wn k hk), fun D hD => ?_⟩
  · have hs := h.bel.size
    rcases hk with hk | hk
    · rcases hu.m k hk with e | e
      · exact h.ge k (.inl e)
      · omega
    · rcases hu.i k hk with e | e
      · exact h.ge k (.inr e)
      · omega
  · obtain ⟨e1, e2, e3, e4⟩ := h.marks D hD
    have hlt := h.lt (.inr (.inr (.inr hD)))
    exact ⟨(hu.upd.block D hlt fun hm => e3 (.inl hm)).trans e1, e2, hout D hlt e3, e4⟩
theorem LpM.win_ (h : LpM w0 w b most d v ss xs M I ms) (hw : WinS w0.heap.size w2 v2 ss2) (hu : Upd (fun k => v.ownBlock = some k) w w2) (hv : ∀ k, v2.ownBlock = some k → v.ownBlock = some k ∨ w.heap.size ≤ k) : LpM w0 w2 b most d v2 ss2 xs M I ms := by
  refine ⟨h.bel.trans (hu.below (fun k hk => (h.win.lt hk).1) h.bel.size), h.line.keep (hu.same fun k hk hm => h.wn k hk hm), h.ge, hw, fun k hk hm => ?_, fun D hD => ?_⟩
  · rcases hv k hk with e | e
    · exact h.wn k e hm
    · have := h.lt (hm.elim .inl fun x => .inr (.inl x))
      omega
  · obtain ⟨e1, e2, e3, e4⟩ := h.marks D hD
    have hlt := h.lt (.inr (.inr (.inr hD)))
    refine ⟨(hu.block D hlt fun e => e4 e).trans e1, e2, e3, fun e => ?_⟩
    rcases hv D e with e | e
    · exact e4 e
    · omega
theorem LpM.far {F : Nat → Prop} (h : LpM w0 w b most d v ss xs M I ms) (hu : Upd F w w2) (hF : ∀ k, F k → w0.heap.size ≤ k ∧ ¬ (M k ∨ I k) ∧ v.ownBlock ≠ some k ∧ k ∉ ms) : LpM w0 w2 b most d v ss xs M I ms :=
  ⟨h.bel.trans (hu.below (fun k hk => (hF k hk).1) h.bel.size), h.line.keep (hu.same fun k hk hm => (hF k hk).2.1 hm), h.ge, h.win.keep (X := fun k => v.ownBlock = some k) (hu.same fun k hk hm => (hF k hk).2.2.1 hm) fun _ hk => hk, h.wn,
    fun D hD => ⟨(hu.block D (h.lt (.inr (.inr (.inr hD)))) fun hf => (hF D hf).2.2.2 hD).trans (h.marks D hD).1, (h.marks D hD).2⟩⟩
end

/-- What stands between the acts. -/
structure LpSt (w0 w : World) (b : Nat) (most d : Int) (v : Value) (ss : List (List UInt8)) (M I : Nat → Prop) (ms : List Nat) : Prop where
  m : LpM w0 w b most d v ss ss M I ms
  le : (ss.length : Int) ≤ most
  sz : ∀ x ∈ ss, x.length ≤ 2048
theorem LpSt.later {w0 w w2 : World} {b : Nat} {most d : Int} {v : Value} {ss : List (List UInt8)} {M I : Nat → Prop} {ms : List Nat} (h : LpSt w0 w b most d v ss M I ms) (hb : Below w.heap.size w w2) : LpSt w0 w2 b most d v ss M I ms := ⟨h.m.later hb, h.le, h.sz⟩
/-- What the switch leaves: only the line's own blocks and the window's have turned. -/
def SwQ (w0 : World) (b : Nat) (most : Int) (M : Nat → Prop) (v : Value) (ms : List Nat) (wc : World) (d : Int) (v2 : Value) (d2 : Int) (wx : World) : Prop :=
  (∃ M2 I2 ss2, LpSt w0 wx b most d2 v2 ss2 M2 I2 ms) ∧ Upd (fun k => M k ∨ v.ownBlock = some k) wc wx ∧ d ≤ d2 ∧ d2 ≤ d + 1

theorem sw_fin {w0 wc w1 w2 w3 wx : World} {b n : Nat} {most d d2 : Int} {v v3 vb : Value} {ss ss3 : List (List UInt8)} {ys : List Value} {M I M2 I2 : Nat → Prop} {ms : List Nat} (st : LpSt w0 wc b most d v ss M I ms) (hb1 : Below wc.heap.size wc w1) (ho1 : w1.ownsRow wc.heap.size 5 1 vb n ys)
    (hup : LineUpd w1 w2 M M2 I I2) (mm : LpM w0 w3 b most d2 v3 ss3 ss3 M2 I2 ms) (h23 : Upd (fun k => v.ownBlock = some k) w2 w3) (hv : ∀ k, v3.ownBlock = some k → v.ownBlock = some k ∨ w2.heap.size ≤ k) (hx : Upd (fun j => vb.ownBlock = some j) w3 wx)
    (hle : (ss3.length : Int) ≤ most) (hsz : ∀ x ∈ ss3, x.length ≤ 2048) (hd : d ≤ d2) (hd2 : d2 ≤ d + 1) : SwQ w0 b most M v ms wc d v3 d2 wx := by
  have hs0 := st.m.bel.size
  have hs1 := hb1.size
  have hs2 := hup.upd.size
  have hg : ∀ g, vb.ownBlock = some g → w0.heap.size ≤ g ∧ ¬ (M2 g ∨ I2 g) ∧ v3.ownBlock ≠ some g ∧ g ∉ ms := fun g hg => by
    have hl := own_lt ho1 hg
    have key : ∀ {P : Prop}, g < wc.heap.size → P := fun h => by omega
    refine ⟨by omega, fun h => ?_, fun h => ?_, fun h => key (st.m.lt (.inr (.inr (.inr h))))⟩
    · rcases h with h | h
      · rcases hup.m g h with h | h
        · exact key (st.m.lt (.inl h))
        · omega
      · rcases hup.i g h with h | h
        · exact key (st.m.lt (.inr (.inl h)))
        · omega
    · rcases hv g h with h | h
      · exact key (st.m.lt (.inr (.inr (.inl h))))
      · omega
  refine ⟨⟨M2, I2, ss3, mm.far hx hg, hle, hsz⟩, ?_, hd, hd2⟩
  refine (((Upd.ofBelow hb1 (fun k => M k ∨ v.ownBlock = some k)).trans (hup.upd) fun i hi => .inl (.inl hi)).trans h23 fun i hi => .inl (.inr hi)).trans hx fun i hi => .inr ?_
  exact (own_lt ho1 hi).1

set_option maxRecDepth 100000 in
set_option maxHeartbeats 8000000 in
theorem lp_inc {u0 u1 u2 u3 u4 u5 u6 u7 u8 u9 u10 u11 u12 u13 u15 u17 u18 u19 u20 u21 u22 u23 u24 u25 u26 u27 u28 u29 u30 u31 u32 u33 u34 u35 u36 u37 u38 u39 u40 u41 u42 u43 u44 u45 u46 u47 u48 u49 u50 u51 u52 u53 u54 u55 u56 u57 u58 u59 u60 u61 u62 u63 u64 u65 u66 u67 u68 u69 u70 u71 u72 u73 u74 u75 u76 u77 u78 u79 u80 u81 u82 u83 u84 u85 u86 u87 u88 u89 u90 u91 u92 u93 u94 u95 u96 u97 u98 u99 u100 u101 u102 u103 u104 u105 u106 u107 u108 u109 u110 u111 u112 u113 u114 u115 u116 u117 u118 u119 u120 u121 u122 u123 u124 u125 u126 u127 u128 u129 u130 u131 u132 u133 u134 u135 u136 u137 u138 u139 u140 u141 u142 u143 u144 u145 u146 u147 u148 u149 u150 u151 u152 u153 u154 u155 u156 u157 u158 u159 u160 u161 u162 u163 u164 u165 u166 u167 u168 u169 u170 u171 u172 u173 u174 u175 u176 u177 u178 u179 u180 u181 u182 u183 u184 u185 u186 u187 u188 u189 u190 u191 u192 u193 u194 u195 u196 u197 u198 u199 : Value} {ds : List Deferred} {Q : Exit → Act → World → Prop} {wc : World} {A : Option Addr} {n c : Nat} (h : U8Row wc A n) (hn : n ≤ 140737488355328)
    (hK : ∀ (x16 x100 x101 x102 x103 x104 x105 x106 x107 x108 x109 x110 x111 : Value) (wx : World), Upd (fun j => (Value.slice A n c).ownBlock = some j) wc wx → Q .normal ⟨#[u0, u1, u2, u3, u4, u5, u6, u7, u8, u9, u10, u11, u12, u13, .slice A n c, u15, x16, u17, u18, u19, u20, u21, u22, u23, u24, u25, u26, u27, u28, u29, u30, u31, u32, u33, u34, u35, u36, u37, u38, u39, u40, u41, u42, u43, u44, u45, u46, u47, u48, u49, u50, u51, u52, u53, u54, u55, u56, u57, u58, u59, u60, u61, u62, u63, u64, u65, u66, u67, u68, u69, u70, u71, u72, u73, u74, u75, u76, u77, u78, u79, u80, u81, u82, u83, u84, u85, u86, u87, u88, u89, u90, u91, u92, u93, u94, u95, u96, u97, u98, u99, x100, x101, x102, x103, x104, x105, x106, x107, x108, x109, x110, x111, u112, u113, u114, u115, u116, u117, u118, u119, u120, u121, u122, u123, u124, u125, u126, u127, u128, u129, u130, u131, u132, u133, u134, u135, u136, u137, u138, u139, u140, u141, u142, u143, u144, u145, u146, u147, u148, u149, u150, u151, u152, u153, u154, u155, u156, u157, u158, u159, u160, u161, u162, u163, u164, u165, u166, u167, u168, u169, u170, u171, u172, u173, u174, u175, u176, u177, u178, u179, u180, u181, u182, u183, u184, u185, u186, u187, u188, u189, u190, u191, u192, u193, u194, u195, u196, u197, u198, u199], ds⟩ wx) :
    Code.wp Try.prog (lpBlk 4) Q ⟨#[u0, u1, u2, u3, u4, u5, u6, u7, u8, u9, u10, u11, u12, u13, .slice A n c, u15, .int .i64 0, u17, u18, u19, u20, u21, u22, u23, u24, u25, u26, u27, u28, u29, u30, u31, u32, u33, u34, u35, u36, u37, u38, u39, u40, u41, u42, u43, u44, u45, u46, u47, u48, u49, u50, u51, u52, u53, u54, u55, u56, u57, u58, u59, u60, u61, u62, u63, u64, u65, u66, u67, u68, u69, u70, u71, u72, u73, u74, u75, u76, u77, u78, u79, u80, u81, u82, u83, u84, u85, u86, u87, u88, u89, u90, u91, u92, u93, u94, u95, u96, u97, u98, u99, u100, u101, u102, u103, u104, u105, u106, u107, u108, u109, u110, u111, u112, u113, u114, u115, u116, u117, u118, u119, u120, u121, u122, u123, u124, u125, u126, u127, u128, u129, u130, u131, u132, u133, u134, u135, u136, u137, u138, u139, u140, u141, u142, u143, u144, u145, u146, u147, u148, u149, u150, u151, u152, u153, u154, u155, u156, u157, u158, u159, u160, u161, u162, u163, u164, u165, u166, u167, u168, u169, u170, u171, u172, u173, u174, u175, u176, u177, u178, u179, u180, u181, u182, u183, u184, u185, u186, u187, u188, u189, u190, u191, u192, u193, u194, u195, u196, u197, u198, u199], ds⟩ wc := by
  have HU := Lib.hid h
  have HK := Lib.hid hK
  clear h hK
  refine wp_of_calm ?_
  conv => arg 2; whnf
  go_wp2_with fail
  go_loopw [16] (fun i wr => ∃ k : Nat, k ≤ n ∧ i = .int .i64 (k : Int) ∧ U8Row wr A n ∧ Upd (fun j => (Value.slice A n c).ownBlock = some j) wc wr) (fun i _ => n - (intOf i).toNat)
  case atStart => exact ⟨0, Nat.zero_le _, rfl, HU.out, Upd.refl _ _⟩
  case round =>
    obtain ⟨k, hk, rfl, hu, hp⟩ := hrel
    by_cases hlt : k < n
    · obtain ⟨ad, rfl, hg, hc⟩ := hu (by omega)
      obtain ⟨⟨z, hz⟩, hf⟩ := hc k hlt
      have hi0 : (0 : Int) ≤ k := by omega
      have hi1 : (k : Int) < n := by omega
      have HU2 := Lib.hid hu
      have HP := Lib.hid hp
      have HG := Lib.hid hg
      clear hu hp hc hg
      go_wp2_with fail
      go_roundw
      case rel => exact ⟨k + 1, by omega, by simp, HU2.out.set_, HP.out.setCell (p := ad.add k) (.inl (by obtain ⟨g, rfl⟩ := HG.out; rw [Addr.add_lit]; rfl)) _⟩
      case measure => simp [intOf]; omega
    · obtain rfl : k = n := by omega
      have HP := Lib.hid hp
      clear hu hp
      go_wp2_with fail
      exact HK.out _ _ _ _ _ _ _ _ _ _ _ _ _ _ HP.out

set_option maxRecDepth 100000 in
set_option maxHeartbeats 8000000 in
theorem lp_rng {u0 u1 u2 u3 u4 u5 u6 u7 u8 u9 u10 u11 u12 u14 u15 u16 u17 u18 u20 u21 u22 u23 u24 u25 u26 u27 u28 u29 u30 u31 u32 u33 u34 u35 u36 u37 u38 u39 u40 u41 u42 u43 u44 u45 u46 u47 u48 u49 u50 u51 u52 u53 u54 u55 u56 u57 u58 u59 u60 u61 u62 u63 u64 u65 u66 u67 u68 u69 u70 u71 u72 u73 u74 u75 u76 u77 u78 u79 u80 u81 u82 u83 u84 u85 u86 u87 u88 u89 u90 u91 u92 u93 u94 u95 u96 u97 u98 u99 u100 u101 u102 u103 u104 u105 u106 u107 u108 u109 u110 u111 u112 u113 u114 u115 u116 u117 u118 u119 u120 u121 u122 u123 u124 u125 u126 u127 u128 u129 u130 u131 u132 u133 u134 u135 u136 u137 u138 u139 u140 u141 u142 u143 u144 u145 u146 u147 u148 u149 u150 u151 u152 u153 u154 u155 u156 u157 u158 u159 u160 u161 u162 u163 u164 u165 u166 u167 u168 u169 u170 u171 u173 u174 u175 u176 u177 u178 u179 u180 u181 u182 u183 u184 u185 u186 u187 u188 u189 u190 u191 u192 u193 u194 u195 u196 u197 u198 u199 : Value} {ds : List Deferred} {Q : Exit → Act → World → Prop} {wk wc : World} {Bx wb cw : Nat} {Aw : Option Addr} {J : Nat → Prop} {xs : List (List UInt8)}
    (hst : SeqFit Fence.wide 4 Try.prog 24 #[.pointer (some ⟨Bx, 0, none⟩)] lnV (Same J) (fun ys => ys.length = xs.length) (fun _ => True) (LnFit xs) wk) (hJ : ∀ k, J k → k < wk.heap.size)
    (hwc : Below wk.heap.size wk wc) (hkb : Blk wc wk.heap.size 3 #[.int .i64 0]) (hwb : Blk wk wb 29 #[.slice Aw xs.length cw]) (hrw : Reads wk (fun k => k < wk.heap.size) 1 Aw xs.length (xs.map strV)) (hn : xs.length ≤ 64)
    (hK : ∀ (D : Nat) (wx : World), Below wk.heap.size wk wx → Blk wx wk.heap.size 3 #[.int .i64 (xs.length : Int)] → wk.heap.size ≤ D → wx.heap[D]? = some (.deferred (some [])) → Q .normal ⟨#[u0, u1, u2, u3, u4, u5, u6, u7, u8, u9, u10, u11, u12, .pointer (some ⟨wb, 0, none⟩), u14, u15, u16, u17, u18, .pointer (some ⟨wk.heap.size, 0, none⟩), u20, u21, u22, u23, u24, u25, u26, u27, u28, u29, u30, u31, u32, u33, u34, u35, u36, u37, u38, u39, u40, u41, u42, u43, u44, u45, u46, u47, u48, u49, u50, u51, u52, u53, u54, u55, u56, u57, u58, u59, u60, u61, u62, u63, u64, u65, u66, u67, u68, u69, u70, u71, u72, u73, u74, u75, u76, u77, u78, u79, u80, u81, u82, u83, u84, u85, u86, u87, u88, u89, u90, u91, u92, u93, u94, u95, u96, u97, u98, u99, u100, u101, u102, u103, u104, u105, u106, u107, u108, u109, u110, u111, u112, u113, u114, u115, u116, u117, u118, u119, u120, u121, u122, u123, u124, u125, u126, u127, u128, u129, u130, u131, u132, u133, u134, u135, u136, u137, u138, u139, u140, u141, u142, u143, u144, u145, u146, u147, u148, u149, u150, u151, u152, u153, u154, u155, u156, u157, u158, u159, u160, u161, u162, u163, u164, u165, u166, u167, u168, u169, u170, u171, .func (.func 24) #[] #[.pointer (some ⟨Bx, 0, none⟩)], u173, u174, u175, u176, u177, u178, u179, u180, u181, u182, u183, u184, u185, u186, u187, u188, u189, u190, u191, u192, u193, u194, u195, u196, u197, u198, u199], { target := .collected D, args := #[] } :: ds⟩ wx) :
    Code.wp Try.prog (lpBlk 6) Q ⟨#[u0, u1, u2, u3, u4, u5, u6, u7, u8, u9, u10, u11, u12, .pointer (some ⟨wb, 0, none⟩), u14, u15, u16, u17, u18, .pointer (some ⟨wk.heap.size, 0, none⟩), u20, u21, u22, u23, u24, u25, u26, u27, u28, u29, u30, u31, u32, u33, u34, u35, u36, u37, u38, u39, u40, u41, u42, u43, u44, u45, u46, u47, u48, u49, u50, u51, u52, u53, u54, u55, u56, u57, u58, u59, u60, u61, u62, u63, u64, u65, u66, u67, u68, u69, u70, u71, u72, u73, u74, u75, u76, u77, u78, u79, u80, u81, u82, u83, u84, u85, u86, u87, u88, u89, u90, u91, u92, u93, u94, u95, u96, u97, u98, u99, u100, u101, u102, u103, u104, u105, u106, u107, u108, u109, u110, u111, u112, u113, u114, u115, u116, u117, u118, u119, u120, u121, u122, u123, u124, u125, u126, u127, u128, u129, u130, u131, u132, u133, u134, u135, u136, u137, u138, u139, u140, u141, u142, u143, u144, u145, u146, u147, u148, u149, u150, u151, u152, u153, u154, u155, u156, u157, u158, u159, u160, u161, u162, u163, u164, u165, u166, u167, u168, u169, u170, u171, .func (.func 24) #[] #[.pointer (some ⟨Bx, 0, none⟩)], u173, u174, u175, u176, u177, u178, u179, u180, u181, u182, u183, u184, u185, u186, u187, u188, u189, u190, u191, u192, u193, u194, u195, u196, u197, u198, u199], ds⟩ wc := by
  have HST := Lib.hid hst
  have HJ := Lib.hid hJ
  have HWC := Lib.hid hwc
  have HKB := Lib.hid hkb
  have HWB := Lib.hid hwb
  have HRW := Lib.hid hrw
  have HK := Lib.hid hK
  obtain ⟨m, hm⟩ : ∃ m, m = xs.length := ⟨_, rfl⟩
  have hwl := hwb.lt
  rw [← hm] at HWB HRW hn HST
  have HM := Lib.hid hm
  clear hst hJ hwc hkb hwb hrw hK hm
  refine wp_of_calm ?_
  conv => arg 2; whnf
  go_wp2_with fail
  refine (wpIn_wide (n := 5)).1 ?_
  refine wpIn_range_fit rfl (by omega) (gf := 24) (lb := #[.pointer (some ⟨Bx, 0, none⟩)]) rfl trivial (enters_of Try.func24 (by kernel_rfl) rfl) HST.out (fun h k => same_t h k) (fun W l o o' hl h h1 h2 => same_b (w := wk) HJ.out W l o o' (Nat.le_trans HWC.out.size hl) h h1 h2) HWC.out (fun _ => rfl)
    (fun pre W => Below wk.heap.size wk W ∧ Blk W wk.heap.size 3 #[.int .i64 (pre.length : Int)]) (fun _ _ _ => False)
    (fun pre W W' row hs hg hr => ⟨hs.1.grown hg hs.1.size fun r e => Nat.le_trans HWC.out.size (hr r e).1, blk_own hs.2 hg fun r e => (hr r e).2⟩) (fun _ _ _ _ _ hs _ _ => hs) ⟨HWC.out, HKB.out⟩
    (fun t pre x a' W => LnFit xs pre x W ∧ a' = { tmps := ((((t.setIfInBounds 173 (.int .i64 (x.1 : Int))).setIfInBounds 174 (.slice x.2.1 x.2.2.2.length x.2.2.1)).setIfInBounds 20 (.int .i64 (x.1 : Int))).setIfInBounds 21 (.slice x.2.1 x.2.2.2.length x.2.2.1)), defers := [] })
    (fun pre x a' _ W W' row hs hg hr => ⟨⟨hs.1.1, hs.1.2.1, own_own hs.1.2.2 hg fun r e => (hr r e).2⟩, hs.2⟩) ?assign ?body ?done ?stop
  case assign =>
    intro l pre x W K hi hfit hsz hK
    simp only [lnV]
    gi_wp2
    exact hK _ _ (KeepsFrom.refl _ _) (Same.refl _ _) hi ⟨hfit, rfl⟩
  case body =>
    rintro l pre x a' W hl ⟨rr, hr⟩ ⟨hbl, hkk⟩ ⟨⟨hf1, hf2, hf3⟩, rfl⟩
    obtain ⟨k, hk⟩ : ∃ k, k = pre.length := ⟨_, rfl⟩
    obtain ⟨i, A, c, y⟩ := x
    simp only at hf1 hf2 hf3 ⊢
    obtain rfl : i = k := by rw [hf1, hk]
    rw [← hk] at hf2 hkk
    have hkm : i < m := by rw [HM.out]; exact (List.getElem?_eq_some_iff.1 hf2).1
    obtain ⟨ad, rfl, _, hadl, hc⟩ := HRW.out.2 (by omega)
    have hyc : W.cell? (ad.add i) = some (.string ⟨y.toArray⟩) := (hbl.cell (by rw [block_of_add]; exact hadl)).trans (by have := hc i (strV y) (by simp [hf2]); simpa [strV] using this)
    have hrd : Reads W (fun _ => True) 1 A y.length (bytesV y) := Reads.of_own hf3 fun _ _ => trivial
    have hstr := fun wx (e : wx.heap = W.heap) => run_str wx (fun _ => True) A y c (hrd.keep (Same.ofHeap _ e))
    have hwb2 : W.cell? ⟨wb, 0, none⟩ = some (.slice (some ad) m cw) := (HWB.out.below hbl hwl).cell 0
    have hk2 : W.cell? ⟨wk.heap.size, 0, none⟩ = some (.int .i64 (i : Int)) := hkk.cell 0
    have hi0 : (0 : Int) ≤ i := by omega
    have hi1 : (i : Int) < m := by omega
    have hd1 : decide (i < m) = true := decide_eq_true hkm
    have hd2 : decide (m ≤ i) = false := decide_eq_false (by omega)
    have hd3 : decide ((m : Int) ≤ (i : Int)) = false := decide_eq_false (by omega)
    have HBL := Lib.hid hbl
    have HKK := Lib.hid hkk
    have HPK := Lib.hid hk
    clear hbl hkk hk hf1 hf2 hf3 hc hrd
    simp only [List.setIfInBounds_toArray, List.set_cons_zero, List.set_cons_succ]
    gi_wp2_with fail
    refine wpIn_region_plain (fun _ => trivial) (by kernel_rfl) (by kernel_rfl) (by kernel_rfl) ?_
    repeat (go_big_quiet_step ((rw [hstr (W.drewN _) rfl]; exact ⟨rfl, rfl⟩)))
    refine wpQuiet_nil ?_
    rintro _ ⟨dq, rfl⟩
    have hkq := (HKK.out.drewN dq)
    have hbq : Below wk.heap.size wk (W.drewN dq) := HBL.out.trans ⟨rfl, rfl, rfl, Nat.le_refl _, fun _ _ => rfl⟩
    have n3 : (W.drewN dq).cell? ⟨wk.heap.size, 0, none⟩ = some (.int .i64 (i : Int)) := hkq.cell 0
    have f3 : (W.drewN dq).frozen? ⟨wk.heap.size, 0, none⟩ = false := hkq.frozen 0
    have HKQ := Lib.hid hkq
    have HBQ := Lib.hid hbq
    have HWV := Lib.hid ((Upd.refl (only wk.heap.size) W).drewN dq)
    clear hkq hbq
    generalize W.drewN dq = V at HKQ HBQ HWV n3 f3 ⊢
    gi_wp2_with fail
    have hu9 := HWV.out.set_ 0 (.int .i64 ((i : Int) + 1))
    refine ⟨keeps_of_cells _ hu9 fun j hj _ => ⟨_, _, hj ▸ HKK.out⟩, hu9.same fun j (hj : j = _) hi => by have := HJ.out j hi; omega, HBQ.out.setCell (p := ⟨wk.heap.size, 0, none⟩) (Nat.le_refl _) _, ?_⟩
    rw [List.length_append, ← HPK.out]
    have := HKQ.out.set_ 0 (.int .i64 ((i : Int) + 1))
    simpa using this
  case stop =>
    rintro D c pre W hD _ h
    exact h.elim
  case done =>
    rintro D ys W hD hys ⟨hbl, hkk⟩ hdd
    rw [hys] at hkk
    gi_wp2_with fail
    exact HK.out D W hbl (by rw [← HM.out]; exact hkk) (Nat.le_trans HWC.out.size hD) hdd

set_option maxRecDepth 100000 in
set_option maxHeartbeats 8000000 in
theorem lp_sw0 {u1 u2 u3 u4 u6 u9 u10 u11 u12 u13 u14 u15 u16 u17 u18 u19 u20 u21 u22 u23 u24 u25 u26 u27 u28 u29 u30 u31 u32 u33 u34 u35 u36 u37 u38 u39 u40 u41 u42 u43 u44 u45 u46 u47 u48 u49 u50 u51 u52 u53 u54 u55 u56 u57 u58 u59 u60 u61 u62 u63 u64 u65 u67 u68 u69 u70 u71 u72 u73 u74 u75 u76 u77 u78 u79 u80 u81 u82 u83 u84 u85 u86 u87 u88 u89 u90 u91 u92 u93 u94 u95 u96 u97 u98 u99 u100 u101 u102 u103 u104 u105 u106 u107 u108 u109 u110 u111 u112 u113 u114 u115 u116 u117 u118 u119 u120 u121 u122 u123 u124 u125 u126 u127 u128 u129 u130 u131 u132 u133 u134 u135 u136 u137 u138 u139 u140 u141 u142 u143 u144 u145 u146 u147 u148 u149 u150 u151 u152 u153 u154 u155 u156 u157 u158 u159 u160 u161 u162 u163 u164 u165 u166 u167 u168 u169 u170 u171 u172 u173 u174 u175 u176 u177 u178 u179 u180 u181 u182 u183 u184 u185 u186 u187 u188 u189 u190 u191 u192 u193 u194 u195 u196 u197 u198 u199 : Value} {ds : List Deferred} {Q : Exit → Act → World → Prop} {w0 wc : World} {b : Nat} {most d kd : Int} {v : Value} {ss : List (List UInt8)} {M I : Nat → Prop} {ms : List Nat} (st : LpSt w0 wc b most d v ss M I ms) (h1 : kd ≠ 1) (h2 : kd ≠ 2)
    (hK : ∀ (x14 x15 x16 x17 x18 x67 x68 x69 x70 x71 x72 x73 x74 x75 x76 x77 x78 x79 x80 x81 x82 x83 x84 x85 x86 x87 x88 x89 x90 x91 x92 x93 x94 x95 x96 x97 x98 x99 x100 x101 x102 x103 x104 x105 x106 x107 x108 x109 x110 x111 x112 x113 x114 x115 x116 x117 x118 x119 x120 x121 x122 x123 x124 x125 x126 x127 x128 x129 x130 x131 x132 x133 x134 x135 x136 x137 x138 x139 x140 x141 x142 x143 x144 x145 x146 : Value) (v2 : Value) (d2 : Int) (wx : World), SwQ w0 b most M v ms wc d v2 d2 wx → Q .normal ⟨#[.int .i64 most, u1, u2, u3, u4, .pointer (some ⟨b, 0, none⟩), u6, v2, .int .i64 d2, u9, u10, u11, u12, u13, x14, x15, x16, x17, x18, u19, u20, u21, u22, u23, u24, u25, u26, u27, u28, u29, u30, u31, u32, u33, u34, u35, u36, u37, u38, u39, u40, u41, u42, u43, u44, u45, u46, u47, u48, u49, u50, u51, u52, u53, u54, u55, u56, u57, u58, u59, u60, u61, u62, u63, u64, u65, .int .i64 kd, x67, x68, x69, x70, x71, x72, x73, x74, x75, x76, x77, x78, x79, x80, x81, x82, x83, x84, x85, x86, x87, x88, x89, x90, x91, x92, x93, x94, x95, x96, x97, x98, x99, x100, x101, x102, x103, x104, x105, x106, x107, x108, x109, x110, x111, x112, x113, x114, x115, x116, x117, x118, x119, x120, x121, x122, x123, x124, x125, x126, x127, x128, x129, x130, x131, x132, x133, x134, x135, x136, x137, x138, x139, x140, x141, x142, x143, x144, x145, x146, u147, u148, u149, u150, u151, u152, u153, u154, u155, u156, u157, u158, u159, u160, u161, u162, u163, u164, u165, u166, u167, u168, u169, u170, u171, u172, u173, u174, u175, u176, u177, u178, u179, u180, u181, u182, u183, u184, u185, u186, u187, u188, u189, u190, u191, u192, u193, u194, u195, u196, u197, u198, u199], ds⟩ wx) :
    Code.wp Try.prog (lpBlk 2) Q ⟨#[.int .i64 most, u1, u2, u3, u4, .pointer (some ⟨b, 0, none⟩), u6, v, .int .i64 d, u9, u10, u11, u12, u13, u14, u15, u16, u17, u18, u19, u20, u21, u22, u23, u24, u25, u26, u27, u28, u29, u30, u31, u32, u33, u34, u35, u36, u37, u38, u39, u40, u41, u42, u43, u44, u45, u46, u47, u48, u49, u50, u51, u52, u53, u54, u55, u56, u57, u58, u59, u60, u61, u62, u63, u64, u65, .int .i64 kd, u67, u68, u69, u70, u71, u72, u73, u74, u75, u76, u77, u78, u79, u80, u81, u82, u83, u84, u85, u86, u87, u88, u89, u90, u91, u92, u93, u94, u95, u96, u97, u98, u99, u100, u101, u102, u103, u104, u105, u106, u107, u108, u109, u110, u111, u112, u113, u114, u115, u116, u117, u118, u119, u120, u121, u122, u123, u124, u125, u126, u127, u128, u129, u130, u131, u132, u133, u134, u135, u136, u137, u138, u139, u140, u141, u142, u143, u144, u145, u146, u147, u148, u149, u150, u151, u152, u153, u154, u155, u156, u157, u158, u159, u160, u161, u162, u163, u164, u165, u166, u167, u168, u169, u170, u171, u172, u173, u174, u175, u176, u177, u178, u179, u180, u181, u182, u183, u184, u185, u186, u187, u188, u189, u190, u191, u192, u193, u194, u195, u196, u197, u198, u199], ds⟩ wc := by
  have ST := Lib.hid st
  have HK := Lib.hid hK
  have b1 : (kd == 1) = false := beq_eq_false_iff_ne.2 h1
  have b2 : (kd == 2) = false := beq_eq_false_iff_ne.2 h2
  clear st hK h1 h2
  refine wp_of_calm ?_
  conv => arg 2; whnf
  go_wp2_with fail
  exact HK.out _ _ _ _ _ _ _ _ _ _ _ _ _ _ _ _ _ _ _ _ _ _ _ _ _ _ _ _ _ _ _ _ _ _ _ _ _ _ _ _ _ _ _ _ _ _ _ _ _ _ _ _ _ _ _ _ _ _ _ _ _ _ _ _ _ _ _ _ _ _ _ _ _ _ _ _ _ _ _ _ _ _ _ _ _ v d wc ⟨⟨M, I, ss, ST.out⟩, Upd.refl _ _, by omega, by omega⟩

set_option maxRecDepth 100000 in
set_option maxHeartbeats 8000000 in
theorem lp_sw2 {u1 u2 u3 u4 u6 u9 u10 u11 u12 u13 u14 u15 u16 u17 u18 u19 u20 u21 u22 u23 u24 u25 u26 u27 u28 u29 u30 u31 u32 u33 u34 u35 u36 u37 u38 u39 u40 u41 u42 u43 u44 u45 u46 u47 u48 u49 u50 u51 u52 u53 u54 u55 u56 u57 u58 u59 u60 u61 u62 u63 u64 u65 u67 u68 u69 u70 u71 u72 u73 u74 u75 u76 u77 u78 u79 u80 u81 u82 u83 u84 u85 u86 u87 u88 u89 u90 u91 u92 u93 u94 u95 u96 u97 u98 u99 u100 u101 u102 u103 u104 u105 u106 u107 u108 u109 u110 u111 u112 u113 u114 u115 u116 u117 u118 u119 u120 u121 u122 u123 u124 u125 u126 u127 u128 u129 u130 u131 u132 u133 u134 u135 u136 u137 u138 u139 u140 u141 u142 u143 u144 u145 u146 u147 u148 u149 u150 u151 u152 u153 u154 u155 u156 u157 u158 u159 u160 u161 u162 u163 u164 u165 u166 u167 u168 u169 u170 u171 u172 u173 u174 u175 u176 u177 u178 u179 u180 u181 u182 u183 u184 u185 u186 u187 u188 u189 u190 u191 u192 u193 u194 u195 u196 u197 u198 u199 : Value} {ds : List Deferred} {Q : Exit → Act → World → Prop} {w0 wc : World} {b : Nat} {most d : Int} {v : Value} {ss : List (List UInt8)} {M I : Nat → Prop} {ms : List Nat} (st : LpSt w0 wc b most d v ss M I ms) (hmo : most ≤ 64)
    (hK : ∀ (x14 x15 x16 x17 x18 x67 x68 x69 x70 x71 x72 x73 x74 x75 x76 x77 x78 x79 x80 x81 x82 x83 x84 x85 x86 x87 x88 x89 x90 x91 x92 x93 x94 x95 x96 x97 x98 x99 x100 x101 x102 x103 x104 x105 x106 x107 x108 x109 x110 x111 x112 x113 x114 x115 x116 x117 x118 x119 x120 x121 x122 x123 x124 x125 x126 x127 x128 x129 x130 x131 x132 x133 x134 x135 x136 x137 x138 x139 x140 x141 x142 x143 x144 x145 x146 : Value) (v2 : Value) (d2 : Int) (wx : World), SwQ w0 b most M v ms wc d v2 d2 wx → Q .normal ⟨#[.int .i64 most, u1, u2, u3, u4, .pointer (some ⟨b, 0, none⟩), u6, v2, .int .i64 d2, u9, u10, u11, u12, u13, x14, x15, x16, x17, x18, u19, u20, u21, u22, u23, u24, u25, u26, u27, u28, u29, u30, u31, u32, u33, u34, u35, u36, u37, u38, u39, u40, u41, u42, u43, u44, u45, u46, u47, u48, u49, u50, u51, u52, u53, u54, u55, u56, u57, u58, u59, u60, u61, u62, u63, u64, u65, .int .i64 2, x67, x68, x69, x70, x71, x72, x73, x74, x75, x76, x77, x78, x79, x80, x81, x82, x83, x84, x85, x86, x87, x88, x89, x90, x91, x92, x93, x94, x95, x96, x97, x98, x99, x100, x101, x102, x103, x104, x105, x106, x107, x108, x109, x110, x111, x112, x113, x114, x115, x116, x117, x118, x119, x120, x121, x122, x123, x124, x125, x126, x127, x128, x129, x130, x131, x132, x133, x134, x135, x136, x137, x138, x139, x140, x141, x142, x143, x144, x145, x146, u147, u148, u149, u150, u151, u152, u153, u154, u155, u156, u157, u158, u159, u160, u161, u162, u163, u164, u165, u166, u167, u168, u169, u170, u171, u172, u173, u174, u175, u176, u177, u178, u179, u180, u181, u182, u183, u184, u185, u186, u187, u188, u189, u190, u191, u192, u193, u194, u195, u196, u197, u198, u199], ds⟩ wx) :
    Code.wp Try.prog (lpBlk 2) Q ⟨#[.int .i64 most, u1, u2, u3, u4, .pointer (some ⟨b, 0, none⟩), u6, v, .int .i64 d, u9, u10, u11, u12, u13, u14, u15, u16, u17, u18, u19, u20, u21, u22, u23, u24, u25, u26, u27, u28, u29, u30, u31, u32, u33, u34, u35, u36, u37, u38, u39, u40, u41, u42, u43, u44, u45, u46, u47, u48, u49, u50, u51, u52, u53, u54, u55, u56, u57, u58, u59, u60, u61, u62, u63, u64, u65, .int .i64 2, u67, u68, u69, u70, u71, u72, u73, u74, u75, u76, u77, u78, u79, u80, u81, u82, u83, u84, u85, u86, u87, u88, u89, u90, u91, u92, u93, u94, u95, u96, u97, u98, u99, u100, u101, u102, u103, u104, u105, u106, u107, u108, u109, u110, u111, u112, u113, u114, u115, u116, u117, u118, u119, u120, u121, u122, u123, u124, u125, u126, u127, u128, u129, u130, u131, u132, u133, u134, u135, u136, u137, u138, u139, u140, u141, u142, u143, u144, u145, u146, u147, u148, u149, u150, u151, u152, u153, u154, u155, u156, u157, u158, u159, u160, u161, u162, u163, u164, u165, u166, u167, u168, u169, u170, u171, u172, u173, u174, u175, u176, u177, u178, u179, u180, u181, u182, u183, u184, u185, u186, u187, u188, u189, u190, u191, u192, u193, u194, u195, u196, u197, u198, u199], ds⟩ wc := by
  have HK := Lib.hid hK
  have HMO := Lib.hid hmo
  clear hmo
  obtain ⟨A, c, rfl, hlc, hcm, hag, hcell⟩ := st.m.win
  cases ss with
  | nil =>
    have HG := Lib.hid (get_no M I b most d wc st.m.line)
    have ST := Lib.hid st
    clear st hK hcell hag hlc hcm
    refine wp_of_calm ?_
    conv => arg 2; whnf
    go_wp2_with fail
    refine HG.out.mono ?_
    rintro e w1 ⟨rfl, rfl⟩
    go_upto_region 37 with fail
    go_quiet (fail)
    go_wp2_with fail
    exact HK.out _ _ _ _ _ _ _ _ _ _ _ _ _ _ _ _ _ _ _ _ _ _ _ _ _ _ _ _ _ _ _ _ _ _ _ _ _ _ _ _ _ _ _ _ _ _ _ _ _ _ _ _ _ _ _ _ _ _ _ _ _ _ _ _ _ _ _ _ _ _ _ _ _ _ _ _ _ _ _ _ _ _ _ _ _ _ d _ ⟨⟨M, I, [], ST.out.later ⟨rfl, rfl, rfl, Nat.le_refl _, fun _ _ => rfl⟩⟩, (Upd.refl _ _).drewN nq, by omega, by omega⟩
  | cons x rest =>
    obtain ⟨g, o, rfl, hc1, hc2⟩ := hcell (by simp at hlc; omega)
    have hle := st.le
    have hlc' : rest.length + 1 ≤ c := by simpa using hlc
    have HG := Lib.hid (get_yes M I b most d x rest wc st.m.line (by simp at hle; have := HMO.out; omega))
    have ST := Lib.hid st
    obtain ⟨m, hm⟩ : ∃ m, m = rest.length := ⟨_, rfl⟩
    have HM := Lib.hid hm
    simp only [List.length_cons]
    rw [← hm] at hlc' ⊢
    have hd0 : decide (0 < m + 1) = true := decide_eq_true (by omega)
    have hd1 : decide ((0 : Int) < (m : Int) + 1) = true := decide_eq_true (by omega)
    clear st hK hcell hag hlc hcm hle hm hc1 hc2
    refine wp_of_calm ?_
    conv => arg 2; whnf
    go_wp2_with fail
    refine HG.out.mono ?_
    rintro e w1 ⟨u, M2, rfl, hu, hl2, hup⟩
    obtain ⟨Ax, cx, rfl, _⟩ := own_form hu.1
    have mm := ST.out.m.line_ hl2 hup
    have MM := Lib.hid mm
    have HUP := Lib.hid hup.upd
    have hst := fun wx (e : wx.heap = w1.heap) => run_str wx _ Ax x cx ((Reads.of_own hu.1 hu.2).keep (Same.ofHeap _ e))
    obtain ⟨A', c', e', _, _, _, hcell⟩ := mm.win
    injection e' with e1 e2 e3
    subst e1; subst e3
    obtain ⟨g', o', e', hc1, _⟩ := hcell (by omega)
    injection e' with e'
    injection e' with e1 e2
    subst e1; subst e2
    have q0 : w1.cell? ⟨g, o, none⟩ = some (.string ⟨x.toArray⟩) := by have := hc1 0 (strV x) (by simp); simpa [strV] using this
    clear hu hl2 hup mm hcell hc1
    go_upto_region 37 with fail
    go_quiet ((rw [hst (w1.drewN _) rfl]; exact ⟨rfl, rfl⟩))
    have MQ := Lib.hid (MM.out.later (w2 := w1.drewN nq) ⟨rfl, rfl, rfl, Nat.le_refl _, fun _ _ => rfl⟩)
    have UQ := Lib.hid (HUP.out.drewN nq)
    clear q0 hst hd0 hd1
    go_wp2_with fail
    case inr =>
      have hw := MQ.out.win
      have hw2 : WinS w0.heap.size (w1.drewN nq) (.slice (some ⟨g, o + 1, none⟩) m (c - 1)) rest := by rw [HM.out]; exact hw.tail1
      exact HK.out _ _ _ _ _ _ _ _ _ _ _ _ _ _ _ _ _ _ _ _ _ _ _ _ _ _ _ _ _ _ _ _ _ _ _ _ _ _ _ _ _ _ _ _ _ _ _ _ _ _ _ _ _ _ _ _ _ _ _ _ _ _ _ _ _ _ _ _ _ _ _ _ _ _ _ _ _ _ _ _ _ _ _ _ _ _ d _ ⟨⟨M2, I, rest, MQ.out.win_ hw2 (Upd.refl _ _) (fun k hk => .inl hk), by have := ST.out.le; simp at this; omega, fun y hy => ST.out.sz y (List.mem_cons_of_mem _ hy)⟩, UQ.out.mono fun k hk => .inl (.inl hk), by omega, by omega⟩
    case inl =>
      have hc : c = 1 := by assumption
      obtain rfl : m = 0 := by omega
      subst hc
      obtain ⟨hr, hw2⟩ := MQ.out.win.tail0
      subst hr
      exact HK.out _ _ _ _ _ _ _ _ _ _ _ _ _ _ _ _ _ _ _ _ _ _ _ _ _ _ _ _ _ _ _ _ _ _ _ _ _ _ _ _ _ _ _ _ _ _ _ _ _ _ _ _ _ _ _ _ _ _ _ _ _ _ _ _ _ _ _ _ _ _ _ _ _ _ _ _ _ _ _ _ _ _ _ _ _ _ d _ ⟨⟨M2, I, [], MQ.out.win_ hw2 (Upd.refl _ _) (fun k hk => .inl hk), by have := ST.out.le; simp at this ⊢; omega, fun y hy => by cases hy⟩, UQ.out.mono fun k hk => .inl (.inl hk), by omega, by omega⟩

set_option maxRecDepth 100000 in
set_option maxHeartbeats 8000000 in
theorem lp_sw1 {u2 u3 u4 u6 u10 u11 u12 u13 u14 u15 u16 u17 u18 u19 u20 u21 u22 u23 u24 u25 u26 u27 u28 u29 u30 u31 u32 u33 u34 u35 u36 u37 u38 u39 u40 u41 u42 u43 u44 u45 u46 u47 u48 u49 u50 u51 u52 u53 u54 u55 u56 u57 u58 u59 u60 u61 u62 u63 u64 u65 u67 u68 u69 u70 u71 u72 u73 u74 u75 u76 u77 u78 u79 u80 u81 u82 u83 u84 u85 u86 u87 u88 u89 u90 u91 u92 u93 u94 u95 u96 u97 u98 u99 u100 u101 u102 u103 u104 u105 u106 u107 u108 u109 u110 u111 u112 u113 u114 u115 u116 u117 u118 u119 u120 u121 u122 u123 u124 u125 u126 u127 u128 u129 u130 u131 u132 u133 u134 u135 u136 u137 u138 u139 u140 u141 u142 u143 u144 u145 u146 u147 u148 u149 u150 u151 u152 u153 u154 u155 u156 u157 u158 u159 u160 u161 u162 u163 u164 u165 u166 u167 u168 u169 u170 u171 u172 u173 u174 u175 u176 u177 u178 u179 u180 u181 u182 u183 u184 u185 u186 u187 u188 u189 u190 u191 u192 u193 u194 u195 u196 u197 u198 u199 : Value} {ds : List Deferred} {Q : Exit → Act → World → Prop} {w0 wc : World} {b : Nat} {most d : Int} {v : Value} {ss : List (List UInt8)} {M I : Nat → Prop} {ms : List Nat} (st : LpSt w0 wc b most d v ss M I ms) {ad : Addr} {n cA k cx : Nat} {Ax : Option Addr} {x : List UInt8} (hmo : most ≤ 64) (hd : 0 ≤ d) (hd2 : d < 1000) (hk : k < n)
    (hact : ∀ wx, Below w0.heap.size w0 wx → wx.cell? ⟨(ad.add (k * 2)).block, (ad.add (k * 2)).off + 1, none⟩ = some (.slice Ax x.length cx) ∧ Reads wx (fun k => k < w0.heap.size) 1 Ax x.length (bytesV x)) (hx : x.length ≤ 140737488355328)
    (hK : ∀ (x14 x15 x16 x17 x18 x67 x68 x69 x70 x71 x72 x73 x74 x75 x76 x77 x78 x79 x80 x81 x82 x83 x84 x85 x86 x87 x88 x89 x90 x91 x92 x93 x94 x95 x96 x97 x98 x99 x100 x101 x102 x103 x104 x105 x106 x107 x108 x109 x110 x111 x112 x113 x114 x115 x116 x117 x118 x119 x120 x121 x122 x123 x124 x125 x126 x127 x128 x129 x130 x131 x132 x133 x134 x135 x136 x137 x138 x139 x140 x141 x142 x143 x144 x145 x146 : Value) (v2 : Value) (d2 : Int) (wx : World), SwQ w0 b most M v ms wc d v2 d2 wx → Q .normal ⟨#[.int .i64 most, .slice (some ad) n cA, u2, u3, u4, .pointer (some ⟨b, 0, none⟩), u6, v2, .int .i64 d2, .int .i64 (k : Int), u10, u11, u12, u13, x14, x15, x16, x17, x18, u19, u20, u21, u22, u23, u24, u25, u26, u27, u28, u29, u30, u31, u32, u33, u34, u35, u36, u37, u38, u39, u40, u41, u42, u43, u44, u45, u46, u47, u48, u49, u50, u51, u52, u53, u54, u55, u56, u57, u58, u59, u60, u61, u62, u63, u64, u65, .int .i64 1, x67, x68, x69, x70, x71, x72, x73, x74, x75, x76, x77, x78, x79, x80, x81, x82, x83, x84, x85, x86, x87, x88, x89, x90, x91, x92, x93, x94, x95, x96, x97, x98, x99, x100, x101, x102, x103, x104, x105, x106, x107, x108, x109, x110, x111, x112, x113, x114, x115, x116, x117, x118, x119, x120, x121, x122, x123, x124, x125, x126, x127, x128, x129, x130, x131, x132, x133, x134, x135, x136, x137, x138, x139, x140, x141, x142, x143, x144, x145, x146, u147, u148, u149, u150, u151, u152, u153, u154, u155, u156, u157, u158, u159, u160, u161, u162, u163, u164, u165, u166, u167, u168, u169, u170, u171, u172, u173, u174, u175, u176, u177, u178, u179, u180, u181, u182, u183, u184, u185, u186, u187, u188, u189, u190, u191, u192, u193, u194, u195, u196, u197, u198, u199], ds⟩ wx) :
    Code.wp Try.prog (lpBlk 2) Q ⟨#[.int .i64 most, .slice (some ad) n cA, u2, u3, u4, .pointer (some ⟨b, 0, none⟩), u6, v, .int .i64 d, .int .i64 (k : Int), u10, u11, u12, u13, u14, u15, u16, u17, u18, u19, u20, u21, u22, u23, u24, u25, u26, u27, u28, u29, u30, u31, u32, u33, u34, u35, u36, u37, u38, u39, u40, u41, u42, u43, u44, u45, u46, u47, u48, u49, u50, u51, u52, u53, u54, u55, u56, u57, u58, u59, u60, u61, u62, u63, u64, u65, .int .i64 1, u67, u68, u69, u70, u71, u72, u73, u74, u75, u76, u77, u78, u79, u80, u81, u82, u83, u84, u85, u86, u87, u88, u89, u90, u91, u92, u93, u94, u95, u96, u97, u98, u99, u100, u101, u102, u103, u104, u105, u106, u107, u108, u109, u110, u111, u112, u113, u114, u115, u116, u117, u118, u119, u120, u121, u122, u123, u124, u125, u126, u127, u128, u129, u130, u131, u132, u133, u134, u135, u136, u137, u138, u139, u140, u141, u142, u143, u144, u145, u146, u147, u148, u149, u150, u151, u152, u153, u154, u155, u156, u157, u158, u159, u160, u161, u162, u163, u164, u165, u166, u167, u168, u169, u170, u171, u172, u173, u174, u175, u176, u177, u178, u179, u180, u181, u182, u183, u184, u185, u186, u187, u188, u189, u190, u191, u192, u193, u194, u195, u196, u197, u198, u199], ds⟩ wc := by
  have HK := Lib.hid hK
  have HA := Lib.hid hact
  have ST := Lib.hid st
  have hcA := (hact wc st.m.bel).1
  have hrd := (hact wc st.m.bel).2
  have HRD := Lib.hid hrd
  obtain ⟨i0, hi, hz0, hz1, hz2⟩ := info_parts info_u8
  obtain ⟨n0, hn0⟩ : ∃ n0, n0 = x.length := ⟨_, rfl⟩
  have HN0 := Lib.hid hn0
  have hnb : n0 ≤ 140737488355328 := by omega
  have hmx : 0 + n0 ≤ maxLen := by unfold maxLen; omega
  have hmb : (0 + n0) * 1 ≤ 140737488355328 := by omega
  rw [← hn0] at hcA HRD
  have HL := Lib.hid st.le
  have hi0 : (0 : Int) ≤ k := by omega
  have hi1 : (k : Int) < n := by omega
  have H1 := Lib.hid (bytesV_one x)
  have HNIL := Lib.hid (fun (w : World) => World.ownsRow_nil w wc.heap.size 5 1)
  clear hK hact st hrd hn0
  refine wp_of_calm ?_
  conv => arg 2; whnf
  go_wp2_with (at_builtin; refine wpList_append_any _ rfl (.const (.slice none 0 0)) (.tmp 73) _ rfl wc.heap.size 5 i0 _ 1 1 Try.underlying30 hi hz0 hz1 hz2 rfl Nat.one_pos (.slice none 0 0) 0 [] rfl (HNIL.out _) _ Ax n0 cx (bytesV x) rfl HRD.out H1.out hmx hmb (Nat.le_refl _) ?_; intro v1 w1 hown1 hg1 hat1)
  have hb1 : Below wc.heap.size wc w1 := ⟨hg1.os, hg1.tape, hg1.output, hg1.size, fun k hk => hg1.block k hk (by simp [Value.ownBlock])⟩
  have ho1 : w1.ownsRow wc.heap.size 5 1 v1 n0 (bytesV x) := by simpa using hown1
  obtain ⟨A1, c1, rfl, _⟩ := own_form ho1
  have st1 := ST.out.later hb1
  have hlm := HL.out
  have hp := put_c M I b most d ss (fun k => k < w1.heap.size) A1 x c1 w1 st1.m.line (by rw [← HN0.out]; exact Reads.of_own ho1 fun g hg => (own_lt ho1 hg).2) hmo (by omega) hd (by omega)
  rw [← HN0.out] at hp
  have HP := Lib.hid hp
  have HB1 := Lib.hid hb1
  have HO1 := Lib.hid ho1
  have ST1 := Lib.hid st1
  clear hown1 hg1 hat1 hb1 ho1 st1 hp hlm hcA hmx hmb
  refine HP.out.mono ?_
  rintro e w2 ⟨rfl, M2, I2, hl2, hup⟩
  have mm := ST1.out.m.line_ hl2 hup
  have HUP := Lib.hid hup
  have HU8 := Lib.hid ((U8Row.ofOwn HO1.out))
  have hs12 := hup.upd.size
  have own2 : w2.ownsRow wc.heap.size 5 1 (.slice A1 n0 c1) n0 (bytesV x) := own_keep (I := fun k => wc.heap.size ≤ k ∧ k < w1.heap.size) HO1.out (hup.upd.same fun k hk hh => by have := ST.out.m.lt (.inl hk); omega) fun g hg => own_lt HO1.out hg
  have HO2 := Lib.hid own2
  have HU2 := Lib.hid (U8Row.ofOwn own2)
  clear hl2 hup own2 hs12
  by_cases hbig : 2048 < n0
  · have e1 : putE most ss x = 3 := by simp [putE, ← HN0.out, hbig]
    have e2 : putX most ss x = ss := by simp [putX, e1]
    have e3 : putD most d ss x = d := by simp [putD, e1]
    rw [e2, e3] at mm
    rw [e1]
    have MM := Lib.hid mm
    have b1 : decide ((2048 : Int) < (n0 : Int)) = true := decide_eq_true (by omega)
    clear mm e1 e2 e3
    go_upto_block 4 with fail
    refine lp_inc HU2.out (by omega) ?_
    intro y16 y100 y101 y102 y103 y104 y105 y106 y107 y108 y109 y110 y111 wx hwx
    go_wp2_with fail
    exact HK.out _ _ _ _ _ _ _ _ _ _ _ _ _ _ _ _ _ _ _ _ _ _ _ _ _ _ _ _ _ _ _ _ _ _ _ _ _ _ _ _ _ _ _ _ _ _ _ _ _ _ _ _ _ _ _ _ _ _ _ _ _ _ _ _ _ _ _ _ _ _ _ _ _ _ _ _ _ _ _ _ _ _ _ _ _ v d wx (sw_fin ST.out HB1.out HO1.out HUP.out MM.out (Upd.refl _ _) (fun k hk => .inl hk) hwx ST.out.le ST.out.sz (by omega) (by omega))
  by_cases hfull : most ≤ ss.length
  · have e1 : putE most ss x = 5 := by simp [putE, ← HN0.out, hbig, hfull]
    have e2 : putX most ss x = ss := by simp [putX, e1]
    have e3 : putD most d ss x = d + 1 := by simp [putD, e1]
    rw [e2, e3] at mm
    rw [e1]
    have MM := Lib.hid mm
    have b1 : decide ((2048 : Int) < (n0 : Int)) = false := decide_eq_false (by omega)
    obtain ⟨A, c, rfl, _⟩ := ST.out.m.win
    have b2 : decide (most ≤ (ss.length : Int)) = true := decide_eq_true hfull
    clear mm e1 e2 e3
    go_upto_block 4 with fail
    refine lp_inc HU2.out (by omega) ?_
    intro y16 y100 y101 y102 y103 y104 y105 y106 y107 y108 y109 y110 y111 wx hwx
    go_wp2_with fail
    exact HK.out _ _ _ _ _ _ _ _ _ _ _ _ _ _ _ _ _ _ _ _ _ _ _ _ _ _ _ _ _ _ _ _ _ _ _ _ _ _ _ _ _ _ _ _ _ _ _ _ _ _ _ _ _ _ _ _ _ _ _ _ _ _ _ _ _ _ _ _ _ _ _ _ _ _ _ _ _ _ _ _ _ _ _ _ _ _ (d + 1) wx (sw_fin ST.out HB1.out HO1.out HUP.out MM.out (Upd.refl _ _) (fun k hk => .inl hk) hwx ST.out.le ST.out.sz (by omega) (by omega))
  · have e1 : putE most ss x = 0 := by simp [putE, ← HN0.out, hbig, hfull]
    have e2 : putX most ss x = ss ++ [x] := by simp [putX, e1]
    have e3 : putD most d ss x = d := by simp [putD, e1]
    rw [e2, e3] at mm
    rw [e1]
    have MM := Lib.hid mm
    have b1 : decide ((2048 : Int) < (n0 : Int)) = false := decide_eq_false (by omega)
    obtain ⟨A, c, rfl, _⟩ := ST.out.m.win
    have b2 : decide (most ≤ (ss.length : Int)) = false := decide_eq_false hfull
    have hs3 := run_str w2 _ A1 x c1 (by rw [← HN0.out]; exact Reads.of_own (I := fun _ => True) HO2.out fun _ _ => trivial)
    rw [← HN0.out] at hs3
    have ma := mm.later (w2 := w2.alloc (.cells #[.string ⟨x.toArray⟩] 9)) ((Below.refl _ _).alloc (Nat.le_refl _) _)
    have MA := Lib.hid ma
    have HWA := Lib.hid ma.win
    obtain ⟨i1, hi1, hy0, hy1, hy2⟩ := info_parts info_str
    have hcy : (w2.alloc (.cells #[.string ⟨x.toArray⟩] 9)).cell? ((⟨w2.heap.size, 0, none⟩ : Addr).add 0) = some (strV x) := by
      rw [Addr.add_lit]
      simp [strV]
    have HCY := Lib.hid hcy
    have hBa := ma.bel.size
    have h63 : ss.length ≤ 1000000 := by have := HL.out; omega
    clear mm e1 e2 e3 ma hcy
    go_upto_block 4 with (at_builtin; refine wpList_append_win rfl (.tmp 78) (.tmp 81) 29 rfl i1 _ Try.underlying29 hi1 hy0 hy1 hy2 rfl rfl HWA.out ⟨w2.heap.size, 0, none⟩ 1 x rfl HCY.out hBa h63 ?_; intro v3 w3 hw3 hu3 hv3)
    have m3 := MA.out.win_ hw3 hu3 hv3
    have M3 := Lib.hid m3
    have HV3 := Lib.hid hv3
    have u23 := ((Upd.refl (fun k => (Value.slice A ss.length c).ownBlock = some k) w2).alloc (.cells #[.string ⟨x.toArray⟩] 9)).trans hu3 fun i hi => .inl hi
    have U23 := Lib.hid u23
    have own3 : w3.ownsRow wc.heap.size 5 1 (.slice A1 n0 c1) n0 (bytesV x) := own_keep (I := fun k => wc.heap.size ≤ k) HO2.out (u23.same fun k hk hh => by have := ST.out.m.lt (.inr (.inr (.inl hk))); omega) fun g hg => (own_lt HO1.out hg).1
    have HU3 := Lib.hid (U8Row.ofOwn own3)
    clear m3 hw3 hu3 hv3 u23 own3 hs3 hBa h63
    refine lp_inc HU3.out (by omega) ?_
    intro y16 y100 y101 y102 y103 y104 y105 y106 y107 y108 y109 y110 y111 wx hwx
    go_wp2_with fail
    exact HK.out _ _ _ _ _ _ _ _ _ _ _ _ _ _ _ _ _ _ _ _ _ _ _ _ _ _ _ _ _ _ _ _ _ _ _ _ _ _ _ _ _ _ _ _ _ _ _ _ _ _ _ _ _ _ _ _ _ _ _ _ _ _ _ _ _ _ _ _ _ _ _ _ _ _ _ _ _ _ _ _ _ _ _ _ _ v3 d wx (sw_fin ST.out HB1.out HO1.out HUP.out M3.out U23.out (fun k hk => (HV3.out k hk).imp id fun h => Nat.le_trans (by simp) h) hwx (by simp; omega) (fun y hy => by
      rcases List.mem_append.1 hy with h | h
      · exact ST.out.sz y h
      · rw [List.mem_singleton.1 h, ← HN0.out]; omega) (by omega) (by omega))

set_option maxRecDepth 100000 in
set_option maxHeartbeats 8000000 in
theorem lp_sw {u2 u3 u4 u6 u10 u11 u12 u13 u14 u15 u16 u17 u18 u19 u20 u21 u22 u23 u24 u25 u26 u27 u28 u29 u30 u31 u32 u33 u34 u35 u36 u37 u38 u39 u40 u41 u42 u43 u44 u45 u46 u47 u48 u49 u50 u51 u52 u53 u54 u55 u56 u57 u58 u59 u60 u61 u62 u63 u64 u65 u67 u68 u69 u70 u71 u72 u73 u74 u75 u76 u77 u78 u79 u80 u81 u82 u83 u84 u85 u86 u87 u88 u89 u90 u91 u92 u93 u94 u95 u96 u97 u98 u99 u100 u101 u102 u103 u104 u105 u106 u107 u108 u109 u110 u111 u112 u113 u114 u115 u116 u117 u118 u119 u120 u121 u122 u123 u124 u125 u126 u127 u128 u129 u130 u131 u132 u133 u134 u135 u136 u137 u138 u139 u140 u141 u142 u143 u144 u145 u146 u147 u148 u149 u150 u151 u152 u153 u154 u155 u156 u157 u158 u159 u160 u161 u162 u163 u164 u165 u166 u167 u168 u169 u170 u171 u172 u173 u174 u175 u176 u177 u178 u179 u180 u181 u182 u183 u184 u185 u186 u187 u188 u189 u190 u191 u192 u193 u194 u195 u196 u197 u198 u199 : Value} {ds : List Deferred} {Q : Exit → Act → World → Prop} {w0 wc : World} {b : Nat} {most d kd : Int} {v : Value} {ss : List (List UInt8)} {M I : Nat → Prop} {ms : List Nat} (st : LpSt w0 wc b most d v ss M I ms) {ad : Addr} {n cA k cx : Nat} {Ax : Option Addr} {x : List UInt8} (hmo : most ≤ 64) (hd : 0 ≤ d) (hd2 : d < 1000) (hk : k < n)
    (hact : ∀ wx, Below w0.heap.size w0 wx → wx.cell? ⟨(ad.add (k * 2)).block, (ad.add (k * 2)).off + 1, none⟩ = some (.slice Ax x.length cx) ∧ Reads wx (fun k => k < w0.heap.size) 1 Ax x.length (bytesV x)) (hx : x.length ≤ 140737488355328)
    (hK : ∀ (x14 x15 x16 x17 x18 x67 x68 x69 x70 x71 x72 x73 x74 x75 x76 x77 x78 x79 x80 x81 x82 x83 x84 x85 x86 x87 x88 x89 x90 x91 x92 x93 x94 x95 x96 x97 x98 x99 x100 x101 x102 x103 x104 x105 x106 x107 x108 x109 x110 x111 x112 x113 x114 x115 x116 x117 x118 x119 x120 x121 x122 x123 x124 x125 x126 x127 x128 x129 x130 x131 x132 x133 x134 x135 x136 x137 x138 x139 x140 x141 x142 x143 x144 x145 x146 : Value) (v2 : Value) (d2 : Int) (wx : World), SwQ w0 b most M v ms wc d v2 d2 wx → Q .normal ⟨#[.int .i64 most, .slice (some ad) n cA, u2, u3, u4, .pointer (some ⟨b, 0, none⟩), u6, v2, .int .i64 d2, .int .i64 (k : Int), u10, u11, u12, u13, x14, x15, x16, x17, x18, u19, u20, u21, u22, u23, u24, u25, u26, u27, u28, u29, u30, u31, u32, u33, u34, u35, u36, u37, u38, u39, u40, u41, u42, u43, u44, u45, u46, u47, u48, u49, u50, u51, u52, u53, u54, u55, u56, u57, u58, u59, u60, u61, u62, u63, u64, u65, .int .i64 kd, x67, x68, x69, x70, x71, x72, x73, x74, x75, x76, x77, x78, x79, x80, x81, x82, x83, x84, x85, x86, x87, x88, x89, x90, x91, x92, x93, x94, x95, x96, x97, x98, x99, x100, x101, x102, x103, x104, x105, x106, x107, x108, x109, x110, x111, x112, x113, x114, x115, x116, x117, x118, x119, x120, x121, x122, x123, x124, x125, x126, x127, x128, x129, x130, x131, x132, x133, x134, x135, x136, x137, x138, x139, x140, x141, x142, x143, x144, x145, x146, u147, u148, u149, u150, u151, u152, u153, u154, u155, u156, u157, u158, u159, u160, u161, u162, u163, u164, u165, u166, u167, u168, u169, u170, u171, u172, u173, u174, u175, u176, u177, u178, u179, u180, u181, u182, u183, u184, u185, u186, u187, u188, u189, u190, u191, u192, u193, u194, u195, u196, u197, u198, u199], ds⟩ wx) :
    Code.wp Try.prog (lpBlk 2) Q ⟨#[.int .i64 most, .slice (some ad) n cA, u2, u3, u4, .pointer (some ⟨b, 0, none⟩), u6, v, .int .i64 d, .int .i64 (k : Int), u10, u11, u12, u13, u14, u15, u16, u17, u18, u19, u20, u21, u22, u23, u24, u25, u26, u27, u28, u29, u30, u31, u32, u33, u34, u35, u36, u37, u38, u39, u40, u41, u42, u43, u44, u45, u46, u47, u48, u49, u50, u51, u52, u53, u54, u55, u56, u57, u58, u59, u60, u61, u62, u63, u64, u65, .int .i64 kd, u67, u68, u69, u70, u71, u72, u73, u74, u75, u76, u77, u78, u79, u80, u81, u82, u83, u84, u85, u86, u87, u88, u89, u90, u91, u92, u93, u94, u95, u96, u97, u98, u99, u100, u101, u102, u103, u104, u105, u106, u107, u108, u109, u110, u111, u112, u113, u114, u115, u116, u117, u118, u119, u120, u121, u122, u123, u124, u125, u126, u127, u128, u129, u130, u131, u132, u133, u134, u135, u136, u137, u138, u139, u140, u141, u142, u143, u144, u145, u146, u147, u148, u149, u150, u151, u152, u153, u154, u155, u156, u157, u158, u159, u160, u161, u162, u163, u164, u165, u166, u167, u168, u169, u170, u171, u172, u173, u174, u175, u176, u177, u178, u179, u180, u181, u182, u183, u184, u185, u186, u187, u188, u189, u190, u191, u192, u193, u194, u195, u196, u197, u198, u199], ds⟩ wc := by
  by_cases h1 : kd = 1
  · subst h1
    exact lp_sw1 st hmo hd hd2 hk hact hx hK
  by_cases h2 : kd = 2
  · subst h2
    exact lp_sw2 st hmo hK
  exact lp_sw0 st h1 h2 hK

end Go.Proofs.Ytfckagokeimkmaa
