/- Layer 12: LfiHeld, the walk (printed by gen_lxg.py). -/
import Derived.Test.YtahdjfegihnolaaLxF
import Derived.Test.YtahdjfegihnolaaLwG
namespace Go.Proofs.Ytahdjfegihnolaa
open Go.RowKit Go.Sort
set_option maxRecDepth 100000 in
/-- An event's kind, port and prefix, out of the argument. -/
theorem ev_hfl {w w' : World} {ad : Addr} {n : Nat} {l : List Ev} (hr : Reads w (fun k => k < w.heap.size) 6 (some ad) n (l.flatMap evC)) (hl : l.length = n) (hb : Below w.heap.size w w') {k : Nat} {e : Ev} (he : l[k]? = some e) :
    (Instr.loadAt 32 (.pointer (some (ad.add (k * 6))))).run Try.prog w' = .ok (.int .i64 e.kind) w' ∧ (Instr.loadAt 3 (.pointer (some ⟨(ad.add (k * 6)).block, (ad.add (k * 6)).off + 1, none⟩))).run Try.prog w' = .ok (.int .i64 e.port) w' ∧ (Instr.loadAt 36 (.pointer (some ⟨(ad.add (k * 6)).block, (ad.add (k * 6)).off + 3, none⟩))).run Try.prog w' = .ok (.agg #[.int .u32 (e.p.1 : Int), .int .i64 e.p.2]) w' := by
  have hk : k < n := by rw [← hl]; exact (List.getElem?_eq_some_iff.1 he).1
  obtain ⟨ad', e2, hlt, _, hc⟩ := hr.2 (by omega)
  injection e2 with e2
  subst e2
  have h : ∀ j u, j < 6 → (evC e)[j]? = some u → w'.cell? (ad.add (k * 6 + j)) = some u := fun j u hj hu => (hb.cell (by rw [block_of_add]; exact hlt)).trans (hc _ _ (by rw [evC_get l k e he j hj]; exact hu))
  have h0 := h 0 _ (by omega) rfl
  have h1 := h 1 _ (by omega) rfl
  have h3 := h 3 _ (by omega) rfl
  have h4 := h 4 _ (by omega) rfl
  rw [Nat.add_zero] at h0
  rw [add_afterE ad (k * 6) _ (by omega)] at h1 h3 h4
  exact ⟨by simp [go_sem, h0], by simp [go_sem, h1], by simp [go_sem, h3, h4]⟩
theorem hown_max {w : World} {base : Nat} {e : TypeId} {size n : Nat} {v : Value} {xs : List Value} (h : w.ownsRow base e size v n xs) : n ≤ maxLen := by
  rcases h.2 with ⟨_, rfl⟩ | ⟨g, cap, cur, _, _, _, hnc, hcm, _⟩
  · exact Nat.zero_le _
  · exact Nat.le_trans hnc hcm
/-- The core and the books. -/
structure HbK (w wx : World) (M : Nat → Prop) (cb mb hb : Nat) (mq : Nat → Option Nat) (H : Held) (N : Nat) (T : Lc) : Prop where
  core : Core w wx M cb mb T
  hd : HdM w wx hb mq H N
  ap : ∀ q b, q < 8 → mq q = some b → ¬ M b
  up : ∀ q, q < 8 → T.pc.up q = true → (mq q).isSome = true
section
variable {w wx wy : World} {M : Nat → Prop} {cb mb hb : Nat} {mq : Nat → Option Nat} {H : Held} {N : Nat} {T : Lc}
theorem HbK.later (h : HbK w wx M cb mb hb mq H N T) (hbl : Below wx.heap.size wx wy) : HbK w wy M cb mb hb mq H N T := ⟨h.core.later hbl, h.hd.below hbl, h.ap, h.up⟩
theorem HbK.maps (h : HbK w wx M cb mb hb mq H N T) {H' : Held} {N' : Nat} (hd : HdM w wy hb mq H' N') (hu : Upd (MapU mq) wx wy) : HbK w wy M cb mb hb mq H' N' T :=
  ⟨h.core.keep hu (fun b ⟨q, hq, hm⟩ => h.ap q b hq hm) (fun b ⟨q, hq, hm⟩ => (h.hd.map q hq b hm).1), hd, h.ap, h.up⟩
theorem HbK.done {S : Lc} (h : HbK w wx M cb mb hb mq H N S) {M' : Nat → Prop} (hM : ∀ b, M' b → M b ∨ wx.heap.size ≤ b) (hu : Upd M wx wy) : HdM w wy hb mq H N ∧ ∀ q b, q < 8 → mq q = some b → ¬ M' b := by
  refine ⟨h.hd.upd hu (h.core.apart h.hd.blk (by decide) (by decide)) (fun q b hq hm => h.ap q b hq hm) (fun k cs hk => h.core.apart hk (by decide) (by decide)), fun q b hq hm hb => ?_⟩
  rcases hM b hb with h1 | h1
  · exact h.ap q b hq hm h1
  · have := h.hd.mlt hq hm
    omega
theorem hb_res (hc : Core w wx M cb mb T) (hd : HdM w wx hb mq H N) (ap : ∀ q b, q < 8 → mq q = some b → ¬ M b) {p : Nat} (hp : p < 8) (up : ∀ q, q < 8 → T.pc.up q = true → (mq q).isSome = true ∨ q = p) (hw : wy = (wx.alloc (.map #[] 0)).setCell ⟨hb, p, none⟩ (.map (some wx.heap.size))) : HbK w wy M cb mb hb (setM mq p wx.heap.size) (resH H p) N T ∧ Upd (only hb) wx wy := by
  obtain ⟨h1, h2⟩ := hd.res hp hw hc.bel.size
  refine ⟨⟨hc.keep h2 (fun b (e : b = hb) => by rw [e]; exact hc.apart hd.blk (by decide) (by decide)) (fun b (e : b = hb) => by rw [e]; exact hd.hb0), h1, fun q b hq hm hb => ?_, fun q hq hu => ?_⟩, h2⟩
  · unfold setM at hm
    by_cases e : q = p
    · rw [if_pos e] at hm
      injection hm with hm
      have := hc.lt b hb
      omega
    · rw [if_neg e] at hm
      exact ap q b hq hm hb
  · unfold setM
    by_cases e : q = p
    · rw [if_pos e]; rfl
    · rw [if_neg e]
      rcases up q hq hu with h | h
      · exact h
      · exact absurd h e
theorem out_hb {B n : Nat} {v : Value} {xs : List Value} (hd : HdM w wx hb mq H N) (hu : Upd (only hb) wx wy) (hr : wx.ownsRow B 56 4 v n xs) : wy.ownsRow B 56 4 v n xs :=
  own_keep hr (I := fun k => v.ownBlock = some k) (hu.same fun k (e : k = hb) hk => by
    obtain ⟨cs, hbk⟩ := own_blk hr hk
    exact (hbk.ne_ hd.blk (by decide)) e) fun _ e => e
end
theorem heldA_res (H : Held) {e : Ev} (h : e.kind = 1 ∨ e.kind = 2) : heldA H e = resH H e.port.toNat := by
  unfold heldA resH
  rw [if_pos h]
theorem heldA_not (H : Held) {e : Ev} (h : ¬ (e.kind = 1 ∨ e.kind = 2)) : heldA H e = H := if_neg h
theorem heldB_not (H : Held) {e : Ev} (h : ¬ e.kind = 5) : heldB H e = H := if_neg h
theorem heldB_put (H : Held) {e : Ev} (h : e.kind = 5) : heldB H e = putH H e.port.toNat e.p (H e.port.toNat e.p).tail := by
  unfold heldB putH
  rw [if_pos h]
  funext r p
  by_cases c : r = e.port.toNat ∧ p = e.p
  · rw [if_pos c, if_pos c, c.1, c.2]
  · rw [if_neg c, if_neg c]
theorem heldA_len {H : Held} {K : Nat} (h : ∀ q p, (H q p).length ≤ K) (e : Ev) (q : Nat) (p : Pf) : (heldA H e q p).length ≤ K := by
  unfold heldA
  split
  · dsimp only
    split
    · exact Nat.zero_le _
    · exact h q p
  · exact h q p
theorem heldB_len {H : Held} {K : Nat} (h : ∀ q p, (H q p).length ≤ K) (e : Ev) (q : Nat) (p : Pf) : (heldB H e q p).length ≤ K := by
  unfold heldB
  split
  · dsimp only
    split
    · rw [List.length_tail]
      have := h q p
      omega
    · exact h q p
  · exact h q p
def findCondH (n : Nat) : Code → Option Code
  | .cond (.tmp k) a b => if k = n then some (.cond (.tmp k) a b) else match findCondH n a with
    | some c => some c
    | none => findCondH n b
  | .block _ c => findCondH n c
  | .seq a b => match findCondH n a with
    | some c => some c
    | none => findCondH n b
  | .loop c => findCondH n c
  | _ => none
noncomputable def hdCond (n : Nat) : Code := (Try.f4.body.bind (findCondH n)).getD .skip
set_option maxRecDepth 100000 in
set_option maxHeartbeats 8000000 in
attribute [-go_sem] Instr.storeAt Instr.loadAt Instr.build in
/-- The books, a port that goes up or down. -/
theorem held92 {u0 u1 u2 u3 u4 u5 u6 u7 u8 u10 u11 u12 u14 u15 u16 u17 u18 u19 u20 u21 u22 u23 u24 u25 u26 u27 u28 u29 u30 u31 u32 u33 u34 u35 u36 u37 u38 u39 u40 u41 u42 u43 u44 u45 u46 u47 u48 u49 u50 u51 u52 u53 u54 u55 u56 u57 u58 u59 u60 u61 u62 u63 u64 u65 u66 u67 u68 u69 u70 u71 u72 u73 u74 u75 u76 u77 u78 u79 u80 u81 u82 u83 u84 u85 u86 u87 u88 u89 u90 u91 u93 u94 u95 u96 u97 u98 u99 u100 u101 u102 u103 u104 u105 u106 u107 u108 u109 u110 u111 u112 u113 u114 u115 u116 u117 u118 u119 u120 u121 u122 u123 u124 u125 u126 u127 u128 u129 u130 u131 u132 u133 u134 u135 u136 u137 u138 u139 u140 u141 u142 u143 u144 u145 u146 u147 u148 u149 u150 u151 u152 u153 u154 u155 u156 u157 u158 u159 u160 u161 u162 u163 u164 u165 u166 u167 u168 u169 u170 u171 u172 u173 u174 u175 u176 u177 u178 u179 u180 u181 u182 u183 u184 u185 u186 u187 u188 u189 u190 u191 u192 u193 u194 u195 u196 u197 u198 u199 u200 u201 u202 u203 u204 u205 u206 u207 u208 u209 u210 u211 u212 u213 u214 u215 u216 u217 u218 u219 u220 u221 u222 u223 u224 u225 u226 u227 u228 u229 u230 u231 u232 u233 u234 u235 u236 u237 u238 u239 u240 u241 u242 u243 u244 u245 u246 u247 u248 u249 u250 u251 u252 u253 u254 u255 u256 u257 u258 u259 u260 u261 u262 u263 u264 u265 u266 u267 u268 u269 u270 u271 u272 u273 u274 u275 : Value} {Q : Exit → Act → World → Prop} {ds : List Deferred} {w wr : World} {M : Nat → Prop} {cb mb hb po : Nat} {b12 : Bool} {mq : Nat → Option Nat} {H : Held} {N : Nat} {T : Lc} {e : Ev} {Av : Option Addr} {no cv : Nat} {o : List Tl}
    (hc : Core w wr M cb mb T) (hd : HdM w wr hb mq H N) (ap : ∀ q b, q < 8 → mq q = some b → ¬ M b) (hp : po < 8) (hpo : e.port.toNat = po) (ho : OutM wr w.heap.size (.slice Av no cv) o) (hb12 : b12 = true ↔ (e.kind = 1 ∨ e.kind = 2)) (up : ∀ q, q < 8 → T.pc.up q = true → (mq q).isSome = true ∨ ((e.kind = 1 ∨ e.kind = 2) ∧ q = po))
    (hK : ∀ (y93 y94 y95 : Value) (mq2 : Nat → Option Nat) (wx : World), HbK w wx M cb mb hb mq2 (heldA H e) N T ∧ OutM wx w.heap.size (.slice Av no cv) o ∧ ((e.kind = 1 ∨ e.kind = 2) ∨ mq2 = mq) → Q .normal ⟨#[u0, u1, u2, u3, u4, u5, u6, u7, u8, .pointer (some ⟨hb, 0, none⟩), u10, u11, u12, .int .i64 (po : Int), u14, u15, u16, u17, u18, u19, u20, u21, u22, u23, u24, u25, u26, u27, u28, u29, u30, u31, u32, u33, u34, u35, u36, u37, u38, u39, u40, u41, u42, u43, u44, u45, u46, u47, u48, u49, u50, u51, u52, u53, u54, u55, u56, u57, u58, u59, u60, u61, u62, u63, u64, u65, u66, u67, u68, u69, u70, u71, u72, u73, u74, u75, u76, u77, u78, u79, u80, u81, u82, u83, u84, u85, u86, u87, u88, u89, u90, u91, .bool b12, y93, y94, y95, u96, u97, u98, u99, u100, u101, u102, u103, u104, u105, u106, u107, u108, u109, u110, u111, u112, u113, u114, u115, u116, u117, u118, u119, u120, u121, u122, u123, u124, u125, u126, u127, u128, u129, u130, u131, u132, u133, u134, u135, u136, u137, u138, u139, u140, u141, u142, u143, u144, u145, u146, u147, u148, u149, u150, u151, u152, u153, u154, u155, u156, u157, u158, u159, u160, u161, u162, u163, u164, u165, u166, u167, u168, u169, u170, u171, u172, u173, u174, u175, u176, u177, u178, u179, u180, u181, u182, u183, u184, u185, u186, u187, u188, u189, u190, u191, u192, u193, u194, u195, u196, u197, u198, u199, u200, u201, u202, u203, u204, u205, u206, u207, u208, u209, u210, u211, u212, u213, u214, u215, u216, u217, u218, u219, u220, u221, u222, u223, u224, u225, u226, u227, u228, u229, u230, u231, u232, u233, u234, u235, u236, u237, u238, u239, u240, u241, u242, u243, u244, u245, u246, u247, u248, u249, u250, u251, u252, u253, u254, u255, u256, u257, u258, u259, u260, u261, u262, u263, u264, u265, u266, u267, u268, u269, u270, u271, u272, u273, u274, u275], ds⟩ wx) :
    Code.wp Try.prog (hdCond 92) Q ⟨#[u0, u1, u2, u3, u4, u5, u6, u7, u8, .pointer (some ⟨hb, 0, none⟩), u10, u11, u12, .int .i64 (po : Int), u14, u15, u16, u17, u18, u19, u20, u21, u22, u23, u24, u25, u26, u27, u28, u29, u30, u31, u32, u33, u34, u35, u36, u37, u38, u39, u40, u41, u42, u43, u44, u45, u46, u47, u48, u49, u50, u51, u52, u53, u54, u55, u56, u57, u58, u59, u60, u61, u62, u63, u64, u65, u66, u67, u68, u69, u70, u71, u72, u73, u74, u75, u76, u77, u78, u79, u80, u81, u82, u83, u84, u85, u86, u87, u88, u89, u90, u91, .bool b12, u93, u94, u95, u96, u97, u98, u99, u100, u101, u102, u103, u104, u105, u106, u107, u108, u109, u110, u111, u112, u113, u114, u115, u116, u117, u118, u119, u120, u121, u122, u123, u124, u125, u126, u127, u128, u129, u130, u131, u132, u133, u134, u135, u136, u137, u138, u139, u140, u141, u142, u143, u144, u145, u146, u147, u148, u149, u150, u151, u152, u153, u154, u155, u156, u157, u158, u159, u160, u161, u162, u163, u164, u165, u166, u167, u168, u169, u170, u171, u172, u173, u174, u175, u176, u177, u178, u179, u180, u181, u182, u183, u184, u185, u186, u187, u188, u189, u190, u191, u192, u193, u194, u195, u196, u197, u198, u199, u200, u201, u202, u203, u204, u205, u206, u207, u208, u209, u210, u211, u212, u213, u214, u215, u216, u217, u218, u219, u220, u221, u222, u223, u224, u225, u226, u227, u228, u229, u230, u231, u232, u233, u234, u235, u236, u237, u238, u239, u240, u241, u242, u243, u244, u245, u246, u247, u248, u249, u250, u251, u252, u253, u254, u255, u256, u257, u258, u259, u260, u261, u262, u263, u264, u265, u266, u267, u268, u269, u270, u271, u272, u273, u274, u275], ds⟩ wr := by
  have HC := Lib.hid hc
  have HD := Lib.hid (And.intro hd ap)
  have HP := Lib.hid hpo
  have HO := Lib.hid ho
  have H12 := Lib.hid hb12
  have HU := Lib.hid up
  have HK := Lib.hid hK
  have HP8 := Lib.hid hp
  have p0 : (0 : Int) ≤ po := by omega
  have p1 : (po : Int) < 8 := by omega
  have hba := hd.below ((Below.refl wr.heap.size wr).alloc (Nat.le_refl _) (.map #[] 0))
  have sm := hba.stm hp wr.heap.size
  have mk := run_makeMap (P := Try.prog) 50 wr
  clear hc hd ap hp hpo ho hb12 up hK hba
  refine wp_of_calmH ?_
  conv => arg 2; whnf
  cases b12 with
  | true =>
    have HK12 := Lib.hid (H12.out.1 rfl)
    go_wp2_with fail
    obtain ⟨h1, h2⟩ := hb_res HC.out HD.out.1 HD.out.2 HP8.out (fun q hq hu => by
      rcases HU.out q hq hu with h | ⟨_, h⟩
      · exact .inl h
      · exact .inr h) rfl
    refine HK.out _ _ _ (setM mq po wr.heap.size) _ ⟨?_, out_hb HD.out.1 h2 HO.out, .inl HK12.out⟩
    rw [heldA_res H HK12.out, HP.out]
    exact h1
  | false =>
    have HK12 := Lib.hid (show ¬ (e.kind = 1 ∨ e.kind = 2) from fun h => by have := H12.out.2 h; cases this)
    go_wp2_with fail
    refine HK.out _ _ _ mq _ ⟨?_, HO.out, .inr rfl⟩
    rw [heldA_not H HK12.out]
    exact ⟨HC.out, HD.out.1, HD.out.2, fun q hq hu => by
      rcases HU.out q hq hu with h | ⟨h, _⟩
      · exact h
      · exact absurd h HK12.out⟩
set_option maxRecDepth 100000 in
set_option maxHeartbeats 8000000 in
attribute [-go_sem] Instr.storeAt Instr.loadAt Instr.build in
/-- The books, an acknowledgement. -/
theorem held101 {u0 u1 u3 u4 u5 u6 u7 u8 u11 u12 u14 u15 u16 u17 u18 u19 u20 u21 u22 u23 u24 u25 u26 u27 u28 u29 u30 u31 u32 u33 u34 u35 u36 u37 u38 u39 u40 u41 u42 u43 u44 u45 u46 u47 u48 u49 u50 u51 u52 u53 u54 u55 u56 u57 u58 u59 u60 u61 u62 u63 u64 u65 u66 u67 u68 u69 u70 u71 u72 u73 u74 u75 u76 u77 u78 u79 u80 u81 u82 u83 u84 u85 u86 u87 u88 u89 u90 u91 u92 u93 u94 u95 u96 u97 u98 u99 u100 u102 u103 u104 u105 u106 u107 u108 u109 u110 u111 u112 u113 u114 u115 u116 u117 u118 u119 u120 u121 u122 u123 u124 u125 u126 u127 u128 u129 u130 u131 u132 u133 u134 u135 u136 u137 u138 u139 u140 u141 u142 u143 u144 u145 u146 u147 u148 u149 u150 u151 u152 u153 u154 u155 u156 u157 u158 u159 u160 u161 u162 u163 u164 u165 u166 u167 u168 u169 u170 u171 u172 u173 u174 u175 u176 u177 u178 u179 u180 u181 u182 u183 u184 u185 u186 u187 u188 u189 u190 u191 u192 u193 u194 u195 u196 u197 u198 u199 u200 u201 u202 u203 u204 u205 u206 u207 u208 u209 u210 u211 u212 u213 u214 u215 u216 u217 u218 u219 u220 u221 u222 u223 u224 u225 u226 u227 u228 u229 u230 u231 u232 u233 u234 u235 u236 u237 u238 u239 u240 u241 u242 u243 u244 u245 u246 u247 u248 u249 u250 u251 u252 u253 u254 u255 u256 u257 u258 u259 u260 u261 u262 u263 u264 u265 u266 u267 u268 u269 u270 u271 u272 u273 u274 u275 : Value} {Q : Exit → Act → World → Prop} {ds : List Deferred} {w wc : World} {M : Nat → Prop} {cb mb hb po k m d : Nat} {ad : Addr} {b5 : Bool} {mq : Nat → Option Nat} {H : Held} {N : Nat} {T : Lc} {e : Ev} {le : List Ev} {Av : Option Addr} {no cv : Nat} {o : List Tl}
    (h : HbK w wc M cb mb hb mq H N T) (hr : Reads w (fun k => k < w.heap.size) 6 (some ad) m (le.flatMap evC)) (hl : le.length = m) (hek : le[k]? = some e) (hp : po < 8) (hpo : e.port.toNat = po) (ho : OutM wc w.heap.size (.slice Av no cv) o) (hb5 : b5 = true ↔ e.kind = 5) (hN : N ≤ 90000000) (h5 : e.kind = 5 → pfOk e.p ∧ (mq po).isSome = true ∧ 2 ≤ (H po e.p).length ∧ (H po e.p).length ≤ 100000000)
    (hK : ∀ (y14 y102 y103 y104 y105 y106 y107 y108 y109 y110 y111 y112 y113 y114 y115 y116 y117 y118 y119 y120 y121 y122 y123 : Value) (wx : World), HbK w wx M cb mb hb mq (heldB H e) (N + 1) T ∧ OutM wx w.heap.size (.slice Av no cv) o → Q .normal ⟨#[u0, u1, .slice (some ad) m d, u3, u4, u5, u6, u7, u8, .pointer (some ⟨hb, 0, none⟩), .int .i64 (k : Int), u11, u12, .int .i64 (po : Int), y14, u15, u16, u17, u18, u19, u20, u21, u22, u23, u24, u25, u26, u27, u28, u29, u30, u31, u32, u33, u34, u35, u36, u37, u38, u39, u40, u41, u42, u43, u44, u45, u46, u47, u48, u49, u50, u51, u52, u53, u54, u55, u56, u57, u58, u59, u60, u61, u62, u63, u64, u65, u66, u67, u68, u69, u70, u71, u72, u73, u74, u75, u76, u77, u78, u79, u80, u81, u82, u83, u84, u85, u86, u87, u88, u89, u90, u91, u92, u93, u94, u95, u96, u97, u98, u99, u100, .bool b5, y102, y103, y104, y105, y106, y107, y108, y109, y110, y111, y112, y113, y114, y115, y116, y117, y118, y119, y120, y121, y122, y123, u124, u125, u126, u127, u128, u129, u130, u131, u132, u133, u134, u135, u136, u137, u138, u139, u140, u141, u142, u143, u144, u145, u146, u147, u148, u149, u150, u151, u152, u153, u154, u155, u156, u157, u158, u159, u160, u161, u162, u163, u164, u165, u166, u167, u168, u169, u170, u171, u172, u173, u174, u175, u176, u177, u178, u179, u180, u181, u182, u183, u184, u185, u186, u187, u188, u189, u190, u191, u192, u193, u194, u195, u196, u197, u198, u199, u200, u201, u202, u203, u204, u205, u206, u207, u208, u209, u210, u211, u212, u213, u214, u215, u216, u217, u218, u219, u220, u221, u222, u223, u224, u225, u226, u227, u228, u229, u230, u231, u232, u233, u234, u235, u236, u237, u238, u239, u240, u241, u242, u243, u244, u245, u246, u247, u248, u249, u250, u251, u252, u253, u254, u255, u256, u257, u258, u259, u260, u261, u262, u263, u264, u265, u266, u267, u268, u269, u270, u271, u272, u273, u274, u275], ds⟩ wx) :
    Code.wp Try.prog (hdCond 101) Q ⟨#[u0, u1, .slice (some ad) m d, u3, u4, u5, u6, u7, u8, .pointer (some ⟨hb, 0, none⟩), .int .i64 (k : Int), u11, u12, .int .i64 (po : Int), u14, u15, u16, u17, u18, u19, u20, u21, u22, u23, u24, u25, u26, u27, u28, u29, u30, u31, u32, u33, u34, u35, u36, u37, u38, u39, u40, u41, u42, u43, u44, u45, u46, u47, u48, u49, u50, u51, u52, u53, u54, u55, u56, u57, u58, u59, u60, u61, u62, u63, u64, u65, u66, u67, u68, u69, u70, u71, u72, u73, u74, u75, u76, u77, u78, u79, u80, u81, u82, u83, u84, u85, u86, u87, u88, u89, u90, u91, u92, u93, u94, u95, u96, u97, u98, u99, u100, .bool b5, u102, u103, u104, u105, u106, u107, u108, u109, u110, u111, u112, u113, u114, u115, u116, u117, u118, u119, u120, u121, u122, u123, u124, u125, u126, u127, u128, u129, u130, u131, u132, u133, u134, u135, u136, u137, u138, u139, u140, u141, u142, u143, u144, u145, u146, u147, u148, u149, u150, u151, u152, u153, u154, u155, u156, u157, u158, u159, u160, u161, u162, u163, u164, u165, u166, u167, u168, u169, u170, u171, u172, u173, u174, u175, u176, u177, u178, u179, u180, u181, u182, u183, u184, u185, u186, u187, u188, u189, u190, u191, u192, u193, u194, u195, u196, u197, u198, u199, u200, u201, u202, u203, u204, u205, u206, u207, u208, u209, u210, u211, u212, u213, u214, u215, u216, u217, u218, u219, u220, u221, u222, u223, u224, u225, u226, u227, u228, u229, u230, u231, u232, u233, u234, u235, u236, u237, u238, u239, u240, u241, u242, u243, u244, u245, u246, u247, u248, u249, u250, u251, u252, u253, u254, u255, u256, u257, u258, u259, u260, u261, u262, u263, u264, u265, u266, u267, u268, u269, u270, u271, u272, u273, u274, u275], ds⟩ wc := by
  have HB2 := Lib.hid h
  have HR2 := Lib.hid hr
  have HL2 := Lib.hid hl
  have HEK := Lib.hid hek
  have HPO := Lib.hid (And.intro hp hpo)
  have HO2 := Lib.hid ho
  have H5 := Lib.hid hb5
  have HNB := Lib.hid hN
  have HX5 := Lib.hid h5
  have HK := Lib.hid hK
  have p0 : (0 : Int) ≤ po := by omega
  have p1 : (po : Int) < 8 := by omega
  have hkm : k < m := by rw [← hl]; exact (List.getElem?_eq_some_iff.1 hek).1
  have k0 : (0 : Int) ≤ k := by omega
  have k1 : (k : Int) < m := by omega
  clear h hr hl hek hp hpo ho hb5 hN h5 hK hkm
  refine wp_of_calmH ?_
  conv => arg 2; whnf
  cases b5 with
  | false =>
    have HK5 := Lib.hid (show ¬ e.kind = 5 from fun h => by have := H5.out.2 h; cases this)
    go_wp2_with fail
    refine HK.out _ _ _ _ _ _ _ _ _ _ _ _ _ _ _ _ _ _ _ _ _ _ _ _ ⟨?_, HO2.out⟩
    rw [heldB_not _ HK5.out]
    exact ⟨HB2.out.core, HB2.out.hd.mono (by omega), HB2.out.ap, HB2.out.up⟩
  | true =>
    have HK5 := Lib.hid (H5.out.1 rfl)
    obtain ⟨hpe, hms, h2len, h9len⟩ := HX5.out HK5.out
    obtain ⟨mbp, hmbp⟩ : ∃ b, mq po = some b := Option.isSome_iff_exists.1 hms
    have hbd := HB2.out.hd
    obtain ⟨Ah, nh, ch, hlook, hnh, hch, hrd⟩ := hbd.look HPO.out.1 hpe
    have HBD := Lib.hid hbd
    have hlk := fun (dd : Nat) (os : Array Obj) => hlook _ (below_regrown wc dd os)
    have lm := fun (dd : Nat) (os : Array Obj) => (HBD.out.below (below_regrown wc dd os)).ldm HPO.out.1
    have lp := fun (dd : Nat) (os : Array Obj) => (ev_hfl HR2.out HL2.out (HB2.out.core.bel.trans ((below_regrown wc dd os).mono HB2.out.core.bel.size)) HEK.out).2.2
    have hn2 : 2 ≤ nh := by omega
    have hn9 : nh ≤ 100000000 := by omega
    have hd2n : decide ((nh : Int) < 2) = false := decide_eq_false (by omega)
    have HRD := Lib.hid (And.intro hnh (And.intro hch hrd))
    have HPB := Lib.hid (And.intro hpe hmbp)
    clear hms h2len h9len hpe hmbp hbd hlook hnh hch hrd
    go_wp2_with fail
    refine wp_region_quiet_below (by kernel_rfl) (by kernel_rfl) ?_
    repeat (go_big_quiet_step (fail))
    refine wpQuiet_nil ?_
    intro _ hw'
    obtain ⟨⟨dq, osq⟩, hw''⟩ := hw'
    subst hw''
    have HBq := Lib.hid (below_regrown wc dq osq)
    generalize grow (redrawn wc dq) osq = wq at HBq ⊢
    clear hlk lm lp
    go_upto_region 19 with (fail)
    obtain ⟨A2, hA2⟩ : ∃ Z, Z = if ch = 1 then Ah else Ah.map (·.add 1) := ⟨_, rfl⟩
    have HA2 := Lib.hid hA2
    clear hA2
    refine wp_region_mix [(true, 10), (false, 1)] 0 (by kernel_rfl) (fun wx => Below wc.heap.size wc wx) (fun _ _ h k => h.trans (k.mono h.size)) (by kernel_rfl) HBq.out (a' := ?_) (fun wz hz => ?_) fun wz hz => ?_
    rotate_left
    · have HZ := Lib.hid hz
      have r0 := fun (dd : Nat) (os : Array Obj) => (HBD.out.below (HZ.out.trans ((below_regrown wz dd os).mono HZ.out.size))).ldm HPO.out.1
      rw [HPB.out.2] at r0
      have r1 := fun (dd : Nat) (os : Array Obj) => (ev_hfl HR2.out HL2.out (HB2.out.core.bel.trans ((HZ.out.trans ((below_regrown wz dd os).mono HZ.out.size)).mono HB2.out.core.bel.size)) HEK.out).2.2
      have r3 : ∀ wx : World, (Instr.slice 52 (.slice Ah nh ch) (some (.int .i64 1)) none none).run Try.prog wx = .ok (.slice A2 (nh - 1) (ch - 1)) wx := fun wx => by rw [HA2.out]; exact sli_1 Ah nh ch wx (by omega)
      clear hz
      simp only [pick_nil, pick_tt, pick_ft, List.take_succ_cons, List.take_zero, List.drop_succ_cons, List.drop_zero, List.append_nil]
      repeat (go_big_quiet_step (fail))
      refine wpQuiet_nil ?_
      rfl
    · simp only [pick_nil, pick_ff, pick_tf, List.take_succ_cons, List.take_zero, List.drop_succ_cons, List.drop_zero, List.append_nil]
      have HZ := Lib.hid (HBq.out.trans (hz.mono HBq.out.size))
      clear hz
      refine wpMix_step HZ.out fun wa2 ha => ?_
      have hba := HZ.out.trans (ha.mono HZ.out.size)
      obtain ⟨hnh, hch, hrd⟩ := HRD.out
      obtain ⟨z, zs, hzs⟩ : ∃ z zs, H po e.p = z :: zs := by
        cases h : H po e.p with
        | nil => rw [h] at hnh; simp at hnh; omega
        | cons z zs => exact ⟨z, zs, rfl⟩
      have hrt := hrd.below hba
      rw [hzs] at hrt hnh
      have hrt2 := hrt.tail hch
      rw [← HA2.out] at hrt2
      obtain ⟨w5, hr5, hm5, hu5⟩ := (HBD.out.below hba).put (by have := HNB.out; omega) HPO.out.1 HPB.out.2 HPB.out.1 (A := A2) (n := nh - 1) (c := ch - 1) (zs := zs) (by simp at hnh; omega) (by omega) hrt2
      have hu5' : Upd (MapU mq) wa2 w5 := hu5.mono fun b (e9 : b = mbp) => .inl ⟨po, HPO.out.1, by rw [e9]; exact HPB.out.2⟩
      have e5 : heldB H e = putH H po e.p zs := by rw [heldB_put H HK5.out, HPO.out.2, hzs]; rfl
      have HB5 := Lib.hid (show HbK w w5 M cb mb hb mq (heldB H e) (N + 1) T from (HB2.out.later hba).maps (by rw [e5]; exact hm5) hu5')
      have HO5 := Lib.hid (show OutM w5 w.heap.size (.slice Av no cv) o from (HBD.out.below hba).rowU hu5' (own_below HO2.out hba))
      clear ha hba hnh hch hrd hzs hrt hrt2 hm5 hu5 hu5' e5
      go_wp2_with fail
      refine wpMix_plain ?_
      go_wp2_with fail
      exact HK.out _ _ _ _ _ _ _ _ _ _ _ _ _ _ _ _ _ _ _ _ _ _ _ _ ⟨HB5.out, HO5.out⟩
end Go.Proofs.Ytahdjfegihnolaa
