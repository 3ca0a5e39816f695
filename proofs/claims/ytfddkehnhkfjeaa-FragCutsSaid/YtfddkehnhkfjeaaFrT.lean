/- Frag: law15's once goes over the pieces. -/
import Derived.Test.YtfddkehnhkfjeaaFrK
import Derived.Test.YtfddkehnhkfjeaaFrM
import Derived.Deep.DeepCutAuto
import Derived.Deep.CutBlock
import Derived.Deep.LoopGhost
import Derived.Deep.RegionWith
import Derived.Deep.QuietTactic
import Derived.BigQuiet
import Derived.BigGuardIn
import Derived.BigRegionIn
import Derived.Stop.RegionWithIn
namespace Go.Proofs.Ytfddkehnhkfjeaa
open Go.RowKit Go.Sort Go.BigFrame
attribute [local go_sem] Oper.semAt_some
/-- Bytes that may be turned. -/
def U8Row (w : World) (A : Option Addr) (n : Nat) : Prop := 0 < n → ∃ ad, A = some ad ∧ (∃ g, ad = ⟨g, 0, none⟩) ∧ ∀ j, j < n → (∃ z, w.cell? (ad.add j) = some (.int .u8 z)) ∧ w.frozen? (ad.add j) = false
theorem U8Row.set_ {w : World} {ad : Addr} {n k : Nat} {z : Int} (h : U8Row w (some ad) n) : U8Row (w.setCell (ad.add k) (.int .u8 z)) (some ad) n := fun hn => by
  obtain ⟨ad', e, ⟨g, hg⟩, hc⟩ := h hn
  injection e with e
  subst e
  subst hg
  refine ⟨_, rfl, ⟨g, rfl⟩, fun j hj => ⟨?_, (World.frozen?_setCell _ _ _ _).trans (hc j hj).2⟩⟩
  by_cases e : k = j
  · subst e
    obtain ⟨y, hy⟩ := (hc k hj).1
    exact ⟨z, World.cell?_setCell_same _ (v := .int .u8 z) (a := (⟨g, 0, none⟩ : Addr).add k) hy⟩
  · have hne : (⟨g, 0, none⟩ : Addr).add k ≠ (⟨g, 0, none⟩ : Addr).add j := fun h => by
      rw [Addr.add_lit, Addr.add_lit] at h
      injection h with _ h
      omega
    obtain ⟨y, hy⟩ := (hc j hj).1
    exact ⟨y, (World.cell?_setCell_other w _ _ _ hne).trans hy⟩
theorem U8Row.ofOwn {w : World} {base n c : Nat} {A : Option Addr} {x : List UInt8} (h : w.ownsRow base 5 1 (.slice A n c) n (bytesV x)) : U8Row w A n := fun hn => by
  rcases h.2 with ⟨e, _⟩ | ⟨g, cap, cur, e, _, hh, h1, _, h3, h4⟩
  · injection e with _ e
    omega
  · injection e with e1 e2 e3
    subst e1
    refine ⟨_, rfl, ⟨g, rfl⟩, fun j hj => ?_⟩
    rw [Addr.add_lit, Nat.zero_add]
    have hl : (bytesV x).length = n := by simpa using h.1
    have hx : j < x.length := by unfold bytesV at hl; simp at hl; omega
    have hj2 : cur[j]? = (bytesV x)[j]? := by
      rw [← h4, Nat.mul_one, List.getElem?_take_of_lt hj]
      simp
    have hv : (bytesV x)[j]? = some (.int .u8 (x[j].toNat : Int)) := by unfold bytesV; simp [hx]
    exact ⟨⟨(x[j].toNat : Int), by simp [World.cell?, hh, hj2, hv]⟩, by simp [World.frozen?, hh]⟩


def findBlk (n : Nat) : Code → Option Code
  | .block k c => if k = n then some (.block k c) else findBlk n c
  | .seq a b => match findBlk n a with
    | some c => some c
    | none => findBlk n b
  | .cond _ a b => match findBlk n a with
    | some c => some c
    | none => findBlk n b
  | .loop c => findBlk n c
  | _ => none
noncomputable def onBlk (n : Nat) : Code := (Try.f49.body.bind (findBlk n)).getD .skip
/-- A piece that ends in nothing but its end. -/
theorem wp_of_calm {P : Program} {c : Code} {Q : Exit → Act → World → Prop} {a : Act} {w : World} (h : c.wp P (Exit.then (fun a w => Q .normal a w) (fun _ _ _ => False)) a w) : c.wp P Q a w :=
  wp_mono h fun e a w h => by cases e <;> first | exact h | exact h.elim
/-- The call's boxes: the row wanted, the number to leave at, the answer. -/
structure OcS (w W : World) (v : Value) (lv : Int) : Prop where
  below : Below w.heap.size w W
  row : Blk W w.heap.size 56 #[v]
  leave : Blk W (w.heap.size + 1) 3 #[.int .i64 lv]
  ans : Blk W (w.heap.size + 1 + 1) 4 #[.bool false]
section
variable {w W W' : World} {v : Value} {lv : Int}
theorem OcS.keep (h : OcS w W v lv) (hb : Below W.heap.size W W') : OcS w W' v lv :=
  ⟨h.below.trans (hb.mono h.below.size), h.row.below hb h.row.lt, h.leave.below hb h.leave.lt, h.ans.below hb h.ans.lt⟩
end
theorem cut_bound {x : By} (hx : x.length ≤ 1000000) (m : Int) : ∀ y ∈ (cutF x m).1, y.length ≤ 1000000 := by
  intro y hy
  unfold cutF at hy
  split at hy
  · cases hy
  rename_i h0
  split at hy
  · obtain rfl := List.mem_singleton.1 hy
    rw [List.length_take]; omega
  split at hy
  · cases hy
  split at hy
  · cases hy
  obtain ⟨q, hq, rfl⟩ := List.mem_map.1 hy
  have h1 : (prsF x).2.2 = 0 ∧ 68 ≤ m ∧ m ≤ 65535 := by
    unfold fitsF at h0
    split at h0
    · exact absurd (by simp) h0
    split at h0
    · exact absurd (by simp) h0
    exact ⟨by omega, by omega, by omega⟩
  obtain ⟨hm, _⟩ := prs_may h1.1
  obtain ⟨_, _, h2, h3⟩ := pcs_mem hm (by omega : 68 ≤ m.toNat) _ _ (by omega) q hq
  obtain ⟨_, hle, _, h4⟩ := pc_pos hm (by omega : 68 ≤ m.toNat) h2
  rw [← h3] at h4 hle
  unfold pbF
  rw [bytesF_len, part_len2 (by omega)]
  omega
set_option maxRecDepth 100000 in
set_option maxHeartbeats 8000000 in
theorem on_turn {u0 u1 u2 u3 u4 u5 u6 u8 u10 u12 u13 u14 u15 u16 u17 u18 u19 u20 u21 u22 u23 u24 u25 u26 u27 u28 u29 u30 u31 u32 u33 u34 u35 u36 u37 u38 u39 u40 u41 u42 u43 u44 u45 u46 u47 u48 u49 u50 u51 u52 u53 u54 u55 u56 u57 u58 u59 u60 u61 u62 u63 u64 u65 u66 u67 u68 u69 u70 u71 u72 u73 : Value} {ds : List Deferred} {Q : Exit → Act → World → Prop} {w wc : World} {A : Option Addr} {c m : Nat} {lv : Int} {us : List Value} {L : List By} {J : Nat → Prop} {f : Value}
    (hs : OcS w wc (.slice A m c) lv) (hm : L.length = m) (hl : Lst8 w (fun k => k < w.heap.size) A m us L) (hn : m ≤ 1000001) (hyl : ∀ y ∈ L, y.length ≤ 1000000) (hsq : PcSeq wc J f L) (hJ : ∀ k, J k → k < wc.heap.size)
    (hK : ∀ (x14 x35 x65 x66 x67 x68 x69 x70 x71 x72 x73 : Value) (D : Nat) (wx : World), Below wc.heap.size wc wx → wc.heap.size ≤ D → wx.heap[D]? = some (.deferred (some [])) → Q .normal ⟨#[u0, u1, u2, u3, u4, u5, u6, .pointer (some ⟨w.heap.size, 0, none⟩), u8, .pointer (some ⟨w.heap.size + 1, 0, none⟩), u10, f, u12, u13, x14, u15, u16, u17, u18, u19, u20, u21, u22, u23, u24, u25, u26, u27, u28, u29, u30, u31, u32, u33, u34, x35, u36, u37, u38, u39, u40, u41, u42, u43, u44, u45, u46, u47, u48, u49, u50, u51, u52, u53, u54, u55, u56, u57, u58, u59, u60, u61, u62, u63, u64, x65, x66, x67, x68, x69, x70, x71, x72, x73], { target := .collected D, args := #[] } :: ds⟩ wx) :
    Code.wp Try.prog (onBlk 1) Q ⟨#[u0, u1, u2, u3, u4, u5, u6, .pointer (some ⟨w.heap.size, 0, none⟩), u8, .pointer (some ⟨w.heap.size + 1, 0, none⟩), u10, f, u12, u13, u14, u15, u16, u17, u18, u19, u20, u21, u22, u23, u24, u25, u26, u27, u28, u29, u30, u31, u32, u33, u34, u35, u36, u37, u38, u39, u40, u41, u42, u43, u44, u45, u46, u47, u48, u49, u50, u51, u52, u53, u54, u55, u56, u57, u58, u59, u60, u61, u62, u63, u64, u65, u66, u67, u68, u69, u70, u71, u72, u73], ds⟩ wc := by
  obtain ⟨W0, hW0⟩ : ∃ W0, W0 = wc.alloc (.cells #[.int .i64 0] 3) := ⟨_, rfl⟩
  have hB0 : Below wc.heap.size wc W0 := by rw [hW0]; exact (Below.refl _ _).alloc (Nat.le_refl _) _
  have hN0 : Blk W0 wc.heap.size 3 #[.int .i64 0] := by rw [hW0]; exact Blk.new _ _ _
  have hZ0 : W0.heap.size = wc.heap.size + 1 := by rw [hW0]; simp
  obtain ⟨gf, lb, rfl, hent, hfit⟩ := (hsq.keep (Same.ofBelow hB0 hJ)).fits fun k hk => by have := hJ k hk; omega
  have HFIT := Lib.hid hfit
  have HENT := Lib.hid hent
  have HW0 := Lib.hid hW0
  have HB0 := Lib.hid hB0
  have HN0 := Lib.hid hN0
  have HJ := Lib.hid hJ
  have HM := Lib.hid hm
  have HL := Lib.hid hl
  have HYL := Lib.hid hyl
  have HS := Lib.hid hs
  have HK := Lib.hid hK
  have hwl := hs.ans.lt
  clear hfit hent hW0 hB0 hN0 hJ hm hl hyl hs hK hsq
  refine wp_of_calm ?_
  conv => arg 2; whnf
  go_wp2_with fail
  rw [← HW0.out]
  refine (wpIn_wide (n := 5)).1 ?_
  refine wpIn_range_fit rfl (by omega) (gf := gf) (lb := lb) rfl trivial HENT.out HFIT.out (fun h k => same_t h k) (fun W l o o' hl h h1 h2 => same_b (w := W0) (fun k hk => by have := HJ.out k hk; omega) W l o o' hl h h1 h2) (Below.refl _ _) (fun _ => rfl)
    (fun pre W => Below wc.heap.size wc W ∧ Blk W wc.heap.size 3 #[.int .i64 (pre.length : Int)] ∧ pre.length ≤ m) (fun cd pre W => cd = .exit 2 ∧ Below wc.heap.size wc W ∧ Blk W wc.heap.size 3 #[.int .i64 lv])
    (fun pre W W' row hs hg hr => ⟨hs.1.grown hg hs.1.size fun r e => by have := (hr r e).1; omega, blk_own hs.2.1 hg fun r e => (hr r e).2, hs.2.2⟩) (fun cd pre W W' row hs hg hr => ⟨hs.1, hs.2.1.grown hg hs.2.1.size fun r e => by have := (hr r e).1; omega, blk_own hs.2.2 hg fun r e => (hr r e).2⟩) ⟨HB0.out, HN0.out, Nat.zero_le _⟩
    (fun t pre x a' W => PcFit L W0.heap.size pre x W ∧ a' = { tmps := (t.setIfInBounds 36 (.slice x.1 x.2.2.length x.2.1)).setIfInBounds 15 (.slice x.1 x.2.2.length x.2.1), defers := [] })
    (fun pre x a' _ W W' row hs hg hr => ⟨⟨hs.1.1, own_own hs.1.2 hg fun r e => (hr r e).2⟩, hs.2⟩) ?assign ?body ?done ?stop
  case assign =>
    intro l pre x W K hi hfit hsz hK
    simp only [pcV]
    gi_wp2
    exact hK _ _ (KeepsFrom.refl _ _) (Same.refl _ _) hi ⟨hfit, rfl⟩
  case body =>
    rintro l pre ⟨A1, c1, y⟩ a' W hl ⟨rr, hr⟩ ⟨hbl, hkk, hpm⟩ ⟨⟨hget, hown⟩, rfl⟩
    simp only at hget hown ⊢
    obtain ⟨k, hk⟩ : ∃ k, k = pre.length := ⟨_, rfl⟩
    rw [← hk] at hget hkk hpm
    have hkm : k < m := by rw [← HM.out]; exact (List.getElem?_eq_some_iff.1 hget).1
    obtain ⟨A', c', he, hc', hr'⟩ := HL.out.2.2 k y hget
    obtain ⟨ad, rfl, _, hadl, hcell⟩ := HL.out.1.2 (by omega)
    have hbW : Below w.heap.size w W := HS.out.below.trans (hbl.mono HS.out.below.size)
    have hwk : W.cell? (ad.add k) = some (.slice A' y.length c') := (hbW.cell (by rw [block_of_add]; exact hadl)).trans (by simpa using hcell k _ he)
    have hst1 := fun wx (e : wx.heap = W.heap) => run_str wx (fun _ => True) A1 y c1 ((Reads.of_own hown fun _ _ => trivial).keep (Same.ofHeap _ e))
    have hst2 := fun wx (e : wx.heap = W.heap) => run_str wx (fun k => k < w.heap.size) A' y c' ((hr'.keep (Same.ofBelow hbW fun k hk => hk)).keep (Same.ofHeap _ e))
    have hoc := HS.out.keep hbl
    obtain ⟨nn, hnn⟩ : ∃ nn, nn = y.length := ⟨_, rfl⟩
    have hu8 := U8Row.ofOwn (hnn ▸ hown : W.ownsRow W0.heap.size 5 1 (.slice A1 nn c1) nn (bytesV y))
    rw [← hnn] at hwk hst1 hst2 hown ⊢
    have b0 : W.cell? ⟨w.heap.size, 0, none⟩ = some (.slice (some ad) m c) := hoc.row.cell 0
    have b1 : W.cell? ⟨w.heap.size + 1, 0, none⟩ = some (.int .i64 lv) := hoc.leave.cell 0
    have b3 : W.cell? ⟨wc.heap.size, 0, none⟩ = some (.int .i64 (k : Int)) := hkk.cell 0
    have hi0 : (0 : Int) ≤ k := by omega
    have hi1 : (k : Int) < m := by omega
    have hd1 : decide (k < m) = true := decide_eq_true hkm
    have hd2 : decide (m ≤ k) = false := decide_eq_false (by omega)
    have hd3 : decide ((m : Int) ≤ (k : Int)) = false := decide_eq_false (by omega)
    have hnl : nn ≤ 140737488355328 := by
      have := HYL.out y (List.mem_of_getElem? hget)
      omega
    have HOC := Lib.hid hoc
    have HPK := Lib.hid hk
    have HU8 := Lib.hid hu8
    have HOW := Lib.hid hown
    have HBL := Lib.hid hbl
    have HKK := Lib.hid hkk
    have HY := Lib.hid hnn
    clear hoc hk hu8 hown hbl hkk hr' hcell he hbW hnn hget hc'
    simp only [List.setIfInBounds_toArray, List.set_cons_zero, List.set_cons_succ]
    gi_wp2_with fail
    refine wpIn_region_plain (fun _ => trivial) (by kernel_rfl) (by kernel_rfl) (by kernel_rfl) ?_
    repeat (go_big_quiet_step (first | (rw [hst1 (W.drewN _) rfl]; exact ⟨rfl, rfl⟩) | (rw [hst2 (W.drewN _) rfl]; exact ⟨rfl, rfl⟩)))
    refine wpQuiet_nil ?_
    rintro _ ⟨dq, rfl⟩
    have HBV := Lib.hid (show Below wc.heap.size wc (W.drewN dq) from HBL.out.trans ⟨rfl, rfl, rfl, Nat.le_refl _, fun _ _ => rfl⟩)
    have HKV := Lib.hid (HKK.out.drewN dq)
    have hu80 : U8Row (W.drewN dq) A1 nn := HU8.out
    have HU0 := Lib.hid hu80
    have HWV := Lib.hid ((Upd.refl (fun j => (Value.slice A1 nn c1).ownBlock = some j ∨ j = wc.heap.size) W).drewN dq)
    have hgw : ∀ j, (Value.slice A1 nn c1).ownBlock = some j → W0.heap.size ≤ j := fun j hj => (own_lt HOW.out hj).1
    have HGW := Lib.hid hgw
    have HPH := Lib.hid hadl
    have HA1 := Lib.hid b0
    have HA2 := Lib.hid b1
    clear hu80 hgw hst1 hst2 hwk b0 b1 b3 hi0 hi1 hd1 hd2 hd3
    generalize W.drewN dq = V at HBV HKV HU0 HWV ⊢
    gi_wp2_with fail
    gi_loopw [16] (fun i wr => ∃ j : Nat, j ≤ nn ∧ i = .int .i64 (j : Int) ∧ U8Row wr A1 nn ∧ Upd (fun b => (Value.slice A1 nn c1).ownBlock = some b) V wr) (fun i _ => nn - (intOf i).toNat)
    case atStart => exact ⟨0, Nat.zero_le _, rfl, HU0.out, Upd.refl _ _⟩
    case round =>
      obtain ⟨j, hj, rfl, hu, hp⟩ := hrel
      by_cases hlt : j < nn
      · obtain ⟨ad2, rfl, hg, hc⟩ := hu (by omega)
        obtain ⟨⟨z, hz⟩, hf⟩ := hc j hlt
        have hj0 : (0 : Int) ≤ j := by omega
        have hj1 : (j : Int) < nn := by omega
        have HU2 := Lib.hid hu
        have HP := Lib.hid hp
        have HG := Lib.hid hg
        clear hu hp hc hg
        gi_wp2_with fail
        go_roundw
        case rel => exact ⟨j + 1, by omega, by simp, HU2.out.set_, HP.out.setCell (p := ad2.add j) (.inl (by obtain ⟨g, rfl⟩ := HG.out; rw [Addr.add_lit]; rfl)) _⟩
        case measure => simp [intOf]; omega
      · obtain rfl : j = nn := by omega
        have hbr : Below wc.heap.size wc wr := HBV.out.trans (hp.below (fun k hk => by have := HGW.out k hk; omega) HBV.out.size)
        have hkr : Blk wr wc.heap.size 3 #[.int .i64 (k : Int)] := (hp.block _ HKV.out.lt fun hk => by have := HGW.out _ hk; omega).trans HKV.out
        have hor := HS.out.keep hbr
        have b1 : wr.cell? ⟨w.heap.size + 1, 0, none⟩ = some (.int .i64 lv) := hor.leave.cell 0
        have b3 : wr.cell? ⟨wc.heap.size, 0, none⟩ = some (.int .i64 (k : Int)) := hkr.cell 0
        have f3 : wr.frozen? ⟨wc.heap.size, 0, none⟩ = false := hkr.frozen 0
        have hw1 : IntKind.i64.wrap ((k : Int) + 1) = (k : Int) + 1 := by rw [IntWalk.i64_in _ (by omega)]
        have huz : Upd (fun b => (Value.slice A1 j c1).ownBlock = some b ∨ b = wc.heap.size) W wr := HWV.out.trans hp fun k hk => .inl (.inl hk)
        have HBR := Lib.hid hbr
        have HKR := Lib.hid hkr
        have HUZ := Lib.hid huz
        clear hu hp hbr hkr hor huz
        by_cases hlv : (k : Int) + 1 = lv
        · have hz1 : ((k : Int) + 1 == lv) = true := beq_iff_eq.2 hlv
          have HLV := Lib.hid hlv
          clear hlv
          gi_wp2_with fail
          have hu9 := HUZ.out.setCell (p := ⟨wc.heap.size, 0, none⟩) (.inl (.inr rfl)) (.int .i64 ((k : Int) + 1))
          have hk9 := HKR.out.set_ 0 (.int .i64 ((k : Int) + 1))
          have hb9 := HBR.out.setCell (p := ⟨wc.heap.size, 0, none⟩) (Nat.le_refl _) (.int .i64 ((k : Int) + 1))
          have hc9 : ∀ i, ((Value.slice A1 j c1).ownBlock = some i ∨ i = wc.heap.size) → i < W.heap.size → ∃ cs t, Blk W i t cs := fun i hi _ => by
            rcases hi with hi | rfl
            · obtain ⟨cs, hb⟩ := own_blk HOW.out hi
              exact ⟨_, _, hb⟩
            · exact ⟨_, _, HKK.out⟩
          exact ⟨keeps_of_cells _ hu9 hc9, rfl, hb9, by rw [← HLV.out]; simpa using hk9⟩
        · have hz1 : ((k : Int) + 1 == lv) = false := beq_eq_false_iff_ne.2 hlv
          clear hlv
          gi_wp2_with fail
          have hu9 := HUZ.out.setCell (p := ⟨wc.heap.size, 0, none⟩) (.inl (.inr rfl)) (.int .i64 ((k : Int) + 1))
          have hk9 := HKR.out.set_ 0 (.int .i64 ((k : Int) + 1))
          have hb9 := HBR.out.setCell (p := ⟨wc.heap.size, 0, none⟩) (Nat.le_refl _) (.int .i64 ((k : Int) + 1))
          have hc9 : ∀ i, ((Value.slice A1 j c1).ownBlock = some i ∨ i = wc.heap.size) → i < W.heap.size → ∃ cs t, Blk W i t cs := fun i hi _ => by
            rcases hi with hi | rfl
            · obtain ⟨cs, hb⟩ := own_blk HOW.out hi
              exact ⟨_, _, hb⟩
            · exact ⟨_, _, HKK.out⟩
          refine ⟨keeps_of_cells _ hu9 hc9, hu9.same fun i hi hj => ?_, hb9, ?_, ?_⟩
          · have := HJ.out i hj
            rcases hi with hi | rfl
            · have := HGW.out i hi
              omega
            · omega
          · rw [List.length_append, ← HPK.out]
            simpa using hk9
          · rw [List.length_append, ← HPK.out, List.length_singleton]
            omega
  case stop =>
    rintro D cd pre W hD _ ⟨rfl, hbl, hkk⟩ hdd
    have hoc := HS.out.keep hbl
    have b0 : W.cell? ⟨w.heap.size, 0, none⟩ = some (.slice A m c) := hoc.row.cell 0
    have b1 : W.cell? ⟨w.heap.size + 1, 0, none⟩ = some (.int .i64 lv) := hoc.leave.cell 0
    have b3 : W.cell? ⟨wc.heap.size, 0, none⟩ = some (.int .i64 lv) := hkk.cell 0
    have HBL := Lib.hid hbl
    have HD := Lib.hid hdd
    clear hoc hbl hkk hdd
    by_cases hlm : lv = (m : Int)
    · subst hlm
      gi_wp2_with fail
      go_wp2_with fail
      exact HK.out _ _ _ _ _ _ _ _ _ _ _ D W HBL.out (by omega) HD.out
    · have z1 : (lv != (m : Int)) = true := by rw [bne_iff_ne]; exact hlm
      have z2 : (lv != lv) = false := by simp
      clear hlm
      gi_wp2_with fail
      go_wp2_with fail
      exact HK.out _ _ _ _ _ _ _ _ _ _ _ D W HBL.out (by omega) HD.out
  case done =>
    rintro D ys W hD hys ⟨hbl, hkk, hpm⟩ hdd
    have hoc := HS.out.keep hbl
    rw [hys, HM.out] at hkk
    have b0 : W.cell? ⟨w.heap.size, 0, none⟩ = some (.slice A m c) := hoc.row.cell 0
    have b1 : W.cell? ⟨w.heap.size + 1, 0, none⟩ = some (.int .i64 lv) := hoc.leave.cell 0
    have b3 : W.cell? ⟨wc.heap.size, 0, none⟩ = some (.int .i64 (m : Int)) := hkk.cell 0
    have z1 : ((m : Int) != (m : Int)) = false := by simp
    have HBL := Lib.hid hbl
    have HD := Lib.hid hdd
    clear hoc hbl hkk hdd hys hpm
    gi_wp2_with fail
    go_wp2_with fail
    exact HK.out _ _ _ _ _ _ _ _ _ _ _ D W HBL.out (by omega) HD.out
set_option maxRecDepth 100000 in
set_option maxHeartbeats 8000000 in
theorem once15_any (A : Option Addr) (n c : Nat) (x : By) (m : Int) (I : Nat → Prop) (w : World) (h : Reads w I 1 A n (bytesV x)) (hn : x.length = n) (hc : n ≤ c) (hsm : n ≤ 1000000) (A2 : Option Addr) (c2 k2 : Nat) (us : List Value) (hm : (cutF x m).1.length = k2)
    (hl : Lst8 w (fun k => k < w.heap.size) A2 k2 us (cutF x m).1) (no : Nat) (hno : (cutF x m).2 = no) (lv : Int) :
    Calls Try.prog 49 #[.slice A n c, .int .i64 m, .slice A2 k2 c2, .int .i64 (no : Int), .int .i64 lv] w fun e w' => e = .returned (.bool true) ∧ Below w.heap.size w w' := by
  obtain ⟨W0, hW0⟩ : ∃ W0, W0 = ((w.alloc (.cells #[.slice A2 k2 c2] 56)).alloc (.cells #[.int .i64 lv] 3)).alloc (.cells #[.bool false] 4) := ⟨_, rfl⟩
  have hB0 : Below w.heap.size w W0 := by
    rw [hW0]
    exact (((Below.refl _ _).alloc (Nat.le_refl _) _).alloc (by simp <;> omega) _).alloc (by simp <;> omega) _
  have hO : OcS w W0 (.slice A2 k2 c2) lv := by
    refine ⟨hB0, ?_, ?_, ?_⟩
    · rw [hW0]; exact ((Blk.new _ _ _).alloc _).alloc _
    · rw [hW0]
      have := (Blk.new (w.alloc (.cells #[.slice A2 k2 c2] 56)) 3 #[.int .i64 lv]).alloc (.cells #[.bool false] 4)
      simpa using this
    · rw [hW0]
      have := Blk.new ((w.alloc (.cells #[.slice A2 k2 c2] 56)).alloc (.cells #[.int .i64 lv] 3)) 4 #[.bool false]
      simpa using this
  have hp := pieces_any A n c x m (fun k => I k ∧ k < w.heap.size) W0 (h.lt.keep (Same.ofBelow hB0 fun k hk => hk.2)) hn hc hsm
  have hyl := cut_bound (by omega : x.length ≤ 1000000) m
  have hlen : k2 ≤ 1000001 := by have := cut_len x m; omega
  obtain ⟨R, hR⟩ : ∃ R, R = cutF x m := ⟨_, rfl⟩
  rw [← hR] at hp hyl hm hl hno
  obtain ⟨L, en⟩ := R
  simp only at hyl hm hl hno
  subst hno
  have HP := Lib.hid hp
  have HW0 := Lib.hid hW0
  have HO := Lib.hid hO
  have HL := Lib.hid hl
  have HYL := Lib.hid hyl
  have HM := Lib.hid hm
  clear hB0 hp hW0 hO hl hyl hm h hn hc hsm hR
  refine (callsIn_wide (n := 5)).1 ?_
  refine callsIn_of_wp_marks Try.func49 rfl trivial ?_ rfl
  simp only [Try.ntmps49, List.size_toArray, List.length_cons, List.length_nil, Nat.reduceAdd, Nat.reduceSub, Array.replicate_succ, Array.replicate_zero, List.push_toArray, List.append_toArray, List.nil_append, List.cons_append]
  refine wpIn_wide.2 ?_
  go_wp2_with fail
  rw [← HW0.out]
  refine HP.out.mono ?_
  rintro e w1 ⟨f, rfl, hsq, hb1⟩
  have hO1 := HO.out.keep hb1
  obtain ⟨g, lb, rfl, _⟩ := hsq.fits fun k hk => hk.2
  have hfn : ∀ w2 : World, (binOp .eql 109 (.func (.func g) #[] lb) Value.nilFunc).run Try.prog w2 = .ok (.bool false) w2 := fun w2 => by kernel_rfl
  have hne : ((en : Int) != (en : Int)) = false := by simp
  have hs1 := hsq.mono (K := fun k => k < w1.heap.size) (fun k hk => hk.2) fun k hk => hk
  have HS1 := Lib.hid hs1
  have HO1 := Lib.hid hO1
  clear hsq hb1 hO1 hs1
  go_wp2_with (go_at_call 43; refine (num15_any _ _).mono ?_; rintro e w' ⟨rfl, rfl⟩)
  refine wp_loop_rounds 3 ?_
  rw [rounds_succ]
  go_upto_block 1 with (fail)
  refine on_turn HO1.out HM.out HL.out hlen HYL.out HS1.out (fun k hk => hk) ?_
  intro y0 y1 y2 y3 y4 y5 y6 y7 y8 y9 y10 D1 w2 hb2 hD1 hd1
  have hO2 := HO1.out.keep hb2
  have hs2 := (HS1.out.keep (Same.ofBelow hb2 fun k hk => hk)).mono (K := fun k => k < w2.heap.size) (fun k hk => Nat.lt_of_lt_of_le hk hb2.size) fun k hk => hk
  have HO2 := Lib.hid hO2
  have HS2 := Lib.hid hs2
  have HD1 := Lib.hid hd1
  clear hO2 hs2 hd1 hb2
  go_wp2_with fail
  rw [rounds_succ]
  go_upto_block 1 with (fail)
  refine on_turn HO2.out HM.out HL.out hlen HYL.out HS2.out (fun k hk => hk) ?_
  intro y0 y1 y2 y3 y4 y5 y6 y7 y8 y9 y10 D2 w3 hb3 hD2 hd2
  have hO3 := HO2.out.keep hb3
  have hlt1 : D1 < w2.heap.size := (Array.getElem?_eq_some_iff.1 HD1.out).1
  have hd1 := (hb3.block D1 hlt1).trans HD1.out
  have HO3 := Lib.hid hO3
  have HD3 := Lib.hid hd2
  have HD13 := Lib.hid hd1
  clear hO3 hd2 hb3 hd1
  go_wp2_with fail
  rw [rounds_succ]
  have r0 : w3.cell? ⟨w.heap.size + 1 + 1, 0, none⟩ = some (.bool false) := HO3.out.ans.cell 0
  have fr0 : w3.frozen? ⟨w.heap.size + 1 + 1, 0, none⟩ = false := HO3.out.ans.frozen 0
  go_wp2_with fail
  have hk2 := (HO3.out.ans.set_ 0 (.bool true))
  have hb9 := HO3.out.below.setCell (p := ⟨w.heap.size + 1 + 1, 0, none⟩) (by simp; omega) (.bool true)
  have hu := upd_set w3 (w.heap.size + 1 + 1) 0 (.bool true)
  have hlt2 := (Array.getElem?_eq_some_iff.1 HD3.out).1
  have hz1 : w.heap.size + 1 + 1 < w1.heap.size := HO1.out.ans.lt
  have e1 := (hu.block D1 (by omega) (fun (h : D1 = w.heap.size + 1 + 1) => by omega)).trans HD13.out
  have e2 := (hu.block D2 hlt2 (fun (h : D2 = w.heap.size + 1 + 1) => by omega)).trans HD3.out
  generalize w3.setCell ⟨w.heap.size + 1 + 1, 0, none⟩ (.bool true) = w9 at hk2 hb9 e1 e2 ⊢
  refine ⟨by simp, .inl ⟨_, _, rfl, run_takeDeferred e2, ?_⟩⟩
  have e3 : (w9.putObj D2 (.deferred none)).heap[D1]? = some (.deferred (some [])) := (World.putObj_heap_other (by omega)).trans e1
  have hno : ∀ r, some D2 = some r → ∃ o : Obj, w9.heap[r]? = some o ∧ o.isCells = false := fun r e => by cases e; exact ⟨_, e2, rfl⟩
  have j2 := blk_own hk2 (grownBy_putObj' w9 D2 (.deferred none)) hno
  have b2 := hb9.trans (belowK_b (w := w) (Nat.le_refl _) w9 D2 _ (.deferred none) (by omega) e2 rfl rfl)
  generalize w9.putObj D2 (.deferred none) = w8 at e3 j2 b2 ⊢
  refine ⟨by simp, .inl ⟨_, _, rfl, run_takeDeferred e3, ?_⟩⟩
  have hno1 : ∀ r, some D1 = some r → ∃ o : Obj, w8.heap[r]? = some o ∧ o.isCells = false := fun r e => by cases e; exact ⟨_, e3, rfl⟩
  have a0 := (blk_own j2 (grownBy_putObj' w8 D1 (.deferred none)) hno1).cell 0
  have b1 := b2.trans (belowK_b (w := w) (Nat.le_refl _) w8 D1 _ (.deferred none) (by omega) e3 rfl rfl)
  exact ⟨.bool true, by simp [results, Try.f49, go_sem, a0], rfl, b1⟩
end Go.Proofs.Ytfddkehnhkfjeaa
