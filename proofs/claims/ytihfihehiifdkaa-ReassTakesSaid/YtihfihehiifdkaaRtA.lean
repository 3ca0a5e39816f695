/- Reass: a flow in memory; missing. -/
import Derived.Test.YtihfihehiifdkaaReP
import Derived.Test.YtihfihehiifdkaaHpC
import Derived.Test.YtihfihehiifdkaaMpV
import Derived.Test.YtihfihehiifdkaaHdP
import Derived.Deep.LoopGhost
namespace Go.Proofs.Ytihfihehiifdkaa
open Go.RowKit Go.Sort
def flC (ab : Nat) (h : Hd) (vo : Value) (fst : Bool) (en : Int) : Array Value :=
  #[.map (some ab), .int .u8 (h.tos : Int), .int .u16 (h.id : Int), .bool h.evil, .bool h.df, .bool h.mf, .int .i64 h.off, .int .u8 (h.ttl : Int), .int .u8 (h.proto : Int), .int .u32 (h.src : Int), .int .u32 (h.dst : Int), vo, .bool fst, .int .i64 en]
/-- How many places have bytes. -/
def cntC (c : Nat → By) (n : Nat) : Nat := (List.range n).countP fun k => !(c k).isEmpty
theorem cntC_le (c : Nat → By) (n : Nat) : cntC c n ≤ n := by
  have := List.countP_le_length (p := fun k => !(c k).isEmpty) (l := List.range n)
  simpa [cntC] using this
theorem cntC_set {c d : Nat → By} {k : Nat} (h : ∀ j, j ≠ k → d j = c j) (hd : d k ≠ []) : ∀ n, cntC d n = cntC c n + if k < n ∧ c k = [] then 1 else 0
  | 0 => by simp [cntC]
  | n + 1 => by
    have ih := cntC_set h hd n
    have e : ∀ f : Nat → By, cntC f (n + 1) = cntC f n + if f n = [] then 0 else 1 := fun f => by
      unfold cntC
      rw [List.range_succ, List.countP_append]
      by_cases hf : f n = [] <;> simp [hf]
    rw [e, e, ih]
    by_cases hn : n = k
    · subst hn
      by_cases hc : c n = []
      · simp [hd, hc]
      · simp [hd, hc]
    · rw [h n hn]
      have e2 : (if k < n + 1 ∧ c k = [] then 1 else 0) = (if k < n ∧ c k = [] then 1 else 0 : Nat) := by
        by_cases hc : c k = []
        · by_cases hk : k < n
          · rw [if_pos ⟨by omega, hc⟩, if_pos ⟨hk, hc⟩]
          · rw [if_neg (fun x => hk (by omega)), if_neg (fun x => hk x.1)]
        · rw [if_neg (fun x => hc x.2), if_neg (fun x => hc x.2)]
      rw [e2]
      omega
/-- What stands in a flow's map; N: where its bytes may lie. -/
structure ChM (w : World) (N : Nat → Prop) (c : Nat → By) (F : Lit → Option Value) : Prop where
  hit : ∀ k, c k ≠ [] → ∃ v, F (.int .i64 ((k : Nat) : Int)) = some v ∧ Row8 0 w v (c k) ∧ ∀ g, v.ownBlock = some g → N g
  miss : ∀ k, c k = [] → F (.int .i64 ((k : Nat) : Int)) = none
  keys : ∀ kl v, F kl = some v → WideAt.IsKeyLit kl → ∃ k : Nat, kl = .int .i64 (k : Int)
structure FlM (w : World) (N : Nat → Prop) (fb ab : Nat) (f : Fl) : Prop where
  blk : ∃ vo, Blk w fb 115 (flC ab f.hd vo f.first f.en) ∧ Row8 0 w vo f.hd.opts ∧ ∀ g, vo.ownBlock = some g → N g
  map : ∃ F, MapV Try.prog 3 w ab (cntC f.c 8192) F (cntC f.c 8192) ∧ ChM w N f.c F
theorem intKeyed : Maps.Keyed Try.prog 3 := Maps.int_keyed Try.underlying3
theorem wf_nat {k : Nat} (h : k ≤ 1000000000) : (Lit.int .i64 (k : Int)).wf = true := WalkArith.wf_i64 (by omega)
theorem int_key {k : Nat} (h : k ≤ 1000000000) : keyOf Try.prog 3 (.int .i64 (k : Int)) = some (.int .i64 (k : Int)) := Maps.keyOf_int_mk Try.underlying3 (wf_nat h)
theorem zero_by (w : World) : (zeroValue 22).run Try.prog w = .ok (.slice none 0 0) w := by kernel_rfl
section
variable {w w' : World} {N N' : Nat → Prop} {c : Nat → By} {F : Lit → Option Value} {fb ab : Nat} {f : Fl}
theorem ChM.keep (h : ChM w N c F) (hk : ∀ v (x : By), Row8 0 w v x → (∀ g, v.ownBlock = some g → N g) → Row8 0 w' v x ∧ ∀ g, v.ownBlock = some g → N' g) : ChM w' N' c F :=
  ⟨fun k hc => by
    obtain ⟨v, h1, h2, h3⟩ := h.hit k hc
    exact ⟨v, h1, hk v _ h2 h3⟩, h.miss, h.keys⟩
theorem FlM.below (h : FlM w N fb ab f) (hb : Below w.heap.size w w') : FlM w' N fb ab f := by
  obtain ⟨⟨vo, h1, h2, h3⟩, F, h4, h5⟩ := h
  exact ⟨⟨vo, h1.below hb h1.lt, h2.below hb, h3⟩, F, h4.below hb, h5.keep fun v x hv hn => ⟨hv.below hb, hn⟩⟩
theorem FlM.mono (h : FlM w N fb ab f) (hN : ∀ g, N g → N' g) : FlM w N' fb ab f := by
  obtain ⟨⟨vo, h1, h2, h3⟩, F, h4, h5⟩ := h
  exact ⟨⟨vo, h1, h2, fun g hg => hN g (h3 g hg)⟩, F, h4, h5.keep fun v x hv hn => ⟨hv, fun g hg => hN g (hn g hg)⟩⟩
theorem ChM.look (h : ChM w N c F) (k : Nat) : ∃ A q, (F (.int .i64 ((k : Nat) : Int))).getD (.slice none 0 0) = .slice A (c k).length q ∧ Row8 0 w (.slice A (c k).length q) (c k) ∧ ∀ g, (Value.slice A (c k).length q).ownBlock = some g → N g := by
  by_cases hc : c k = []
  · rw [h.miss k hc, hc]
    exact ⟨none, 0, rfl, Row8.nil 0 w, fun g hg => by cases hg⟩
  · obtain ⟨v, h1, h2, h3⟩ := h.hit k hc
    obtain ⟨A, q, rfl, _⟩ := h2.form
    exact ⟨A, q, by rw [h1]; rfl, h2, h3⟩
end
/-- Which keys were met. -/
structure EndS (f : Fl) (left : Lit → Bool) (em : Int) : Prop where
  a : 0 ≤ f.en → em = f.en
  b : f.en < 0 → ∀ k : Nat, f.c k ≠ [] → left (.int .i64 (k : Int)) = false → 8 * (k : Int) ≤ em
  c : f.en < 0 → em = -1 ∨ ∃ k, f.c k ≠ [] ∧ em = 8 * ((k : Nat) : Int)
theorem EndS.done {f : Fl} {left : Lit → Bool} {em : Int} (h : EndS f left em) (ok : FlOk f) (hl : ∀ kl, left kl = false) : ∀ k : Nat, (8 * (k : Int) < em ↔ 8 * k < endF f) ∧ (8 * (k : Int) < em → em = (endF f : Int)) := by
  intro k
  by_cases he : 0 ≤ f.en
  · have := h.a he
    have e : endF f = f.en.toNat := by unfold endF; rw [if_pos he]
    rw [e, this]
    constructor
    · omega
    · omega
  · have e : endF f = 8 * ((f.bl - 1) / 8) := by unfold endF; rw [if_neg he]
    by_cases hb : f.bl = 0
    · have hn : ∀ k, f.c k = [] := fun k => Classical.byContradiction fun hk => by have := ok.cb k hk; rw [hb] at this; have := List.length_pos_iff.2 hk; omega
      rcases h.c (by omega) with h1 | ⟨j, h1, _⟩
      · rw [e, hb, h1]; omega
      · exact absurd (hn j) h1
    · have hlast := ok.last hb
      have hbl := ok.bl
      obtain ⟨K, hK⟩ : ∃ K, K = (f.bl - 1) / 8 := ⟨_, rfl⟩
      rw [← hK] at e hlast
      have hcK : f.c K ≠ [] := by intro h0; rw [h0] at hlast; simp at hlast; omega
      have h2 := h.b (by omega) K hcK (hl _)
      rcases h.c (by omega) with h1 | ⟨j, h1, h3⟩
      · omega
      · have := ok.cb j h1
        have := List.length_pos_iff.2 h1
        rw [e]
        omega
theorem EndS.step {f : Fl} {left : Lit → Bool} {em : Int} (h : EndS f left em) {k : Nat} (hk : f.c k ≠ []) : EndS f (fun x => left x && !x.sameKey (.int .i64 ((k : Nat) : Int))) (if f.en < 0 then max em (8 * (k : Int)) else em) := by
  refine ⟨fun he => ?_, fun he j hj hl => ?_, fun he => ?_⟩
  · rw [if_neg (by omega)]; exact h.a he
  · rw [if_pos he]
    by_cases e : j = k
    · rw [e]; omega
    · have hne : (Lit.int .i64 (j : Int)) ≠ (Lit.int .i64 (k : Int)) := fun x => e (by injection x with _ x; omega)
      simp only [Maps.sameKey_ne hne] at hl
      have := h.b he j hj (by simpa using hl)
      omega
  · rw [if_pos he]
    right
    rcases h.c he with h1 | ⟨j, h1, h2⟩
    · exact ⟨k, hk, by omega⟩
    · rcases Int.le_total em (8 * (k : Int)) with hm | hm
      · exact ⟨k, hk, by omega⟩
      · exact ⟨j, h1, by omega⟩
theorem EndS.start (f : Fl) (left : Lit → Bool) (ok : FlOk f) (hl : ∀ k : Nat, k ≤ 1000000000 → f.c k ≠ [] → left (.int .i64 (k : Int)) = true) : EndS f left f.en := by
  refine ⟨fun _ => rfl, fun he k hk hf => ?_, fun he => .inl (by have := ok.e0; omega)⟩
  have := ok.cb k hk
  have := ok.bl
  rw [hl k (by omega) hk] at hf
  cases hf
end Go.Proofs.Ytihfihehiifdkaa
namespace Go.Proofs.Ytihfihehiifdkaa
open Go.RowKit Go.Sort
theorem filter_snoc (p : Nat → Bool) (k : Nat) : (List.range (k + 1)).filter p = (List.range k).filter p ++ if p k = true then [k] else [] := by
  rw [List.range_succ, List.filter_append]
  by_cases h : p k = true <;> simp [h]
theorem filterN_lt (p : Nat → Bool) (k : Nat) : ∀ x ∈ (List.range k).filter p, x < k := fun _ hx => List.mem_range.1 (List.mem_filter.1 hx).1
theorem filterN_le (p : Nat → Bool) (k : Nat) : ((List.range k).filter p).length ≤ k := by
  have := List.length_filter_le p (List.range k)
  simpa using this
theorem range_rise (p : Nat → Bool) (k : Nat) : ((List.range k).filter p).Pairwise (· < ·) := List.Pairwise.filter _ List.pairwise_lt_range
theorem heapN_take {n : Nat} {L : List Nat} (h : HeapN n L) (hl : n ≤ L.length) : HeapN (L.take n).length (L.take n) := by
  have e : (L.take n).length = n := by rw [List.length_take]; omega
  have g : ∀ k, k < n → (L.take n).getD k 0 = L.getD k 0 := fun k hk => by simp [List.getD_eq_getElem?_getD, hk]
  rw [e]
  intro k h0 hk
  rw [g k hk, g _ (by omega)]
  exact h k h0 hk
theorem end_le {f : Fl} (ok : FlOk f) : endF f ≤ 65535 := by
  have := ok.bl
  have := ok.e1
  unfold endF
  split <;> omega
section
variable {w : World} {N : Nat → Prop} {fb ab : Nat} {f : Fl}
theorem FlM.cells (h : FlM w N fb ab f) : w.cell? ⟨fb, 0, none⟩ = some (.map (some ab)) ∧ w.cell? ⟨fb, 13, none⟩ = some (.int .i64 f.en) ∧ w.cell? ⟨fb, 12, none⟩ = some (.bool f.first) := by
  obtain ⟨⟨vo, h1, _⟩, _⟩ := h
  exact ⟨h1.cell 0, h1.cell 13, h1.cell 12⟩
end
set_option maxRecDepth 100000 in
set_option maxHeartbeats 8000000 in
theorem missing_any (N : Nat → Prop) (fb ab : Nat) (f : Fl) (w : World) (h : FlM w N fb ab f) (ok : FlOk f) :
    Calls Try.prog 85 #[.pointer (some ⟨fb, 0, none⟩)] w fun e w' => ∃ v, e = .returned v ∧ RowN w.heap.size w' v (missF f) ∧ Below w.heap.size w w' := by
  have HF := Lib.hid (fun wx (hb : Below w.heap.size w wx) => h.below hb)
  have HE := Lib.hid (end_le ok)
  obtain ⟨c0, c13, _⟩ := h.cells
  obtain ⟨F, hm, hch⟩ := h.map
  obtain ⟨w1, left, hr, hra, hl, hb1, hs1⟩ := hm.range intKeyed Try.underlying113
  have HM := Lib.hid (fun wx (hb : Below w.heap.size w wx) => hm.below hb)
  have HCH := Lib.hid hch
  have HOK := Lib.hid ok
  have HB1 := Lib.hid hb1
  have HRA := Lib.hid hra
  have HST := Lib.hid (EndS.start f left ok fun k hk hc => by
    obtain ⟨v, h1, _⟩ := hch.hit k hc
    rw [hl (.int .i64 (k : Int)) trivial, h1]
    rfl)
  have hen0 := ok.e0
  have hen1 : f.en ≤ 65535 := by have := ok.e1; have := ok.bl; omega
  obtain ⟨en, hen⟩ : ∃ e, e = f.en := ⟨_, rfl⟩
  rw [← hen] at c13 hen0 hen1 HST
  have HEN := Lib.hid hen
  have HC := Lib.hid (show ∀ wx, Below w.heap.size w wx → wx.cell? ⟨fb, 0, none⟩ = some (.map (some ab)) ∧ wx.cell? ⟨fb, 13, none⟩ = some (.int .i64 en) from fun wx hb => by
    obtain ⟨x0, x1, _⟩ := (h.below hb).cells
    exact ⟨x0, by rw [hen]; exact x1⟩)
  clear h hm hch hl hb1 hs1 ok hra hen
  go_enter Try.func85, Try.ntmps85
  go_wp2_with fail
  clear hr c0 c13
  go_loopw [3] (fun s3 wr => ∃ (em : Int) (lf : Lit → Bool) (cnt : Nat), s3 = .int .i64 em ∧ RangeV Try.prog 3 wr ab w.heap.size (cntC f.c 8192) F lf cnt ∧ EndS f lf em ∧ Below w.heap.size w wr ∧ -1 ≤ em ∧ em ≤ 65535) (fun _ wr => wr.rangeLeft ab w.heap.size)
  case atStart => exact ⟨_, _, _, rfl, HRA.out, HST.out, HB1.out, by omega, by omega⟩
  case round =>
    obtain ⟨em, lf, cnt, rfl, hR, hE, hB, he0, he1⟩ := hrel
    rcases hR.next intKeyed 0 with ⟨_, hdone, hrun⟩ | ⟨key, v, kl, w2, cnt2, a1, a2, a3, a4, hrun, hR2, hlt, hg2, hs2, hent⟩
    · have hdn := hE.done HOK.out hdone
      have HDN := Lib.hid hdn
      have HBR := Lib.hid hB
      clear hR hE hB hdone hdn
      go_wp2_with fail
      clear hrun he0
      obtain ⟨pb, hpb⟩ : ∃ b, b = wr.heap.size := ⟨_, rfl⟩
      have hbp : Below w.heap.size w (wr.alloc (.cells #[.slice none 0 0] 138)) := HBR.out.alloc HBR.out.size _
      have hkp := Blk.new wr 138 #[.slice none 0 0]
      have hpw : w.heap.size ≤ pb := by rw [hpb]; exact HBR.out.size
      obtain ⟨wp, hwp⟩ : ∃ wp, wp = wr.alloc (.cells #[.slice none 0 0] 138) := ⟨_, rfl⟩
      rw [← hpb, ← hwp] at hkp
      rw [← hwp] at hbp
      rw [← hpb, ← hwp]
      have HBP := Lib.hid hbp
      have HKP := Lib.hid hkp
      have HPW := Lib.hid hpw
      clear hpb hwp hbp hkp hpw HBR
      have hM : (endF f + 7) / 8 ≤ 8192 := by have := HE.out; omega
      obtain ⟨M, hMe⟩ : ∃ M, M = (endF f + 7) / 8 := ⟨_, rfl⟩
      have HME := Lib.hid hMe
      rw [← hMe] at hM
      clear hMe
      go_loopw [6] (fun s6 wq => ∃ (k : Nat) (v : Value), s6 = .int .i64 (k : Int) ∧ k ≤ M ∧ Blk wq pb 138 #[v] ∧ RowN w.heap.size wq v ((List.range k).filter (lackF f)) ∧ Below w.heap.size w wq) (fun s6 _ => M - (intOf s6).toNat)
      case atStart => exact ⟨0, _, rfl, Nat.zero_le _, HKP.out, World.ownsRow_nil _ _ _ _, HBP.out⟩
      case round =>
        obtain ⟨k, v, rfl, hk, hK, hV, hB⟩ := hrel
        obtain ⟨e1, e2⟩ := HDN.out k
        obtain ⟨c0, _⟩ := HC.out wr hB
        have HK := Lib.hid hK
        have HV := Lib.hid hV
        have HB := Lib.hid hB
        by_cases hlt : 8 * k < endF f
        · have HEM := Lib.hid (e2 (e1.2 hlt))
          have hk1 : k + 1 ≤ M := by rw [HME.out]; omega
          have hp1 : 8 * (k : Int) < em := e1.2 hlt
          obtain ⟨A, q, hq, hrow, _⟩ := HCH.out.look k
          have hlk := (HM.out wr hB).look intKeyed Try.underlying113 (zero_by wr) (int_key (k := k) (by omega))
          rw [hq] at hlk
          have hlen : (f.c k).length ≤ 8 := HOK.out.c8 k
          obtain ⟨m, hm⟩ : ∃ m, m = (f.c k).length := ⟨_, rfl⟩
          have hlack : lackF f k = decide (m < min 8 (endF f - 8 * k)) := by unfold lackF; rw [hm]
          rw [← hm] at hlk hlen
          have hpu := pl_hpush w.heap.size pb ((List.range k).filter (lackF f)) v k wr hK hV (Nat.le_trans (filterN_le _ _) (by omega)) hB.size (filterN_lt _ _)
          have HPU := Lib.hid hpu
          have HLK := Lib.hid hlack
          clear hpu hq hrow hm e1 e2 hlack hK hV hB hen0 hen1 hlt
          have hsn := filter_snoc (lackF f) k
          have HSN := Lib.hid hsn
          clear hsn
          by_cases h8 : (8 : Int) ≤ em - 8 * (k : Int)
          · have hmin : min 8 (endF f - 8 * k) = 8 := by have := HEM.out; omega
            rw [hmin] at HLK
            clear hmin
            by_cases hl : m < 8
            · have hl2 : lackF f k = true := by rw [HLK.out]; exact decide_eq_true hl
              rw [if_pos hl2] at HSN
              clear hl2
              go_wp2_with (go_at_call 99; refine HPU.out.mono ?_; rintro e w5 ⟨rfl, v5, hk5, hr5, hu5⟩; have HK5 := Lib.hid hk5; have HR5 := Lib.hid hr5; have HB5 := Lib.hid (HB.out.trans (hu5.below (fun x hx => by rcases hx with rfl | hx; exact HPW.out; exact (own_lt HV.out hx).1) HB.out.size)); clear hk5 hr5 hu5)
              go_roundw
              case rel => exact ⟨k + 1, v5, by go_num, hk1, HK5.out, by rw [HSN.out]; exact HR5.out, HB5.out⟩
              case measure => simp [intOf]; omega
            · have hl2 : ¬ lackF f k = true := by rw [HLK.out]; simpa using hl
              rw [if_neg hl2, List.append_nil] at HSN
              clear hl2
              go_wp2_with fail
              go_roundw
              case rel => exact ⟨k + 1, v, by go_num, hk1, HK.out, by rw [HSN.out]; exact HV.out, HB.out⟩
              case measure => simp [intOf]; omega
          · have hmin : min 8 (endF f - 8 * k) = endF f - 8 * k := by have := HEM.out; omega
            rw [hmin] at HLK
            clear hmin
            by_cases hl : (m : Int) < em - 8 * (k : Int)
            · have hl2 : lackF f k = true := by rw [HLK.out]; exact decide_eq_true (by have := HEM.out; omega)
              rw [if_pos hl2] at HSN
              clear hl2
              go_wp2_with (go_at_call 99; refine HPU.out.mono ?_; rintro e w5 ⟨rfl, v5, hk5, hr5, hu5⟩; have HK5 := Lib.hid hk5; have HR5 := Lib.hid hr5; have HB5 := Lib.hid (HB.out.trans (hu5.below (fun x hx => by rcases hx with rfl | hx; exact HPW.out; exact (own_lt HV.out hx).1) HB.out.size)); clear hk5 hr5 hu5)
              go_roundw
              case rel => exact ⟨k + 1, v5, by go_num, hk1, HK5.out, by rw [HSN.out]; exact HR5.out, HB5.out⟩
              case measure => simp [intOf]; omega
            · have hl2 : ¬ lackF f k = true := by have := HEM.out; rw [HLK.out]; simp; omega
              have hl3 : em - 8 * (k : Int) ≤ (m : Int) := by omega
              have hl4 : decide ((m : Int) < em - 8 * (k : Int)) = false := decide_eq_false hl
              rw [if_neg hl2, List.append_nil] at HSN
              clear hl2
              go_wp2_with fail
              go_roundw
              case rel => exact ⟨k + 1, v, by go_num, hk1, HK.out, by rw [HSN.out]; exact HV.out, HB.out⟩
              case measure => simp [intOf]; omega
        · have hkM : k = M ∨ ¬ (8 * (k : Int) < em) := .inr (fun h => hlt (e1.1 h))
          have hkM2 : k = M := by rw [HME.out] at hk ⊢; omega
          have d1 : decide (8 * (k : Int) < em) = false := decide_eq_false (fun h => hlt (e1.1 h))
          have hms : (List.range k).filter (lackF f) = missF f := by unfold missF; rw [hkM2, HME.out]
          rw [hms] at HV
          have hk9 : k ≤ 8192 := by omega
          have HML := Lib.hid (show (missF f).length ≤ 8192 from Nat.le_trans (filterN_le _ _) (by have := HE.out; omega))
          clear hK hV hB hms hkM hkM2 hk e1 e2 hlt hM hen0 hen1
          go_wp2_with fail
          clear d1
          have HRI := Lib.hid (show (missF f).Pairwise (· < ·) from range_rise _ _)
          obtain ⟨i0, hi, hz0, hz1, hz2⟩ := info_parts (show (Try.prog.info? 3).map (fun i => (i.zero, i.size, i.bytes)) = some (some (.int .i64 0), 1, 8) by kernel_rfl)
          have ta := fun (w : World) (k : Nat) => run_assertI w k
          go_loopg [7] (missF f).length (fun g s7 wr => ∃ (j : Nat) (vo v : Value) (L : List Nat), j + g = (missF f).length ∧ s7 = vo ∧ RowN w.heap.size wr vo ((missF f).take j) ∧ Blk wr pb 138 #[v] ∧ RowN w.heap.size wr v L ∧ L.Perm ((missF f).drop j) ∧ HeapN L.length L ∧ (∀ b, vo.ownBlock = some b → v.ownBlock ≠ some b) ∧ Below w.heap.size w wr)
          case atStart => exact ⟨0, _, v, missF f, by omega, rfl, World.ownsRow_nil _ _ _ _, HK.out, HV.out, List.Perm.refl _, heapN_rise (HRI.out.imp Nat.le_of_lt) (Nat.le_refl _), (fun b hb => by cases hb), HB.out⟩
          case round =>
            obtain ⟨j, vo, v2, L, hj, hs7, hO, hK2, hV2, hP, hH, hne, hB2⟩ := hrel
            obtain rfl := hs7.symm
            obtain ⟨A2, q2, rfl, _⟩ := own_form hV2
            have hLl := hP.length_eq
            rw [List.length_drop] at hLl
            have HO := Lib.hid hO
            have HV2 := Lib.hid hV2
            have HK2 := Lib.hid hK2
            have HNE2 := Lib.hid hne
            have HB2 := Lib.hid hB2
            have c5 := hK2.cell 0
            by_cases hgo : j < (missF f).length
            · obtain ⟨n, hn⟩ : ∃ n, n + 1 = L.length := ⟨L.length - 1, by omega⟩
              have hpop := pl_hpop w.heap.size pb n L _ wr hK2 hV2 (by have := HML.out; omega) hn hH
              have hfirst := fun L2 h1 h2 => pop_first (n := n) (k := j) (L2 := L2) HRI.out hP hH hn h1 h2
              have HFI := Lib.hid hfirst
              have HPO := Lib.hid hpop
              have HLN := Lib.hid hn
              rw [← hn] at c5 HNE2 HPO HV2
              have ht : ((missF f).take j).length = j := by rw [List.length_take]; omega
              have HT := Lib.hid ht
              have hn2 : n + 1 ≤ 8192 := by have := HML.out; omega
              clear hO hK2 hV2 hP hH hne hB2 hn hpop hfirst hLl ht
              obtain ⟨x, hx⟩ : ∃ x, x = (missF f).getD j 0 := ⟨_, rfl⟩
              rw [← hx] at HFI
              have htk : (missF f).take (j + 1) = (missF f).take j ++ [x] := by
                rw [List.take_succ_eq_append_getElem hgo, hx]
                congr 2
                simp [List.getD_eq_getElem?_getD, hgo]
              have HTK := Lib.hid htk
              have hmx : j + 1 ≤ maxLen := by have := HML.out; unfold maxLen; omega
              have hmb : (j + 1) * 8 ≤ 140737488355328 := by have := HML.out; omega
              clear hx htk
              go_wp2_with (first
                | (go_at_call 100
                   refine HPO.out.mono ?_
                   rintro e w5 ⟨L2, v5, rfl, hp5, hd5, hh5, hl5, hk5, hr5, hu5, ho5⟩
                   obtain ⟨_, hx5, hpm5⟩ := HFI.out L2 hp5 hd5
                   rw [hx5]
                   have hoo : w5.ownsRow w.heap.size 3 1 vo j (natV ((missF f).take j)) := by
                     have h0 := HO.out
                     unfold RowN at h0
                     rw [HT.out] at h0
                     exact own_keep h0 (hu5.same (I := fun g => vo.ownBlock = some g) fun g hg hI => by
                       rcases hg with rfl | hg
                       · exact own_blk_ne h0 HK2.out (by decide) hI
                       · exact HNE2.out g hI hg) fun g hg => hg
                   have HOO := Lib.hid hoo
                   have HB5 := Lib.hid (HB2.out.trans (hu5.below (fun g hg => by rcases hg with rfl | hg; exact HPW.out; exact (own_lt HV2.out hg).1) HB2.out.size))
                   have HK5 := Lib.hid hk5
                   have HR5 := Lib.hid hr5
                   have HH5 := Lib.hid hh5
                   have HL5 := Lib.hid hl5
                   have HP5 := Lib.hid hpm5
                   have HO5 := Lib.hid ho5
                   clear hp5 hd5 hh5 hl5 hk5 hr5 hu5 ho5 hx5 hpm5 hoo)
                | (at_builtin; refine wpList_append_any _ rfl (.tmp 56) (.tmp 60) _ rfl w.heap.size 3 i0 _ 1 8 Try.underlying57 hi hz0 hz1 hz2 rfl Nat.one_pos vo j _ rfl (HOO.out.alloc _) (fun _ => True) (some ⟨w5.heap.size, 0, none⟩) 1 1 [.int .i64 (x : Int)] rfl (reads_new _ _ _) (fun u hu => by rw [List.mem_singleton.1 hu]; rfl) hmx hmb (Nat.le_trans HB5.out.size (by simp)) ?_; intro v6 w6 ho6 hg6 ha6))
              have HG6 := Lib.hid hg6
              have HA6 := Lib.hid ha6
              have HO6 := Lib.hid ho6
              clear hg6 ha6 ho6
              go_roundg (gk - 1)
              case rel =>
                have ho7 : RowN w.heap.size w6 v6 ((missF f).take (j + 1)) := by
                  unfold RowN
                  rw [HTK.out, natV_app, List.length_append, HT.out]
                  exact HO6.out
                have hv5 : ∀ b, vo.ownBlock = some b → v5.ownBlock ≠ some b := fun b hb => by rw [HO5.out]; exact HNE2.out b hb
                have hne5 : ∀ b, v6.ownBlock = some b → v5.ownBlock ≠ some b := fun b hb e => by
                  rcases HA6.out with h6 | h6
                  · exact hv5 b (h6.symm.trans hb) e
                  · rw [h6] at hb
                    injection hb with hb
                    have := (own_lt HR5.out e).2
                    simp at hb
                    omega
                have hv7 : RowN w.heap.size w6 v5 (L2.take n) := (World.ownsRow.alloc HR5.out _).kept HG6.out (by
                  cases hvo : v5.ownBlock with
                  | none => exact .inl rfl
                  | some b => exact .inr fun e => hv5 b e.symm hvo)
                exact ⟨j + 1, v6, v5, L2.take n, by omega, rfl, ho7, blk_append HK5.out HOO.out HG6.out (by decide), hv7, HP5.out, heapN_take HH5.out (by rw [HL5.out]; omega), hne5, (HB5.out.alloc HB5.out.size _).grown HG6.out (by have := HB5.out.size; simp; omega) fun g hg => (own_lt HOO.out hg).1⟩
              case measure => omega
            · have hL0 : L.length = 0 := by omega
              rw [hL0] at c5
              have htk : (missF f).take j = missF f := List.take_of_length_le (by omega)
              rw [htk] at HO
              clear hO hK2 hV2 hP hH hne hB2 hLl hgo htk hL0
              go_wp2_with fail
              go_ret
              exact ⟨vo, rfl, HO.out, HB2.out⟩
    · obtain ⟨k, rfl⟩ := HCH.out.keys kl v a4 a2
      obtain ⟨x, rfl, hx, _⟩ := Maps.keyOf_int_inv Try.underlying3 a1
      injection hx with _ hx
      subst hx
      have hck : f.c k ≠ [] := fun h0 => by rw [HCH.out.miss k h0] at a4; cases a4
      have hk8 : k ≤ 8191 := by
        have := HOK.out.cb k hck
        have := HOK.out.bl
        have := List.length_pos_iff.2 hck
        omega
      have hB2 : Below w.heap.size w w2 := hB.grown hg2 hB.size fun j e => by injection e with e; omega
      have hst := hE.step hck
      rw [← HEN.out] at hst
      have HS2 := Lib.hid hst
      have HR2 := Lib.hid hR2
      have HB2 := Lib.hid hB2
      have HLT := Lib.hid (show w2.rangeLeft ab w.heap.size < wr.rangeLeft ab w.heap.size by rw [hR2.left_eq, hR.left_eq]; exact hlt)
      obtain ⟨_, c13⟩ := HC.out w2 hB2
      clear hR hE hB a1 a2 a3 a4 hR2 hlt hg2 hs2 hB2 hst hck
      by_cases hneg : en < 0
      · rw [if_pos hneg] at HS2
        by_cases hmx : em < 8 * (k : Int)
        · rw [show max em (8 * (k : Int)) = 8 * (k : Int) by omega] at HS2
          go_wp2_with fail
          go_roundw
          case rel => exact ⟨_, _, _, rfl, HR2.out, HS2.out, HB2.out, by omega, by omega⟩
          case measure => exact HLT.out
        · rw [show max em (8 * (k : Int)) = em by omega] at HS2
          go_wp2_with fail
          go_roundw
          case rel => exact ⟨_, _, _, rfl, HR2.out, HS2.out, HB2.out, by omega, by omega⟩
          case measure => exact HLT.out
      · rw [if_neg hneg] at HS2
        go_wp2_with fail
        go_roundw
        case rel => exact ⟨_, _, _, rfl, HR2.out, HS2.out, HB2.out, by omega, by omega⟩
        case measure => exact HLT.out
end Go.Proofs.Ytihfihehiifdkaa
