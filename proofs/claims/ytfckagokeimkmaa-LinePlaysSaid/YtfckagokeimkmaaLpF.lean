/- The walk of LinePlays. -/
import Derived.Test.YtfckagokeimkmaaLpE
namespace Go.Proofs.Ytfckagokeimkmaa
open Go.RowKit Go.Sort Go.BigFrame
attribute [local go_sem] Oper.semAt_some

/-- The frame's i-th slot. -/
def lpU (t : Array Value) (i : Nat) : Value := t.toList.getD i undef
set_option maxRecDepth 100000 in
/-- The frame at the loop's head. -/
def lpFr (us : Nat → Value) (r b : Nat) (most : Int) (A : Option Addr) (n c k : Nat) (d : Int) (v : Value) : Array Value := #[.int .i64 most, .slice A n c, (us 2), (us 3), .pointer (some ⟨r, 0, none⟩), .pointer (some ⟨b, 0, none⟩), (us 6), v, .int .i64 d, .int .i64 (k : Int), (us 10), (us 11), (us 12), (us 13), (us 14), (us 15), (us 16), (us 17), (us 18), (us 19), (us 20), (us 21), (us 22), (us 23), (us 24), (us 25), (us 26), (us 27), (us 28), (us 29), (us 30), (us 31), (us 32), (us 33), (us 34), (us 35), (us 36), (us 37), (us 38), (us 39), (us 40), (us 41), (us 42), (us 43), (us 44), (us 45), (us 46), (us 47), (us 48), (us 49), (us 50), (us 51), (us 52), (us 53), (us 54), (us 55), (us 56), (us 57), (us 58), (us 59), (us 60), (us 61), (us 62), (us 63), (us 64), (us 65), (us 66), (us 67), (us 68), (us 69), (us 70), (us 71), (us 72), (us 73), (us 74), (us 75), (us 76), (us 77), (us 78), (us 79), (us 80), (us 81), (us 82), (us 83), (us 84), (us 85), (us 86), (us 87), (us 88), (us 89), (us 90), (us 91), (us 92), (us 93), (us 94), (us 95), (us 96), (us 97), (us 98), (us 99), (us 100), (us 101), (us 102), (us 103), (us 104), (us 105), (us 106), (us 107), (us 108), (us 109), (us 110), (us 111), (us 112), (us 113), (us 114), (us 115), (us 116), (us 117), (us 118), (us 119), (us 120), (us 121), (us 122), (us 123), (us 124), (us 125), (us 126), (us 127), (us 128), (us 129), (us 130), (us 131), (us 132), (us 133), (us 134), (us 135), (us 136), (us 137), (us 138), (us 139), (us 140), (us 141), (us 142), (us 143), (us 144), (us 145), (us 146), (us 147), (us 148), (us 149), (us 150), (us 151), (us 152), (us 153), (us 154), (us 155), (us 156), (us 157), (us 158), (us 159), (us 160), (us 161), (us 162), (us 163), (us 164), (us 165), (us 166), (us 167), (us 168), (us 169), (us 170), (us 171), (us 172), (us 173), (us 174), (us 175), (us 176), (us 177), (us 178), (us 179), (us 180), (us 181), (us 182), (us 183), (us 184), (us 185), (us 186), (us 187), (us 188), (us 189), (us 190), (us 191), (us 192), (us 193), (us 194), (us 195), (us 196), (us 197), (us 198), (us 199)]
set_option maxRecDepth 100000 in
def LpInv (w W0 : World) (b : Nat) (most : Int) (A : Option Addr) (n c : Nat) (a' : Act) (wr : World) : Prop :=
  ∃ (k : Nat) (d : Int) (v : Value) (ss : List (List UInt8)) (M I : Nat → Prop) (ms : List Nat), k ≤ n ∧ 0 ≤ d ∧ d ≤ k ∧ LpSt W0 wr b most d v ss M I ms ∧ ms.Nodup ∧ a'.tmps = lpFr (lpU a'.tmps) w.heap.size b most A n c k d v ∧ a'.defers = ms.map mark
theorem wp_loop_k {P : Program} {Q : Exit → Act → World → Prop} {a : Act} {w : World} {c : Code} (I : Act → World → Prop) (μ : Act → World → Nat) (h₀ : I a w)
    (round : ∀ a w, I a w → ∀ K : Act → World → Prop, (∀ a' w', I a' w' → μ a' w' < μ a w → K a' w') → c.wp P (Exit.then K Q) a w) : (Code.loop c).wp P Q a w :=
  wp_loop I μ h₀ fun a w h => round a w h _ fun _ _ h1 h2 => ⟨h1, h2⟩
theorem leave_marks {P : Program} {F : Fence} {n B : Nat} {fn : Func} {tmps : Array Value} {R : Ending → World → Prop} (Inv : World → Prop) (hI : ∀ w D, B ≤ D → Inv w → w.heap[D]? = some (.deferred (some [])) → Inv (w.putObj D (.deferred none)))
    (hend : ∀ w, Inv w → LeavesInM F n P fn tmps R [] .returning w) : ∀ (ms : List Nat) (w : World), ms.Nodup → (∀ D ∈ ms, w.heap[D]? = some (.deferred (some [])) ∧ B ≤ D) → Inv w → LeavesInM F n P fn tmps R (ms.map mark) .returning w
  | [], w, _, _, h => hend w h
  | D :: ms, w, hn, hm, h => by
    obtain ⟨h1, h2⟩ := hm D List.mem_cons_self
    obtain ⟨n1, n2⟩ := List.nodup_cons.1 hn
    refine ⟨by simp, .inl ⟨D, _, rfl, run_takeDeferred h1, leave_marks Inv hI hend ms _ n2 (fun E hE => ?_) (hI w D h2 h h1)⟩⟩
    obtain ⟨h3, h4⟩ := hm E (List.mem_cons_of_mem _ hE)
    exact ⟨(World.putObj_heap_other (by rintro rfl; exact n1 hE)).trans h3, h4⟩
theorem lac_get : ∀ (l : List LAc) (k : Nat) (e : LAc), l[k]? = some e → (l.flatMap LAc.cells)[k * 2]? = some (.int .i64 e.kind) ∧ (l.flatMap LAc.cells)[k * 2 + 1]? = some (.slice e.s.A e.s.x.length e.s.c)
  | a :: r, 0, e, h => by
    obtain rfl : a = e := by simpa using h
    simp [LAc.cells]
  | a :: r, k + 1, e, h => by
    have ih := lac_get r k e (by simpa using h)
    have ee : (a :: r).flatMap LAc.cells = .int .i64 a.kind :: .slice a.s.A a.s.x.length a.s.c :: r.flatMap LAc.cells := rfl
    rw [ee, show (k + 1) * 2 = k * 2 + 1 + 1 from by omega]
    simpa using ih
theorem add_one (ad : Addr) (i : Nat) : ad.add (i + 1) = ⟨(ad.add i).block, (ad.add i).off + 1, none⟩ := by
  unfold Addr.add
  rw [if_neg (by omega)]
  split
  · subst_vars; simp
  · simp; omega

set_option maxRecDepth 100000 in
set_option maxHeartbeats 8000000 in
theorem lineplays_any (most : Int) (A : Option Addr) (n c : Nat) (l : List LAc) (w : World) (hr : Reads w (fun k => k < w.heap.size) 2 A n (l.flatMap LAc.cells)) (hl : l.length = n) (hb : ∀ a ∈ l, LAcRd w a) :
    Calls Try.prog 6 #[.int .i64 most, .slice A n c] w fun e w' => e = .returned (.bool true) ∧ Below w.heap.size w w' := by
  obtain ⟨W0, hW0⟩ : ∃ W0, W0 = w.alloc (.cells #[.bool false] 4) := ⟨_, rfl⟩
  have hb0 : Below w.heap.size w W0 := by rw [hW0]; exact (Below.refl _ _).alloc (Nat.le_refl _) _
  have hr0 : Blk W0 w.heap.size 4 #[.bool false] := by rw [hW0]; exact Blk.new _ _ _
  have hz0 : W0.heap.size = w.heap.size + 1 := by rw [hW0]; simp
  have HW0 := Lib.hid hW0
  have HB0 := Lib.hid hb0
  have HR0 := Lib.hid hr0
  have HZ0 := Lib.hid hz0
  have R := Lib.hid hr
  have HL := Lib.hid hl
  have HLB := Lib.hid hb
  clear hW0 hb0 hr0 hz0 hr hl hb
  by_cases hbig : 200 < n
  · go_enter Try.func6, Try.ntmps6
    go_wp2_with fail
    rw [← HW0.out]
    refine (known_any _).mono ?_
    rintro e w2 ⟨rfl, hb2⟩
    have hr2 := HR0.out.below hb2 HR0.out.lt
    have r2 : w2.cell? ⟨w.heap.size, 0, none⟩ = some (.bool false) := hr2.cell 0
    have f2 : w2.frozen? ⟨w.heap.size, 0, none⟩ = false := hr2.frozen 0
    have HB2 := Lib.hid (HB0.out.trans (hb2.mono HB0.out.size))
    have HR2 := Lib.hid hr2
    clear hb2 hr2
    go_wp2_with fail
    have a0 := (HR2.out.set_ 0 (.bool true)).cell 0
    refine bodyPost_ret (v := .bool true) (by simp [results, Try.f6, go_sem, a0]) rfl ⟨rfl, HB2.out.setCell (p := ⟨w.heap.size, 0, none⟩) (Nat.le_refl _) _⟩
  by_cases hmost : most < 0 ∨ 64 < most
  · have HNO := Lib.hid (newln_no most W0 hmost)
    have HM := Lib.hid hmost
    clear hmost
    have KN := Lib.hid (known_any W0)
    have key : ∀ (hh : decide (most < 0) = true ∨ (decide (most < 0) = false ∧ decide ((64 : Int) < most) = true)), Calls Try.prog 6 #[.int .i64 most, .slice A n c] w fun e w' => e = .returned (.bool true) ∧ Below w.heap.size w w' := by
      intro hh
      rcases hh with d1 | ⟨d1, d2⟩
      all_goals
        go_enter Try.func6, Try.ntmps6
        go_wp2_with fail
        rw [← HW0.out]
        refine HNO.out.mono ?_
        rintro e w1 ⟨rfl, rfl⟩
        go_wp2_with fail
        refine KN.out.mono ?_
        rintro e w2 ⟨rfl, hb2⟩
        have hr2 := HR0.out.below hb2 HR0.out.lt
        have r2 : w2.cell? ⟨w.heap.size, 0, none⟩ = some (.bool false) := hr2.cell 0
        have f2 : w2.frozen? ⟨w.heap.size, 0, none⟩ = false := hr2.frozen 0
        have HB2 := Lib.hid (HB0.out.trans (hb2.mono HB0.out.size))
        have HR2 := Lib.hid hr2
        clear hb2 hr2
        go_wp2_with fail
        have a0 := (HR2.out.set_ 0 (.bool true)).cell 0
        refine bodyPost_ret (v := .bool true) (by simp [results, Try.f6, go_sem, a0]) rfl ⟨rfl, HB2.out.setCell (p := ⟨w.heap.size, 0, none⟩) (Nat.le_refl _) _⟩
    refine key ?_
    have hh := HM.out
    by_cases h : most < 0
    · exact .inl (decide_eq_true h)
    · exact .inr ⟨decide_eq_false h, decide_eq_true (by omega)⟩
  have hm0 : 0 ≤ most := by omega
  have hm1 : most ≤ 64 := by omega
  clear hmost
  refine (callsIn_wide (n := 5)).1 ?_
  refine callsIn_of_wp_marks Try.func6 rfl trivial ?_ rfl
  simp only [Try.ntmps6, List.size_toArray, List.length_cons, List.length_nil, Nat.reduceAdd, Nat.reduceSub, Array.replicate_succ, Array.replicate_zero, List.push_toArray, List.append_toArray, List.nil_append, List.cons_append]
  refine wpIn_wide.2 ?_
  go_wp2_with fail
  rw [← HW0.out]
  refine (newln_s most W0 hm0 hm1).mono ?_
  rintro e w1 ⟨rfl, ⟨M0, I0, hl1, hge⟩, hb1⟩
  have hst : LpSt W0 w1 W0.heap.size most 0 (.slice none 0 0) [] M0 I0 [] :=
    ⟨⟨hb1, hl1, hge, WinS.nil _ _, fun k hk => by (cases hk), fun D hD => by (cases hD)⟩, by simpa using hm0, fun x hx => by (cases hx)⟩
  have HST := Lib.hid hst
  obtain ⟨b, hbb⟩ : ∃ b, b = W0.heap.size := ⟨_, rfl⟩
  rw [← hbb] at HST ⊢
  have HBB := Lib.hid hbb
  clear hl1 hge hb1 hst hbb
  go_wp2_with fail
  refine wp_loop_k (LpInv w W0 b most A n c) (fun a' _ => n - (intOf (a'.tmps.getD 9 undef)).toNat) ⟨0, 0, .slice none 0 0, [], M0, I0, [], Nat.zero_le _, Int.le_refl _, by simp, HST.out, List.nodup_nil, by kernel_rfl, rfl⟩ ?_
  rintro ⟨t, ds⟩ wr ⟨k, d, v, ss, M, I, ms, hk, hd0, hdk, st, hnd, hfr, hds⟩ K hK
  simp only at hfr hds hK
  have h9 : t.getD 9 undef = .int .i64 (k : Int) := by rw [hfr]; kernel_rfl
  rw [h9] at hK
  subst hds
  rw [hfr]
  generalize lpU t = us at hfr ⊢
  clear hfr h9
  unfold lpFr
  have HK := Lib.hid hK
  have HND := Lib.hid hnd
  have ST := Lib.hid st
  clear hK hnd st
  by_cases hlt : k < n
  · obtain ⟨ad, rfl, _, hadl, hcell⟩ := R.out.2 (by omega)
    obtain ⟨x, hx⟩ : ∃ x, l[k]? = some x := ⟨_, List.getElem?_eq_getElem (by rw [HL.out]; exact hlt)⟩
    obtain ⟨e0, e1⟩ := lac_get l k x hx
    obtain ⟨hb1, hb2⟩ := HLB.out x (List.mem_of_getElem? hx)
    have hs0 := HB0.out.size
    refine lp_round ST.out hm1 hd0 (by omega) hlt (by omega) (kd := x.kind) (Ax := x.s.A) (x := x.s.x) (cx := x.s.c) ?_ (by omega) HND.out ?_
    · intro wx hwx
      have hww := HB0.out.trans (hwx.mono hs0)
      refine ⟨?_, ?_, (hb1.keep (Same.ofBelow hww fun k hk => hk)).mono fun k hk => by omega⟩
      · exact (hww.cell (by rw [block_of_add]; exact hadl)).trans (hcell _ _ e0)
      · rw [← add_one]
        exact (hww.cell (by rw [block_of_add]; exact hadl)).trans (hcell _ _ e1)
    · intro x10 x11 x12 x13 x14 x15 x16 x17 x18 x19 x20 x21 x48 x49 x50 x51 x52 x53 x54 x55 x56 x57 x58 x59 x60 x61 x62 x63 x64 x65 x66 x67 x68 x69 x70 x71 x72 x73 x74 x75 x76 x77 x78 x79 x80 x81 x82 x83 x84 x85 x86 x87 x88 x89 x90 x91 x92 x93 x94 x95 x96 x97 x98 x99 x100 x101 x102 x103 x104 x105 x106 x107 x108 x109 x110 x111 x112 x113 x114 x115 x116 x117 x118 x119 x120 x121 x122 x123 x124 x125 x126 x127 x128 x129 x130 x131 x132 x133 x134 x135 x136 x137 x138 x139 x140 x141 x142 x143 x144 x145 x146 x147 x148 x149 x150 x151 x152 x153 x154 x155 x156 x157 x158 x159 x160 x161 x162 x163 x164 x165 x166 x167 x168 x169 x170 x171 x172 x173 x174 x175 x176 x177 x178 x179 x180 x181 x182 x183 x184 x185 x186 x187 x188 x189 x190 x191 x192 x193 x194 x195 x196 x197 x198 v2 d2 ms2 wx ⟨M2, I2, ss2, st2⟩ hn2 h1 h2
      exact HK.out _ _ ⟨k + 1, d2, v2, ss2, M2, I2, ms2, by omega, by omega, by omega, st2, hn2, by kernel_rfl, rfl⟩ (by
        have e9 : ∀ a' : Act, a'.tmps = lpFr (lpU a'.tmps) w.heap.size b most (some ad) n c (k + 1) d2 v2 → a'.tmps.getD 9 undef = .int .i64 ((k : Int) + 1) := fun a' h => by rw [h]; kernel_rfl
        rw [e9 _ (by kernel_rfl)]
        simp [intOf]; omega)
  · obtain rfl : k = n := by omega
    have KN := Lib.hid (known_any wr)
    have hrr : Blk wr w.heap.size 4 #[.bool false] := HR0.out.below ST.out.m.bel HR0.out.lt
    have HRR := Lib.hid hrr
    clear hrr
    go_wp2_with fail
    refine KN.out.mono ?_
    rintro e w2 ⟨rfl, hb2⟩
    have hr2 := HRR.out.below hb2 HRR.out.lt
    have r2 : w2.cell? ⟨w.heap.size, 0, none⟩ = some (.bool false) := hr2.cell 0
    have f2 : w2.frozen? ⟨w.heap.size, 0, none⟩ = false := hr2.frozen 0
    have HB2 := Lib.hid hb2
    have HR2 := Lib.hid hr2
    clear hb2 hr2
    go_wp2_with fail
    have hs0 := HB0.out.size
    have hs1 := ST.out.m.bel.size
    have hbel := ((HB0.out.trans (ST.out.m.bel.mono hs0)).trans (HB2.out.mono (by omega))).setCell (p := ⟨w.heap.size, 0, none⟩) (Nat.le_refl _) (.bool true)
    have hz := HZ0.out
    refine leave_marks (B := W0.heap.size) (fun w9 => Blk w9 w.heap.size 4 #[.bool true] ∧ Below w.heap.size w w9) (fun w9 D hD h hd => ⟨blk_own h.1 (grownBy_putObj' w9 D (.deferred none)) fun r e => (by cases e; exact ⟨_, hd, rfl⟩), h.2.grown (grownBy_putObj' w9 D (.deferred none)) h.2.size fun r e => (by cases e; omega)⟩) ?_ ms _ HND.out ?_ ⟨by simpa using HR2.out.set_ 0 (.bool true), hbel⟩
    · rintro w9 ⟨h1, h2⟩
      have a0 := h1.cell 0
      refine ⟨.bool true, ?_, rfl, h2⟩
      simp [results, Try.f6, go_sem, a0]
    · intro D hD
      obtain ⟨h1, h2, _⟩ := ST.out.m.marks D hD
      refine ⟨?_, h2⟩
      exact (Below.heap_setCell w2 ⟨w.heap.size, 0, none⟩ _ D (by show D ≠ w.heap.size; omega)).trans ((HB2.out.block D (ST.out.m.lt (.inr (.inr (.inr hD))))).trans h1)
end Go.Proofs.Ytfckagokeimkmaa
