/- The walk of LineOrder. -/
import Derived.Test.YtfckagokeimkmaaKn
import Derived.Test.YtfckagokeimkmaaLnX
import Derived.Test.YtfckagokeimkmaaRowB
namespace Go.Proofs.Ytfckagokeimkmaa
open Go.RowKit

def rows (vi vo : Value) : Nat → Prop := fun k => vi.ownBlock = some k ∨ vo.ownBlock = some k

structure OrdSt (w0 w : World) (b : Nat) (most : Int) (vi vo : Value) (ins outs xs : List (List UInt8)) (d : Nat) : Prop where
  bel : Below w0.heap.size w0 w
  line : LineX (rows vi vo) w0.heap.size w b most d xs
  rin : StrRow w0.heap.size w vi ins
  rout : StrRow w0.heap.size w vo outs
  ne : ∀ k, vi.ownBlock = some k → vo.ownBlock ≠ some k
  le : (xs.length : Int) ≤ most
  eq : ins = outs ++ xs

section
variable {w0 w w2 w3 : World} {b : Nat} {most : Int} {vi vo v3 : Value} {ins outs xs : List (List UInt8)} {x : List UInt8} {d : Nat} {o : Obj}
theorem OrdSt.rlt (h : OrdSt w0 w b most vi vo ins outs xs d) : ∀ k, rows vi vo k → k < w.heap.size := by
  rintro k (hk | hk)
  · exact (h.rin.lt hk).2
  · exact (h.rout.lt hk).2

theorem OrdSt.put_no (h : OrdSt w0 w b most vi vo ins outs xs d) (hl : LineX (rows vi vo) w0.heap.size w2 b most (d + 1) xs) (hb : Below w0.heap.size w w2) (hs : Same (rows vi vo) w w2) : OrdSt w0 w2 b most vi vo ins outs xs (d + 1) :=
  ⟨h.bel.trans hb, by simpa using hl, h.rin.keep hs fun _ => .inl, h.rout.keep hs fun _ => .inr, h.ne, h.le, h.eq⟩

theorem OrdSt.put_yes (h : OrdSt w0 w b most vi vo ins outs xs d) (hx : (xs.length : Int) < most) (hl : LineX (rows vi vo) w0.heap.size w2 b most d (xs ++ [x])) (hb : Below w0.heap.size w w2) (hs : Same (rows vi vo) w w2)
    (hown : w3.ownsRow w0.heap.size 9 1 v3 (ins.length + 1) (ins.map strV ++ [strV x])) (hg : (w2.alloc o).grownBy w3 vi.ownBlock) (hat : v3.ownBlock = vi.ownBlock ∨ v3.ownBlock = some (w2.alloc o).heap.size) :
    OrdSt w0 w3 b most v3 vo (ins ++ [x]) outs (xs ++ [x]) d := by
  have hsz : (w2.alloc o).heap.size = w2.heap.size + 1 := by simp
  rw [hsz] at hat
  have hlt2 : ∀ k, rows vi vo k → k < w2.heap.size := fun k hk => Nat.lt_of_lt_of_le (h.rlt k hk) hb.size
  have hl2 : LineX (rows v3 vo) w0.heap.size w3 b most d (xs ++ [x]) := by
    refine ((hl.swap (Y := fun k => rows vi vo k ∨ rows v3 vo k) ?_).upd (((Upd.refl _ w2).alloc o).grown hg fun k hk => .inl (.inl (.inl hk)))).weaken fun k => .inr
    rintro k (hk | hk | hk)
    · exact .inl hk
    · rcases hat with e | e
      · exact .inl (.inl (e ▸ hk))
      · rw [e] at hk; injection hk with hk; exact .inr (by omega)
    · exact .inl (.inr hk)
  have hbel2 := h.bel.trans hb
  refine ⟨hbel2.trans (((Below.refl _ w2).alloc hbel2.size o).grown hg (by rw [hsz]; have := hbel2.size; omega) fun k hk => (h.rin.lt hk).1), hl2, ?_, ?_, ?_, by simp; omega, by rw [h.eq, List.append_assoc]⟩
  · simpa [StrRow] using hown
  · refine h.rout.keep (X := fun k => vo.ownBlock = some k) (Same.trans ⟨hs.1, fun k hk hlt => hs.2 k (.inr hk) hlt⟩ ⟨by have := hg.size; rw [hsz] at this; omega, fun k hk hlt => ?_⟩) fun _ hk => hk
    rw [hg.block k (by rw [hsz]; omega) (fun e => h.ne k e.symm hk)]
    exact Below.heap_alloc _ _ _ hlt
  · intro k hk hk2
    rcases hat with e | e
    · exact h.ne k (e ▸ hk) hk2
    · rw [e] at hk
      injection hk with hk
      have := hlt2 k (.inr hk2)
      omega

theorem OrdSt.get (h : OrdSt w0 w b most vi vo ins outs (x :: xs) d) (hl : LineX (rows vi vo) w0.heap.size w2 b most d xs) (hb : Below w0.heap.size w w2) (hs : Same (rows vi vo) w w2)
    (hown : w3.ownsRow w0.heap.size 9 1 v3 (outs.length + 1) (outs.map strV ++ [strV x])) (hg : (w2.alloc o).grownBy w3 vo.ownBlock) (hat : v3.ownBlock = vo.ownBlock ∨ v3.ownBlock = some (w2.alloc o).heap.size) :
    OrdSt w0 w3 b most vi v3 ins (outs ++ [x]) xs d := by
  have hsz : (w2.alloc o).heap.size = w2.heap.size + 1 := by simp
  rw [hsz] at hat
  have hlt2 : ∀ k, rows vi vo k → k < w2.heap.size := fun k hk => Nat.lt_of_lt_of_le (h.rlt k hk) hb.size
  have hl2 : LineX (rows vi v3) w0.heap.size w3 b most d xs := by
    refine ((hl.swap (Y := fun k => rows vi vo k ∨ rows vi v3 k) ?_).upd (((Upd.refl _ w2).alloc o).grown hg fun k hk => .inl (.inl (.inr hk)))).weaken fun k => .inr
    rintro k (hk | hk | hk)
    · exact .inl hk
    · exact .inl (.inl hk)
    · rcases hat with e | e
      · exact .inl (.inr (e ▸ hk))
      · rw [e] at hk; injection hk with hk; exact .inr (by omega)
  have hbel2 := h.bel.trans hb
  have hle := h.le
  refine ⟨hbel2.trans (((Below.refl _ w2).alloc hbel2.size o).grown hg (by rw [hsz]; have := hbel2.size; omega) fun k hk => (h.rout.lt hk).1), hl2, ?_, ?_, ?_, by simp at hle; omega, by rw [h.eq, List.append_assoc]; rfl⟩
  · refine h.rin.keep (X := fun k => vi.ownBlock = some k) (Same.trans ⟨hs.1, fun k hk hlt => hs.2 k (.inl hk) hlt⟩ ⟨by have := hg.size; rw [hsz] at this; omega, fun k hk hlt => ?_⟩) fun _ hk => hk
    rw [hg.block k (by rw [hsz]; omega) (fun e => h.ne k hk e.symm)]
    exact Below.heap_alloc _ _ _ hlt
  · simpa [StrRow] using hown
  · intro k hk hk2
    rcases hat with e | e
    · exact h.ne k hk (e ▸ hk2)
    · rw [e] at hk2
      injection hk2 with hk2
      have := hlt2 k (.inl hk)
      omega
end

theorem strV_one (x : List UInt8) : ∀ u ∈ [strV x], u.oneCell' = true := by intro u hu; rw [List.mem_singleton.1 hu]; rfl
theorem ord_new {w0 w1 : World} {b : Nat} {most : Int} (hl : LineS w0.heap.size w1 b most 0 []) (hb : Below w0.heap.size w0 w1) (hm : 0 ≤ most) : OrdSt w0 w1 b most (.slice none 0 0) (.slice none 0 0) [] [] [] 0 :=
  ⟨hb, hl.x (X := rows (.slice none 0 0) (.slice none 0 0)) (fun k hk => by (rcases hk with hk | hk <;> cases hk)), World.ownsRow_nil _ _ _ _, World.ownsRow_nil _ _ _ _, fun k hk => by (cases hk), by simpa using hm, rfl⟩

set_option maxRecDepth 4000 in
set_option maxHeartbeats 8000000 in
theorem order_any (most : Int) (A1 A2 : Option Addr) (n1 n2 c1 c2 : Nat) (l1 : List SlB) (l2 : List Int) (w : World) (r1 : Reads w (fun k => k < w.heap.size) 1 A1 n1 (l1.map SlB.v))
    (e1 : ∀ y ∈ l1, Reads w (fun k => k < w.heap.size) 1 y.A y.x.length (bytesV y.x)) (r2 : Reads w (fun k => k < w.heap.size) 1 A2 n2 (l2.map (Value.int .i64))) :
    Calls Try.prog 3 #[.int .i64 most, .slice A1 n1 c1, .slice A2 n2 c2] w fun e w' => e = .returned (.bool true) ∧ Below w.heap.size w w' := by
  have R1 := Lib.hid r1
  have R2 := Lib.hid r2
  have E1 := Lib.hid e1
  clear r1 r2 e1
  by_cases a1 : most < 1
  · go_enter Try.func3, Try.ntmps3
    go_wp2_with (go_at_call 8; refine (known_any _).mono ?_; rintro e w' ⟨rfl, hb⟩)
    go_ret
    exact ⟨rfl, hb⟩
  by_cases a2 : 64 < most
  · go_enter Try.func3, Try.ntmps3
    go_wp2_with (go_at_call 8; refine (known_any _).mono ?_; rintro e w' ⟨rfl, hb⟩)
    go_ret
    exact ⟨rfl, hb⟩
  by_cases a3 : 100 < n1
  · go_enter Try.func3, Try.ntmps3
    go_wp2_with (go_at_call 8; refine (known_any _).mono ?_; rintro e w' ⟨rfl, hb⟩)
    go_ret
    exact ⟨rfl, hb⟩
  by_cases a4 : 100 < n2
  · go_enter Try.func3, Try.ntmps3
    go_wp2_with (go_at_call 8; refine (known_any _).mono ?_; rintro e w' ⟨rfl, hb⟩)
    go_ret
    exact ⟨rfl, hb⟩
  obtain ⟨i0, hi, hz0, hz1, hz2⟩ := info_parts info_str
  go_enter Try.func3, Try.ntmps3
  go_wp2_with fail
  refine (newln_s most w (by omega) (by omega)).mono ?_
  rintro e w1 ⟨rfl, hl1, hb1⟩
  have O1 := Lib.hid (ord_new hl1 hb1 (by omega))
  clear hl1 hb1
  go_wp2_with fail
  go_loopw [9, 10, 11] (fun vi vo i wr => ∃ (k d : Nat) (ins outs xs : List (List UInt8)), k ≤ n1 ∧ i = .int .i64 k ∧ OrdSt w wr w.heap.size most vi vo ins outs xs d ∧ ins.length + d = k) (fun _ _ i _ => n1 - (intOf i).toNat)
  case atStart => exact ⟨0, 0, [], [], [], Nat.zero_le _, rfl, O1.out, rfl⟩
  case round =>
    obtain ⟨k, d, ins, outs, xs, hk, rfl, st, hkd⟩ := hrel
    have ST := Lib.hid st
    have KD := Lib.hid hkd
    have hB : w.heap.size ≤ wr.heap.size := st.bel.size
    have hd0 : d ≤ k := by omega
    have hi0 : ins.length ≤ k := by omega
    have hx64 : (xs.length : Int) ≤ most := st.le
    clear st hkd
    by_cases hlt : k < n1
    · obtain ⟨ad, u, rfl, _, hu, hcell⟩ := (R1.out).at_ hlt
      simp only [List.getElem?_map, Option.map_eq_some_iff] at hu
      obtain ⟨⟨yA, yc, yx⟩, hy, rfl⟩ := hu
      have hyr := E1.out _ (List.mem_of_getElem? hy)
      have HY := Lib.hid (show ∀ W, Below w.heap.size w W → W.cell? (ad.add k) = some (.slice yA yx.length yc) ∧ Reads W (fun k => k < w.heap.size) 1 yA yx.length (bytesV yx) from fun W hb => by
        obtain ⟨ad', u, e', _, hu', hc'⟩ := ((R1.out).keep (Same.ofBelow hb fun _ h => h)).at_ hlt
        injection e' with e'
        subst e'
        simp only [List.getElem?_map, hy, Option.map_some, Option.some.injEq] at hu'
        subst hu'
        exact ⟨hc', hyr.keep (Same.ofBelow hb fun _ h => h)⟩)
      have hi0' : (0 : Int) ≤ k := by omega
      have hi1 : (k : Int) < n1 := by omega
      have hcr := (HY.out wr ST.out.bel).1
      clear hy hyr hcell
      by_cases h100 : 100 < yx.length
      · go_wp2_with (go_at_call 8; refine (known_any _).mono ?_; rintro e w' ⟨rfl, hb⟩)
        go_ret
        exact ⟨rfl, ST.out.bel.trans (hb.mono hB)⟩
      go_wp2_with fail
      refine (put_x ST.out.line ST.out.rlt _ yA yx yc (HY.out wr ST.out.bel).2 (by omega) (by omega) (by omega) (by omega) hB).mono ?_
      rintro e w2 ⟨rfl, hl2, hb2, hs2⟩
      have hbel2 := ST.out.bel.trans hb2
      have hcr2 := (HY.out w2 hbel2).1
      have HYR := Lib.hid (HY.out w2 hbel2).2
      clear hcr HY
      -- both ways: in the end a state at which the inner loop begins
      have hmax : ins.length + 1 ≤ maxLen := by unfold maxLen; omega
      have hbyt : (ins.length + 1) * 16 ≤ 140737488355328 := by omega
      have hbw2 : w.heap.size ≤ (w2.alloc (.cells #[strV yx] 9)).heap.size := by have := hbel2.size; simp; omega
      by_cases hfull : (xs.length : Int) < most
      · have e1 : putE most xs yx = 0 := by unfold putE; rw [if_neg (by omega), if_neg (by omega)]
        have e2 : putX most xs yx = xs ++ [yx] := by simp [putX, e1]
        have e3 : putD most d xs yx = d := by simp [putD, e1]
        rw [e2, e3] at hl2
        rw [e1]
        have hs3 := run_str w2 _ yA yx yc HYR.out
        have hown2 := (ST.out.rin.keep hs2 fun _ => .inl)
        have HL2 := Lib.hid hl2
        have HS2 := Lib.hid hs2
        have HO2 := Lib.hid hown2
        clear e1 e2 e3 hl2 hs2 hown2
        go_wp2_with (at_builtin; refine wpList_append_any _ rfl (.tmp 63) (.tmp 69) 29 rfl w.heap.size 9 i0 _ 1 16 Try.underlying29 hi hz0 hz1 hz2 rfl Nat.one_pos u9 ins.length (ins.map strV) rfl (HO2.out.alloc _) (fun _ => True) (some ⟨w2.heap.size, 0, none⟩) 1 1 [strV yx] rfl (reads_new _ _ _) (strV_one yx) hmax hbyt hbw2 ?_; intro v3 w3 hown3 hg3 hat3)
        have S3 := ST.out.put_yes hfull HL2.out hb2 HS2.out hown3 hg3 hat3
        obtain ⟨in3, xs3, d3, S3, K3⟩ : ∃ in3 xs3 d3, OrdSt w w3 w.heap.size most v3 u10 in3 outs xs3 d3 ∧ in3.length + d3 = k + 1 := ⟨_, _, _, S3, by have := KD.out; simp; omega⟩
        clear ST HL2 HS2 HO2 KD hown3 hg3 hat3 hbel2 hb2 hcr2 hs3 HYR hmax hbyt hbw2 hfull
        go_wp2_with fail
        have hK3 : in3.length ≤ k + 1 := by omega
        have SS := Lib.hid S3
        have KS := Lib.hid K3
        clear S3 K3
        go_loopw [10, 12] (fun vo j wr => ∃ (jn : Nat) (outs4 xs4 : List (List UInt8)), j = .int .i64 jn ∧ jn ≤ 5 ∧ OrdSt w wr w.heap.size most v3 vo in3 outs4 xs4 d3) (fun _ j _ => 5 - (intOf j).toNat)
        case atStart => exact ⟨0, outs, xs3, rfl, by omega, SS.out⟩
        case round =>
          obtain ⟨jn, outs4, xs4, rfl, hj5, s4⟩ := hrel
          have S4 := Lib.hid s4
          have hx4 : (xs4.length : Int) ≤ most := s4.le
          have hB4 : w.heap.size ≤ wr.heap.size := s4.bel.size
          have ho4 : outs4.length ≤ k + 1 := by have := congrArg List.length s4.eq; simp at this; omega
          clear s4
          by_cases h2 : k < n2
          · obtain ⟨ad2, u2, rfl, _, hu2, hc2⟩ := (R2.out.keep (Same.ofBelow S4.out.bel fun _ h => h)).at_ h2
            simp only [List.getElem?_map, Option.map_eq_some_iff] at hu2
            obtain ⟨z, _, rfl⟩ := hu2
            have hi2 : (k : Int) < n2 := by omega
            by_cases hz : (jn : Int) < z
            · by_cases h5 : jn < 5
              · rcases xs4 with _ | ⟨x, xs5⟩
                · go_wp2_with fail
                  refine (get_s_no S4.out.line.s).mono ?_
                  rintro e w' ⟨rfl, rfl⟩
                  go_wp2
                  go_roundw
                  case rel => exact ⟨jn + 1, outs4, [], by go_num, by omega, S4.out⟩
                  case measure => simp [intOf]; omega
                · go_wp2_with fail
                  refine (get_x_yes S4.out.line S4.out.rlt (by simp at hx4; omega) hB4).mono ?_
                  rintro e w5 ⟨gA, gc, rfl, hg5, hl5, hb5, hs5⟩
                  have hs := run_str w5 _ gA x gc (Reads.of_own hg5 (I := fun _ => True) (fun _ _ => trivial))
                  have HO5 := Lib.hid (S4.out.rout.keep hs5 fun _ => .inr)
                  have HL5 := Lib.hid hl5
                  have HS5 := Lib.hid hs5
                  have hmax : outs4.length + 1 ≤ maxLen := by unfold maxLen; omega
                  have hbyt : (outs4.length + 1) * 16 ≤ 140737488355328 := by omega
                  have hbw5 : w.heap.size ≤ (w5.alloc (.cells #[strV x] 9)).heap.size := by have := (S4.out.bel.trans hb5).size; simp; omega
                  clear hl5 hs5 hg5
                  go_wp2_with (at_builtin; refine wpList_append_any _ rfl (.tmp 95) (.tmp 98) 29 rfl w.heap.size 9 i0 _ 1 16 Try.underlying29 hi hz0 hz1 hz2 rfl Nat.one_pos u10 outs4.length (outs4.map strV) rfl (HO5.out.alloc _) (fun _ => True) (some ⟨w5.heap.size, 0, none⟩) 1 1 [strV x] rfl (reads_new _ _ _) (strV_one x) hmax hbyt hbw5 ?_; intro v6 w6 hown6 hg6 hat6)
                  have S6 := S4.out.get HL5.out hb5 HS5.out hown6 hg6 hat6
                  have H6 := Lib.hid S6
                  clear S6 hown6 hg6 hat6 HO5 HL5 HS5 hs hmax hbyt hbw5
                  go_wp2
                  go_roundw
                  case rel => exact ⟨jn + 1, outs4 ++ [x], xs5, by go_num, by omega, H6.out⟩
                  case measure => simp [intOf]; omega
              · go_wp2
                go_roundw
                case rel => exact ⟨k + 1, d3, in3, outs4, xs4, by omega, by go_num, S4.out, KS.out⟩
                case measure => simp [intOf]; omega
            · go_wp2
              go_roundw
              case rel => exact ⟨k + 1, d3, in3, outs4, xs4, by omega, by go_num, S4.out, KS.out⟩
              case measure => simp [intOf]; omega
          · go_wp2
            go_roundw
            case rel => exact ⟨k + 1, d3, in3, outs4, xs4, by omega, by go_num, S4.out, KS.out⟩
            case measure => simp [intOf]; omega
      · have e1 : putE most xs yx = 5 := by unfold putE; rw [if_neg (by omega), if_pos (by omega)]
        have e2 : putX most xs yx = xs := by simp [putX, e1]
        have e3 : putD most d xs yx = ((d + 1 : Nat) : Int) := by simp [putD, e1]
        rw [e2, e3] at hl2
        rw [e1]
        have S3 := ST.out.put_no hl2 hb2 hs2
        obtain ⟨w3, rfl⟩ : ∃ w3, w3 = w2 := ⟨_, rfl⟩
        obtain ⟨v3, rfl⟩ : ∃ v3, v3 = u9 := ⟨_, rfl⟩
        obtain ⟨in3, xs3, d3, S3, K3⟩ : ∃ in3 xs3 d3, OrdSt w w3 w.heap.size most v3 u10 in3 outs xs3 d3 ∧ in3.length + d3 = k + 1 := ⟨_, _, _, S3, by have := KD.out; omega⟩
        clear ST KD hl2 hbel2 hb2 hs2 hcr2 HYR hmax hbyt hbw2 e1 e2 e3 hfull
        go_wp2_with fail
        have hK3 : in3.length ≤ k + 1 := by omega
        have SS := Lib.hid S3
        have KS := Lib.hid K3
        clear S3 K3
        go_loopw [10, 12] (fun vo j wr => ∃ (jn : Nat) (outs4 xs4 : List (List UInt8)), j = .int .i64 jn ∧ jn ≤ 5 ∧ OrdSt w wr w.heap.size most v3 vo in3 outs4 xs4 d3) (fun _ j _ => 5 - (intOf j).toNat)
        case atStart => exact ⟨0, outs, xs3, rfl, by omega, SS.out⟩
        case round =>
          obtain ⟨jn, outs4, xs4, rfl, hj5, s4⟩ := hrel
          have S4 := Lib.hid s4
          have hx4 : (xs4.length : Int) ≤ most := s4.le
          have hB4 : w.heap.size ≤ wr.heap.size := s4.bel.size
          have ho4 : outs4.length ≤ k + 1 := by have := congrArg List.length s4.eq; simp at this; omega
          clear s4
          by_cases h2 : k < n2
          · obtain ⟨ad2, u2, rfl, _, hu2, hc2⟩ := (R2.out.keep (Same.ofBelow S4.out.bel fun _ h => h)).at_ h2
            simp only [List.getElem?_map, Option.map_eq_some_iff] at hu2
            obtain ⟨z, _, rfl⟩ := hu2
            have hi2 : (k : Int) < n2 := by omega
            by_cases hz : (jn : Int) < z
            · by_cases h5 : jn < 5
              · rcases xs4 with _ | ⟨x, xs5⟩
                · go_wp2_with fail
                  refine (get_s_no S4.out.line.s).mono ?_
                  rintro e w' ⟨rfl, rfl⟩
                  go_wp2
                  go_roundw
                  case rel => exact ⟨jn + 1, outs4, [], by go_num, by omega, S4.out⟩
                  case measure => simp [intOf]; omega
                · go_wp2_with fail
                  refine (get_x_yes S4.out.line S4.out.rlt (by simp at hx4; omega) hB4).mono ?_
                  rintro e w5 ⟨gA, gc, rfl, hg5, hl5, hb5, hs5⟩
                  have hs := run_str w5 _ gA x gc (Reads.of_own hg5 (I := fun _ => True) (fun _ _ => trivial))
                  have HO5 := Lib.hid (S4.out.rout.keep hs5 fun _ => .inr)
                  have HL5 := Lib.hid hl5
                  have HS5 := Lib.hid hs5
                  have hmax : outs4.length + 1 ≤ maxLen := by unfold maxLen; omega
                  have hbyt : (outs4.length + 1) * 16 ≤ 140737488355328 := by omega
                  have hbw5 : w.heap.size ≤ (w5.alloc (.cells #[strV x] 9)).heap.size := by have := (S4.out.bel.trans hb5).size; simp; omega
                  clear hl5 hs5 hg5
                  go_wp2_with (at_builtin; refine wpList_append_any _ rfl (.tmp 95) (.tmp 98) 29 rfl w.heap.size 9 i0 _ 1 16 Try.underlying29 hi hz0 hz1 hz2 rfl Nat.one_pos u10 outs4.length (outs4.map strV) rfl (HO5.out.alloc _) (fun _ => True) (some ⟨w5.heap.size, 0, none⟩) 1 1 [strV x] rfl (reads_new _ _ _) (strV_one x) hmax hbyt hbw5 ?_; intro v6 w6 hown6 hg6 hat6)
                  have S6 := S4.out.get HL5.out hb5 HS5.out hown6 hg6 hat6
                  have H6 := Lib.hid S6
                  clear S6 hown6 hg6 hat6 HO5 HL5 HS5 hs hmax hbyt hbw5
                  go_wp2
                  go_roundw
                  case rel => exact ⟨jn + 1, outs4 ++ [x], xs5, by go_num, by omega, H6.out⟩
                  case measure => simp [intOf]; omega
              · go_wp2
                go_roundw
                case rel => exact ⟨k + 1, d3, in3, outs4, xs4, by omega, by go_num, S4.out, KS.out⟩
                case measure => simp [intOf]; omega
            · go_wp2
              go_roundw
              case rel => exact ⟨k + 1, d3, in3, outs4, xs4, by omega, by go_num, S4.out, KS.out⟩
              case measure => simp [intOf]; omega
          · go_wp2
            go_roundw
            case rel => exact ⟨k + 1, d3, in3, outs4, xs4, by omega, by go_num, S4.out, KS.out⟩
            case measure => simp [intOf]; omega
    · obtain rfl : k = n1 := by omega
      clear hlt hk
      have hx64' : xs.length ≤ 64 := by omega
      go_wp2_with fail
      go_loopw [10, 15] (fun vo j wr => ∃ (jn : Nat) (outs4 xs4 : List (List UInt8)), j = .int .i64 jn ∧ jn ≤ 65 ∧ (xs4 = [] ∨ xs4.length + jn ≤ 64) ∧ OrdSt w wr w.heap.size most u9 vo ins outs4 xs4 d) (fun _ j _ => 65 - (intOf j).toNat)
      case atStart => exact ⟨0, outs, xs, rfl, by omega, .inr (by omega), ST.out⟩
      case round =>
        obtain ⟨jn, outs4, xs4, rfl, hj5, hx5, s4⟩ := hrel
        have HX := Lib.hid hx5
        have S4 := Lib.hid s4
        have hx4 : (xs4.length : Int) ≤ most := s4.le
        have hB4 : w.heap.size ≤ wr.heap.size := s4.bel.size
        have ho4 : outs4.length ≤ k + 1 := by have := congrArg List.length s4.eq; simp at this; omega
        clear s4 hx5
        by_cases h5 : jn < 65
        · rcases xs4 with _ | ⟨x, xs5⟩
          · go_wp2_with fail
            refine (get_s_no S4.out.line.s).mono ?_
            rintro e w' ⟨rfl, rfl⟩
            go_wp2
            go_roundw
            case rel => exact ⟨jn + 1, outs4, [], by go_num, by omega, .inl rfl, S4.out⟩
            case measure => simp [intOf]; omega
          · go_wp2_with fail
            refine (get_x_yes S4.out.line S4.out.rlt (by simp at hx4; omega) hB4).mono ?_
            rintro e w5 ⟨gA, gc, rfl, hg5, hl5, hb5, hs5⟩
            have hs := run_str w5 _ gA x gc (Reads.of_own hg5 (I := fun _ => True) (fun _ _ => trivial))
            have HO5 := Lib.hid (S4.out.rout.keep hs5 fun _ => .inr)
            have HL5 := Lib.hid hl5
            have HS5 := Lib.hid hs5
            have hmax : outs4.length + 1 ≤ maxLen := by unfold maxLen; omega
            have hbyt : (outs4.length + 1) * 16 ≤ 140737488355328 := by omega
            have hbw5 : w.heap.size ≤ (w5.alloc (.cells #[strV x] 9)).heap.size := by have := (S4.out.bel.trans hb5).size; simp; omega
            clear hl5 hs5 hg5
            go_wp2_with (at_builtin; refine wpList_append_any _ rfl (.tmp 110) (.tmp 113) 29 rfl w.heap.size 9 i0 _ 1 16 Try.underlying29 hi hz0 hz1 hz2 rfl Nat.one_pos u10 outs4.length (outs4.map strV) rfl (HO5.out.alloc _) (fun _ => True) (some ⟨w5.heap.size, 0, none⟩) 1 1 [strV x] rfl (reads_new _ _ _) (strV_one x) hmax hbyt hbw5 ?_; intro v6 w6 hown6 hg6 hat6)
            have S6 := S4.out.get HL5.out hb5 HS5.out hown6 hg6 hat6
            have H6 := Lib.hid S6
            clear S6 hown6 hg6 hat6 HO5 HL5 HS5 hs hmax hbyt hbw5
            go_wp2
            go_roundw
            case rel => exact ⟨jn + 1, outs4 ++ [x], xs5, by go_num, by omega, .inr (by have := HX.out; simp at this; omega), H6.out⟩
            case measure => simp [intOf]; omega
        · have hx0 : xs4 = [] := by
            rcases HX.out with h | h
            · exact h
            · exact List.eq_nil_of_length_eq_zero (by omega)
          subst hx0
          obtain rfl : ins = outs4 := by simpa using S4.out.eq
          obtain ⟨vA, vc, rfl, _⟩ := own_form S4.out.rin
          obtain ⟨oA, oc, rfl, _⟩ := own_form S4.out.rout
          have hne : (((ins.length : Nat) : Int) + (d : Int) != (k : Int)) = false := by have := KD.out; simp; omega
          have HD := Lib.hid (dropped_s S4.out.line.s)
          go_wp2_with fail
          refine (HD.out).mono ?_
          rintro e w' ⟨rfl, rfl⟩
          go_wp2_with fail
          have hrin := Lib.hid S4.out.rin
          have hrout := Lib.hid S4.out.rout
          have hbel := S4.out.bel
          obtain ⟨wo, hwo⟩ : ∃ wo : World, wo = wr := ⟨_, rfl⟩
          rw [← hwo] at hrin hrout hbel ⊢
          clear hwo ST S4 HD
          go_loopw [18] (fun i wr => ∃ k : Nat, k ≤ ins.length ∧ i = .int .i64 k ∧ wr.heap = wo.heap ∧ Below w.heap.size w wr) (fun i _ => ins.length - (intOf i).toNat)
          case atStart => exact ⟨0, Nat.zero_le _, rfl, rfl, hbel⟩
          case round =>
            obtain ⟨kk, hkk, rfl, hhp, hbr⟩ := hrel
            have HP := Lib.hid hhp
            clear hhp
            by_cases hlt : kk < ins.length
            · obtain ⟨gA, cA, hvA, _⟩ := own_form1 hrin.out (by omega)
              obtain ⟨gO, cO, hvO, _⟩ := own_form1 hrout.out (by omega)
              injection hvA with hvA1 _ hvA2
              injection hvO with hvO1 _ hvO2
              subst hvA1; subst hvA2; subst hvO1; subst hvO2
              have hx : (ins.map strV)[kk]? = some (strV (ins[kk]'hlt)) := by simp [List.getElem?_eq_getElem hlt]
              have hcA : wr.cell? ⟨gA, kk, none⟩ = some (.string ⟨(ins[kk]'hlt).toArray⟩) := by
                have h0 := hrin.out.cells (g := gA) rfl kk _ hx
                rw [add_off, Nat.zero_add] at h0
                have : wr.cell? ⟨gA, kk, none⟩ = wo.cell? ⟨gA, kk, none⟩ := by simp only [World.cell?, HP.out]
                rw [this]; exact h0
              have hcO : wr.cell? ⟨gO, kk, none⟩ = some (.string ⟨(ins[kk]'hlt).toArray⟩) := by
                have h0 := hrout.out.cells (g := gO) rfl kk _ hx
                rw [add_off, Nat.zero_add] at h0
                have : wr.cell? ⟨gO, kk, none⟩ = wo.cell? ⟨gO, kk, none⟩ := by simp only [World.cell?, HP.out]
                rw [this]; exact h0
              obtain ⟨sx, hsx⟩ : ∃ sx : ByteArray, sx = ⟨(ins[kk]'hlt).toArray⟩ := ⟨_, rfl⟩
              rw [← hsx] at hcA hcO
              clear hsx hx
              have hk0 : (0 : Int) ≤ kk := by omega
              have hk1 : (kk : Int) < ins.length := by omega
              go_wp2_with fail
              go_quiet (fail)
              go_wp2
              go_roundw
              case rel => exact ⟨kk + 1, by omega, by go_num, HP.out, hbr.trans ⟨rfl, rfl, rfl, Nat.le_refl _, fun _ _ => rfl⟩⟩
              case measure => simp [intOf]; omega
            · go_wp2_with fail
              refine (known_any _).mono ?_
              rintro e w9 ⟨rfl, hb9⟩
              go_wp2
              go_ret
              exact ⟨rfl, hbr.trans (hb9.mono hbr.size)⟩
end Go.Proofs.Ytfckagokeimkmaa
