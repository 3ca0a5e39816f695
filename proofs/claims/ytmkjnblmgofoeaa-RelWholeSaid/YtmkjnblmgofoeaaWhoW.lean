/- The walk of RelWhole. -/
import Derived.Test.YtmkjnblmgofoeaaKnR
import Derived.Test.YtmkjnblmgofoeaaWhoKa
import Derived.Test.YtmkjnblmgofoeaaWho17
import Derived.Test.YtmkjnblmgofoeaaWho3
import Derived.Test.YtmkjnblmgofoeaaWho5
import Derived.Test.YtmkjnblmgofoeaaWhoF
namespace Go.Proofs.Ytmkjnblmgofoeaa
open Go.RowKit

set_option maxRecDepth 100000 in
set_option maxHeartbeats 16000000 in
theorem who_any (A : Option Addr) (n c : Nat) (l : List Wy) (w : World) (r : Reads w (fun k => k < w.heap.size) 3 A n (l.flatMap Wy.cells)) (hl : l.length = n) (hg : ∀ a ∈ l, a.ok) :
    Calls Try.prog 4 #[.slice A n c] w fun e w' => e = .returned (.bool true) ∧ Below w.heap.size w w' := by
  have R := Lib.hid r
  have HL := Lib.hid hl
  have HG := Lib.hid hg
  clear r hl hg
  by_cases hbig : 200 < n
  · go_enter Try.func4, Try.ntmps4
    go_wp2_with (go_at_call 8; refine (known_any _).mono ?_; rintro e w' ⟨rfl, hb⟩)
    go_ret
    exact ⟨rfl, hb⟩
  go_enter Try.func4, Try.ntmps4
  go_wp2_with fail
  refine (new_yes 2 _ (by omega) (by omega)).mono ?_
  rintro e w1 ⟨rfl, rfl⟩
  go_wp2_with fail
  refine (new_yes 3 _ (by omega) (by omega)).mono ?_
  rintro e w2 ⟨rfl, rfl⟩
  go_wp2_with fail
  have HW0 := Lib.hid (wst0 w)
  obtain ⟨wz, hwz⟩ : ∃ wz, wz = W0 w := ⟨_, rfl⟩
  rw [← hwz] at HW0
  unfold W0 at hwz
  rw [← hwz]
  clear hwz
  go_loopg [12] n (fun g s12 wr => ∃ (k : Nat) (lab : Nat → Nat) (q : Fs) (v : Vv), k + g = n ∧ s12 = .int .i64 (k : Int) ∧ Mid w wr lab q v k ∧ ∀ f, f < 2 → (q.F f).length ≤ 20 * k)
  case atStart => exact ⟨0, _, q0, v0, by omega, rfl, ⟨HW0.out, rfl, rfl, rfl, q0_ok, fun _ _ => Nat.le_refl _⟩, fun _ _ => Nat.le_refl _⟩
  case round =>
    obtain ⟨k, lab, q, v, hk, rfl, md, ln⟩ := hrel
    have MD := Lib.hid md
    have LN := Lib.hid ln
    clear md ln
    by_cases hlt : k < n
    · obtain ⟨a, hak⟩ : ∃ a, l[k]? = some a := ⟨l[k]'(by rw [HL.out]; exact hlt), List.getElem?_eq_getElem _⟩
      obtain ⟨ad, rfl, _, hadl, hc⟩ := R.out.2 (by omega)
      have haok := HG.out a (List.mem_of_getElem? hak)
      obtain ⟨kd, N, back⟩ := a
      obtain ⟨x0, x1, x2⟩ := wyCells_get l k _ hak
      have hwy : WayAt w ad k kd N back := fun wx hbl =>
        ⟨(hbl.cell (by rw [block_of_add]; exact hadl)).trans (hc _ _ x0), by rw [← way_after ad (k * 3) 1 (by omega)]; exact (hbl.cell (by rw [block_of_add]; exact hadl)).trans (hc _ _ x1), by rw [← way_after ad (k * 3) 2 (by omega)]; exact (hbl.cell (by rw [block_of_add]; exact hadl)).trans (hc _ _ x2)⟩
      have HWY := Lib.hid hwy
      obtain ⟨hcc0, hcc1, hcc2⟩ := hwy wr MD.out.st.below
      have hi0 : (0 : Int) ≤ k := by omega
      have hi1 : (k : Int) < n := by omega
      clear x0 x1 x2 hc hadl hak hwy
      cases back
      case false =>
        go_upto_region 17 with fail
        refine who_17 (k := k) (f := 0) (o := 1) MD.out rfl (LN.out 0 (by omega)) (by omega) ?_
        intro x55 x56 x57 x58 x59 x60 x61 x62 x63 x64 wc ⟨lab2, v2, md2⟩
        have hd8 := due_len MD.out.ok (f := 0) (o := 1) rfl
        obtain ⟨q1, hq1⟩ : ∃ q1 : Fs, q1 = { q with S := up q.S 0 (dueS (q.S 0)), F := up q.F 0 (q.F 0 ++ dueL (q.S 0)) } := ⟨_, rfl⟩
        have hF1 : (q1.F 0).length ≤ 20 * k + 8 := by
          have a1 := LN.out 0 (by omega)
          rw [hq1]
          show (up q.F 0 (q.F 0 ++ dueL (q.S 0)) 0).length ≤ _
          rw [up_same, List.length_append]; omega
        have hF2 : (q1.F 1).length ≤ 20 * k := by
          rw [hq1]
          show (up q.F 0 (q.F 0 ++ dueL (q.S 0)) 1).length ≤ _
          rw [up_other _ _ (by omega)]; exact LN.out 1 (by omega)
        rw [← hq1] at md2
        clear hq1 hd8 hcc0 hcc1 hcc2
        obtain ⟨Ag, m, cg, hfv, hm⟩ := fly_form md2.st (f := 0) (by omega)
        have cfl : wc.cell? ⟨w.heap.size + 3, 0, none⟩ = some (.slice Ag m cg) := by rw [← hfv, ← md2.e1]; exact md2.st.af.cell (f := 0) (by omega)
        obtain ⟨hcc0, hcc1, hcc2⟩ := HWY.out wc md2.st.below
        have hgl : m ≤ 4100 := by omega
        have MD2 := Lib.hid md2
        have HM := Lib.hid hm
        have HF1 := Lib.hid hF1
        have HF2 := Lib.hid hF2
        have hN1 := haok.1
        have hN2 := haok.2
        simp only at hN1 hN2
        clear md2 hfv hm hF1 hF2
        by_cases hpos : 0 < m
        · have hmm : -(m : Int) < N.tmod m ∧ N.tmod m < m := ⟨Int.lt_tmod_of_pos N (b := (m : Int)) (by omega), Int.tmod_lt_of_pos N (b := (m : Int)) (by omega)⟩
          obtain ⟨r1, hr1⟩ : ∃ r1, N.tmod m = r1 := ⟨_, rfl⟩
          rw [hr1] at hmm
          obtain ⟨j, hj⟩ : ∃ j : Nat, (r1 + (m : Int)) % m = j := ⟨((r1 + (m : Int)) % m).toNat, by have := Int.emod_nonneg (r1 + (m : Int)) (b := (m : Int)) (by omega); omega⟩
          have hj2 : j < m := by have := Int.emod_lt_of_pos (r1 + (m : Int)) (b := (m : Int)) (by omega); omega
          have hj3 : (r1 + (m : Int)).tmod m = j := by rw [Int.tmod_eq_emod_of_nonneg (by omega)]; exact hj
          obtain ⟨hm1, hm2⟩ := hmm
          have hnz : ((m : Int) == 0) = false := beq_eq_false_iff_ne.2 (by omega)
          go_upto_block 2 with fail
          refine sw_all (kd := kd) (N := N) (back := false) (f := 0) (o := 1) (j := j) MD2.out rfl HM.out (by have := HF1.out; have := HM.out; omega) HF2.out hlt (by omega) HWY.out (fun _ => hj2) ?_
          intro x16 x87 x88 x89 x90 x91 x92 x93 x94 x95 x96 x97 x98 x99 x100 x101 x102 x103 x104 x105 x106 x107 x108 x109 x110 x111 x112 x113 x114 x115 x116 x117 x118 x119 x120 x121 x122 x123 x124 x125 x126 x127 x128 x129 x130 x131 x132 x133 x134 x135 x136 x137 x138 x139 x140 x141 x142 x143 x144 x145 x146 x147 x148 x149 x150 x151 x152 x153 x154 x155 x156 x157 x158 x159 x160 x161 x162 x163 x164 x165 x166 x167 x168 x169 x170 x171 x172 x173 x174 x175 x176 x177 x178 x179 x180 w4 ⟨lab4, q4, v4, md4, ln4⟩
          have MD4 := Lib.hid md4
          have LN4 := Lib.hid ln4
          clear md4 ln4 hcc0 hcc1 hcc2 cfl hr1 hj hj3 hm1 hm2 hnz
          go_upto_block 3 with fail
          refine who_3 MD4.out (by omega) ?_
          intro x2 x17 x181 x182 x183 x184 x185 x186 x187 x188 x189 x190 x191 x192 x193 x194 x195 x196 x197 x198 x199 x200 x201 x202 x203 x204 x205 x206 x207 x208 x209 x210 x211 x212 x213 x214 x215 x216 x217 x218 x219 x220 x221 x222 x223 x224 x225 x226 x227 x228 x229 x230 x231 x232 x233 x234 x235 x236 x237 x238 w5 md5
          have MD5 := Lib.hid md5
          clear md5
          go_wp2_with fail
          go_roundg (gk - 1)
          case measure => omega
          case rel => exact ⟨k + 1, lab4, q4, v4, by omega, by simp, MD5.out, LN4.out⟩
        · have hm0 : m = 0 := by omega
          have hn1 : ¬ (0 : Int) < (m : Int) := by omega
          have HM0 := Lib.hid hm0
          clear hm0
          go_upto_block 2 with fail
          refine sw_all (kd := kd) (N := N) (back := false) (f := 0) (o := 1) (j := 0) MD2.out rfl HM.out (by have := HF1.out; have := HM.out; omega) HF2.out hlt (by omega) HWY.out (fun h => absurd h hpos) ?_
          intro x16 x87 x88 x89 x90 x91 x92 x93 x94 x95 x96 x97 x98 x99 x100 x101 x102 x103 x104 x105 x106 x107 x108 x109 x110 x111 x112 x113 x114 x115 x116 x117 x118 x119 x120 x121 x122 x123 x124 x125 x126 x127 x128 x129 x130 x131 x132 x133 x134 x135 x136 x137 x138 x139 x140 x141 x142 x143 x144 x145 x146 x147 x148 x149 x150 x151 x152 x153 x154 x155 x156 x157 x158 x159 x160 x161 x162 x163 x164 x165 x166 x167 x168 x169 x170 x171 x172 x173 x174 x175 x176 x177 x178 x179 x180 w4 ⟨lab4, q4, v4, md4, ln4⟩
          have MD4 := Lib.hid md4
          have LN4 := Lib.hid ln4
          clear md4 ln4 hcc0 hcc1 hcc2 cfl
          go_upto_block 3 with fail
          refine who_3 MD4.out (by omega) ?_
          intro x2 x17 x181 x182 x183 x184 x185 x186 x187 x188 x189 x190 x191 x192 x193 x194 x195 x196 x197 x198 x199 x200 x201 x202 x203 x204 x205 x206 x207 x208 x209 x210 x211 x212 x213 x214 x215 x216 x217 x218 x219 x220 x221 x222 x223 x224 x225 x226 x227 x228 x229 x230 x231 x232 x233 x234 x235 x236 x237 x238 w5 md5
          have MD5 := Lib.hid md5
          clear md5
          go_wp2_with fail
          go_roundg (gk - 1)
          case measure => omega
          case rel => exact ⟨k + 1, lab4, q4, v4, by omega, by simp, MD5.out, LN4.out⟩
      case true =>
        go_upto_region 17 with fail
        refine who_17 (k := k) (f := 1) (o := 0) MD.out rfl (LN.out 1 (by omega)) (by omega) ?_
        intro x55 x56 x57 x58 x59 x60 x61 x62 x63 x64 wc ⟨lab2, v2, md2⟩
        have hd8 := due_len MD.out.ok (f := 1) (o := 0) rfl
        obtain ⟨q1, hq1⟩ : ∃ q1 : Fs, q1 = { q with S := up q.S 1 (dueS (q.S 1)), F := up q.F 1 (q.F 1 ++ dueL (q.S 1)) } := ⟨_, rfl⟩
        have hF1 : (q1.F 1).length ≤ 20 * k + 8 := by
          have a1 := LN.out 1 (by omega)
          rw [hq1]
          show (up q.F 1 (q.F 1 ++ dueL (q.S 1)) 1).length ≤ _
          rw [up_same, List.length_append]; omega
        have hF2 : (q1.F 0).length ≤ 20 * k := by
          rw [hq1]
          show (up q.F 1 (q.F 1 ++ dueL (q.S 1)) 0).length ≤ _
          rw [up_other _ _ (by omega)]; exact LN.out 0 (by omega)
        rw [← hq1] at md2
        clear hq1 hd8 hcc0 hcc1 hcc2
        obtain ⟨Ag, m, cg, hfv, hm⟩ := fly_form md2.st (f := 1) (by omega)
        have cfl : wc.cell? ⟨w.heap.size + 3, 1, none⟩ = some (.slice Ag m cg) := by rw [← hfv, ← md2.e1]; exact md2.st.af.cell (f := 1) (by omega)
        obtain ⟨hcc0, hcc1, hcc2⟩ := HWY.out wc md2.st.below
        have hgl : m ≤ 4100 := by omega
        have MD2 := Lib.hid md2
        have HM := Lib.hid hm
        have HF1 := Lib.hid hF1
        have HF2 := Lib.hid hF2
        have hN1 := haok.1
        have hN2 := haok.2
        simp only at hN1 hN2
        clear md2 hfv hm hF1 hF2
        by_cases hpos : 0 < m
        · have hmm : -(m : Int) < N.tmod m ∧ N.tmod m < m := ⟨Int.lt_tmod_of_pos N (b := (m : Int)) (by omega), Int.tmod_lt_of_pos N (b := (m : Int)) (by omega)⟩
          obtain ⟨r1, hr1⟩ : ∃ r1, N.tmod m = r1 := ⟨_, rfl⟩
          rw [hr1] at hmm
          obtain ⟨j, hj⟩ : ∃ j : Nat, (r1 + (m : Int)) % m = j := ⟨((r1 + (m : Int)) % m).toNat, by have := Int.emod_nonneg (r1 + (m : Int)) (b := (m : Int)) (by omega); omega⟩
          have hj2 : j < m := by have := Int.emod_lt_of_pos (r1 + (m : Int)) (b := (m : Int)) (by omega); omega
          have hj3 : (r1 + (m : Int)).tmod m = j := by rw [Int.tmod_eq_emod_of_nonneg (by omega)]; exact hj
          obtain ⟨hm1, hm2⟩ := hmm
          have hnz : ((m : Int) == 0) = false := beq_eq_false_iff_ne.2 (by omega)
          go_upto_block 2 with fail
          refine sw_all (kd := kd) (N := N) (back := true) (f := 1) (o := 0) (j := j) MD2.out rfl HM.out (by have := HF1.out; have := HM.out; omega) HF2.out hlt (by omega) HWY.out (fun _ => hj2) ?_
          intro x16 x87 x88 x89 x90 x91 x92 x93 x94 x95 x96 x97 x98 x99 x100 x101 x102 x103 x104 x105 x106 x107 x108 x109 x110 x111 x112 x113 x114 x115 x116 x117 x118 x119 x120 x121 x122 x123 x124 x125 x126 x127 x128 x129 x130 x131 x132 x133 x134 x135 x136 x137 x138 x139 x140 x141 x142 x143 x144 x145 x146 x147 x148 x149 x150 x151 x152 x153 x154 x155 x156 x157 x158 x159 x160 x161 x162 x163 x164 x165 x166 x167 x168 x169 x170 x171 x172 x173 x174 x175 x176 x177 x178 x179 x180 w4 ⟨lab4, q4, v4, md4, ln4⟩
          have MD4 := Lib.hid md4
          have LN4 := Lib.hid ln4
          clear md4 ln4 hcc0 hcc1 hcc2 cfl hr1 hj hj3 hm1 hm2 hnz
          go_upto_block 3 with fail
          refine who_3 MD4.out (by omega) ?_
          intro x2 x17 x181 x182 x183 x184 x185 x186 x187 x188 x189 x190 x191 x192 x193 x194 x195 x196 x197 x198 x199 x200 x201 x202 x203 x204 x205 x206 x207 x208 x209 x210 x211 x212 x213 x214 x215 x216 x217 x218 x219 x220 x221 x222 x223 x224 x225 x226 x227 x228 x229 x230 x231 x232 x233 x234 x235 x236 x237 x238 w5 md5
          have MD5 := Lib.hid md5
          clear md5
          go_wp2_with fail
          go_roundg (gk - 1)
          case measure => omega
          case rel => exact ⟨k + 1, lab4, q4, v4, by omega, by simp, MD5.out, LN4.out⟩
        · have hm0 : m = 0 := by omega
          have hn1 : ¬ (0 : Int) < (m : Int) := by omega
          have HM0 := Lib.hid hm0
          clear hm0
          go_upto_block 2 with fail
          refine sw_all (kd := kd) (N := N) (back := true) (f := 1) (o := 0) (j := 0) MD2.out rfl HM.out (by have := HF1.out; have := HM.out; omega) HF2.out hlt (by omega) HWY.out (fun h => absurd h hpos) ?_
          intro x16 x87 x88 x89 x90 x91 x92 x93 x94 x95 x96 x97 x98 x99 x100 x101 x102 x103 x104 x105 x106 x107 x108 x109 x110 x111 x112 x113 x114 x115 x116 x117 x118 x119 x120 x121 x122 x123 x124 x125 x126 x127 x128 x129 x130 x131 x132 x133 x134 x135 x136 x137 x138 x139 x140 x141 x142 x143 x144 x145 x146 x147 x148 x149 x150 x151 x152 x153 x154 x155 x156 x157 x158 x159 x160 x161 x162 x163 x164 x165 x166 x167 x168 x169 x170 x171 x172 x173 x174 x175 x176 x177 x178 x179 x180 w4 ⟨lab4, q4, v4, md4, ln4⟩
          have MD4 := Lib.hid md4
          have LN4 := Lib.hid ln4
          clear md4 ln4 hcc0 hcc1 hcc2 cfl
          go_upto_block 3 with fail
          refine who_3 MD4.out (by omega) ?_
          intro x2 x17 x181 x182 x183 x184 x185 x186 x187 x188 x189 x190 x191 x192 x193 x194 x195 x196 x197 x198 x199 x200 x201 x202 x203 x204 x205 x206 x207 x208 x209 x210 x211 x212 x213 x214 x215 x216 x217 x218 x219 x220 x221 x222 x223 x224 x225 x226 x227 x228 x229 x230 x231 x232 x233 x234 x235 x236 x237 x238 w5 md5
          have MD5 := Lib.hid md5
          clear md5
          go_wp2_with fail
          go_roundg (gk - 1)
          case measure => omega
          case rel => exact ⟨k + 1, lab4, q4, v4, by omega, by simp, MD5.out, LN4.out⟩
    · obtain rfl : k = n := by omega
      go_upto_block 5 with fail
      refine who_5 MD.out (fun f hf => by have := LN.out f hf; omega) (by omega) ?_
      intro x2 x18 x19 x20 x21 x239 x240 x241 x242 x243 x244 x245 x246 x247 x248 x249 x250 x251 x252 x253 x254 x255 x256 x257 x258 x259 x260 x261 x262 x263 x264 x265 x266 x267 x268 x269 x270 x271 x272 x273 x274 x275 w5 ⟨lab5, q5, v5, md5, hy⟩
      have h200 : ∀ f, f < 2 → (q.sn f).length ≤ 200 := fun f hf => by have := MD.out.s f hf; omega
      obtain ⟨t1, t0, xa, xb, _⟩ := MD.out.ok.ok2.ends (h200 0 (by omega)) (h200 1 (by omega))
      rw [← hy] at t1 t0 xa xb
      have hs := Sy.rounds_sent 400 (q.y 0)
      rw [← hy] at hs
      obtain ⟨s0, s1⟩ := hs
      have u1 : q5.tk 1 = q5.sn 0 := by
        have a : q5.tk 1 = (q.y 0).s0 := t1
        have b : q5.sn 0 = (q.y 0).s0 := s0
        rw [a, b]
      have u0 : q5.tk 0 = q5.sn 1 := by
        have a : q5.tk 0 = (q.y 0).s1 := t0
        have b : q5.sn 1 = (q.y 0).s1 := s1
        rw [a, b]
      have xa' : (q5.S 0).xs = [] := xa
      have xb' : (q5.S 1).xs = [] := xb
      have FIN := Lib.hid (fin_facts md5 u1 u0 xa' xb')
      have HB5 := Lib.hid md5.st.below
      have HZ5 := Lib.hid (Nat.le_trans (Nat.le_refl w.heap.size) md5.st.below.size)
      clear md5 hy t1 t0 xa xb s0 s1 u1 u0 xa' xb' h200
      obtain ⟨A1, n1, c1, A0, n0, c0, B1, m1, d1, B0, m0, d0, z1, z0, g1, g2, g3, g4, cv1, cv2, cv3, cv4, L0, L1⟩ := FIN.out
      have HL0 := Lib.hid L0
      have HL1 := Lib.hid L1
      clear L0 L1 FIN
      go_wp2_with fail
      refine (HL0.out).mono ?_
      rintro e w' ⟨rfl, rfl⟩
      go_wp2_with fail
      refine (HL1.out).mono ?_
      rintro e w' ⟨rfl, rfl⟩
      go_wp2_with (go_at_call 8; refine (known_any _).mono ?_; rintro e w' ⟨rfl, hbk⟩)
      go_ret
      exact ⟨rfl, HB5.out.trans (hbk.mono HZ5.out)⟩
end Go.Proofs.Ytmkjnblmgofoeaa
