/- The walk of RelPlays. -/
import Derived.Test.YtmkjnblmgofoeaaKnR
import Derived.Test.YtmkjnblmgofoeaaPlS
import Derived.Test.YtmkjnblmgofoeaaPlC
namespace Go.Proofs.Ytmkjnblmgofoeaa
open Go.RowKit

def lab0P (w : World) (k : Nat) : Nat := if k < w.heap.size then 9 else if k = w.heap.size then 0 else 3
def W0P (w : World) (ag : Nat) : World := (w.alloc (.cells (strC (ssNew ag) (.slice none 0 0)) 63)).alloc (.cells #[.int .i64 (ag : Int), .slice none 0 0, .int .i64 0, .int .i64 0, .int .u64 0, .bool false, .int .i64 0] 55)
theorem pls0 (w : World) {ag : Nat} (h1 : 1 ≤ ag) (h2 : ag ≤ 100) : PMid w (W0P w ag) (lab0P w) (ssNew ag) (.slice none 0 0) [] 0 := by
  have z1 : (w.alloc (.cells (strC (ssNew ag) (.slice none 0 0)) 63)).heap.size = w.heap.size + 1 := by simp
  have hz : (W0P w ag).heap.size = w.heap.size + 1 + 1 := by simp [W0P]
  have hb : Below w.heap.size w (W0P w ag) := ((Below.refl _ _).alloc (Nat.le_refl _) _).alloc (by simp) _
  have hu : Upd (fun _ => False) (w.alloc (.cells (strC (ssNew ag) (.slice none 0 0)) 63)) (W0P w ag) := (Upd.refl _ _).alloc _
  have k1 : Blk (W0P w ag) w.heap.size 63 (strC (ssNew ag) (.slice none 0 0)) := (Blk.new w _ _).alloc _
  have k2 : Blk (W0P w ag) (w.heap.size + 1) 55 (rfC (ssNew ag) (.slice none 0 0)) := by
    have := Blk.new (w.alloc (.cells (strC (ssNew ag) (.slice none 0 0)) 63)) 55 #[.int .i64 (ag : Int), .slice none 0 0, .int .i64 0, .int .i64 0, .int .u64 0, .bool false, .int .i64 0]
    rw [z1] at this
    exact this
  refine ⟨⟨fun k hk => if_pos hk, hb, ⟨fun k => k = w.heap.size, fun _ => False, ⟨⟨.slice none 0 0, [], k1, World.ownsRow_nil _ _ _ _, trivial, fun g hg => by cases hg⟩, rfl, fun k _ h => h, fun k hk => by rw [hk, hz]; omega, fun k h => h.elim⟩, fun k hk => ?_, fun k h => h.elim⟩, ⟨k2, ⟨[], World.ownsRow_nil _ _ _ _, rfl, fun i u x h => by simp at h⟩, rfl, rfl⟩, ?_, fun k hk => by cases hk⟩, ⟨h1, h2, Nat.le_refl _, (fun _ h => by cases h), Nat.le_refl _, by show (0 : Nat) ≤ 8; omega, Nat.le_refl _, Nat.le_refl _⟩⟩
  · rw [hk]; unfold lab0P; rw [if_neg (by omega), if_pos rfl]
  · unfold lab0P; rw [if_neg (by omega), if_neg (by omega)]
theorem box_in {w wr : World} {lab : Nat → Nat} {s : SS} {v : Value} {al : List (List UInt8)} {k : Nat} (h : PMid w wr lab s v al k) (kd : Int) (u : Value) (q a : Nat) (gu : Value) :
    ∃ lab2, PMid w (wr.alloc (.cells #[.int .i64 kd, u, .int .u64 q, .int .u64 a, gu] 50)) lab2 s v al k ∧ BoxAt (wr.alloc (.cells #[.int .i64 kd, u, .int .u64 q, .int .u64 a, gu] 50)) lab2 wr.heap.size kd u q a gu := by
  obtain ⟨lab2, l1, l2, _⟩ := relab wr.heap.size lab (fun _ => True) 10 10
  have st : Step 10 lab lab2 wr (wr.alloc (.cells #[.int .i64 kd, u, .int .u64 q, .int .u64 a, gu] 50)) := ⟨(Upd.refl _ _).alloc _, l1⟩
  exact ⟨lab2, ⟨h.st.other st (.inr (Nat.le_refl _)), h.ok⟩, Blk.new _ _ _, l2 _ (Nat.le_refl _) trivial⟩

set_option maxRecDepth 100000 in
set_option maxHeartbeats 16000000 in
theorem pl_any (ag : Int) (A : Option Addr) (n c : Nat) (l : List Ac) (w : World) (r : Reads w (fun k => k < w.heap.size) 5 A n (l.flatMap Ac.cells)) (hl : l.length = n) (hg : ∀ a ∈ l, AcRd w a) :
    Calls Try.prog 6 #[.int .i64 ag, .slice A n c] w fun e w' => e = .returned (.bool true) ∧ Below w.heap.size w w' := by
  have R := Lib.hid r
  have HG := Lib.hid hg
  have HL := Lib.hid hl
  clear r hg hl
  by_cases hbig : 150 < n
  · go_enter Try.func6, Try.ntmps6
    go_wp2_with (go_at_call 8; refine (known_any _).mono ?_; rintro e w' ⟨rfl, hb⟩)
    go_ret
    exact ⟨rfl, hb⟩
  by_cases a1 : ag < 1
  · have HN := Lib.hid (new_no ag w (.inl a1))
    go_enter Try.func6, Try.ntmps6
    go_wp2_with fail
    refine (HN.out).mono ?_
    rintro e w1 ⟨rfl, rfl⟩
    go_wp2_with (go_at_call 8; refine (known_any _).mono ?_; rintro e w' ⟨rfl, hb⟩)
    go_ret
    exact ⟨rfl, hb⟩
  by_cases a2 : 100 < ag
  · have HN := Lib.hid (new_no ag w (.inr a2))
    go_enter Try.func6, Try.ntmps6
    go_wp2_with fail
    refine (HN.out).mono ?_
    rintro e w1 ⟨rfl, rfl⟩
    go_wp2_with (go_at_call 8; refine (known_any _).mono ?_; rintro e w' ⟨rfl, hb⟩)
    go_ret
    exact ⟨rfl, hb⟩
  obtain ⟨ag, rfl⟩ : ∃ m : Nat, ag = (m : Int) := ⟨ag.toNat, by omega⟩
  go_enter Try.func6, Try.ntmps6
  go_wp2_with fail
  refine (new_yes ag _ (by omega) (by omega)).mono ?_
  rintro e w1 ⟨rfl, rfl⟩
  go_wp2_with fail
  have HW0 := Lib.hid (pls0 w (ag := ag) (by omega) (by omega))
  obtain ⟨wz, hwz⟩ : ∃ wz, wz = W0P w ag := ⟨_, rfl⟩
  rw [← hwz] at HW0
  unfold W0P at hwz
  rw [← hwz]
  clear hwz
  go_loopg [8] n (fun g s8 wr => ∃ (k : Nat) (lab : Nat → Nat) (s : SS) (v : Value) (al : List (List UInt8)), k + g = n ∧ s8 = .int .i64 (k : Int) ∧ PMid w wr lab s v al k)
  case atStart => exact ⟨0, _, _, _, _, by omega, rfl, HW0.out⟩
  case round =>
    obtain ⟨k, lab, s, v, al, hk, rfl, md⟩ := hrel
    by_cases hlt : k < n
    · obtain ⟨a, hak⟩ : ∃ a, l[k]? = some a := ⟨l[k]'(by rw [HL.out]; exact hlt), List.getElem?_eq_getElem _⟩
      obtain ⟨⟨Ab, cb, hu, hRb⟩, Ag, cg, hug, hRg⟩ := HG.out a (List.mem_of_getElem? hak)
      obtain ⟨ad, rfl, _, hadl, hc⟩ := R.out.2 (by omega)
      obtain ⟨kd, u, x, q, ga, gu, gx⟩ := a
      simp only at hu hug hRb hRg
      subst hu; subst hug
      have RB := Lib.hid hRb
      have RG := Lib.hid hRg
      obtain ⟨e0, e1, e2, e3, e4⟩ := acCells_getP l k _ hak
      have hbl := md.st.below
      have hcc0 : wr.cell? (ad.add (k * 5)) = some (.int .i64 kd) := (hbl.cell (by rw [block_of_add]; exact hadl)).trans (hc _ _ e0)
      have hcc1 : wr.cell? ⟨(ad.add (k * 5)).block, (ad.add (k * 5)).off + 1, none⟩ = some (.slice Ab x.length cb) := by
        rw [← add_after ad (k * 5) 1 (by omega)]
        exact (hbl.cell (by rw [block_of_add]; exact hadl)).trans (hc _ _ e1)
      have hcc2 : wr.cell? ⟨(ad.add (k * 5)).block, (ad.add (k * 5)).off + 2, none⟩ = some (.int .u64 q) := by
        rw [← add_after ad (k * 5) 2 (by omega)]
        exact (hbl.cell (by rw [block_of_add]; exact hadl)).trans (hc _ _ e2)
      have hcc3 : wr.cell? ⟨(ad.add (k * 5)).block, (ad.add (k * 5)).off + 2 + 1, none⟩ = some (.int .u64 ga) := by
        have := (hbl.cell (p := ad.add (k * 5 + 3)) (by rw [block_of_add]; exact hadl)).trans (hc _ _ e3)
        rw [add_after ad (k * 5) 3 (by omega)] at this
        exact this
      have hcc4 : wr.cell? ⟨(ad.add (k * 5)).block, (ad.add (k * 5)).off + 2 + 2, none⟩ = some (.slice Ag gx.length cg) := by
        have := (hbl.cell (p := ad.add (k * 5 + 4)) (by rw [block_of_add]; exact hadl)).trans (hc _ _ e4)
        rw [add_after ad (k * 5) 4 (by omega)] at this
        exact this
      obtain ⟨lab1, md1, bx1⟩ := box_in md kd (.slice Ab x.length cb) q ga (.slice Ag gx.length cg)
      have MD1 := Lib.hid md1
      have BX1 := Lib.hid bx1
      obtain ⟨bg, hbg⟩ : ∃ bg, bg = wr.heap.size := ⟨_, rfl⟩
      clear hRb hRg hc e0 e1 e2 e3 e4 hbl hak hadl md md1 bx1
      have hi0 : (0 : Int) ≤ k := by omega
      have hi1 : (k : Int) < n := by omega
      go_wp2_with fail
      refine (copy_p MD1.out.st (MD1.out.ok.ok (by omega))).mono ?_
      rintro e w2 ⟨lab2, rfl, cp2, st2, P2⟩
      have bx2 := BX1.out.keep st2 (by omega)
      have ok2 := MD1.out.ok
      obtain ⟨bc, hbc⟩ : ∃ bc, bc = (wr.alloc (.cells #[.int .i64 kd, .slice Ab x.length cb, .int .u64 q, .int .u64 ga, .slice Ag gx.length cg] 50)).heap.size := ⟨_, rfl⟩
      rw [← hbc] at cp2 ⊢
      rw [← hbg] at bx2 ⊢
      have b20 : w2.cell? ⟨bg, 0, none⟩ = some (.int .i64 kd) := bx2.1.cell 0
      have PIN := Lib.hid (⟨⟨P2, ok2⟩, cp2, ok2.again⟩ : PIn w w2 lab2 s v al k bc s)
      have BX2 := Lib.hid bx2
      clear hbc hbg hcc0 hcc1 hcc2 hcc3 hcc4 cp2 P2 bx2 st2 MD1 BX1 ok2
      go_wp2_with fail
      refine (left_st PIN.out.mid.st.st PIN.out.mid.ok.again).mono ?_
      rintro e w3 ⟨rfl, rfl⟩
      go_upto_block 2 with fail
      have hk2 : k < 200 := by omega
      refine pl_sw PIN.out BX2.out (RB.out.keep (Same.ofBelow PIN.out.mid.st.below fun _ h => h)) (RG.out.keep (Same.ofBelow PIN.out.mid.st.below fun _ h => h)) hk2 ?_ ?_
      · intro x12 x13 x14 x15 x16 x17 x18 x19 x20 x66 x67 x68 x69 x70 x71 x72 x73 x74 x75 x76 x77 x78 x79 x80 x81 x82 x83 x84 x85 x86 x87 x88 x89 x90 x91 x92 x93 x94 x95 x96 x97 x98 x99 x100 x101 x102 x103 x104 x105 x106 x107 x108 x109 x110 x111 x112 x113 x114 x115 x116 x117 x118 x119 x120 x121 x122 x123 x124 x125 x126 x127 x128 x129 x130 x131 x132 x133 x134 x135 x136 x137 x138 x139 x140 x141 x142 x143 x144 x145 x146 x147 x148 x149 x150 x151 x152 x153 x154 x155 x156 x157 x158 x159 x160 x161 x162 x163 x164 x165 x166 wx hp
        go_upto_region 38 with fail
        refine pl_38 hp hk2 ?_
        intro y167 y168 y169 y170 y171 y172 y173 y174 y175 y176 y177 y178 y179 y180 y181 y182 y183 y184 y185 y186 y187 y188 y189 y190 y191 y192 y193 y194 y195 y196 y197 y198 y199 y200 y201 y202 y203 y204 y205 y206 y207 wy ⟨lab5, s5, v5, al5, pin5⟩
        have P5 := Lib.hid pin5
        clear pin5 b20
        go_wp2_with fail
        go_roundg (gk - 1)
        case measure => omega
        case rel => exact ⟨k + 1, lab5, s5, v5, al5, by omega, by simp, P5.out.mid⟩
      · intro x12 x13 x14 x15 x16 x17 x18 x19 x20 x66 x67 x68 x69 x70 x71 x72 x73 x74 x75 x76 x77 x78 x79 x80 x81 x82 x83 x84 x85 x86 x87 x88 x89 x90 x91 x92 x93 x94 x95 x96 x97 x98 x99 x100 x101 x102 x103 x104 x105 x106 x107 x108 x109 x110 x111 x112 x113 x114 x115 x116 x117 x118 x119 x120 x121 x122 x123 x124 x125 x126 x127 x128 x129 x130 x131 x132 x133 x134 x135 x136 x137 x138 x139 x140 x141 x142 x143 x144 x145 x146 x147 x148 x149 x150 x151 x152 x153 x154 x155 x156 x157 x158 x159 x160 x161 x162 x163 x164 x165 x166 wx ⟨lab5, s5, v5, al5, pin5⟩
        have P5 := Lib.hid pin5
        clear pin5 b20
        go_wp2_with fail
        go_roundg (gk - 1)
        case measure => omega
        case rel => exact ⟨k + 1, lab5, s5, v5, al5, by omega, by simp, P5.out.mid⟩
    · obtain rfl : k = n := by omega
      have HB := Lib.hid md.st.below
      clear md
      go_wp2_with (go_at_call 8; refine (known_any _).mono ?_; rintro e w' ⟨rfl, hbk⟩)
      go_ret
      exact ⟨rfl, HB.out.trans (hbk.mono HB.out.size)⟩
end Go.Proofs.Ytmkjnblmgofoeaa
