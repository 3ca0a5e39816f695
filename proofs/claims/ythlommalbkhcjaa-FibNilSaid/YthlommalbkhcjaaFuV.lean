/- The walk of FibNil. -/
import Derived.Test.YthlommalbkhcjaaFuU
import Derived.Laws.MakeOwn
namespace Go.Proofs.Ythlommalbkhcjaa
open Go.RowKit Go.Sort
attribute [local go_sem] Oper.semAt_some
/-- The i-th route. -/
def nilRt (i : Nat) : Rt := ⟨i * 256, 24, false, false, 0, none, 0, 0, []⟩
def nilL (n : Nat) : List Rt := (List.range n).map nilRt
theorem nil_len (n : Nat) : (nilL n).length = n := by simp [nilL]
theorem nil_get {n k : Nat} (h : k < n) : (nilL n)[k]? = some (nilRt k) := by simp [nilL, h]
theorem nil_may {i : Nat} : mayR (nilRt i) = true := by
  unfold mayR nilRt mayB
  simp
theorem nil_rB {i j : Nat} (hi : i < 2000) (hj : j < 2000) (h : rB (nilRt i) = rB (nilRt j)) : i = j := by
  have a := (rB_may (r := nilRt i) (show i * 256 < 2 ^ 32 by omega) nil_may).2.1
  have b := (rB_may (r := nilRt j) (show j * 256 < 2 ^ 32 by omega) nil_may).2.1
  rw [h, b] at a
  have : j * 256 = i * 256 := a
  omega
theorem nil_mk : ∃ T, mkT vk 0 ((nilL 1025).drop 1) .nil = some T ∧ T.list.length = 1024 := by
  have hm : ∀ r ∈ (nilL 1025).drop 1, ∃ i, i < 1025 ∧ r = nilRt i := fun r hr => by
    have := List.mem_of_mem_drop hr
    unfold nilL at this
    obtain ⟨i, hi, rfl⟩ := List.mem_map.1 this
    exact ⟨i, List.mem_range.1 hi, rfl⟩
  obtain ⟨h1, h2⟩ := mkT_list (vf := vk) (l := (nilL 1025).drop 1) (k := 0) (T := .nil) trivial (fun r hr => by obtain ⟨i, hi, rfl⟩ := hm r hr; show i * 256 < 2 ^ 32; omega)
  have ok := (mkL_ok (vf := vk) (k := 0) (l := (nilL 1025).drop 1) (L := []) List.Pairwise.nil).2 ⟨fun r hr => by obtain ⟨i, hi, rfl⟩ := hm r hr; exact nil_may, by
    unfold List.Nodup
    rw [List.pairwise_map]
    have hp : (nilL 1025).Pairwise fun a b => rB a ≠ rB b := by
      unfold nilL
      rw [List.pairwise_map, List.pairwise_iff_getElem]
      intro i j hi hj hij h
      simp at hi hj
      rw [List.getElem_range, List.getElem_range] at h
      have := nil_rB (by omega) (by omega) h
      omega
    exact hp.sublist (List.drop_sublist _ _), by simp⟩
  obtain ⟨L, hL⟩ := Option.isSome_iff_exists.1 ok
  have h3 : mkL vk 0 ((nilL 1025).drop 1) TT.nil.list = some L := hL
  rw [h3] at h1
  cases hT : mkT vk 0 ((nilL 1025).drop 1) .nil with
  | none => rw [hT] at h1; cases h1
  | some T =>
    rw [hT] at h1
    have e : T.list = L := by injection h1
    refine ⟨T, rfl, ?_⟩
    rw [e, (mkL_in List.Pairwise.nil hL).2.1, List.length_drop, nil_len]
    rfl
/-- The cells, where k routes are laid. -/
def nilC (k j : Nat) : Value := match j % 6 with
  | 0 => .int .u32 (if j / 6 < k then ((j / 6 * 256 : Nat) : Int) else 0)
  | 1 => .int .i64 (if j / 6 < k then 24 else 0)
  | 2 => .bool false
  | 3 => .bool false
  | 4 => .int .i64 0
  | _ => .slice none 0 0
def NilM (w : World) (b k : Nat) (wr : World) : Prop := (∀ j, j < 6150 → wr.cell? ⟨b, j, none⟩ = some (nilC k j) ∧ wr.frozen? ⟨b, j, none⟩ = false) ∧ b = w.heap.size ∧ b < wr.heap.size ∧ Below w.heap.size w wr
theorem nilC_other {k j : Nat} (h0 : j ≠ k * 6) (h1 : j ≠ k * 6 + 1) : nilC (k + 1) j = nilC k j := by
  unfold nilC
  have hm : j % 6 < 6 := Nat.mod_lt _ (by decide)
  have hj := Nat.div_add_mod j 6
  split
  · rename_i h
    have : ¬ j / 6 = k := fun e => by omega
    congr 1
    by_cases h2 : j / 6 < k
    · rw [if_pos h2, if_pos (by omega)]
    · rw [if_neg h2, if_neg (by omega)]
  · rename_i h
    have : ¬ j / 6 = k := fun e => by omega
    congr 1
    by_cases h2 : j / 6 < k
    · rw [if_pos h2, if_pos (by omega)]
    · rw [if_neg h2, if_neg (by omega)]
  all_goals rfl
theorem nilC_a (k : Nat) : nilC (k + 1) (k * 6) = .int .u32 ((k * 256 : Nat) : Int) := by
  unfold nilC
  rw [Nat.mul_mod_left, Nat.mul_div_cancel _ (by decide)]
  simp
theorem nilC_n (k : Nat) : nilC (k + 1) (k * 6 + 1) = .int .i64 24 := by
  unfold nilC
  rw [show (k * 6 + 1) % 6 = 1 by omega, show (k * 6 + 1) / 6 = k by omega]
  simp
theorem NilM.set {w wr : World} {b k : Nat} (h : NilM w b k wr) (hk : k < 1025) : NilM w b (k + 1) (wr.setCells b (k * 6) [.int .u32 ((k * 256 : Nat) : Int), .int .i64 24]) := by
  obtain ⟨h1, h2, h3, h4⟩ := h
  have hin := World.cell?_setCells_in b [.int .u32 ((k * 256 : Nat) : Int), .int .i64 24] (k * 6) wr (fun j hj => by
    have hj2 : j < 2 := hj
    rw [(h1 (k * 6 + j) (by omega)).1]
    rfl)
  refine ⟨fun j hj => ?_, h2, by rw [setCells_sz]; exact h3, below_setCells (by omega) _ _ _ h4⟩
  obtain ⟨c1, c2⟩ := h1 j hj
  refine ⟨?_, by simpa [World.setCells] using c2⟩
  by_cases e0 : j = k * 6
  · have := hin 0 (Nat.zero_lt_two)
    rw [Nat.add_zero] at this
    rw [e0, this, nilC_a]
    rfl
  · by_cases e1 : j = k * 6 + 1
    · have := hin 1 (Nat.one_lt_two)
      rw [e1, this, nilC_n]
      rfl
    · rw [World.cell?_setCells_out b _ _ _ _ (fun _ _ => by show j < k * 6 ∨ k * 6 + 2 ≤ j; omega), c1, nilC_other e0 e1]
theorem NilM.reads {w wr : World} {b : Nat} (h : NilM w b 1025 wr) : Reads wr (fun k => k < wr.heap.size) 6 (some ⟨b, 0, none⟩) 1025 ((nilL 1025).flatMap rtC) := by
  have hlen : ∀ l : List Rt, (l.flatMap rtC).length = l.length * 6 := fun l => by
    induction l with
    | nil => rfl
    | cons r l ih => rw [List.flatMap_cons, List.length_append, ih, List.length_cons]; show 6 + _ = _; omega
  refine ⟨by rw [hlen, nil_len], fun _ => ⟨_, rfl, h.2.2.1, h.2.2.1, fun j u hj => ?_⟩⟩
  have hj2 : j < 6150 := by have := (List.getElem?_eq_some_iff.1 hj).1; rw [hlen, nil_len] at this; omega
  rw [add_off, Nat.zero_add, (h.1 j hj2).1, ← hj]
  have hq : j / 6 < 1025 := by omega
  have := rtC_get (nil_get hq) (j := j % 6) (Nat.mod_lt _ (by decide))
  rw [show j / 6 * 6 + j % 6 = j by omega] at this
  rw [this]
  unfold nilC
  have hm : j % 6 < 6 := Nat.mod_lt _ (by decide)
  generalize j % 6 = m at hm
  match m, hm with
  | 0, _ => simp [rtC, nilRt, hq]
  | 1, _ => simp [rtC, nilRt, hq]
  | 2, _ => rfl
  | 3, _ => rfl
  | 4, _ => rfl
  | 5, _ => rfl
theorem rt_infoz : (Try.prog.info? 28).map (fun i => (i.zero, i.size, i.bytes)) = some (some (.agg #[.int .u32 0, .int .i64 0, .bool false, .bool false, .int .i64 0, .slice none 0 0]), 6, 56) := by kernel_rfl
/-- The row is made. -/
theorem nil_make (w : World) : ∃ W, (Instr.makeSlice 40 (.int .i64 1025) (.int .i64 1025)).run Try.prog w = .ok (.slice (some ⟨w.heap.size, 0, none⟩) 1025 1025) W ∧ NilM w w.heap.size 0 W := by
  obtain ⟨i, hi⟩ : ∃ i, Try.prog.info? 28 = some i := by
    have := rt_infoz
    cases h : Try.prog.info? 28 with
    | none => rw [h] at this; cases this
    | some i => exact ⟨i, rfl⟩
  have hz := rt_infoz
  rw [hi] at hz
  simp only [Option.map_some, Option.some.injEq, Prod.mk.injEq] at hz
  obtain ⟨z0, z1, z2⟩ := hz
  have hr := run_make (P := Try.prog) w 40 28 i _ Try.underlying40 hi z0 .i64 .i64 1025 1025 (by decide) (by decide) (by rw [z2]; decide) (by decide)
  rw [z1] at hr
  refine ⟨_, hr, fun j hj => ?_, rfl, by simp, (Below.refl _ _).alloc (Nat.le_refl _) _⟩
  have hb := Blk.new w 28 (madeCells (Value.agg #[.int .u32 0, .int .i64 0, .bool false, .bool false, .int .i64 0, .slice none 0 0]).cells (1025 * 6))
  refine ⟨?_, hb.frozen j⟩
  refine (hb.cell j).trans ?_
  unfold madeCells
  rw [Array.getElem?_map, Array.getElem?_range]
  rw [if_pos (by omega)]
  unfold nilC
  have hm : j % 6 < 6 := Nat.mod_lt _ (by decide)
  show some ((#[Value.int .u32 0, .int .i64 0, .bool false, .bool false, .int .i64 0, .slice none 0 0] : Array Value)[j % 6]!) = _
  generalize j % 6 = m at hm
  match m, hm with
  | 0, _ => simp
  | 1, _ => simp
  | 2, _ => rfl
  | 3, _ => rfl
  | 4, _ => rfl
  | 5, _ => rfl
/-- A prefix is stored in the row. -/
theorem NilM.st {w wr : World} {b k : Nat} (h : NilM w b k wr) (hk : k < 1025) : (Instr.storeAt 25 (.pointer (some ⟨b, k * 6, none⟩)) (.agg #[.int .u32 ((k * 256 : Nat) : Int), .int .i64 24])).run Try.prog wr = .ok () (wr.setCells b (k * 6) [.int .u32 ((k * 256 : Nat) : Int), .int .i64 24]) :=
  run_storeAt_mid wr b (k * 6) _ #[.int .u32 ((k * 256 : Nat) : Int), .int .i64 24] (fun j hj => by
    have hj2 : j < 2 := hj
    obtain ⟨c1, c2⟩ := h.1 (k * 6 + j) (by omega)
    exact ⟨by rw [c1]; rfl, c2⟩) px_info (by simp [Value.oneCell'])
theorem bd_px24 (a : Int) (w : World) : (Instr.build 25 #[(0, .int .u32 a), (1, .int .i64 24)]).run Try.prog w = .ok (.agg #[.int .u32 a, .int .i64 24]) w := by kernel_rfl
theorem bd_fib (w : World) : (Instr.build 62 #[]).run Try.prog w = .ok (.agg #[.pointer none]) w := by kernel_rfl
set_option maxRecDepth 20000 in
set_option maxHeartbeats 8000000 in
attribute [-go_sem] Instr.storeAt Instr.loadAt Instr.alloc Instr.build in
theorem fibnil_any (w : World) : Calls Try.prog 6 #[] w fun e w' => e = .returned (.bool true) ∧ Below w.heap.size w w' := by
  obtain ⟨W1, hmk, hn0⟩ := nil_make w
  obtain ⟨ad, had⟩ : ∃ ad : Addr, ad = ⟨w.heap.size, 0, none⟩ := ⟨_, rfl⟩
  rw [← had] at hmk
  have HN0 := Lib.hid hn0
  have HAD := Lib.hid had
  have b1 := bd_px24
  have b2 := bd_fib
  have hsl : ∀ w, (Instr.slice 40 (.slice (some ad) 1025 1025) (some (.int .i64 1)) none none).run Try.prog w = .ok (.slice (some (ad.add 6)) 1024 1024) w := fun w => by kernel_rfl
  clear hn0 had
  go_enter Try.func6, Try.ntmps6
  go_wp2_with fail
  go_loopw [2] (fun i wr => ∃ k : Nat, k ≤ 1025 ∧ i = .int .i64 (k : Int) ∧ NilM w w.heap.size k wr) (fun i _ => 1025 - (intOf i).toNat)
  case atStart => exact ⟨0, Nat.zero_le _, rfl, HN0.out⟩
  case round =>
    obtain ⟨k, hk, rfl, hm⟩ := hrel
    have HM := Lib.hid hm
    clear hm
    by_cases hlt : k < 1025
    · have hd0 : decide ((k : Int) < 1025) = true := decide_eq_true (by omega)
      have i0 : (0 : Int) ≤ k := by omega
      have i1 : (k : Int) < 1025 := by omega
      have st := HM.out.st hlt
      have HM2 := Lib.hid (HM.out.set hlt)
      have e1 : (⟨w.heap.size, k * 6, none⟩ : Addr) = ad.add (k * 6) := by rw [HAD.out, add_off, Nat.zero_add]
      rw [e1, show ((k * 256 : Nat) : Int) = (k : Int) * 256 by omega] at st
      rw [show ((k * 256 : Nat) : Int) = (k : Int) * 256 by omega] at HM2
      clear e1
      go_wp2_with fail
      go_roundw
      case rel => exact ⟨k + 1, by omega, by go_num, HM2.out⟩
      case measure => simp [intOf]; omega
    · obtain rfl : k = 1025 := by omega
      have hrd := HM.out.reads
      have hbl := HM.out.2.2.2
      rw [← HAD.out] at hrd
      have hrts : RtsM wr (fun k => k < wr.heap.size) (some ad) 1025 (nilL 1025) := ⟨hrd, nil_len _, fun r hr => by
        unfold nilL at hr
        obtain ⟨i, hi, rfl⟩ := List.mem_map.1 hr
        have := List.mem_range.1 hi
        exact ⟨show i * 256 < 2 ^ 32 by omega, rfl, Nat.zero_le _, rfl, fun h => absurd h (Nat.lt_irrefl 0)⟩⟩
      have hrd2 := hrd.cut (k := 1) (cap := 1025) (by decide) (by decide)
      have hrts2 : RtsM wr (fun k => k < wr.heap.size) (some (ad.add 6)) 1024 ((nilL 1025).drop 1) := ⟨by
        have e : ((nilL 1025).flatMap rtC).drop (1 * 6) = ((nilL 1025).drop 1).flatMap rtC := by
          cases hL : nilL 1025 with
          | nil => rfl
          | cons r l =>
            rw [List.flatMap_cons]
            exact List.drop_left' (show (rtC r).length = 6 from rfl)
        rw [e] at hrd2
        exact hrd2, by rw [List.length_drop, nil_len], fun r hr => hrts.each r (List.mem_of_mem_drop hr)⟩
      obtain ⟨T, hT, hTl⟩ := nil_mk
      obtain ⟨l2, hl2⟩ : ∃ l, l = (nilL 1025).drop 1 := ⟨_, rfl⟩
      rw [← hl2] at hrts2 hT
      have HMK := Lib.hid (fmake_kf (dcL_ok l2) vk _ 1024 1024 l2 wr hrts2 (by decide) (fun i r h hm => dcL_at i r h hm) hT)
      have HTL := Lib.hid hTl
      have HBL := Lib.hid hbl
      clear hrd hrts hrd2 hrts2 hT hTl hl2 hbl hmk
      go_wp2_with fail
      refine (fmake_full _ 1025 1025 wr (by decide)).mono ?_
      rintro e w' ⟨rfl, rfl⟩
      go_wp2_with fail
      refine HMK.out.mono ?_
      rintro e w2 ⟨fb, rfl, hk2⟩
      have HK2 := Lib.hid hk2
      have HB2 := Lib.hid (HBL.out.trans (hk2.below.mono HBL.out.size))
      clear hk2
      go_wp2_with fail
      refine (num14_any _ _).mono ?_
      rintro e w' ⟨rfl, rfl⟩
      go_wp2_with fail
      refine (num14_any _ _).mono ?_
      rintro e w' ⟨rfl, rfl⟩
      go_wp2_with fail
      refine (flen_any HK2.out 1024 HTL.out).mono ?_
      rintro e w' ⟨rfl, rfl⟩
      obtain ⟨M, tb, hfm, _⟩ := HK2.out
      have HF := Lib.hid hfm.f
      clear hfm
      go_wp2_with fail
      refine (nothing14_any (.inl rfl) fb tb HF.out).mono ?_
      rintro e w3 ⟨rfl, hb3⟩
      have HB3 := Lib.hid (HB2.out.trans (hb3.mono HB2.out.size))
      have HF3 := Lib.hid (HF.out.below hb3 HF.out.lt)
      clear hb3
      go_wp2_with fail
      have hg4 := Blk.new w3 62 #[.pointer none]
      have hb4 := HB3.out.alloc HB3.out.size (.cells #[.pointer none] 62)
      have hf4 := HF3.out.alloc (.cells #[.pointer none] 62)
      refine (nothing14_any (.inr ⟨_, rfl, hg4⟩) fb tb hf4).mono ?_
      rintro e w5 ⟨rfl, hb5⟩
      have HB5 := Lib.hid (hb4.trans (hb5.mono hb4.size))
      clear hg4 hb4 hf4 hb5
      go_wp2_with fail
      refine (known14_any _).mono ?_
      rintro e w6 ⟨rfl, hb6⟩
      have HB6 := Lib.hid (HB5.out.trans (hb6.mono HB5.out.size))
      clear hb6
      go_wp2_with fail
      go_ret
      exact ⟨rfl, HB6.out⟩
end Go.Proofs.Ythlommalbkhcjaa
