/- ReassTakes: Much, key; a table beside the document's. -/
import Derived.Test.YtihfihehiifdkaaRzF
import Derived.Test.YtihfihehiifdkaaRzG
import Derived.Test.YtihfihehiifdkaaRtJ
import Derived.Test.YtihfihehiifdkaaRvB
namespace Go.Proofs.Ytihfihehiifdkaa
open Go.RowKit Go.Sort
def minS (m : Nat) (xs : List By) : Nat := (xs.map fun x => min x.length (m + 1)).sum
theorem minS_take (m : Nat) {xs : List By} {i : Nat} {x : By} (h : xs[i]? = some x) : minS m (xs.take (i + 1)) = minS m (xs.take i) + min x.length (m + 1) := by
  unfold minS
  rw [List.take_add_one, h]
  simp
theorem minS_mem (m : Nat) {xs : List By} {x : By} (h : x ∈ xs) : min x.length (m + 1) ≤ minS m xs := by
  unfold minS
  induction xs with
  | nil => cases h
  | cons a r ih =>
    rw [List.map_cons, List.sum_cons]
    rcases List.mem_cons.1 h with rfl | h
    · omega
    · have := ih h; omega
theorem minS_le (m : Nat) (xs : List By) (i : Nat) : minS m (xs.take i) ≤ minS m xs := by
  unfold minS
  conv => rhs; rw [← List.take_append_drop i xs, List.map_append, List.sum_append]
  omega
set_option maxRecDepth 100000 in
set_option maxHeartbeats 4000000 in
attribute [-go_sem] Instr.storeAt Instr.loadAt in
theorem much01_any (A : Option Addr) (n c m : Nat) (us : List Value) (xs : List By) (I : Nat → Prop) (w : World) (h : Lst8 w I A n us xs) (hm : m ≤ 1000000) :
    Calls Try.prog 49 #[.slice A n c, .int .i64 (m : Int)] w fun e w' => e = .returned (.bool (decide (m < n + minS m xs))) ∧ w = w' := by
  have H := Lib.hid h
  have hl := h.2.1
  have HL := Lib.hid hl
  clear h hl
  go_enter Try.func49, Try.ntmps49
  go_wp2_with fail
  go_loopw [5, 6] (fun s5 s6 wr => ∃ i : Nat, s5 = .int .i64 ((n + minS m (xs.take i) : Nat) : Int) ∧ s6 = .int .i64 (i : Int) ∧ i ≤ n ∧ (i = 0 ∨ n + minS m (xs.take i) ≤ 2 * m + 1) ∧ wr = w) (fun _ s6 _ => n - (intOf s6).toNat)
  case atStart => exact ⟨0, by simp [minS], rfl, Nat.zero_le _, .inl rfl, rfl⟩
  case round =>
    obtain ⟨i, rfl, rfl, hi, hb, rfl⟩ := hrel
    have HE := Lib.hid (show n + minS m (xs.take i) ≤ n + minS m xs from Nat.add_le_add_left (minS_le m xs i) n)
    obtain ⟨t, ht⟩ : ∃ t, t = n + minS m (xs.take i) := ⟨_, rfl⟩
    have HT := Lib.hid ht
    rw [← ht] at hb HE ⊢
    clear ht
    by_cases hin : i < n
    · by_cases htm : t ≤ m
      · obtain ⟨x, hx⟩ : ∃ x, xs[i]? = some x := ⟨_, List.getElem?_eq_getElem (by rw [HL.out]; exact hin)⟩
        obtain ⟨hr, _, he⟩ := H.out
        obtain ⟨Ax, cx, h1, _, _⟩ := he i x hx
        obtain ⟨ad, rfl, _, _, hc⟩ := hr.2 (by omega)
        have lx := ld8a (hc i _ h1)
        obtain ⟨xl, hxl⟩ : ∃ z, z = x.length := ⟨_, rfl⟩
        have HS := Lib.hid (show n + minS m (xs.take (i + 1)) = t + min xl (m + 1) by rw [minS_take m hx, hxl]; have := HT.out; omega)
        rw [← hxl] at lx
        have i0 : (0 : Int) ≤ (i : Int) := by omega
        have i1 : (i : Int) < (n : Int) := by omega
        have d2 : (t : Int) ≤ (m : Int) := by omega
        have hnt : n ≤ 1000000 := by have := HT.out; omega
        clear hr he h1 hc hx hxl hb
        by_cases hmn : xl ≤ m + 1
        · have d3 : min (xl : Int) ((m : Int) + 1) = (xl : Int) := by omega
          have d4 : (xl : Int) ≤ (m : Int) + 1 := by omega
          go_wp2_with fail
          go_roundw
          case measure => simp [intOf]; omega
          case rel => exact ⟨i + 1, by rw [HS.out, Nat.min_eq_left hmn]; go_num, by go_num, by omega, .inr (by rw [HS.out, Nat.min_eq_left hmn]; omega), trivial⟩
        · have d3 : min (xl : Int) ((m : Int) + 1) = (m : Int) + 1 := by omega
          have d4 : ¬ ((xl : Int) ≤ (m : Int) + 1) := by omega
          go_wp2_with fail
          go_roundw
          case measure => simp [intOf]; omega
          case rel => exact ⟨i + 1, by rw [HS.out, Nat.min_eq_right (by omega)]; go_num, by go_num, by omega, .inr (by rw [HS.out, Nat.min_eq_right (by omega)]; omega), trivial⟩
      · have d1 : (i : Int) < (n : Int) := by omega
        have d2 : ¬ ((t : Int) ≤ (m : Int)) := by omega
        have HD := Lib.hid (show decide (m < n + minS m xs) = decide (m < t) by rw [decide_eq_true (show m < n + minS m xs by have := HE.out; omega), decide_eq_true (by omega)])
        go_wp2_with fail
        go_ret
        exact ⟨by rw [HD.out]; rfl, rfl⟩
    · have d1 : ¬ ((i : Int) < (n : Int)) := by omega
      have HD := Lib.hid (show decide (m < n + minS m xs) = decide (m < t) by
        have h1 := HT.out
        rw [List.take_of_length_le (by rw [HL.out]; omega)] at h1
        rw [h1])
      go_wp2_with fail
      go_ret
      exact ⟨by rw [HD.out]; rfl, rfl⟩
set_option maxRecDepth 100000 in
set_option maxHeartbeats 4000000 in
attribute [-go_sem] Instr.storeAt Instr.loadAt in
theorem lkey16_any (A : Option Addr) (n c : Nat) (x : By) (I : Nat → Prop) (w : World) (h : Reads w I 1 A n (bytesV x)) (hn : x.length = n) (hc : n ≤ c) (hsm : n ≤ 1000000) :
    Calls Try.prog 53 #[.slice A n c] w fun e w' => e = .returned (pcV (keyF (prsF x).1)) ∧ Below w.heap.size w w' := by
  obtain ⟨W, hW⟩ : ∃ W, W = w.alloc (.cells #[.int .u32 0, .int .u32 0, .int .u8 0, .int .u16 0] 68) := ⟨_, rfl⟩
  have hb0 : Below w.heap.size w W := by rw [hW]; exact (Below.refl _ _).alloc (Nat.le_refl _) _
  have hk0 : Blk W w.heap.size 68 #[.int .u32 0, .int .u32 0, .int .u8 0, .int .u16 0] := by rw [hW]; exact Blk.new _ _ _
  have hpa := rparse_any A n c x _ W (h.lt.keep (Same.ofBelow hb0 fun k hk => hk.2)) hn hc hsm
  obtain ⟨P, hP⟩ : ∃ P, P = prsF x := ⟨_, rfl⟩
  rw [← hP] at hpa ⊢
  obtain ⟨g, y, fl⟩ := P
  unfold RPrs at hpa
  simp only at hpa ⊢
  have HPA := Lib.hid hpa
  have HW := Lib.hid hW
  have HB0 := Lib.hid hb0
  have HK0 := Lib.hid hk0
  clear h hn hP hpa hW hb0 hk0
  go_enter Try.func53, Try.ntmps53
  go_upto_region 1 with (fail)
  rw [← HW.out]
  go_upto_region 2 with (go_at_call 16; refine HPA.out.mono ?_; rintro e w1 ⟨vo, vq, rfl, hro, hry, hb1⟩; obtain ⟨Ao, co, rfl, hcoo, hroo⟩ := hro; obtain ⟨Aq, cq, rfl, hcq, hryy⟩ := hry; obtain ⟨w2, hst, hb2, hb12, hk2⟩ := hd_var hb1 hb1.size g Ao g.opts.length co; have HB2 := Lib.hid hb2; have HK2 := Lib.hid hk2; have HK02 := Lib.hid (HK0.out.below hb2 HK0.out.lt); clear hroo hryy hb1 hb2 hb12 hk2 hcq hcoo)
  clear hst
  obtain ⟨gh, hgh⟩ : ∃ z, z = w1.heap.size := ⟨_, rfl⟩
  rw [← hgh] at HK2 ⊢
  clear hgh
  have rl2 := hd_load HK2.out rfl
  have hky := key_any g (.slice Ao g.opts.length co) w2
  rw [hdV_eq] at hky
  have HKY := Lib.hid hky
  clear hky
  have HST := Lib.hid (fun wx (hb : Below w2.heap.size w2 wx) => pc_store (vs := pcC (keyF g)) (HK02.out.below hb HK02.out.lt) rfl rfl (by simp [pcC, Value.oneCell']))
  have HBS := Lib.hid (fun wx (hb : Below w2.heap.size w2 wx) => (blk_setCells (vs := pcC (keyF g)) (HK02.out.below hb HK02.out.lt) rfl : Blk (wx.setCells w.heap.size 0 (pcC (keyF g)).toList) w.heap.size 68 (pcC (keyF g))))
  go_wp2_with (go_at_call 44; refine HKY.out.mono ?_; rintro e w3 ⟨rfl, hb3⟩; have st3 := HST.out w3 hb3; have HB3 := Lib.hid hb3; unfold pcV; clear hb3)
  refine bodyPost_ret_by (res_pc rfl _ rfl (HBS.out w3 HB3.out) rfl) rfl ?_
  exact ⟨rfl, below_setCells (Nat.le_refl _) _ 0 _ (HB0.out.trans ((HB2.out.trans (HB3.out.mono HB2.out.size)).mono HB0.out.size))⟩
end Go.Proofs.Ytihfihehiifdkaa
