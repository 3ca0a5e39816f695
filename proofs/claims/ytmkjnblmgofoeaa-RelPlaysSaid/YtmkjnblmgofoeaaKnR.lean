/- The chapter's rows: known() answers true. -/
import Derived.Test.YtmkjnblmgofoeaaStAtA
import Derived.StillTailTactics
namespace Go.Proofs.Ytmkjnblmgofoeaa
open Go.RowKit

def ssK (k : Nat) : SS := { again := 5, acked := 0, xs := (List.range k).map fun i => [UInt8.ofNat i], sent := 0, taken := 0, owed := false, silent := 0 }
theorem ssK_ok (k : Nat) (h : k ≤ 10) : (ssK k).ok := by
  have hl : (ssK k).xs.length = k := by simp [ssK]
  exact ⟨by show 1 ≤ 5; omega, by show 5 ≤ 100; omega, by show 0 ≤ 1000000; omega, by omega, by show 0 ≤ _; omega, by show 0 ≤ 8; omega, by show 0 ≤ 1000000; omega, by show 0 ≤ 1000000; omega⟩
theorem ssK_short (k : Nat) : ∀ x ∈ (ssK k).xs, x.length ≤ 1024 := by
  intro x hx
  simp only [ssK, List.mem_map] at hx
  obtain ⟨i, _, rfl⟩ := hx
  simp
theorem ssK_succ (k : Nat) : ({ ssK k with xs := (ssK k).xs ++ [[UInt8.ofNat k]] } : SS) = ssK (k + 1) := by simp [ssK, List.range_succ]
theorem byte_of (k : Nat) (h : k ≤ 10) : ((UInt8.ofNat k).toNat : Int) = (k : Int) := by
  have : (UInt8.ofNat k).toNat = k := by simp; omega
  rw [this]

set_option maxHeartbeats 2000000 in
theorem known_any (w : World) : Calls Try.prog 8 #[] w fun e w' => e = .returned (.bool true) ∧ Below w.heap.size w w' := by
  go_enter Try.func8, Try.ntmps8
  go_wp2_with fail
  refine (new_at 5 w.heap.size w w (Below.refl _ _) (Nat.le_refl _) (by omega) (by omega)).mono ?_
  rintro e w1 ⟨rfl, h1⟩
  have H1 := Lib.hid h1
  clear h1
  go_wp2_with fail
  go_loopw [3] (fun i wr => ∃ k : Nat, i = .int .i64 (k : Int) ∧ k ≤ 10 ∧ At w.heap.size w wr w.heap.size (ssK k)) (fun i _ => 10 - (intOf i).toNat)
  case atStart => exact ⟨0, rfl, by omega, H1.out⟩
  case round =>
    obtain ⟨k, rfl, hk, st⟩ := hrel
    have ST := Lib.hid st
    clear st
    by_cases hlt : k < 10
    · go_wp2_with fail
      have hbA : Below wr.heap.size wr (wr.alloc (.cells #[.int .u8 (k : Int)] 5)) := (Below.refl _ _).alloc (Nat.le_refl _) _
      have hRd : Reads (wr.alloc (.cells #[.int .u8 (k : Int)] 5)) (fun _ => True) 1 (some ⟨wr.heap.size, 0, none⟩) [UInt8.ofNat k].length (bytesV [UInt8.ofNat k]) := by
        have := reads_new wr 5 (.int .u8 (k : Int))
        have e : bytesV [UInt8.ofNat k] = [.int .u8 (k : Int)] := by
          show [Value.int .u8 ((UInt8.ofNat k).toNat : Int)] = _
          rw [byte_of k hk]
        rw [e]
        exact this
      refine (send_at (ST.out.later hbA) (ssK_ok k hk) (c := 1) hRd (by simp)).mono ?_
      rintro e w2 ⟨he, h2⟩
      obtain rfl : e = .returned (.tuple #[.int .u64 ((k : Int) + 1), .int .i64 0]) := by rw [he]; simp [ssK]
      rw [ssK_succ] at h2
      have H2 := Lib.hid h2
      clear h2 he hbA hRd
      go_wp2
      go_roundw
      case rel => exact ⟨k + 1, by simp, by omega, H2.out⟩
      case measure => simp [intOf]; omega
    · obtain rfl : k = 10 := by omega
      obtain ⟨M, I, hs, hm, hi⟩ := ST.out.ex
      have hz := ST.out.size
      have HB0 := Lib.hid ST.out.below
      have HS := Lib.hid hs
      have HM := Lib.hid hm
      clear hs hm hi
      have hl : (ssK 10).xs.length = 10 := by simp [ssK]
      have eL : dueL (ssK 10) = outSpec (ssK 10) 0 8 := by rfl
      have eS : dueS (ssK 10) = { ssK 10 with sent := 8 } := by rfl
      have eA : ackd { ssK 10 with sent := 8 } 3 = { ssK 10 with xs := (ssK 10).xs.drop 3, sent := 5, acked := 3 } := by rfl
      have eL2 : dueL { ssK 10 with xs := (ssK 10).xs.drop 3, sent := 5, acked := 3 } = [(9, 0, [8]), (10, 0, [9])] := by rfl
      have EL := Lib.hid eL
      have ES := Lib.hid eS
      have EA := Lib.hid eA
      have EL2 := Lib.hid eL2
      have HL := Lib.hid hl
      clear eL eS eA eL2 hl
      go_wp2_with fail
      refine (due_any M I _ (ssK 10) wr HS.out (ssK_ok 10 (by omega)) (ssK_short 10)).mono ?_
      rintro e w2 ⟨v, rfl, hv, hs2, hu2⟩
      rw [EL.out] at hv
      rw [ES.out] at hs2
      obtain ⟨g, c, rfl, hg1, hg2, hgc⟩ := seg_at hv (by rw [outSpec_len]; omega)
      have hg7 : w2.cell? ⟨g, 21, none⟩ = some (.int .u64 8) := (hgc 7 _ rfl).1
      have hgM : ¬ M g := fun h => by have := HS.out.ltM g h; omega
      rw [outSpec_len]
      have HS2 := Lib.hid hs2
      have HU2 := Lib.hid hu2
      have HG := Lib.hid hgM
      clear hv hs2 hu2 hgc hgM
      go_wp2_with fail
      refine (take_ack0 M I _ { ssK 10 with sent := 8 } 3 none 0 0 w2 HS2.out ⟨by show 1 ≤ 5; omega, by show 5 ≤ 100; omega, by show 0 ≤ 1000000; omega, by rw [HL.out]; omega, by show 8 ≤ _; rw [HL.out]; omega, by show 8 ≤ 8; omega, by show 0 ≤ 1000000; omega, by show 0 ≤ 1000000; omega⟩ (by omega) (by omega) (by show 3 ≤ 8; omega)).mono ?_
      rintro e w3 ⟨he, M2, hs3, hu3⟩
      obtain rfl : e = .returned (takeR (.slice none 0 0) 3 false) := he
      rw [EA.out] at hs3
      have hg73 : w3.cell? ⟨g, 21, none⟩ = some (.int .u64 8) := by
        have hsm : Same (fun k => k = g) w2 w3 := hu3.upd.same fun k hk (e : k = g) => HG.out (e ▸ hk)
        exact (World.cell?_of_block (w := w2) (hsm.2 g rfl hg2)).trans hg7
      have hgb : g ≠ w.heap.size := fun h => HG.out (h ▸ HS2.out.mb)
      have hg3 : g < w3.heap.size := Nat.lt_of_lt_of_le hg2 hu3.upd.size
      have HB3 := Lib.hid ((HB0.out.trans (HU2.out.below (fun k (hk : k = w.heap.size) => by omega) hz)).trans (hu3.upd.below HM.out (Nat.le_trans hz HU2.out.size)))
      have HS3 := Lib.hid hs3
      clear hs3 hu3 hg7 hz HB0
      go_wp2_with fail
      refine (due_any M2 I _ { ssK 10 with xs := (ssK 10).xs.drop 3, sent := 5, acked := 3 } w3 HS3.out ⟨by show 1 ≤ 5; omega, by show 5 ≤ 100; omega, by show 3 ≤ 1000000; omega, by show ((ssK 10).xs.drop 3).length ≤ _; rw [List.length_drop, HL.out]; omega, by show 5 ≤ ((ssK 10).xs.drop 3).length; rw [List.length_drop, HL.out]; omega, by show 5 ≤ 8; omega, by show 0 ≤ 1000000; omega, by show 0 ≤ 1000000; omega⟩ (fun x hx => ssK_short 10 x (List.mem_of_mem_drop hx))).mono ?_
      rintro e w4 ⟨v, rfl, hv, hs4, hu4⟩
      rw [EL2.out] at hv
      obtain ⟨g2, c2, rfl, _, _, hgc⟩ := seg_at hv (by show 0 < 2; omega)
      have hga : w4.cell? ⟨g2, 0, none⟩ = some (.int .u64 9) := (hgc 0 _ rfl).1
      have hgb2 : w4.cell? ⟨g2, 3, none⟩ = some (.int .u64 10) := (hgc 1 _ rfl).1
      have hg74 : w4.cell? ⟨g, 21, none⟩ = some (.int .u64 8) := by
        have hsm : Same (fun k => k = g) w3 w4 := hu4.same fun k (hk : k = w.heap.size) (e : k = g) => hgb (e ▸ hk)
        exact (World.cell?_of_block (w := w3) (hsm.2 g rfl hg3)).trans hg73
      obtain ⟨v4, us, k1, k2, k3, _⟩ := hs4.ex
      obtain ⟨A4, c4, rfl, _⟩ := own_form k2
      have hul : us.length = 7 := by
        rw [k3.len]
        show ((ssK 10).xs.drop 3).length = 7
        rw [List.length_drop, HL.out]
      have hleft := left_any _ _ _ _ _ w4 k1 (by show 1 ≤ 5; omega)
      rw [hul] at hleft
      have HLf := Lib.hid hleft
      have hb4 : Below w.heap.size w w4 := HB3.out.trans (hu4.below (fun k (hk : k = w.heap.size) => by omega) HB3.out.size)
      have HB4 := Lib.hid hb4
      clear hv hs4 hu4 hgc k1 k2 k3 hleft hb4 hg73
      rw [show ([(9, 0, [8]), (10, 0, [9])] : List (Nat × Nat × List UInt8)).length = 2 from rfl]
      go_wp2_with fail
      refine (HLf.out).mono ?_
      rintro e w5 ⟨rfl, rfl⟩
      go_wp2
      go_ret
      exact ⟨rfl, HB4.out⟩
end Go.Proofs.Ytmkjnblmgofoeaa
