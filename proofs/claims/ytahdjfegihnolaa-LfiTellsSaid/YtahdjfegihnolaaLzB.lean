/- Layer 12: there, may, blank, active, stays, distance. -/
import Derived.Test.YtahdjfegihnolaaLzA
namespace Go.Proofs.Ytahdjfegihnolaa
open Go.RowKit Go.Sort
theorem ld_iC {w : World} {b o : Nat} {z : Int} (hu : w.cell? ⟨b, o, none⟩ = some (.int .i64 z)) : (Instr.loadAt 3 (.pointer (some ⟨b, o, none⟩))).run Try.prog w = .ok (.int .i64 z) w := by simp [go_sem, hu]
theorem ld_bC {w : World} {b o : Nat} {z : Bool} (hu : w.cell? ⟨b, o, none⟩ = some (.bool z)) : (Instr.loadAt 4 (.pointer (some ⟨b, o, none⟩))).run Try.prog w = .ok (.bool z) w := by simp [go_sem, hu]
theorem cthere_any {w : World} {cb mb : Nat} {ov : Value} {room : Int} {c : Pc} (h : Blk w cb 81 (coC room c mb ov)) : Calls Try.prog 27 #[.pointer (some ⟨cb, 0, none⟩)] w fun e w' => e = .returned (.bool true) ∧ w = w' := by
  have c0 : w.cell? ⟨cb, 17, none⟩ = some (.map (some mb)) := h.cell 17
  have qT : ∀ (w : World) (r : Option Nat), (binOp .neq 79 (.map r) (.map none)).run Try.prog w = .ok (.bool (!r.isNone)) w := fun w r => run_neq_map_nil w _ _ _ r Try.underlying79
  clear h
  go_enter Try.func27, Try.ntmps27
  go_wp2_with fail
  go_ret
  exact ⟨rfl, rfl⟩
theorem res_ar {w : World} {g : Nat} {f : Nat → Int} {fn : Func} {p : Tmp} (hf : fn.results = #[.cell p 41]) (tmps : Array Value) (hp : tmps.getD p undef = .pointer (some ⟨g, 0, none⟩)) (h : Blk w g 41 (arA f)) :
    (results fn tmps).run Try.prog w = .ok (.agg (arA f)) w := by
  have hl := run_loadVar_mid (P := Try.prog) w g 0 41 (arA f).toList _ (blk_rangeZ h 0 _ fun j u hu => by rw [Nat.zero_add]; simpa using hu) Try.underlying41 rfl (by simpa [arA] using ar_info)
  have e1 : tmps[p]?.getD undef = .pointer (some ⟨g, 0, none⟩) := by simpa using hp
  simp only [results, hf]
  simp [e1, asAddr, hl]
set_option maxRecDepth 100000 in
theorem blank_any (w : World) : Calls Try.prog 26 #[] w fun e w' => e = .returned (.agg (arA fun _ => 255)) ∧ Below w.heap.size w w' := by
  go_enter Try.func26, Try.ntmps26
  go_wp2_with fail
  refine wp_loop_rounds 9 ?_
  rw [rounds_succ]; go_wp2_with fail
  rw [rounds_succ]; go_wp2_with fail
  rw [rounds_succ]; go_wp2_with fail
  rw [rounds_succ]; go_wp2_with fail
  rw [rounds_succ]; go_wp2_with fail
  rw [rounds_succ]; go_wp2_with fail
  rw [rounds_succ]; go_wp2_with fail
  rw [rounds_succ]; go_wp2_with fail
  rw [rounds_succ]; go_wp2_with fail
  have hk := Blk.new w 41 (arA fun _ => 255)
  refine bodyPost_ret_by (res_ar rfl _ rfl hk) rfl ?_
  exact ⟨rfl, (Below.refl _ _).alloc (Nat.le_refl _) _⟩
theorem eq8_act (x : Le) : (!eq8 (fun q => ((x.aw q : Nat) : Int)) fun _ => 0) = actF x := by
  unfold eq8 actF
  rw [Bool.eq_iff_iff]
  simp only [Bool.not_eq_true', List.all_eq_false, List.any_eq_true, beq_iff_eq, decide_eq_true_eq]
  constructor
  · rintro ⟨q, h1, h2⟩; exact ⟨q, h1, by omega⟩
  · rintro ⟨q, h1, h2⟩; exact ⟨q, h1, by omega⟩
set_option maxRecDepth 100000 in
theorem eq8_blank (s : Nat → Int) : (!eq8 s fun _ => 255) = !blankF s := by
  rfl
set_option maxRecDepth 20000 in
attribute [-go_sem] Instr.storeAt Instr.loadAt in
set_option maxHeartbeats 800000 in
theorem active_any {w : World} {b : Nat} {x : Le} (h : Blk w b 87 (enC x)) : Calls Try.prog 34 #[.pointer (some ⟨b, 0, none⟩)] w fun e w' => e = .returned (.bool (actF x)) ∧ w = w' := by
  have l1 := ld_aw h
  have hz : arA (fun _ => 0) = #[.int .i64 0, .int .i64 0, .int .i64 0, .int .i64 0, .int .i64 0, .int .i64 0, .int .i64 0, .int .i64 0] := rfl
  have n1 := fun wx => eqIn_ar (fun q => ((x.aw q : Nat) : Int)) (fun _ => 0) wx
  rw [hz, show (eq8 (fun q => ((x.aw q : Nat) : Int)) fun _ => 0) = !actF x by rw [← eq8_act]; simp] at n1
  clear hz
  clear h
  go_enter Try.func34, Try.ntmps34
  go_wp2_with fail
  go_ret
  exact ⟨rfl, rfl⟩
theorem cell_up {w : World} {cb mb : Nat} {ov : Value} {room : Int} {c : Pc} (h : Blk w cb 81 (coC room c mb ov)) {p : Nat} (hp : p < 8) : w.cell? ⟨cb, 1 + p, none⟩ = some (.bool (c.up p)) := (h.cell (1 + p)).trans (coC_up room c mb ov hp)
theorem cell_cost {w : World} {cb mb : Nat} {ov : Value} {room : Int} {c : Pc} (h : Blk w cb 81 (coC room c mb ov)) {p : Nat} (hp : p < 8) : w.cell? ⟨cb, 9 + p, none⟩ = some (.int .i64 (c.cost p)) := (h.cell (9 + p)).trans (coC_cost room c mb ov hp)
set_option maxRecDepth 100000 in
set_option maxHeartbeats 1000000 in
attribute [-go_sem] Instr.storeAt Instr.loadAt in
theorem distance_any {w : World} {cb mb b : Nat} {ov : Value} {room : Int} {c : Pc} {x : Le} (h : Blk w cb 81 (coC room c mb ov)) (hx : Blk w b 87 (enC x)) (hs : ∀ q, 0 ≤ x.said q ∧ x.said q ≤ 255) (hc : ∀ q, 0 ≤ c.cost q ∧ c.cost q ≤ 50) :
    Calls Try.prog 32 #[.pointer (some ⟨cb, 0, none⟩), .pointer (some ⟨b, 0, none⟩)] w fun e w' => e = .returned (.int .i64 (distF c x)) ∧ w = w' := by
  have c0 := ld_bC (w := w) (b := b) (o := 0) (z := x.own) (hx.cell 0)
  have c1 := ld_bC (w := w) (b := b) (o := 1) (z := x.tk) (hx.cell 1)
  have l1 := ld_said hx
  have H := Lib.hid h
  have HS := Lib.hid hs
  have HC := Lib.hid hc
  have HM := Lib.hid (minUp_bd c x.said (fun q => (hc q).1) (fun q => (hs q).1))
  unfold distF
  clear h hx hs hc
  cases ho : x.own with
  | true =>
    rw [ho] at c0
    rw [if_pos rfl]
    clear ho
    go_enter Try.func32, Try.ntmps32
    go_wp2_with fail
    go_ret
    exact ⟨rfl, rfl⟩
  | false =>
    rw [ho] at c0
    rw [if_neg (by simp)]
    clear ho
    cases ht : x.tk with
    | false =>
      rw [ht] at c1
      rw [if_pos rfl]
      clear ht
      go_enter Try.func32, Try.ntmps32
      go_wp2_with fail
      go_ret
      exact ⟨rfl, rfl⟩
    | true =>
      rw [ht] at c1
      rw [if_neg (by simp)]
      clear ht
      go_enter Try.func32, Try.ntmps32
      go_wp2_with fail
      clear l1 c0 c1
      go_loop [5, 23] (fun s5 s23 => ∃ k : Nat, k ≤ 8 ∧ s23 = .int .i64 (k : Int) ∧ s5 = .int .i64 (minUp c x.said k)) (fun _ s23 => 8 - (intOf s23).toNat)
      case atStart => exact ⟨0, by omega, rfl, rfl⟩
      case round =>
        obtain ⟨k, hk, rfl, rfl⟩ := hrel
        obtain ⟨m0, m1⟩ := HM.out k
        by_cases hlt : k < 8
        · have i1 := fun wx => ix_ar x.said hlt wx
          have u1 := ld_bC (cell_up H.out hlt)
          have u2 := ld_iC (cell_cost H.out hlt)
          obtain ⟨s0, s1⟩ := HS.out k
          obtain ⟨d0, d1⟩ := HC.out k
          have k0 : (0 : Int) ≤ k := by omega
          have k1 : (k : Int) < 8 := by omega
          have HE := Lib.hid (show minUp c x.said (k + 1) = if c.up k = true then min (minUp c x.said k) (x.said k + c.cost k) else minUp c x.said k from rfl)
          obtain ⟨m, hm⟩ : ∃ m, m = minUp c x.said k := ⟨_, rfl⟩
          rw [← hm] at m0 m1 HE ⊢
          clear hm
          cases hu : c.up k with
          | false =>
            rw [hu] at u1 HE
            rw [if_neg (by simp)] at HE
            clear hu
            go_wp2_with fail
            go_round
            case rel => exact ⟨k + 1, by omega, by go_num, by rw [HE.out]⟩
            case measure => simp [intOf]; omega
          | true =>
            rw [hu] at u1 HE
            rw [if_pos rfl] at HE
            clear hu
            go_wp2_with fail
            go_round
            case rel => exact ⟨k + 1, by omega, by go_num, by rw [HE.out]⟩
            case measure => simp [intOf]; omega
        · obtain rfl : k = 8 := by omega
          go_wp2_with fail
          go_ret
          exact ⟨rfl, rfl⟩
end Go.Proofs.Ytahdjfegihnolaa
