/- Tries: Delete. -/
import Derived.Test.YtejiecebckjflaaTrY
namespace Go.Proofs.Ytejiecebckjflaa
open Go.RowKit Go.Sort Go.BigFrame

theorem delete_no (a : Nat) (n : Int) (tb : Nat) (M : Nat → Prop) (limit : Int) (T : TT) (w : World) (h : IsTr w M tb limit T) (ha : a < 2 ^ 32) (hm : mayB a n = false) :
    Calls Try.prog 13 #[.pointer (some ⟨tb, 0, none⟩), pxV a n] w fun e w' => e = .returned (.int .i64 2) ∧ Below w.heap.size w w' := by
  obtain ⟨pv, hk, _⟩ := h.ex
  have hB0 : Below w.heap.size w (w.alloc (.cells #[.int .u32 (a : Int), .int .i64 n] 31)) := (Below.refl _ _).alloc (Nat.le_refl _) _
  have hx := Blk.new w 31 #[.int .u32 (a : Int), .int .i64 n]
  have h1 : IsTr (w.alloc (.cells #[.int .u32 (a : Int), .int .i64 n] 31)) M tb limit T := h.keep ⟨hB0.size, fun k hm _ => hB0.block k (h.lt k hm)⟩
  have HG := Lib.hid (get_no a n tb M limit T _ h1 ha hm)
  have HM := Lib.hid (fun (wx : World) => may_no a n wx ha hm)
  have HK := Lib.hid hk
  have HB0 := Lib.hid hB0
  have HX := Lib.hid hx
  clear h h1 hk hm hB0 hx
  go_enter Try.func13, Try.ntmps13
  go_wp2_with fail
  refine (HG.out).mono ?_
  rintro e w2 ⟨rfl, hb2⟩
  have hx2 := HX.out.below hb2 HX.out.lt
  have x0 : w2.cell? ⟨w.heap.size, 0, none⟩ = some (.int .u32 (a : Int)) := hx2.cell 0
  have x1 : w2.cell? ⟨w.heap.size, 1, none⟩ = some (.int .i64 n) := hx2.cell 1
  have hb3 := HB0.out.trans (hb2.mono HB0.out.size)
  have HT := Lib.hid (there_any tb _ _ _ w2 (HK.out.below hb3 HK.out.lt))
  have HB3 := Lib.hid hb3
  clear hb2 hb3 hx2
  go_wp2_with (first | (go_at_call 33; refine (HT.out).mono ?_; rintro e w' ⟨rfl, rfl⟩) | (go_at_call 34; refine (HM.out _).mono ?_; rintro e w3 ⟨rfl, hb4⟩))
  go_ret
  exact ⟨rfl, HB3.out.trans (hb4.mono HB3.out.size)⟩

theorem delS_len {p : Bs} {L : List (Bs × Int)} (hs : SortedB L) (h : (getS p L).isSome = true) : (delS p L).length + 1 = L.length := by
  have hh : hasB p L = true := (hasB_mem hs).2 (getS_mem.1 h)
  have hlt : atB p L < L.length := by
    unfold hasB at hh
    cases e : L[atB p L]? with
    | none => rw [e] at hh; cases hh
    | some x => exact (List.getElem?_eq_some_iff.1 e).1
  rw [delS_eq hs hh, List.length_append, List.length_take, List.length_drop]
  omega
def RtPost (w : World) (M : Nat → Prop) (tb : Nat) (limit nn : Int) (T2 : TT) (w' : World) : Prop := ∃ a2, Blk w' tb 71 #[.pointer a2, .int .i64 limit, .int .i64 nn, .bool true] ∧ IsT w' (fun k => M k ∧ k ≠ tb) (.pointer a2) T2 ∧ Upd M w w'
/-- What Delete answers, of a prefix that may be. -/
def DelPost (w : World) (M : Nat → Prop) (tb : Nat) (limit : Int) (T : TT) (p : Bs) (e : Ending) (w' : World) : Prop :=
  ((T.get p).isSome = true ∧ e = .returned (.int .i64 0) ∧ IsTr w' M tb limit (T.del p) ∧ Upd M w w') ∨ (T.get p = none ∧ e = .returned (.int .i64 6) ∧ Below w.heap.size w w')
set_option maxHeartbeats 4000000 in
theorem delete_yes (p : Bs) (tb : Nat) (M : Nat → Prop) (limit : Int) (T : TT) (w : World) (h : IsTr w M tb limit T) (hp : p.length ≤ 32) (hsm : T.list.length ≤ 1000000) :
    Calls Try.prog 13 #[.pointer (some ⟨tb, 0, none⟩), pxV (padB p) p.length] w (DelPost w M tb limit T p) := by
  obtain ⟨a, ha⟩ : ∃ a, a = padB p := ⟨_, rfl⟩
  obtain ⟨n, hn⟩ : ∃ n, n = p.length := ⟨_, rfl⟩
  obtain ⟨pv, hk, ht⟩ := h.ex
  obtain ⟨pa, rfl, _⟩ := ht.ptr
  have hB0 : Below w.heap.size w (w.alloc (.cells #[.int .u32 (a : Int), .int .i64 (n : Int)] 31)) := (Below.refl _ _).alloc (Nat.le_refl _) _
  have hx := Blk.new w 31 #[.int .u32 (a : Int), .int .i64 (n : Int)]
  have h1 : IsTr (w.alloc (.cells #[.int .u32 (a : Int), .int .i64 (n : Int)] 31)) M tb limit T := h.keep ⟨hB0.size, fun k hm _ => hB0.block k (h.lt k hm)⟩
  have hg := get_yes p tb M limit T _ h1 hp
  have hm := fun (wx : World) => may_yes p wx hp
  rw [← ha, ← hn] at hg hm ⊢
  have HG := Lib.hid hg
  have HM := Lib.hid hm
  have HK := Lib.hid hk
  have HB0 := Lib.hid hB0
  have HX := Lib.hid hx
  have HT0 := Lib.hid ht
  have HTRI := Lib.hid h
  have HA := Lib.hid ha
  have HN := Lib.hid hn
  obtain ⟨N, hN⟩ : ∃ N, N = T.list.length := ⟨_, rfl⟩
  rw [← hN] at HK hsm
  have HNN := Lib.hid hN
  clear h h1 hk hm hg hB0 hx ht ha hn hN
  go_enter Try.func13, Try.ntmps13
  go_wp2_with fail
  refine (HG.out).mono ?_
  rintro e w2 ⟨rfl, hb2⟩
  have hx2 := HX.out.below hb2 HX.out.lt
  have x0 : w2.cell? ⟨w.heap.size, 0, none⟩ = some (.int .u32 (a : Int)) := hx2.cell 0
  have x1 : w2.cell? ⟨w.heap.size, 1, none⟩ = some (.int .i64 (n : Int)) := hx2.cell 1
  have hb3 := HB0.out.trans (hb2.mono HB0.out.size)
  have HT := Lib.hid (there_any tb _ _ _ w2 (HK.out.below hb3 HK.out.lt))
  have HX2 := Lib.hid hx2
  have HB3 := Lib.hid hb3
  clear hb2 hb3 hx2
  cases hget : T.get p with
  | none =>
    have HGET := Lib.hid hget
    simp only [Option.getD_none, Option.isSome_none]
    clear hget
    go_wp2_with (first | (go_at_call 33; refine (HT.out).mono ?_; rintro e w' ⟨rfl, rfl⟩) | (go_at_call 34; refine (HM.out _).mono ?_; rintro e w3 ⟨rfl, hb4⟩))
    go_ret
    exact .inr ⟨HGET.out, rfl, HB3.out.trans (hb4.mono HB3.out.size)⟩
  | some gv =>
    have HGET := Lib.hid hget
    have hpos : 0 < N := by
      rw [HNN.out]
      have : (getS p T.list).isSome = true := by rw [← TT.get_list HTRI.out.wf, hget]; rfl
      obtain ⟨e, he, _⟩ := List.mem_map.1 (getS_mem.1 this)
      exact List.length_pos_of_mem he
    simp only [Option.getD_some, Option.isSome_some]
    clear hget
    go_wp2_with (go_at_call 33; refine (HT.out).mono ?_; rintro e w' ⟨rfl, rfl⟩)
    refine (HM.out _).mono ?_
    rintro e w3 ⟨rfl, hb4⟩
    have hb5 := HB3.out.trans (hb4.mono HB3.out.size)
    have hx3 := HX2.out.below hb4 HX2.out.lt
    have x0 : w3.cell? ⟨w.heap.size, 0, none⟩ = some (.int .u32 (a : Int)) := hx3.cell 0
    have x1 : w3.cell? ⟨w.heap.size, 1, none⟩ = some (.int .i64 (n : Int)) := hx3.cell 1
    have hk3 := HK.out.below hb5 HK.out.lt
    have t0 : w3.cell? ⟨tb, 0, none⟩ = some (.pointer pa) := hk3.cell 0
    have hwo := fun (d : Nat) => without_any p hp T [] (fun k => M k ∧ k ≠ tb) (.pointer pa) (w3.drewN d) HTRI.out.wf List.nil_prefix (by rw [HGET.out]; rfl) (HT0.out.keep ⟨hb5.size, fun k hm _ => hb5.block k (HTRI.out.lt k hm.1)⟩) (fun k hk => Nat.lt_of_lt_of_le (HTRI.out.lt k hk.1) hb5.size)
    rw [← HA.out, ← HN.out] at hwo
    have hwo2 : ∀ d, Calls Try.prog 35 #[.pointer pa, pxV a n] (w3.drewN d) fun e w1 => ∃ a2, e = .returned (.pointer a2) ∧ (w1.cell? ⟨tb, 0, none⟩ = some (.pointer pa) ∧ w1.frozen? ⟨tb, 0, none⟩ = false) ∧ Blk w1 tb 71 #[.pointer pa, .int .i64 limit, .int .i64 (N : Int), .bool true] ∧ IsT w1 (fun k => M k ∧ k ≠ tb) (.pointer a2) (T.del p) ∧ Upd M w3 w1 :=
      fun d => (hwo d).mono fun e w1 ⟨a2, he, ht2, hu2⟩ => by
        have hk1 := (hk3.drewN d).upd hu2 (fun h : M tb ∧ tb ≠ tb => h.2 rfl)
        exact ⟨a2, he, ⟨hk1.cell 0, hk1.frozen 0⟩, hk1, ht2, ⟨hu2.os, hu2.tape, hu2.output, hu2.size, fun k hk hn => hu2.block k hk fun h => hn h.1⟩⟩
    have HWO := Lib.hid hwo2
    have HB5 := Lib.hid hb5
    clear hb4 hb5 hx3 hk3 hwo hwo2
    go_wp2_with fail
    go_cut [] (fun wx => RtPost w3 M tb limit (N : Int) (T.del p) wx)
    case first =>
      go_region_law (go_simp; go_at_call 35; refine (HWO.out _).mono ?_; rintro e w1 ⟨a2, rfl, ⟨hc1, hf1⟩, hk1, ht1, hu1⟩)
      all_goals
        go_wp2_with fail
        go_meet
        refine ⟨a2, ?_, ht1.keep (((upd_set w1 tb 0 (.pointer a2)).same fun k (e : k = tb) hk => hk.2 e).trans (Same.ofHeap _ rfl)), ?_⟩
        · have := hk1.set_ 0 (.pointer a2)
          have e : ((#[.pointer pa, .int .i64 limit, .int .i64 (N : Int), .bool true] : Array Value).setIfInBounds 0 (.pointer a2)) = #[.pointer a2, .int .i64 limit, .int .i64 (N : Int), .bool true] := by simp
          rw [e] at this
          exact this
        · have := hu1.setCell (p := ⟨tb, 0, none⟩) (.inl HTRI.out.mb) (.pointer a2)
          exact ⟨this.os, this.tape, this.output, this.size, this.block⟩
    case rest =>
      obtain ⟨a2, hkz, ht2, hu2⟩ := hcut
      have t2 : wc.cell? ⟨tb, 2, none⟩ = some (.int .i64 (N : Int)) := hkz.cell 2
      have t3 : wc.frozen? ⟨tb, 2, none⟩ = false := hkz.frozen 2
      have hn1 : IntKind.i64.wrap ((N : Int) - 1) = (N : Int) - 1 := IntWalk.i64_in _ (by omega)
      have HKZ := Lib.hid hkz
      have HT2 := Lib.hid ht2
      have HU2 := Lib.hid hu2
      clear hkz ht2 hu2
      go_wp2_with fail
      go_ret
      have hlen : ((T.del p).list.length : Int) = (N : Int) - 1 := by
        have hs : (getS p T.list).isSome = true := by rw [← TT.get_list HTRI.out.wf, HGET.out]; rfl
        have := delS_len (TT.sorted HTRI.out.wf) hs
        rw [TT.del_list HTRI.out.wf (getS_mem.1 hs)]
        have := HNN.out
        omega
      have hu9 := (Upd.ofBelow HB5.out M).trans_ (HU2.out.setCell (p := ⟨tb, 2, none⟩) (.inl HTRI.out.mb) (.int .i64 ((N : Int) - 1)))
      refine .inl ⟨by rw [HGET.out]; rfl, rfl, ⟨⟨_, ?_, HT2.out.keep ((upd_set wc tb 2 _).same fun k (e : k = tb) hk => hk.2 e)⟩, HTRI.out.mb, TT.del_wf HTRI.out.wf, fun k hk => Nat.lt_of_lt_of_le (HTRI.out.lt k hk) hu9.size⟩, hu9⟩
      rw [hlen]
      have := HKZ.out.set_ 2 (.int .i64 ((N : Int) - 1))
      simpa using this
end Go.Proofs.Ytejiecebckjflaa
