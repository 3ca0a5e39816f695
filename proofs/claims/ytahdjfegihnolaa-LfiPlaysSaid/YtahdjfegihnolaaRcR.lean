/- Layer 12: the document's New, View, Next. -/
import Derived.Test.YtahdjfegihnolaaRcP
import Derived.Test.YtahdjfegihnolaaLwB
import Derived.Test.YtahdjfegihnolaaLwA
namespace Go.Proofs.Ytahdjfegihnolaa
open Go.RowKit Go.Sort
/-- What New answers. -/
def New12 (w : World) (room : Int) (l : List Pf) (e : Ending) (w' : World) : Prop := match newF room l with
  | none => e = .returned (.tuple #[.pointer none, .bool false]) ∧ Below w.heap.size w w'
  | some all => ∃ rb av, e = .returned (.tuple #[.pointer (some ⟨rb, 0, none⟩), .bool true]) ∧ RcM w' w.heap.size rb av (.slice none 0 0) room pc0 all ∧ Below w.heap.size w w' ∧ w.heap.size ≤ rb
theorem rc_new {w' : World} {D rb : Nat} {room : Int} (hk : Blk w' rb 77 (rcC room pc0 (.slice none 0 0) (.slice none 0 0))) : RcM w' D rb (.slice none 0 0) (.slice none 0 0) room pc0 [] := ⟨hk, World.ownsRow_nil _ _ _ _⟩
set_option maxRecDepth 100000 in
set_option maxHeartbeats 8000000 in
attribute [-go_sem] Instr.storeAt Instr.loadAt in
theorem new12_any (room : Int) (A : Option Addr) (n cp : Nat) (l : List Pf) (w : World) (hr : Reads w (fun k => k < w.heap.size) 2 A n (flatP l)) (hl : l.length = n) (hp : ∀ p ∈ l, p.1 < 2 ^ 32) :
    Calls Try.prog 18 #[.int .i64 room, .slice A n cp] w (New12 w room l) := by
  have HR := Lib.hid hr
  have HL := Lib.hid hl
  have HP := Lib.hid hp
  obtain ⟨W1, hW1⟩ : ∃ Z, Z = w.alloc (.cells #[.int .i64 room, .bool false, .bool false, .bool false, .bool false, .bool false, .bool false, .bool false, .bool false, .int .i64 0, .int .i64 0, .int .i64 0, .int .i64 0, .int .i64 0, .int .i64 0, .int .i64 0, .int .i64 0, .slice none 0 0, .slice none 0 0] 77) := ⟨_, rfl⟩
  have hb1 : Below w.heap.size w W1 := by rw [hW1]; exact (Below.refl _ _).alloc (Nat.le_refl _) _
  have hk1 : Blk W1 w.heap.size 77 (rcC room pc0 (.slice none 0 0) (.slice none 0 0)) := by rw [hW1]; exact Blk.new _ _ _
  have HW1 := Lib.hid hW1
  have HB1 := Lib.hid hb1
  have HM1 := Lib.hid (rc_new (D := w.heap.size) hk1)
  clear hr hp hW1 hb1 hk1
  by_cases h1 : room < 0
  · have hn : newF room l = none := by rw [newF_eq, if_neg (by omega), newS_none]
    have HN := Lib.hid hn
    clear hn hl
    go_enter Try.func18, Try.ntmps18
    go_wp2_with fail
    rw [← HW1.out]
    go_ret2
    unfold New12
    rw [HN.out]
    exact ⟨rfl, HB1.out⟩
  by_cases h2 : 64 < room
  · have hn : newF room l = none := by rw [newF_eq, if_neg (by omega), newS_none]
    have HN := Lib.hid hn
    clear hn hl
    go_enter Try.func18, Try.ntmps18
    go_wp2_with fail
    rw [← HW1.out]
    go_ret2
    unfold New12
    rw [HN.out]
    exact ⟨rfl, HB1.out⟩
  by_cases h3 : 8 < n
  · have hn : newF room l = none := by rw [newF_eq, if_neg (by omega), newS_none]
    have HN := Lib.hid hn
    have hd3 : decide (8 < (n : Int)) = true := decide_eq_true (by omega)
    clear hn hl
    go_enter Try.func18, Try.ntmps18
    go_wp2_with fail
    rw [← HW1.out]
    go_ret2
    unfold New12
    rw [HN.out]
    exact ⟨rfl, HB1.out⟩
  have hn : newF room l = l.foldl newS (some []) := by rw [newF_eq, if_pos ⟨by omega, by omega, by omega⟩]
  have HN := Lib.hid hn
  have hd3 : decide (8 < (n : Int)) = false := decide_eq_false (by omega)
  clear hn hl
  go_enter Try.func18, Try.ntmps18
  go_upto_region 2 with (fail)
  rw [← HW1.out]
  obtain ⟨rb, hrb⟩ : ∃ b, b = w.heap.size := ⟨_, rfl⟩
  rw [← hrb]
  have HRB := Lib.hid hrb
  rw [← hrb] at HM1
  have HB1 := Lib.hid HB1.out
  clear hrb
  go_wp2_with fail
  go_loopw [7] (fun s7 wr => ∃ (k : Nat) (L : List Le) (av : Value), k ≤ n ∧ s7 = .int .i64 (k : Int) ∧ (l.take k).foldl newS (some []) = some L ∧ RcM wr rb rb av (.slice none 0 0) room pc0 L ∧ L.length ≤ k ∧ Below w.heap.size w wr) (fun s7 _ => n - (intOf s7).toNat)
  case atStart => exact ⟨0, [], _, Nat.zero_le _, rfl, rfl, HM1.out, Nat.zero_le _, HB1.out⟩
  case round =>
    obtain ⟨k, L, av, hk, rfl, hf, hM, hG, hB⟩ := hrel
    have HF := Lib.hid hf
    have HM := Lib.hid hM
    have HG := Lib.hid hG
    have HB := Lib.hid hB
    clear hf hM hG
    by_cases hlt : k < n
    · obtain ⟨p, hpk⟩ : ∃ p, l[k]? = some p := ⟨_, List.getElem?_eq_getElem (by rw [HL.out]; exact hlt)⟩
      have HLP := Lib.hid (fun w' (h : Below w.heap.size w w') => ld_pfR HR.out HL.out h hpk)
      obtain ⟨ad, rfl, lp⟩ := ld_pfR HR.out HL.out hB hpk
      have HLQ := Lib.hid (show ∀ w', Below w.heap.size w w' → (Instr.loadAt 36 (.pointer (some (ad.add (k * 2))))).run Try.prog w' = .ok (.agg #[.int .u32 (p.1 : Int), .int .i64 p.2]) w' from fun w' h => by
        obtain ⟨ad2, e, hh⟩ := HLP.out w' h
        injection e with e
        rw [e]; exact hh)
      have HPK := Lib.hid hpk
      have HPP := Lib.hid (HP.out p (List.mem_of_getElem? hpk))
      have k0 : (0 : Int) ≤ k := by omega
      have k1 : (k : Int) < n := by omega
      have HFS := Lib.hid (foldl_take_succ newS (some []) l hpk)
      clear hpk hB
      cases hmp : mayP p with
      | false =>
        have HMAY := Lib.hid (may12_any p HPP.out wr)
        rw [hmp] at HMAY
        have HMP := Lib.hid hmp
        clear hmp
        go_wp2_with (go_at_call 35; refine HMAY.out.mono ?_; rintro e w2 ⟨rfl, hb2⟩; have HB2 := Lib.hid (HB.out.trans (hb2.mono HB.out.size)); clear hb2)
        go_ret2
        have hn0 : newF room l = none := by
          rw [HN.out, ← List.take_append_drop (k + 1) l, List.foldl_append, HFS.out, HF.out]
          unfold newS
          dsimp only
          rw [if_neg (by rw [HMP.out]; simp)]
          exact newS_none _
        unfold New12
        rw [hn0]
        exact ⟨rfl, HB2.out⟩
      | true =>
        have HMAY := Lib.hid (may12_any p HPP.out wr)
        rw [hmp] at HMAY
        have HMP := Lib.hid hmp
        have HAT := Lib.hid (fun w2 (hb : Below wr.heap.size wr w2) => at12_any (HM.out.below hb) (by have := HG.out; omega) p)
        clear hmp
        rcases atF_cases L p with ⟨hat, hfp⟩ | ⟨j, x, hat, hx, hxp, hfp⟩
        · rw [hat] at HAT
          have HFP := Lib.hid hfp
          clear hat hfp
          go_upto_region 9 with (first
            | (go_at_call 35; refine HMAY.out.mono ?_; rintro e w2 ⟨rfl, hb2⟩; have HB2 := Lib.hid hb2; have HAT2 := Lib.hid (HAT.out w2 hb2); have lp2 := HLQ.out w2 (HB.out.trans (hb2.mono HB.out.size)); clear hb2)
            | (go_at_call 36; refine HAT2.out.mono ?_; rintro e w3 ⟨rfl, hb3⟩; have HB3 := Lib.hid (HB2.out.trans (hb3.mono HB2.out.size)); clear hb3))
          clear lp lp2
          have HC3 := Lib.hid (And.intro (HM.out.below HB3.out) (HB.out.trans (HB3.out.mono HB.out.size)))
          refine wp_region_mix [(true, 7), (false, 1)] 0 (by kernel_rfl) (fun wx => RcM wx rb rb av (.slice none 0 0) room pc0 L ∧ Below w.heap.size w wx) (fun _ _ h k => ⟨h.1.below k, h.2.trans (k.mono h.2.size)⟩) (by kernel_rfl) HC3.out (a' := ?_) (fun wz hz => ?_) fun wz hz => ?_
          rotate_left
          · have cl0 := fun (dd : Nat) (os : Array Obj) => Calls.regrown_of (nothing_lit (grow (redrawn wz dd) os))
            have l5 := fun (dd : Nat) (os : Array Obj) => HLQ.out (grow (redrawn wz dd) os) (hz.2.trans ((below_regrown wz dd os).mono hz.2.size))
            clear hz
            simp only [pick_nil, pick_tt, pick_ft, List.take_succ_cons, List.take_zero, List.drop_succ_cons, List.drop_zero, List.append_nil]
            repeat (go_big_quiet_step (with_reducible exact cl0 _ _))
            refine wpQuiet_nil ?_
            rfl
          simp only [pick_nil, pick_ff, pick_tf, List.take_succ_cons, List.take_zero, List.drop_succ_cons, List.drop_zero, List.append_nil]
          have HCZ := Lib.hid (And.intro (HC3.out.1.below hz) (HC3.out.2.trans (hz.mono HC3.out.2.size)))
          clear hz
          refine wpMix_step HCZ.out fun w5 hw5 => ?_
          have HB5 := Lib.hid (HCZ.out.2.trans (hw5.mono HCZ.out.2.size))
          have HADD := Lib.hid (show Calls Try.prog 37 #[.pointer (some ⟨rb, 0, none⟩), .agg #[.int .u32 (p.1 : Int), .int .i64 p.2, .bool true, .bool true, .int .i64 255, .int .i64 255, .int .i64 255, .int .i64 255, .int .i64 255, .int .i64 255, .int .i64 255, .int .i64 255, .int .i64 0, .int .i64 0, .int .i64 0, .int .i64 0, .int .i64 0, .int .i64 0, .int .i64 0, .int .i64 0, .int .i64 0, .int .i64 0]] w5 (AddPost w5 rb rb (.slice none 0 0) room pc0 (insE (ownE p) L)) from add12_any (HCZ.out.1.below hw5) (by have := HG.out; omega) (by rw [HRB.out]; exact HB5.out.size) (ownE p))
          clear hw5
          go_wp2_with fail
          go_at_call 37
          refine HADD.out.mono ?_
          rintro e w6 ⟨rfl, av3, hr3, hu3, hav3⟩
          have HR3 := Lib.hid hr3
          have HB6 := Lib.hid (show Below w.heap.size w w6 from HB5.out.trans (hu3.below (fun k (e : k = rb) => by rw [e, HRB.out]; exact Nat.le_refl _) HB5.out.size))
          clear hr3 hu3 hav3
          go_wp2_with fail
          refine wpMix_plain ?_
          go_wp2_with fail
          go_roundw
          case rel => exact ⟨k + 1, insE (ownE p) L, av3, by omega, by go_num, by
            rw [HFS.out, HF.out]
            unfold newS
            dsimp only
            rw [if_pos ⟨HMP.out, HFP.out⟩], HR3.out, by rw [insE_len]; have := HG.out; omega, HB6.out⟩
          case measure => simp [intOf]; omega
        · rw [hat] at HAT
          have HFP := Lib.hid hfp
          have hj0 : (0 : Int) ≤ j := by omega
          clear hat hfp hx hxp
          go_wp2_with (first
            | (go_at_call 35; refine HMAY.out.mono ?_; rintro e w2 ⟨rfl, hb2⟩; have HB2 := Lib.hid hb2; have HAT2 := Lib.hid (HAT.out w2 hb2); have lp2 := HLQ.out w2 (HB.out.trans (hb2.mono HB.out.size)); clear hb2)
            | (go_at_call 36; refine HAT2.out.mono ?_; rintro e w3 ⟨rfl, hb3⟩; have HB3 := Lib.hid (HB2.out.trans (hb3.mono HB2.out.size)); clear hb3))
          go_ret2
          have hn0 : newF room l = none := by
            rw [HN.out, ← List.take_append_drop (k + 1) l, List.foldl_append, HFS.out, HF.out]
            unfold newS
            dsimp only
            rw [if_neg (by rw [HFP.out]; simp)]
            exact newS_none _
          unfold New12
          rw [hn0]
          exact ⟨rfl, HB.out.trans (HB3.out.mono HB.out.size)⟩
    · obtain rfl : k = n := by omega
      go_wp2_with fail
      go_ret2
      have hn1 : newF room l = some L := by
        have := HF.out
        rw [List.take_of_length_le (by rw [HL.out]; exact Nat.le_refl _)] at this
        rw [HN.out, this]
      unfold New12
      rw [hn1]
      exact ⟨rb, av, rfl, by rw [← HRB.out]; exact HM.out, HB.out, by rw [HRB.out]; exact Nat.le_refl _⟩
end Go.Proofs.Ytahdjfegihnolaa
namespace Go.Proofs.Ytahdjfegihnolaa
open Go.RowKit Go.Sort
theorem res_cell1 {w : World} {g k : Nat} {cs : Array Value} {t : TypeId} {d : TypeDesc} (hu : Try.prog.underlying t = some d) (hd : d.isRow = true) (hi : (Try.prog.info? t).map (·.size) = some k) {fn : Func} {p : Tmp} (hf : fn.results = #[.cell p t]) (tmps : Array Value) (hp : tmps.getD p undef = .pointer (some ⟨g, 0, none⟩)) (h : Blk w g t cs) (hc : cs.size = k) :
    (results fn tmps).run Try.prog w = .ok (.agg cs) w := by
  have hl := stc_loadVar hu hd hi h hc
  have e1 : tmps[p]?.getD undef = .pointer (some ⟨g, 0, none⟩) := by simpa using hp
  simp only [results, hf]
  simp [e1, asAddr, hl]
theorem re_info : (Try.prog.info? 98).map (·.size) = some 22 := by kernel_rfl
def reZC : Array Value := #[.int .u32 0, .int .i64 0, .bool false, .bool false, .int .i64 0, .int .i64 0, .int .i64 0, .int .i64 0, .int .i64 0, .int .i64 0, .int .i64 0, .int .i64 0, .int .i64 0, .int .i64 0, .int .i64 0, .int .i64 0, .int .i64 0, .int .i64 0, .int .i64 0, .int .i64 0, .int .i64 0, .int .i64 0]
/-- An entry is copied into a variable of the call's own. -/
theorem re_copy (W1 : World) (x : Le) : ∃ W2, (Instr.storeAt 98 (.pointer (some ⟨W1.heap.size, 0, none⟩)) (.agg (reA x))).run Try.prog (W1.alloc (.cells #[.int .u32 0, .int .i64 0, .bool false, .bool false, .int .i64 0, .int .i64 0, .int .i64 0, .int .i64 0, .int .i64 0, .int .i64 0, .int .i64 0, .int .i64 0, .int .i64 0, .int .i64 0, .int .i64 0, .int .i64 0, .int .i64 0, .int .i64 0, .int .i64 0, .int .i64 0, .int .i64 0, .int .i64 0] 98)) = .ok () W2 ∧ Blk W2 W1.heap.size 98 (reA x) ∧ Below W1.heap.size W1 W2 := by
  have hk : Blk (W1.alloc (.cells reZC 98)) W1.heap.size 98 reZC := Blk.new _ _ _
  have st := stc_store re_info hk rfl (vs := reA x) rfl (by simp [reA, reC, Value.oneCell'])
  exact ⟨_, st, blk_setCells hk rfl, below_setCells (Nat.le_refl _) _ _ _ ((Below.refl _ _).alloc (Nat.le_refl _) _)⟩
set_option maxRecDepth 100000 in
set_option maxHeartbeats 4000000 in
attribute [-go_sem] Instr.storeAt Instr.loadAt Instr.build in
theorem view_any {w : World} {D rb : Nat} {av ov : Value} {room : Int} {c : Pc} {L : List Le} (h : RcM w D rb av ov room c L) {i : Nat} {x : Le} (hx : L[i]? = some x) (hl : L.length ≤ 1024) (hs : ∀ q, 0 ≤ x.said q ∧ x.said q ≤ 255) (hc : ∀ q, 0 ≤ c.cost q ∧ c.cost q ≤ 50) :
    Calls Try.prog 24 #[.pointer (some ⟨rb, 0, none⟩), .int .i64 (i : Int)] w fun e w' => e = .returned (.agg (viC c x)) ∧ Below w.heap.size w w' := by
  obtain ⟨W1, hW1⟩ : ∃ Z, Z = w.alloc (.cells viZ 43) := ⟨_, rfl⟩
  have hb1 : Below w.heap.size w W1 := by rw [hW1]; exact (Below.refl _ _).alloc (Nat.le_refl _) _
  have hk1 : Blk W1 w.heap.size 43 viZ := by rw [hW1]; exact Blk.new _ _ _
  have h1 := h.below hb1
  obtain ⟨W2, hst, hk2, hb2⟩ := re_copy W1 x
  obtain ⟨g, cap, hav, _⟩ := h1.at_ (by have := (List.getElem?_eq_some_iff.1 hx).1; omega)
  subst hav
  obtain ⟨n, hn⟩ : ∃ n, n = L.length := ⟨_, rfl⟩
  have l0 := ld_all (w := W1) (b := rb) (A := some ⟨g, 0, none⟩) (n := n) (c := cap) (by rw [hn]; exact h1.blk.cell 17)
  have l1 := RcM.ld h1 hx
  have hi1 : (i : Int) < n := by have := (List.getElem?_eq_some_iff.1 hx).1; omega
  have hi0 : (0 : Int) ≤ i := by omega
  have hn9 : n ≤ 1024 := by omega
  obtain ⟨eb, heb⟩ : ∃ e, e = W1.heap.size := ⟨_, rfl⟩
  have hlt1 : w.heap.size < W1.heap.size := hk1.lt
  have HC2 := Lib.hid (show Blk W2 rb 77 (rcC room c (.slice (some ⟨g, 0, none⟩) L.length cap) ov) ∧ Blk W2 w.heap.size 43 viZ ∧ Blk W2 eb 98 (reA x) from ⟨(h1.below hb2).blk, hk1.below hb2 hk1.lt, by rw [heb]; exact hk2⟩)
  have HB2 := Lib.hid (hb1.trans (hb2.mono hb1.size))
  have HW1 := Lib.hid hW1
  have HEB := Lib.hid heb
  have HS := Lib.hid hs
  have HC := Lib.hid hc
  clear hW1 hb1 hk1 h1 hk2 hb2 hn hlt1 h hx hl hs hc heb
  go_enter Try.func24, Try.ntmps24
  go_upto_region 1 with (fail)
  have hW1' := HW1.out
  unfold viZ at hW1'
  rw [← hW1']
  clear hW1'
  go_upto_region 2 with (fail)
  clear l0 l1 hst
  rw [← HEB.out]
  obtain ⟨vb, hvb⟩ : ∃ v, v = w.heap.size := ⟨_, rfl⟩
  rw [← hvb] at HC2 ⊢
  have HVB := Lib.hid hvb
  clear hvb
  refine wp_region_mix [(true, 18), (false, 1)] 0 (by kernel_rfl) (fun a => Blk a rb 77 (rcC room c (.slice (some ⟨g, 0, none⟩) L.length cap) ov) ∧ Blk a vb 43 viZ ∧ Blk a eb 98 (reA x)) (fun _ _ h k => ⟨h.1.below k h.1.lt, h.2.1.below k h.2.1.lt, h.2.2.below k h.2.2.lt⟩) (by kernel_rfl) HC2.out (a' := ?_) (fun wz hz => ?_) fun wz hz => ?_
  rotate_left
  · have he := fun (dd : Nat) (os : Array Obj) => hz.2.2.below (below_regrown wz dd os) hz.2.2.lt
    have m1 := fun (dd : Nat) (os : Array Obj) => ld_epf (he dd os)
    have m2 := fun (dd : Nat) (os : Array Obj) => ld_bC (b := eb) (o := 2) (z := x.own) ((he dd os).cell 2)
    have m3 := fun (dd : Nat) (os : Array Obj) => ld_bC (b := eb) (o := 3) (z := x.tk) ((he dd os).cell 3)
    have m0 := fun (dd : Nat) (os : Array Obj) => ld_ent (he dd os)
    have m4 := fun (dd : Nat) (os : Array Obj) => Calls.regrown_of (active12_any x (grow (redrawn wz dd) os))
    have m5 := fun (dd : Nat) (os : Array Obj) => Calls.regrown_of (distance12_any (hz.1.below (below_regrown wz dd os) hz.1.lt) x HS.out HC.out)
    have m6 := fun (dd : Nat) (os : Array Obj) => ld_iC (b := eb) (o := 12) (z := x.told) ((he dd os).cell 12)
    have m7 := fun (dd : Nat) (os : Array Obj) => ld_iC (b := eb) (o := 13) (z := x.feas) ((he dd os).cell 13)
    have m8 := fun (dd : Nat) (os : Array Obj) => ld_esaid (he dd os)
    have m9 := fun wx => bd_vi wx (x.p.1 : Int) x.p.2 x.own x.tk (actF x) (distF c x) x.told x.feas x.said
    clear hz he
    simp only [pick_nil, pick_tt, pick_ft, List.take_succ_cons, List.take_zero, List.drop_succ_cons, List.drop_zero, List.append_nil]
    repeat (go_big_quiet_step (first | with_reducible exact m4 _ _ | with_reducible exact m5 _ _))
    refine wpQuiet_nil ?_
    rfl
  simp only [pick_nil, pick_ff, pick_tf, List.take_succ_cons, List.take_zero, List.drop_succ_cons, List.drop_zero, List.append_nil]
  have HZ := Lib.hid hz
  have HCZ := Lib.hid (show Blk wz rb 77 (rcC room c (.slice (some ⟨g, 0, none⟩) L.length cap) ov) ∧ Blk wz vb 43 viZ ∧ Blk wz eb 98 (reA x) from ⟨HC2.out.1.below hz HC2.out.1.lt, HC2.out.2.1.below hz HC2.out.2.1.lt, HC2.out.2.2.below hz HC2.out.2.2.lt⟩)
  clear hz
  refine wpMix_step HCZ.out fun wa ha => ?_
  have hka := HCZ.out.2.1.below ha HCZ.out.2.1.lt
  have st := stc_store vi_info hka rfl (vs := viC c x) rfl (by simp [viC, Value.oneCell'])
  unfold viC at st
  have HKA := Lib.hid hka
  have HBA := Lib.hid ((HB2.out.trans (HZ.out.mono HB2.out.size)).trans (ha.mono (Nat.le_trans HB2.out.size HZ.out.size)))
  clear ha hka
  go_wp2_with fail
  refine wpMix_plain ?_
  go_wp2_with fail
  have hk : Blk (wa.setCells vb 0 (viC c x).toList) vb 43 (viC c x) := blk_setCells HKA.out rfl
  unfold viC at hk
  refine bodyPost_ret_by (res_cell1 Try.underlying43 rfl vi_info rfl _ rfl hk rfl) rfl ?_
  exact ⟨rfl, below_setCells (by rw [HVB.out]; exact Nat.le_refl _) _ _ _ HBA.out⟩
set_option maxRecDepth 100000 in
set_option maxHeartbeats 8000000 in
attribute [-go_sem] Instr.storeAt Instr.loadAt in
theorem next12_any {w : World} {D rb : Nat} {av ov : Value} {room : Int} {c : Pc} {L : List Le} (h : RcM w D rb av ov room c L) {i : Nat} {x : Le} (hx : L[i]? = some x) (hl : L.length ≤ 1024) (hs : ∀ q, 0 ≤ x.said q ∧ x.said q ≤ 255) (hc : ∀ q, 0 ≤ c.cost q ∧ c.cost q ≤ 50) :
    Calls Try.prog 44 #[.pointer (some ⟨rb, 0, none⟩), .int .i64 (i : Int)] w fun e w' => ∃ v, e = .returned v ∧ NxM w' w.heap.size v (nextF c x) ∧ Below w.heap.size w w' := by
  obtain ⟨W2, hst, hk2, hb2⟩ := re_copy w x
  obtain ⟨g, cap, hav, _⟩ := h.at_ (by have := (List.getElem?_eq_some_iff.1 hx).1; omega)
  subst hav
  obtain ⟨n, hn⟩ : ∃ n, n = L.length := ⟨_, rfl⟩
  have l0 := ld_all (w := w) (b := rb) (A := some ⟨g, 0, none⟩) (n := n) (c := cap) (by rw [hn]; exact h.blk.cell 17)
  have l1 := RcM.ld h hx
  have hi1 : (i : Int) < n := by have := (List.getElem?_eq_some_iff.1 hx).1; omega
  have hi0 : (0 : Int) ≤ i := by omega
  have hn9 : n ≤ 1024 := by omega
  obtain ⟨i0, hi, hz0, hz1, hz2⟩ := info_parts info_nx
  have hi' := Lib.hid hi
  have HC2 := Lib.hid (And.intro (h.below hb2).blk hk2)
  have HB2 := Lib.hid hb2
  have HS := Lib.hid hs
  have HC := Lib.hid hc
  have hfin : nextF c x = nextK c x 8 := rfl
  rw [hfin]
  clear hfin hk2 hb2 hn h hx hl hs hc hi
  go_enter Try.func44, Try.ntmps44
  go_wp2_with fail
  clear l0 l1 hst
  go_loopw [5, 7] (fun s5 s7 wr => ∃ (k : Nat) (v : Value), k ≤ 8 ∧ s7 = .int .i64 (k : Int) ∧ s5 = v ∧ NxM wr w.heap.size v (nextK c x k) ∧ Below w.heap.size w wr ∧ Blk wr rb 77 (rcC room c (.slice (some ⟨g, 0, none⟩) L.length cap) ov) ∧ Blk wr w.heap.size 98 (reA x)) (fun _ s7 _ => 8 - (intOf s7).toNat)
  case atStart => exact ⟨0, _, by omega, rfl, rfl, World.ownsRow_nil _ _ _ _, HB2.out, HC2.out.1, HC2.out.2⟩
  case round =>
    obtain ⟨k, v, hk, rfl, rfl, hV, hB, hH, hR⟩ := hrel
    have HV := Lib.hid hV
    have HB := Lib.hid hB
    have HR := Lib.hid hR
    have HH := Lib.hid hH
    clear hV hB hH hR
    by_cases hlt : k < 8
    · have HE := Lib.hid (nextK_succ c x k)
      have u1 := fun (q : Nat) => ld_bC (w := wr.drewN q) (rcell_up (HH.out.drewN q) hlt)
      have u2 := fun (q : Nat) => ld_iC (w := wr.drewN q) (rcell_cost (HH.out.drewN q) hlt)
      have u3 := fun (q : Nat) => ld_iC (w := wr.drewN q) (b := w.heap.size) (o := 4 + k) (z := x.said k) (by rw [(HR.out.drewN q).cell, reA_get]; exact reC_said x hlt)
      have t0 := fun (q : Nat) => ld_bC (w := wr.drewN q) (b := w.heap.size) (o := 2) (z := x.own) ((HR.out.drewN q).cell 2)
      have t1 := fun (q : Nat) => ld_bC (w := wr.drewN q) (b := w.heap.size) (o := 3) (z := x.tk) ((HR.out.drewN q).cell 3)
      have t2 := fun (q : Nat) => ld_iC (w := wr.drewN q) (b := w.heap.size) (o := 13) (z := x.feas) ((HR.out.drewN q).cell 13)
      obtain ⟨s0, s1⟩ := HS.out k
      obtain ⟨d0, d1⟩ := HC.out k
      have k0 : (0 : Int) ≤ k := by omega
      have k1 : (k : Int) < 8 := by omega
      have hln := nextK_len c x k
      have hmx : (nextK c x k).length + 1 ≤ maxLen := by unfold maxLen; omega
      have hmb : ((nextK c x k).length + 1) * 16 ≤ 140737488355328 := by omega
      unfold nextB at HE
      clear hln
      obtain ⟨o, ho⟩ : ∃ o, o = x.own := ⟨_, rfl⟩
      obtain ⟨t, ht⟩ : ∃ o, o = x.tk := ⟨_, rfl⟩
      obtain ⟨u, hu⟩ : ∃ o, o = c.up k := ⟨_, rfl⟩
      obtain ⟨z, hz⟩ : ∃ o, o = x.said k := ⟨_, rfl⟩
      obtain ⟨f, hf⟩ : ∃ o, o = x.feas := ⟨_, rfl⟩
      obtain ⟨d, hd⟩ : ∃ o, o = c.cost k := ⟨_, rfl⟩
      rw [← ho] at t0 HE
      rw [← ht] at t1 HE
      rw [← hu] at u1 HE
      rw [← hz] at s0 s1 HE u3
      rw [← hf] at t2 HE
      rw [← hd] at d0 d1 u2 HE
      have HZ := Lib.hid hz
      have HD := Lib.hid hd
      clear ho ht hu hz hf hd
      have e1 : IntKind.i64.wrap (z + d) = z + d := IntWalk.i64_in _ ⟨by omega, by omega⟩
      have hno : (∀ H2 : (t && !o && u && decide (z < f) && decide (z + d < 255)) = false, nextK c x (k + 1) = nextK c x k) := fun H2 => by rw [HE.out, H2]; simp
      cases u with
      | false =>
        have HN := Lib.hid (hno (by simp))
        clear hno hmx hmb hz0 hz1 hz2
        go_wp2_with fail
        go_quiet (fail)
        go_wp2_with fail
        go_roundw
        case rel => exact ⟨k + 1, _, by omega, by go_num, rfl, by rw [HN.out]; exact own_below HV.out (below_drewN wr _), HB.out.trans ((below_drewN wr _).mono HB.out.size), HH.out.drewN _, HR.out.drewN _⟩
        case measure => simp [intOf]; omega
      | true =>
        cases t with
        | false =>
          have HN := Lib.hid (hno (by simp))
          clear hno hmx hmb hz0 hz1 hz2
          go_wp2_with fail
          go_quiet (fail)
          go_wp2_with fail
          go_roundw
          case rel => exact ⟨k + 1, _, by omega, by go_num, rfl, by rw [HN.out]; exact own_below HV.out (below_drewN wr _), HB.out.trans ((below_drewN wr _).mono HB.out.size), HH.out.drewN _, HR.out.drewN _⟩
          case measure => simp [intOf]; omega
        | true =>
          cases o with
          | true =>
            have HN := Lib.hid (hno (by simp))
            clear hno hmx hmb hz0 hz1 hz2
            go_wp2_with fail
            go_quiet (fail)
            go_wp2_with fail
            go_roundw
            case rel => exact ⟨k + 1, _, by omega, by go_num, rfl, by rw [HN.out]; exact own_below HV.out (below_drewN wr _), HB.out.trans ((below_drewN wr _).mono HB.out.size), HH.out.drewN _, HR.out.drewN _⟩
            case measure => simp [intOf]; omega
          | false =>
            by_cases h1 : z < f
            · have b1 : decide (z < f) = true := decide_eq_true h1
              by_cases h2 : z + d < 255
              · have b2 : decide (z + d < 255) = true := decide_eq_true h2
                have HN := Lib.hid (show nextK c x (k + 1) = nextK c x k ++ [(k, z + d)] from by rw [HE.out]; simp [h1, h2])
                clear hno h1 h2
                go_wp2_with fail
                go_quiet (fail)
                clear u1 u2 u3 t0 t1 t2 b1 b2
                obtain ⟨Wq, hWq⟩ : ∃ Z, Z = wr.drewN nq := ⟨_, rfl⟩
                rw [← hWq]
                have hbq : Below wr.heap.size wr Wq := by rw [hWq]; exact below_drewN wr nq
                have HBQ := Lib.hid (HB.out.trans (hbq.mono HB.out.size))
                have hvq : NxM Wq w.heap.size u5 (nextK c x k) := own_below HV.out hbq
                have HVQ := Lib.hid hvq
                have HKq := Lib.hid (And.intro (HH.out.below hbq HH.out.lt) (HR.out.below hbq HR.out.lt))
                clear hWq hbq hvq
                obtain ⟨nl, hnl⟩ : ∃ m, m = (nextK c x k).length := ⟨_, rfl⟩
                rw [← hnl] at hmx hmb
                have HNL := Lib.hid hnl
                clear hnl
                go_upto_region 7 with (fail)
                refine wp_region_mix [(true, 14), (false, 3)] 1 (by kernel_rfl) (fun a => Below Wq.heap.size Wq a) (fun _ _ h k => h.trans (k.mono h.size)) (by kernel_rfl) (Below.refl _ _) (a' := ?_) (fun wz hzz => ?_) fun wz hzz => ?_
                rotate_left
                · have hb9 := fun (dd : Nat) (os : Array Obj) => hzz.trans ((below_regrown wz dd os).mono hzz.size)
                  have u2 := fun (dd : Nat) (os : Array Obj) => ld_iC (w := grow (redrawn wz dd) os) (rcell_cost (HKq.out.1.below (hb9 dd os) HKq.out.1.lt) hlt)
                  have u3 := fun (dd : Nat) (os : Array Obj) => ld_iC (w := grow (redrawn wz dd) os) (b := w.heap.size) (o := 4 + k) (z := x.said k) (by rw [(HKq.out.2.below (hb9 dd os) HKq.out.2.lt).cell, reA_get]; exact reC_said x hlt)
                  rw [← HZ.out] at u3
                  rw [← HD.out] at u2
                  clear hzz hb9
                  simp only [pick_nil, pick_tt, pick_ft, List.take_succ_cons, List.take_zero, List.drop_succ_cons, List.drop_zero, List.append_nil]
                  repeat (go_big_quiet_step (fail))
                  refine wpQuiet_nil ?_
                  rfl
                simp only [pick_nil, pick_ff, pick_tf, List.take_succ_cons, List.take_zero, List.drop_succ_cons, List.drop_zero, List.append_nil]
                have HZZ := Lib.hid hzz
                have hvz : wz.ownsRow w.heap.size 61 2 u5 nl (flatN (nextK c x k)) := by rw [HNL.out]; exact own_below HVQ.out hzz
                have HVZ := Lib.hid hvz
                have hi := hi'.out
                clear hzz
                refine wpMix_push (fun _ _ h k => h.trans (k.mono h.size)) HZZ.out 61 [.int .i64 (k : Int), .int .i64 (z + d)] rfl (fun w' => by go_simp) rfl (.tmp 57) (.tmp 71) _ rfl rfl w.heap.size i0 _ 2 16 Try.underlying46 hi hz0 hz1 hz2 rfl (by decide) u5 nl _ (fun _ => rfl) (fun _ => rfl) hvz rfl (by simp [Value.oneCell']) hmx hmb (Nat.le_trans HBQ.out.size HZZ.out.size) fun gq v2 w2 h2 hg2 h3 => ?_
                have HBZ := Lib.hid (HBQ.out.trans (HZZ.out.mono HBQ.out.size))
                have HB2q := Lib.hid (show Below w.heap.size w w2 from HBZ.out.grown hg2 HBZ.out.size fun g hg => (own_lt HVZ.out hg).1)
                have HHW := Lib.hid ((HKq.out.1.below HZZ.out HKq.out.1.lt).grown hg2 (own_blk_ne HVZ.out (HKq.out.1.below HZZ.out HKq.out.1.lt) (by decide)))
                have HRW := Lib.hid ((HKq.out.2.below HZZ.out HKq.out.2.lt).grown hg2 (own_blk_ne HVZ.out (HKq.out.2.below HZZ.out HKq.out.2.lt) (by decide)))
                have H2 := Lib.hid (show NxM w2 w.heap.size v2 (nextK c x (k + 1)) by
                  unfold NxM
                  rw [HN.out, List.length_append, flatN_snoc, List.length_singleton, ← HNL.out]
                  exact h2)
                clear h2 hg2 h3 hvz hi hz0 hz1 hz2 hmx hmb
                refine wpMix_plain ?_
                go_wp2_with fail
                go_roundw
                case rel => exact ⟨k + 1, _, by omega, by go_num, rfl, H2.out, HB2q.out, HHW.out, HRW.out⟩
                case measure => simp [intOf]; omega
              · have b2 : decide (z + d < 255) = false := decide_eq_false h2
                have HN := Lib.hid (hno (by simp [h2]))
                clear hno hmx hmb hz0 hz1 hz2 h1 h2
                go_wp2_with fail
                go_quiet (fail)
                go_wp2_with fail
                go_roundw
                case rel => exact ⟨k + 1, _, by omega, by go_num, rfl, by rw [HN.out]; exact own_below HV.out (below_drewN wr _), HB.out.trans ((below_drewN wr _).mono HB.out.size), HH.out.drewN _, HR.out.drewN _⟩
                case measure => simp [intOf]; omega
            · have b1 : decide (z < f) = false := decide_eq_false h1
              have HN := Lib.hid (hno (by simp [h1]))
              clear hno hmx hmb hz0 hz1 hz2 h1
              go_wp2_with fail
              go_quiet (fail)
              go_wp2_with fail
              go_roundw
              case rel => exact ⟨k + 1, _, by omega, by go_num, rfl, by rw [HN.out]; exact own_below HV.out (below_drewN wr _), HB.out.trans ((below_drewN wr _).mono HB.out.size), HH.out.drewN _, HR.out.drewN _⟩
              case measure => simp [intOf]; omega
    · obtain rfl : k = 8 := by omega
      go_wp2_with fail
      go_ret
      exact ⟨_, rfl, HV.out, HB.out⟩
end Go.Proofs.Ytahdjfegihnolaa
