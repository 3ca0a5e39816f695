/- The document's Nodes: the walk. -/
import Derived.Test.YtejiecebckjflaaTcN
import Derived.Test.YtejiecebckjflaaTbG
import Derived.Deep.LoopGhost
import Derived.BigGuard
import Derived.BigQuiet
namespace Go.Proofs.Ytejiecebckjflaa
open Go.RowKit Go.Sort Go.BigFrame
set_option maxRecDepth 20000 in
set_option maxHeartbeats 4000000 in
theorem tabnodes_any (db : Nat) (N : Nat → Prop) (lim : Int) (T : TT) (w : World) (h : IsTab w N db lim T.list) (wf : T.wf []) (hsm : T.list.length ≤ 100000) :
    Calls Try.prog 48 #[.pointer (some ⟨db, 0, none⟩)] w fun r w' => r = .returned (.int .i64 (T.keys.length : Int)) ∧ Below w.heap.size w w' := by
  obtain ⟨A, cap, hkw, hcap, hown, hrd, hnb⟩ := h.form
  have h32 := Lib.hid h.short
  have RD := Lib.hid (hrd.mono (J := fun k => k < w.heap.size) fun k hk => h.lt k hk)
  obtain ⟨n, hn⟩ : ∃ n, n = T.list.length := ⟨_, rfl⟩
  rw [← hn] at hkw hcap RD hsm
  have KW := Lib.hid hkw
  have HN := Lib.hid hn
  have HWF := Lib.hid wf
  clear hkw hown hrd hnb hn h wf
  obtain ⟨W0, hW0⟩ : ∃ W0, W0 = w.alloc (.map #[] 0) := ⟨_, rfl⟩
  have HW0 := Lib.hid hW0
  have hmm := @run_makeMap Try.prog
  clear hW0
  go_enter Try.func48, Try.ntmps48
  go_wp2_with fail
  rw [← HW0.out]
  clear hmm
  go_loopg [4] n (fun g s4 wr => ∃ (k : Nat) (S : List Bs), k + g = n ∧ s4 = .int .i64 (k : Int) ∧ Below w.heap.size w wr ∧ SM wr w.heap.size S (2 * k) ∧ SeenB T.list k S)
  case atStart =>
    refine ⟨0, [], by omega, rfl, ?_, ?_, List.nodup_nil, fun x => by simp [consec]⟩
    · rw [HW0.out]
      exact (Below.refl _ _).alloc (Nat.le_refl _) _
    · rw [HW0.out]
      exact sm_new w
  case round =>
    obtain ⟨k, S, hkg, rfl, hb, hsm1, hseen⟩ := hrel
    have HB := Lib.hid hb
    have SM1 := Lib.hid hsm1
    have SEEN := Lib.hid hseen
    have t0 : wr.cell? ⟨db, 0, none⟩ = some (.slice A n cap) := (KW.out.below hb KW.out.lt).cell 0
    clear hb hsm1 hseen
    by_cases hlt : k < n
    · have hd : decide (k < n) = true := decide_eq_true hlt
      have hd2 : decide ((k : Int) < (n : Int)) = true := decide_eq_true (by omega)
      have hi0 : (0 : Int) ≤ k := by omega
      have hi1 : (k : Int) < n := by omega
      obtain ⟨f, hf⟩ : ∃ f, T.list[k]? = some f := ⟨T.list[k]'(by rw [← HN.out]; exact hlt), List.getElem?_eq_getElem _⟩
      have hfl := h32.out f (List.mem_of_getElem? hf)
      obtain ⟨ad, rfl, _, hadl, hc⟩ := RD.out.2 (by omega)
      have hcells : ∀ (j : Nat) (e : Bs × Int), T.list[j]? = some e → ∀ wx, Below w.heap.size w wx → wx.cell? (ad.add (j * 3)) = some (.int .u32 (padB e.1 : Int)) ∧ wx.cell? ⟨(ad.add (j * 3)).block, (ad.add (j * 3)).off + 1, none⟩ = some (.int .i64 (e.1.length : Int)) := fun j e he wx hx => by
        obtain ⟨e0, e1, _⟩ := entC_get T.list j e he
        refine ⟨(hx.cell (by rw [block_of_add]; exact hadl)).trans (hc _ _ e0), ?_⟩
        rw [← add_after ad (j * 3) 1 (by omega)]
        exact (hx.cell (by rw [block_of_add]; exact hadl)).trans (hc _ _ e1)
      have HCL := Lib.hid hcells
      obtain ⟨c0, c1⟩ := hcells k f hf wr HB.out
      obtain ⟨w2, hst, hsm2, hu2⟩ := SM1.out.store (by omega) hfl (.agg #[.bool true])
      have SM2 := Lib.hid hsm2
      have hb2 := HB.out.trans (hu2.below (B := w.heap.size) (fun i (hi : i = w.heap.size) => by omega) HB.out.size)
      have HB2 := Lib.hid hb2
      have t2 : w2.cell? ⟨db, 0, none⟩ = some (.slice (some ad) n cap) := (KW.out.below hb2 KW.out.lt).cell 0
      have HF := Lib.hid hf
      have HFL := Lib.hid hfl
      clear hcells hadl hc hsm2 hu2 hb2 hf hfl
      by_cases hk0 : 0 < k
      · have hd3 : decide ((0 : Int) < (k : Int)) = true := decide_eq_true (by omega)
        have hd4 : decide (0 < k) = true := decide_eq_true hk0
        go_wp2_with fail
        clear hst
        obtain ⟨j, rfl⟩ : ∃ j, k = j + 1 := ⟨k - 1, by omega⟩
        obtain ⟨e, he⟩ : ∃ e, T.list[j]? = some e := ⟨T.list[j]'(by rw [← HN.out]; omega), List.getElem?_eq_getElem _⟩
        have hel := h32.out e (List.mem_of_getElem? he)
        have hw1 : IntKind.i64.wrap (((j + 1 : Nat) : Int) - 1) = (j : Int) := by rw [IntWalk.i64_in _ (by omega)]; omega
        have hw2 : IntKind.i64.wrap ((j : Int) + 1 - 1) = (j : Int) := by rw [IntWalk.i64_in _ (by omega)]; omega
        have hj0 : (0 : Int) ≤ j := by omega
        have hj1 : (j : Int) < n := by omega
        have HSEEN := Lib.hid (seen_next he HF.out SEEN.out)
        have HE := Lib.hid he
        clear he
        refine wp_region_stages [(true, 20), (false, 1)] (by kernel_rfl) (by kernel_rfl) fun wz hz hz2 => ?_
        have hbz := HB2.out.trans (hz.mono HB2.out.size)
        have HBZ := Lib.hid hbz
        have SMZ := Lib.hid (SM2.out.below hz)
        obtain ⟨c2, c3⟩ := HCL.out (j + 1) f HF.out wz HBZ.out
        obtain ⟨c4, c5⟩ := HCL.out j e HE.out wz HBZ.out
        have tz : wz.cell? ⟨db, 0, none⟩ = some (.slice (some ad) n cap) := (KW.out.below hbz KW.out.lt).cell 0
        have x2 := cell_regrown c2
        have x3 := cell_regrown c3
        have x4 := cell_regrown c4
        have x5 := cell_regrown c5
        have xt := cell_regrown tz
        have cC := fun (d : Nat) (os : Array Obj) => Calls.regrown_of (tabcommon_any e f (grow (redrawn wz d) os) hel HFL.out)
        clear hz hz2 hbz c2 c3 c4 c5 tz c0 c1 t0 t2
        refine wpSt_q ?_
        simp only [List.take_succ_cons, List.take_zero, List.drop_succ_cons, List.drop_zero]
        repeat (go_big_quiet_step (exact cC _ _))
        refine wpQuiet_nil ?_
        intro _ hw'
        obtain ⟨⟨dq, osq⟩, hw''⟩ := hw'
        subst hw''
        have hbq := below_regrown wz dq osq
        generalize grow (redrawn wz dq) osq = wq at hbq
        obtain ⟨w3, hst, hsm3, hu3⟩ := (SMZ.out.below hbq).store (by omega) (show (lcpB e.1 f.1).length ≤ 32 from Nat.le_trans (lcp_left e.1 f.1).length_le hel) (.agg #[.bool true])
        have HB3 := Lib.hid ((HBZ.out.trans (hbq.mono HBZ.out.size)).trans (hu3.below (B := w.heap.size) (fun i (hi : i = w.heap.size) => by omega) (Nat.le_trans HBZ.out.size hbq.size)))
        have SM3 := Lib.hid hsm3
        clear hsm3 hu3 hbq x2 x3 x4 x5 xt cC
        refine wpSt_l ?_
        simp only [List.take_succ_cons, List.take_zero, List.drop_succ_cons, List.drop_zero]
        go_wp2_with fail
        refine wpSt_end ?_
        go_wp2_with fail
        go_roundg (n - (j + 2))
        case measure => omega
        case rel => exact ⟨j + 2, _, by omega, congrArg (Value.int .i64) (by omega), HB3.out, SM3.out, HSEEN.out⟩
      · have hd3 : decide ((0 : Int) < (k : Int)) = false := decide_eq_false (by omega)
        have hd4 : decide (0 < k) = false := decide_eq_false hk0
        go_wp2_with fail
        go_roundg (n - (k + 1))
        case measure => omega
        case rel =>
          obtain rfl : k = 0 := by omega
          exact ⟨1, _, by omega, by simp, HB2.out, SM2.out.mono (by omega), seen_first HF.out SEEN.out⟩
    · obtain rfl : k = n := by omega
      have hdk : decide (k < k) = false := by simp
      have hdk2 : decide ((k : Int) < (k : Int)) = false := by simp
      have hlen := SM1.out.len
      obtain ⟨s1, s2⟩ := seen_end (L := T.list) (by rw [← HN.out]; exact SEEN.out)
      have heq := TT.nodes_eq HWF.out s1 s2
      rw [← heq] at hlen
      have HEQ := Lib.hid heq
      clear s1 s2 heq
      go_wp2_with fail
      go_ret
      exact ⟨rfl, HB.out⟩
end Go.Proofs.Ytejiecebckjflaa
