/- Layer 12: New. -/
import Derived.Test.YtahdjfegihnolaaLzY
import Derived.Test.YtahdjfegihnolaaLzO
namespace Go.Proofs.Ytahdjfegihnolaa
open Go.RowKit Go.Sort
theorem add_afterE (a : Addr) (i j : Nat) (hj : 0 < j) : a.add (i + j) = ⟨(a.add i).block, (a.add i).off + j, none⟩ := by
  unfold Addr.add
  by_cases hi : i = 0
  · subst hi
    simp [Nat.pos_iff_ne_zero.1 hj]
  · simp [hi, Nat.add_assoc]
theorem ld_pfA {w : World} {ad : Addr} {j : Nat} {p : Pf} (h0 : w.cell? (ad.add j) = some (.int .u32 (p.1 : Int))) (h1 : w.cell? (ad.add (j + 1)) = some (.int .i64 p.2)) : (Instr.loadAt 36 (.pointer (some (ad.add j)))).run Try.prog w = .ok (.agg #[.int .u32 (p.1 : Int), .int .i64 p.2]) w := by
  rw [add_afterE ad j 1 (by omega)] at h1
  simp [go_sem, h0, h1]
theorem ld_pfR {w w' : World} {A : Option Addr} {n : Nat} {l : List Pf} (hr : Reads w (fun k => k < w.heap.size) 2 A n (flatP l)) (hl : l.length = n) (hb : Below w.heap.size w w') {k : Nat} {p : Pf} (hp : l[k]? = some p) :
    ∃ ad, A = some ad ∧ (Instr.loadAt 36 (.pointer (some (ad.add (k * 2))))).run Try.prog w' = .ok (.agg #[.int .u32 (p.1 : Int), .int .i64 p.2]) w' := by
  have hk : k < n := by rw [← hl]; exact (List.getElem?_eq_some_iff.1 hp).1
  obtain ⟨ad, rfl, hlt, _, hc⟩ := hr.2 (by omega)
  obtain ⟨f0, f1⟩ := flatP_get l k p hp
  exact ⟨ad, rfl, ld_pfA ((hb.cell (by rw [block_of_add]; exact hlt)).trans (hc _ _ f0)) ((hb.cell (by rw [block_of_add]; exact hlt)).trans (hc _ _ f1))⟩
def pc0 : Pc := ⟨fun _ => false, fun _ => 0⟩
def newS (a : Option (List Le)) (p : Pf) : Option (List Le) := match a with | none => none | some l => if mayP p = true ∧ findE l p = none then some (insE (ownE p) l) else none
theorem newS_none (l : List Pf) : l.foldl newS none = none := by
  induction l with
  | nil => rfl
  | cons a l ih => exact ih
theorem newF_eq (room : Int) (l : List Pf) : newF room l = l.foldl newS (if 0 ≤ room ∧ room ≤ 64 ∧ l.length ≤ 8 then some [] else none) := rfl
theorem foldl_take_succ {α β : Type} (f : β → α → β) (b : β) (l : List α) {k : Nat} {a : α} (h : l[k]? = some a) : (l.take (k + 1)).foldl f b = f ((l.take k).foldl f b) a := by
  rw [List.take_add_one, h]
  simp
theorem bd_co0 (w : World) (room : Int) (mb : Nat) : (Instr.build 81 #[(0, .int .i64 room), (3, .map (some mb))]).run Try.prog w = .ok (.agg (coC room pc0 mb (.slice none 0 0))) w := by kernel_rfl
theorem mk_map (w : World) : (Instr.makeMap 79 none).run Try.prog w = .ok (.map (some w.heap.size)) (w.alloc (.map #[] 0)) := by kernel_rfl
theorem bd_own (wx : World) : (Instr.build 87 #[(0, .bool true), (1, .bool true), (2, .agg (arA fun _ => 255))]).run Try.prog wx = .ok (.agg (enC (ownE (0, 0)))) wx := by kernel_rfl
theorem ownE_C (p q : Pf) : enC (ownE p) = enC (ownE q) := rfl
set_option maxRecDepth 100000 in
/-- A core that has just been made. -/
theorem com_new {w' : World} {cb mb : Nat} {room : Int} (hm : MapV Try.prog 36 w' mb 0 (fun _ => none) 0) (hk : Blk w' cb 81 (coC room pc0 mb (.slice none 0 0))) : CoM w' cb mb (.slice none 0 0) room pc0 [] :=
  ⟨hk, ⟨fun _ => none, hm, fun g hg => by (cases hg), fun _ _ _ => rfl, fun kl v hv => by (cases hv)⟩, fun g hg => by (cases hg), List.nodup_nil, List.Pairwise.nil, fun g hg => by (cases hg), Nat.zero_le _⟩
/-- What New answers. -/
def NewPost (w : World) (room : Int) (l : List Pf) (e : Ending) (w' : World) : Prop := match newF room l with
  | none => e = .returned (.tuple #[.pointer none, .int .i64 2]) ∧ Below w.heap.size w w'
  | some all => ∃ cb mb G, e = .returned (.tuple #[.pointer (some ⟨cb, 0, none⟩), .int .i64 0]) ∧ CoM w' cb mb (.slice none 0 0) room pc0 G ∧ G.map (·.x) = all ∧ Below w.heap.size w w' ∧ ∀ b, CoMut cb mb G b → w.heap.size ≤ b
set_option maxRecDepth 100000 in
set_option maxHeartbeats 8000000 in
attribute [-go_sem] Instr.storeAt Instr.loadAt Instr.build in
theorem lnew_any (room : Int) (A : Option Addr) (n cp : Nat) (l : List Pf) (w : World) (hr : Reads w (fun k => k < w.heap.size) 2 A n (flatP l)) (hl : l.length = n) (hp : ∀ p ∈ l, p.1 < 2 ^ 32) :
    Calls Try.prog 11 #[.int .i64 room, .slice A n cp] w (NewPost w room l) := by
  have HR := Lib.hid hr
  have HL := Lib.hid hl
  have HP := Lib.hid hp
  clear hr hp
  by_cases h1 : room < 0
  · have hn : newF room l = none := by rw [newF_eq, if_neg (by omega), newS_none]
    have HN := Lib.hid hn
    clear hn hl
    go_enter Try.func11, Try.ntmps11
    go_wp2_with fail
    go_ret2
    unfold NewPost
    rw [HN.out]
    exact ⟨rfl, Below.refl _ _⟩
  by_cases h2 : 64 < room
  · have hn : newF room l = none := by rw [newF_eq, if_neg (by omega), newS_none]
    have HN := Lib.hid hn
    clear hn hl
    go_enter Try.func11, Try.ntmps11
    go_wp2_with fail
    go_ret2
    unfold NewPost
    rw [HN.out]
    exact ⟨rfl, Below.refl _ _⟩
  by_cases h3 : 8 < n
  · have hn : newF room l = none := by rw [newF_eq, if_neg (by omega), newS_none]
    have HN := Lib.hid hn
    clear hn hl
    go_enter Try.func11, Try.ntmps11
    go_wp2_with fail
    go_ret2
    unfold NewPost
    rw [HN.out]
    exact ⟨rfl, Below.refl _ _⟩
  have hn : newF room l = l.foldl newS (some []) := by rw [newF_eq, if_pos ⟨by omega, by omega, by omega⟩]
  have HN := Lib.hid hn
  clear hn hl
  obtain ⟨W1, hW1⟩ : ∃ Z, Z = w.alloc (.map #[] 0) := ⟨_, rfl⟩
  obtain ⟨cb, hcb⟩ : ∃ b, b = w.heap.size + 1 := ⟨_, rfl⟩
  have hsz : W1.heap.size = cb := by rw [hW1, hcb]; simp
  obtain ⟨W2, hW2⟩ : ∃ Z, Z = W1.alloc (.cells (coC room pc0 w.heap.size (.slice none 0 0)) 81) := ⟨_, rfl⟩
  have hm1 := mapv_new w Try.prog 36
  rw [← hW1] at hm1
  have hb1 : Below w.heap.size w W1 := by rw [hW1]; exact (Below.refl _ _).alloc (Nat.le_refl _) _
  have hb2 : Below W1.heap.size W1 W2 := by rw [hW2]; exact (Below.refl _ _).alloc (Nat.le_refl _) _
  have hk2 : Blk W2 cb 81 (coC room pc0 w.heap.size (.slice none 0 0)) := by rw [hW2, ← hsz]; exact Blk.new _ _ _
  have HM2 := Lib.hid (com_new (hm1.below hb2) hk2)
  have HB2 := Lib.hid (hb1.trans (hb2.mono hb1.size))
  have HW1 := Lib.hid hW1
  have HW2 := Lib.hid hW2
  have HCB := Lib.hid hcb
  have bd := fun wx => bd_co0 wx room w.heap.size
  have mk := mk_map w
  have hd3 : decide (8 < (n : Int)) = false := decide_eq_false (by omega)
  clear hcb hsz hW1 hW2 hm1 hb1 hb2 hk2
  go_enter Try.func11, Try.ntmps11
  go_upto_region 4 with (fail)
  rw [← HW1.out]
  rw [← HW2.out, ← HCB.out]
  obtain ⟨mb, hmb⟩ : ∃ b, b = w.heap.size := ⟨_, rfl⟩
  rw [← hmb]
  have HMB := Lib.hid hmb
  rw [← hmb] at HM2
  clear bd mk hd3 hmb
  go_wp2_with fail
  go_loopw [26] (fun s26 wr => ∃ (k : Nat) (G : List GE), k ≤ n ∧ s26 = .int .i64 (k : Int) ∧ (l.take k).foldl newS (some []) = some (G.map (·.x)) ∧ CoM wr cb mb (.slice none 0 0) room pc0 G ∧ G.length ≤ k ∧ Below w.heap.size w wr ∧ ∀ g ∈ G, w.heap.size ≤ g.b) (fun s26 _ => n - (intOf s26).toNat)
  case atStart => exact ⟨0, [], Nat.zero_le _, rfl, rfl, HM2.out, Nat.zero_le _, HB2.out, fun g hg => by cases hg⟩
  case round =>
    obtain ⟨k, G, hk, rfl, hf, hM, hG, hB, hgb⟩ := hrel
    have HF := Lib.hid hf
    have HM := Lib.hid hM
    have HG := Lib.hid hG
    have HB := Lib.hid hB
    have HGB := Lib.hid hgb
    clear hf hM hG hgb
    by_cases hlt : k < n
    · obtain ⟨p, hpk⟩ : ∃ p, l[k]? = some p := ⟨_, List.getElem?_eq_getElem (by rw [HL.out]; exact hlt)⟩
      obtain ⟨ad, rfl, lp⟩ := ld_pfR HR.out HL.out hB hpk
      obtain ⟨V, hV⟩ : ∃ Z, Z = wr.alloc (.cells #[.int .u32 (p.1 : Int), .int .i64 p.2] 36) := ⟨_, rfl⟩
      have hbv : Below wr.heap.size wr V := by rw [hV]; exact (Below.refl _ _).alloc (Nat.le_refl _) _
      have sp := st_pf_new wr (p.1 : Int) p.2
      rw [← hV] at sp
      have HKP := Lib.hid (show Blk V wr.heap.size 36 (pfC p) by rw [hV]; exact Blk.new _ _ _)
      have HMV := Lib.hid (HM.out.below hbv)
      have HBV := Lib.hid (hB.trans (hbv.mono hB.size))
      have HPK := Lib.hid hpk
      have HPP := Lib.hid (HP.out p (List.mem_of_getElem? hpk))
      have k0 : (0 : Int) ≤ k := by omega
      have k1 : (k : Int) < n := by omega
      have HFS := Lib.hid (foldl_take_succ newS (some []) l hpk)
      clear hV hbv hpk hB
      go_upto_region 7 with (fail)
      clear lp sp
      cases hmp : mayP p with
      | false =>
        have c1 := fun (dd : Nat) (os : Array Obj) => Calls.regrown_of (may_any p HPP.out (grow (redrawn V dd) os))
        have l1 := fun (dd : Nat) (os : Array Obj) => ld_pf (HKP.out.below (below_regrown V dd os) HKP.out.lt)
        rw [hmp] at c1
        have HMP := Lib.hid hmp
        clear hmp
        refine wp_region_quiet_below (by kernel_rfl) (by kernel_rfl) ?_
        repeat (go_big_quiet_step (with_reducible exact c1 _ _))
        refine wpQuiet_nil ?_
        intro _ hw'
        obtain ⟨⟨dq, osq⟩, hw''⟩ := hw'
        subst hw''
        have HBQ := Lib.hid (below_regrown V dq osq)
        generalize grow (redrawn V dq) osq = wq at HBQ ⊢
        clear l1 c1
        go_wp2_with fail
        go_ret2
        have hn0 : newF room l = none := by
          rw [HN.out, ← List.take_append_drop (k + 1) l, List.foldl_append, HFS.out, HF.out]
          unfold newS
          dsimp only
          rw [if_neg (by rw [HMP.out]; simp)]
          exact newS_none _
        unfold NewPost
        rw [hn0]
        exact ⟨rfl, HBV.out.trans (HBQ.out.mono HBV.out.size)⟩
      | true =>
        have c1 := fun (dd : Nat) (os : Array Obj) => Calls.regrown_of (may_any p HPP.out (grow (redrawn V dd) os))
        have l1 := fun (dd : Nat) (os : Array Obj) => ld_pf (HKP.out.below (below_regrown V dd os) HKP.out.lt)
        have l2 := fun (dd : Nat) (os : Array Obj) => ld_mC (w := grow (redrawn V dd) os) ((HMV.out.below (below_regrown V dd os)).blk.cell 17)
        rw [hmp] at c1
        have HMP := Lib.hid hmp
        obtain ⟨F, hF⟩ := HMV.out.map
        have HPO := Lib.hid (may_ok (p := p) ⟨hmp, HPP.out⟩)
        cases hfp : findP G p with
        | some g =>
          have l3 := fun (dd : Nat) (os : Array Obj) => hF.look_some (below_regrown V dd os) HPO.out hfp
          have HFP := Lib.hid hfp
          clear hfp hmp hF
          refine wp_region_quiet_below (by kernel_rfl) (by kernel_rfl) ?_
          repeat (go_big_quiet_step (with_reducible exact c1 _ _))
          refine wpQuiet_nil ?_
          intro _ hw'
          obtain ⟨⟨dq, osq⟩, hw''⟩ := hw'
          subst hw''
          have HBQ := Lib.hid (below_regrown V dq osq)
          generalize grow (redrawn V dq) osq = wq at HBQ ⊢
          clear l1 c1 l2 l3
          go_wp2_with fail
          go_ret2
          have hn0 : newF room l = none := by
            rw [HN.out, ← List.take_append_drop (k + 1) l, List.foldl_append, HFS.out, HF.out]
            unfold newS
            dsimp only
            rw [if_neg (by rw [← findP_x, HFP.out]; simp)]
            exact newS_none _
          unfold NewPost
          rw [hn0]
          exact ⟨rfl, HBV.out.trans (HBQ.out.mono HBV.out.size)⟩
        | none =>
          have l3 := fun (dd : Nat) (os : Array Obj) => hF.look_none (below_regrown V dd os) HPO.out hfp
          have HFP := Lib.hid hfp
          clear hfp hmp hF
          refine wp_region_quiet_below (by kernel_rfl) (by kernel_rfl) ?_
          repeat (go_big_quiet_step (with_reducible exact c1 _ _))
          refine wpQuiet_nil ?_
          intro _ hw'
          obtain ⟨⟨dq, osq⟩, hw''⟩ := hw'
          subst hw''
          have HBQ := Lib.hid (below_regrown V dq osq)
          generalize grow (redrawn V dq) osq = wq at HBQ ⊢
          clear l1 c1 l2 l3
          go_upto_region 9 with (fail)
          have HMQ := Lib.hid (HMV.out.below HBQ.out)
          have HKQ := Lib.hid (HKP.out.below HBQ.out HKP.out.lt)
          have HBN := Lib.hid (Below.refl wq.heap.size wq)
          refine wp_region_mix [(true, 7), (false, 2)] 1 (by kernel_rfl) (fun wx => Below wq.heap.size wq wx) (fun _ _ h k => h.trans (k.mono h.size)) (by kernel_rfl) HBN.out (a' := ?_) (fun wz hz => ?_) fun wz hz => ?_
          rotate_left
          · have hb := fun (dd : Nat) (os : Array Obj) => hz.trans ((below_regrown wz dd os).mono hz.size)
            have c2 := fun (dd : Nat) (os : Array Obj) => Calls.regrown_of (blank_any (grow (redrawn wz dd) os))
            have l1 := fun (dd : Nat) (os : Array Obj) => ld_mC ((HMQ.out.below (hb dd os)).blk.cell 17)
            have l2 := fun (dd : Nat) (os : Array Obj) => ld_pf (HKQ.out.below (hb dd os) HKQ.out.lt)
            have b1 := fun wx => bd_own wx
            clear hz hb
            simp only [pick_nil, pick_tt, pick_ft, List.take_succ_cons, List.take_zero, List.drop_succ_cons, List.drop_zero, List.append_nil]
            repeat (go_big_quiet_step (with_reducible exact c2 _ _))
            refine wpQuiet_nil ?_
            rfl
          simp only [pick_nil, pick_ff, pick_tf, List.take_succ_cons, List.take_zero, List.drop_succ_cons, List.drop_zero, List.append_nil]
          have HZ := Lib.hid (HBN.out.trans (hz.mono HBN.out.size))
          clear hz
          refine wpMix_step HZ.out fun wa ha => ?_
          have HA := Lib.hid (HZ.out.trans (ha.mono HZ.out.size))
          clear ha
          go_wp2_with fail
          obtain ⟨eb, heb⟩ : ∃ b, b = wa.heap.size := ⟨_, rfl⟩
          obtain ⟨W3, hW3⟩ : ∃ Z, Z = wa.alloc (.cells (enC (ownE (0, 0))) 87) := ⟨_, rfl⟩
          rw [← hW3, ← heb]
          have hma := HMQ.out.below HA.out
          have hb3 : Below wa.heap.size wa W3 := by rw [hW3]; exact (Below.refl _ _).alloc (Nat.le_refl _) _
          have HE3 := Lib.hid (show Blk W3 eb 87 (enC (ownE p)) by rw [hW3, heb, ownE_C p (0, 0)]; exact Blk.new _ _ _)
          have HM3 := Lib.hid (hma.below hb3)
          have HEB := Lib.hid (show ∀ g ∈ G, g.b ≠ eb from fun g hg => by rw [heb]; exact Nat.ne_of_lt (hma.en g hg).lt)
          have HBA := Lib.hid (show Below w.heap.size w wa from HBV.out.trans ((HBQ.out.trans (HA.out.mono HBQ.out.size)).mono HBV.out.size))
          have HEW := Lib.hid (show w.heap.size ≤ eb by rw [heb]; exact HBA.out.size)
          have HB3 := Lib.hid (HBA.out.trans (hb3.mono HBA.out.size))
          have HB23 := Lib.hid (HA.out.trans (hb3.mono HA.out.size))
          clear heb hW3 hma hb3
          refine wpMix_step HB23.out fun wb hbb => ?_
          obtain ⟨wd, hrd, hcd, hud⟩ := (HM3.out.below hbb).put (e := ownE p) (b := eb) (by have := HG.out; omega) ⟨HMP.out, HPP.out⟩ HFP.out (HE3.out.below hbb HE3.out.lt) HEB.out
          have HMD := Lib.hid hcd
          have HBD := Lib.hid (show Below w.heap.size w wd from (HB3.out.trans (hbb.mono HB3.out.size)).trans (hud.below (fun k (e : k = mb) => by rw [e, HMB.out]; exact Nat.le_refl _) (Nat.le_trans HB3.out.size hbb.size)))
          clear hbb hcd hud
          change (Instr.mapUpdate 79 (.map (some mb)) (.agg #[.int .u32 (p.1 : Int), .int .i64 p.2]) (.pointer (some ⟨eb, 0, none⟩))).run Try.prog wb = .ok () wd at hrd
          go_wp2_with fail
          refine wpMix_plain ?_
          go_wp2_with fail
          clear hrd
          go_roundw
          case rel =>
            refine ⟨k + 1, insGE ⟨ownE p, eb⟩ G, hlt, by go_num, ?_, HMD.out, ?_, HBD.out, fun g hg => ?_⟩
            · rw [HFS.out, HF.out, insGE_x]
              unfold newS
              dsimp only
              rw [if_pos ⟨HMP.out, by rw [← findP_x, HFP.out]; rfl⟩]
            · rw [(insGE_perm _ _).length_eq, List.length_cons]
              have := HG.out
              omega
            · rcases mem_insGE.1 hg with rfl | hg
              · exact HEW.out
              · exact HGB.out g hg
          case measure => simp [intOf]; omega
    · obtain rfl : k = n := by omega
      clear hB
      go_wp2_with fail
      go_ret2
      have hn0 : newF room l = some (G.map (·.x)) := by
        rw [HN.out, ← HF.out, List.take_of_length_le (by rw [HL.out]; exact Nat.le_refl _)]
      unfold NewPost
      rw [hn0]
      refine ⟨cb, mb, G, rfl, HM.out, rfl, HB.out, fun b hb => ?_⟩
      have h1 := HCB.out
      have h2 := HMB.out
      rcases hb with hb | hb | ⟨g, hg, hb⟩
      · omega
      · omega
      · rw [hb]; exact HGB.out g hg
end Go.Proofs.Ytahdjfegihnolaa
