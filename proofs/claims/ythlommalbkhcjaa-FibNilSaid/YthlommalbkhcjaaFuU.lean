/- law14's nothing: of a table that is not there. -/
import Derived.Test.YthlommalbkhcjaaFuT
namespace Go.Proofs.Ythlommalbkhcjaa
open Go.RowKit Go.Sort Go.BigFrame
attribute [local go_sem] Oper.semAt_some
variable {dc : Int → Array Value}
set_option maxRecDepth 100000 in
/-- The iterator over nothing. -/
theorem fnone_fits (w : World) (Kp : World → World → Prop) (Fit : List (Bs × Int) → (Bs × Int) → World → Prop) (S Sp : List (Bs × Int) → Prop) (hS : S []) :
    SeqFit Fence.wide 4 Try.prog 35 #[] (entV dc) Kp S Sp Fit w := fun l J Jx W _ _ _ h0 _ => by
  refine callsIn_of_wp Try.func35 rfl trivial ?_ rfl
  simp only [Try.ntmps35, List.size_toArray, List.length_cons, List.length_nil, Nat.reduceAdd, Nat.reduceSub, Array.replicate_succ, Array.replicate_zero, List.push_toArray, List.append_toArray, List.nil_append, List.cons_append]
  gi_wp2
  go_end0
  exact ⟨⟨_, rfl⟩, .inl ⟨[], hS, h0⟩⟩
theorem allgives_no {w : World} {v : Value} (h : GoneF w v) : AllGives dc v 35 [] w := fun W0 hb => by
  refine (fall_no (h.later hb)).mono ?_
  rintro e w' ⟨rfl, rfl⟩
  exact ⟨#[], fun _ => False, rfl, Below.refl _ _, fun k h => h.elim, fnone_fits W0 _ _ _ _ rfl⟩
theorem allgives_kf (hd : Dc dc) {w wx : World} {fb : Nat} {T : TT} {lim : Int} (h : KF dc w wx fb T lim) (hsm : T.list.length ≤ 1000000) : AllGives dc (.pointer (some ⟨fb, 0, none⟩)) 69 T.list wx := fun W0 hb => by
  refine (fall_any hd (h.later hb) hsm).mono ?_
  rintro e w' ⟨f, rfl, hs, hb2, hk⟩
  obtain ⟨Bx, rfl, hst⟩ := hs.fits hd hsm Fence.wide 4 trivial rfl (by omega)
  exact ⟨_, _, rfl, hb2, fun k hk => hk, hst⟩
theorem want_nil (A : Option Addr) (w : World) : WantAt dc A [] w := fun k e h => by simp at h
theorem eg_none : ∀ args w, (callFunc 35 args).run Try.prog w = .ok (.enter 35 args) w := enters_of Try.func35 (by kernel_rfl) rfl
theorem eg_over : ∀ args w, (callFunc 69 args).run Try.prog w = .ok (.enter 69 args) w := enters_of Try.func69 (by kernel_rfl) rfl
theorem nil_gone (w : World) : HereF w (.pointer none) false := .inl ⟨rfl, .inl rfl⟩
set_option maxRecDepth 20000 in
set_option maxHeartbeats 8000000 in
attribute [-go_sem] Instr.storeAt Instr.loadAt Instr.alloc Instr.build in
theorem nothing14_any {w : World} {v : Value} (h : GoneF w v) (fb tb : Nat) (ho : Blk w fb 62 #[.pointer (some ⟨tb, 0, none⟩)]) : Calls Try.prog 21 #[v, .pointer (some ⟨fb, 0, none⟩)] w fun e w' => e = .returned (.bool true) ∧ Below w.heap.size w w' := by
  have HG := Lib.hid h
  have HO := Lib.hid ho
  have a1 := px_alloc
  have a2 := way_alloc
  clear h ho
  obtain ⟨X, hX⟩ : ∃ X, X = wy0 := ⟨_, rfl⟩
  have HLK := Lib.hid (flook_no 0 HG.out)
  have hx1 : X.size = 257 := by rw [hX]; exact wy0_size
  have hx2 : X.all (·.oneCell') = true := by rw [hX]; exact wy0_one
  have e2 : ∀ w, (Op.equalIn 10000 33 (.agg X) (.agg X)).run Try.prog w = .ok true w := fun w => by rw [hX, ← wyC_zero]; exact eqs_wy (0, zs0) zs0_len w
  have e3 : ∀ w, (binOp .eql 33 (.agg X) (.agg X)).run Try.prog w = .ok (.bool true) w := fun w => by rw [run_eql_struct, e2]; rfl
  have b9 : ∀ w, (Instr.build 33 #[]).run Try.prog w = .ok (.agg X) w := fun w => by rw [hX]; exact way_build w
  rw [← hX] at HLK
  have HX := Lib.hid hX
  clear hX
  go_enter Try.func21, Try.ntmps21
  go_wp2_with fail
  refine HLK.out.mono ?_
  rintro e w1 ⟨rfl, hb1⟩
  obtain ⟨v1, v2, st1, st2, hp2, hv2, hb2⟩ := box_pw w1 0 0 X hx1 hx2
  have HB2 := Lib.hid (hb1.trans (hb2.mono hb1.size))
  have HV2 := Lib.hid hv2
  clear hb1 hp2 hv2 hb2
  go_wp2_with fail
  refine (fpick_no 0 0 (HG.out.later HB2.out)).mono ?_
  rintro e w3 ⟨rfl, hb3⟩
  have HB3 := Lib.hid (HB2.out.trans (hb3.mono HB2.out.size))
  have lv := ld_wyB (HV2.out.below hb3 HV2.out.lt) hx1
  clear hb3
  go_wp2_with fail
  refine (fports_no 0 (HG.out.later HB3.out)).mono ?_
  rintro e w4 ⟨rfl, hb4⟩
  have HB4 := Lib.hid (HB3.out.trans (hb4.mono HB3.out.size))
  clear hb4 lv st1 st2
  go_wp2_with fail
  refine (once_of (dcL_ok []) (dcL_wk []) v _ eg_none w4 none 0 0 0 [] rfl (by decide) (allgives_no (HG.out.later HB4.out)) (want_nil _ _)).mono ?_
  rintro e w5 ⟨rfl, hb5⟩
  have HB5 := Lib.hid (HB4.out.trans (hb5.mono HB4.out.size))
  clear hb5
  go_wp2_with fail
  refine (flen_no (HG.out.later HB5.out)).mono ?_
  rintro e w' ⟨rfl, rfl⟩
  go_wp2_with fail
  refine (fsame_no (bx := false) (bz := false) (.inl ⟨rfl, HG.out.later HB5.out⟩) (nil_gone _) (.inl rfl)).mono ?_
  rintro e w6 ⟨rfl, hb6⟩
  have HB6 := Lib.hid (HB5.out.trans (hb6.mono HB5.out.size))
  clear hb6
  go_wp2_with fail
  refine (fsame_no (bx := false) (bz := false) (nil_gone _) (.inl ⟨rfl, HG.out.later HB6.out⟩) (.inl rfl)).mono ?_
  rintro e w7 ⟨rfl, hb7⟩
  have HB7 := Lib.hid (HB6.out.trans (hb7.mono HB6.out.size))
  clear hb7
  go_wp2_with fail
  refine (fsame_no (bx := false) (bz := true) (.inl ⟨rfl, HG.out.later HB7.out⟩) (.inr ⟨rfl, fb, tb, rfl, HO.out.below HB7.out HO.out.lt⟩) (.inl rfl)).mono ?_
  rintro e w8 ⟨rfl, hb8⟩
  have HB8 := Lib.hid (HB7.out.trans (hb8.mono HB7.out.size))
  clear hb8
  go_wp2_with fail
  refine (fsame_no (bx := true) (bz := false) (.inr ⟨rfl, fb, tb, rfl, HO.out.below HB8.out HO.out.lt⟩) (.inl ⟨rfl, HG.out.later HB8.out⟩) (.inr rfl)).mono ?_
  rintro e w9 ⟨rfl, hb9⟩
  have HB9 := Lib.hid (HB8.out.trans (hb9.mono HB8.out.size))
  clear hb9
  go_wp2_with fail
  go_ret
  exact ⟨rfl, HB9.out⟩
end Go.Proofs.Ythlommalbkhcjaa
