/- Tries: Nodes, All. -/
import Derived.Test.YtejiecebckjflaaTrA
namespace Go.Proofs.Ytejiecebckjflaa
open Go.RowKit Go.Sort Go.BigFrame

set_option maxRecDepth 100000 in
set_option maxHeartbeats 2000000 in
theorem walk_nodes (w0 : World) (cb : Nat) : ∀ (T : TT) (Ms : Nat → Prop) (pv : Value) (n : Nat) (wx : World), IsT w0 Ms pv T → WN w0 cb n wx → n + T.keys.length ≤ 1000000000 →
    Calls Try.prog 39 #[pv, .func (.func 40) #[] #[.pointer (some ⟨cb, 0, none⟩)]] wx fun e w' => e = .returned (.tuple #[]) ∧ WN w0 cb (n + T.keys.length) w' := by
  intro T
  induction T with
  | nil =>
    intro Ms pv n wx ht h hn
    obtain rfl : pv = .pointer none := ht
    have H := Lib.hid h
    clear h
    go_enter Try.func39, Try.ntmps39
    go_wp2
    refine bodyPost_end (results_noneT rfl _ _ _) rfl ?_
    exact ⟨rfl, H.out⟩
  | node q x g l r ihl ihr =>
    intro Ms pv n wx ht h hn
    obtain ⟨b, pvl, pvr, Ml, Mr, rfl, hk, _, _, _, _, tl, tr⟩ := ht
    have hlen : (TT.node q x g l r).keys.length = 1 + (l.keys.length + r.keys.length) := by simp [TT.keys]; omega
    have C1 := Lib.hid (nodes1_any w0 wx cb n (.pointer (some ⟨b, 0, none⟩)) h (by omega))
    have C2 := Lib.hid (fun (wy : World) (hw : WN w0 cb (n + 1) wy) => ihl Ml pvl _ wy tl hw (by omega))
    have C3 := Lib.hid (fun (wy : World) (hw : WN w0 cb (n + 1 + l.keys.length) wy) => ihr Mr pvr _ wy tr hw (by omega))
    obtain ⟨hb, _⟩ := h
    have HK := Lib.hid hk
    have HLEN := Lib.hid hlen
    have hkl := hk.lt
    clear ihl ihr hb hk tl tr hlen hn
    go_enter Try.func39, Try.ntmps39
    go_wp2_with fail
    refine (C1.out).mono ?_
    rintro e w2 ⟨rfl, h2⟩
    have k2 := HK.out.below h2.1 hkl
    have z4 : w2.cell? ⟨b, 4, none⟩ = some pvl := k2.cell 4
    have H2 := Lib.hid h2
    clear h2 k2
    go_wp2_with fail
    refine (C2.out _ H2.out).mono ?_
    rintro e w3 ⟨rfl, h3⟩
    have k3 := HK.out.below h3.1 hkl
    have z5 : w3.cell? ⟨b, 5, none⟩ = some pvr := k3.cell 5
    have H3 := Lib.hid h3
    clear h3 k3
    go_wp2_with fail
    refine (C3.out _ H3.out).mono ?_
    rintro e w4 ⟨rfl, h4⟩
    have H4 := Lib.hid h4
    clear h4
    go_wp2_with fail
    refine bodyPost_end (results_noneT rfl _ _ _) rfl ?_
    refine ⟨rfl, ?_⟩
    have := H4.out
    rw [show n + 1 + l.keys.length + r.keys.length = n + (TT.node q x g l r).keys.length from by rw [HLEN.out]; omega] at this
    exact this

set_option maxHeartbeats 2000000 in
theorem nodes_any (tb : Nat) (M : Nat → Prop) (limit : Int) (T : TT) (w : World) (h : IsTr w M tb limit T) (hsm : T.keys.length ≤ 1000000000) :
    Calls Try.prog 19 #[.pointer (some ⟨tb, 0, none⟩)] w fun e w' => e = .returned (.int .i64 (T.keys.length : Int)) ∧ Below w.heap.size w w' := by
  obtain ⟨pv, hk, ht⟩ := h.ex
  have hB0 := (Below.refl w.heap.size w).alloc (Nat.le_refl _) (.cells #[.int .i64 0] 3)
  have hk1 := hk.below hB0 hk.lt
  have HT := Lib.hid (there_any tb _ _ _ _ hk1)
  have t0 : (w.alloc (.cells #[.int .i64 0] 3)).cell? ⟨tb, 0, none⟩ = some pv := hk1.cell 0
  have hW := walk_nodes w w.heap.size T _ pv 0 (w.alloc (.cells #[.int .i64 0] 3)) ht ⟨hB0, Nat.le_refl _, Blk.new w _ _⟩ (by omega)
  rw [Nat.zero_add] at hW
  have HW := Lib.hid hW
  clear hW h hk ht hk1 hB0
  go_enter Try.func19, Try.ntmps19
  go_wp2_with (go_at_call 33; refine (HT.out).mono ?_; rintro e w' ⟨rfl, rfl⟩)
  refine (HW.out).mono ?_
  rintro e w2 ⟨rfl, hb2, _, hc2⟩
  have c0 : w2.cell? ⟨w.heap.size, 0, none⟩ = some (.int .i64 (T.keys.length : Int)) := hc2.cell 0
  have HB2 := Lib.hid hb2
  clear hb2 hc2
  go_wp2_with fail
  go_ret
  exact ⟨rfl, HB2.out⟩

def AllPost (w : World) (T : TT) (e : Ending) (w' : World) : Prop := ∃ f, e = .returned f ∧ SeqOf w' (fun k => w.heap.size ≤ k) f T.list ∧ Below w.heap.size w w'
set_option maxHeartbeats 2000000 in
theorem all_any (tb : Nat) (M : Nat → Prop) (limit : Int) (T : TT) (w : World) (h : IsTr w M tb limit T) (hsm : T.list.length ≤ 1000000) :
    Calls Try.prog 21 #[.pointer (some ⟨tb, 0, none⟩)] w (AllPost w T) := by
  obtain ⟨pv, hk, ht⟩ := h.ex
  have hB0 := (Below.refl w.heap.size w).alloc (Nat.le_refl _) (.cells #[.slice none 0 0] 85)
  have hk1 := hk.below hB0 hk.lt
  have HT := Lib.hid (there_any tb _ _ _ _ hk1)
  have t0 : (w.alloc (.cells #[.slice none 0 0] 85)).cell? ⟨tb, 0, none⟩ = some pv := hk1.cell 0
  have hW := walk_all w w.heap.size T _ pv [] (w.alloc (.cells #[.slice none 0 0] 85)) ht ⟨hB0, Nat.le_refl _, _, Blk.new w _ _, World.ownsRow_nil _ _ _ _⟩ (by simpa using hsm)
  rw [List.nil_append] at hW
  have HW := Lib.hid hW
  clear hW h hk ht hk1 hB0 hsm
  go_enter Try.func21, Try.ntmps21
  go_wp2_with (go_at_call 33; refine (HT.out).mono ?_; rintro e w' ⟨rfl, rfl⟩)
  refine (HW.out).mono ?_
  rintro e w2 ⟨rfl, hb2, _, lv, hc2, ho2⟩
  have hform := own_form ho2
  obtain ⟨Al, cl, hlv, _⟩ := hform
  have c0 : w2.cell? ⟨w.heap.size, 0, none⟩ = some (.slice Al T.list.length cl) := by rw [← hlv]; exact hc2.cell 0
  subst hlv
  have HB2 := Lib.hid hb2
  have HO2 := Lib.hid ho2
  clear hb2 hc2 ho2
  go_wp2_with (go_at_call 44; refine (over_any _ Al _ cl rfl _).mono ?_; rintro e w' ⟨rfl, rfl⟩)
  go_ret
  obtain ⟨A2, c2, e2, hs⟩ := seq_new HO2.out HB2.out
  exact ⟨_, rfl, hs, HB2.out.alloc HB2.out.size _⟩
end Go.Proofs.Ytejiecebckjflaa
