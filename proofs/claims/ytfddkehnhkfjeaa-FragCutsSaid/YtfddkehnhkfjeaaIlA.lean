/- IpLess' walk. -/
import Derived.Test.YtfddkehnhkfjeaaIrG
import Derived.Test.YtfddkehnhkfjeaaIrE
namespace Go.Proofs.Ytfddkehnhkfjeaa
open Go.RowKit
theorem bytes_cat (x y : By) : (⟨x.toArray⟩ : ByteArray) ++ ⟨y.toArray⟩ = ⟨(x ++ y).toArray⟩ := by
  apply ByteArray.ext
  simp
set_option maxRecDepth 20000 in
set_option maxHeartbeats 1600000 in
theorem ipless_any (A : Option Addr) (n c : Nat) (x : By) (w : World) (h : Reads w (fun k => k < w.heap.size) 1 A n (bytesV x)) (hn : x.length = n) (hc : n ≤ c) :
    Calls Try.prog 6 #[.slice A n c] w fun e w' => e = .returned (.bool true) ∧ Below w.heap.size w w' := by
  have HN := Lib.hid hn
  have HC := Lib.hid hc
  have HK := Lib.hid (fun wx => known_any wx)
  have HNM := Lib.hid (fun z wx => num_any z wx)
  have HH := Lib.hid h
  obtain ⟨R, hR⟩ : ∃ R, R = lessF x := ⟨_, rfl⟩
  have HR := Lib.hid hR
  clear h hn hc hR
  go_enter Try.func6, Try.ntmps6
  by_cases hbig : 70000 < n
  · have hg : decide ((70000 : Int) < (n : Int)) = true := decide_eq_true (by omega)
    go_wp2_with fail
    refine (HK.out _).mono ?_
    rintro e w1 ⟨rfl, hb⟩
    have HB := Lib.hid hb
    clear hb
    go_wp2_with fail
    go_ret
    exact ⟨rfl, HB.out⟩
  have hg : decide ((70000 : Int) < (n : Int)) = false := decide_eq_false (by omega)
  have HS := Lib.hid (show n ≤ 70000 by omega)
  clear hbig
  have hx63 : ([] : By).length + n ≤ 140737488355328 := by have := HS.out; simp only [List.length_nil]; omega
  have hx64 : x.length + 1 ≤ 140737488355328 := by have := HN.out; have := HS.out; omega
  go_wp2_with (first
    | (at_builtin; refine wpList_app8 w rfl (.const (.slice none 0 0)) (.tmp 12) rfl rfl w.heap.size _ [] rfl (Row8.nil _ _) (fun k => k < w.heap.size) A n c x rfl HN.out HH.out hx63 (Nat.le_refl _) ?_; intro v1 w1 h1 hg1 hz1; clear hz1; have HB1 := Lib.hid ((Below.refl w.heap.size w).grown hg1 (Nat.le_refl _) fun g hg => by cases hg); obtain ⟨A1, c1, rfl, _⟩ := h1.form; have HV := Lib.hid (show Row8 w.heap.size w1 (.slice A1 ([] ++ x).length c1) x from h1); clear h1 hg1)
    | (at_builtin; refine wpList_push8 w1 rfl (.tmp 13) (.tmp 14) rfl rfl w.heap.size _ x 7 7 rfl rfl HV.out rfl hx64 HB1.out.size ?_; intro v2 w2 h2 hg2 hz2; clear hz2; have HB2 := Lib.hid (HB1.out.grown hg2 HB1.out.size fun g hg => (HV.out.lt hg).1); obtain ⟨A2, c2, rfl, hc2⟩ := h2.form; have HW := Lib.hid h2; have HC2 := Lib.hid hc2; have hlen2 : (x ++ [7] : By).length = n + 1 := (by rw [List.length_append, HN.out]; rfl); rw [hlen2] at HW HC2; rw [hlen2]; have hsl := sl_hi A2 (n + 1) c2 w2 n (by have := HC2.out; omega); clear hlen2 h2 hg2 hc2))
  have hx2 : ((x ++ [7] : By).take n) = x := by rw [List.take_append_of_le_length (by rw [HN.out]; exact Nat.le_refl _), ← HN.out, List.take_length]
  have hr2 : Reads w2 (fun k => w.heap.size ≤ k ∧ k < w2.heap.size) 1 A2 n (bytesV x) := by
    have := (HW.out.reads).2
    have hl : (x ++ [7] : By).length = n + 1 := by rw [List.length_append, HN.out]; rfl
    rw [← hl] at this
    have := reads_take (k := n) this (by rw [hl]; omega)
    rwa [hx2] at this
  refine (less_any A2 n c2 x _ w2 hr2 HN.out (by have := HC2.out; omega) (by have := HS.out; omega)).mono ?_
  rw [← HR.out]
  rintro e w3 ⟨v3, rfl, h3, hb3⟩
  have HW3 := Lib.hid (HW.out.below hb3)
  have HB3 := Lib.hid (HB2.out.trans (hb3.mono HB2.out.size))
  obtain ⟨A3, c3, rfl, _⟩ := h3.form
  have HX3 := Lib.hid h3
  have hr3 : Calls Try.prog 27 #[.slice A n c] w3 (LessPost w3 R) := by
    rw [HR.out]
    exact rless_any A n c x _ w3 (HH.out.keep (Same.ofBelow HB3.out fun k hk => hk)) HN.out HC.out (by have := HS.out; omega)
  have HR3 := Lib.hid hr3
  clear hx2 hr2 h3 hb3 hr3
  go_wp2_with fail
  refine HR3.out.mono ?_
  rintro e w4 ⟨v4, rfl, h4, hb4⟩
  obtain ⟨A4, c4, rfl, _⟩ := h4.form
  have HW4 := Lib.hid (HW3.out.below hb4)
  have HB4 := Lib.hid (HB3.out.trans (hb4.mono HB3.out.size))
  have s3 := run_str w4 _ A3 R.1 c3 (row_reads (HX3.out.below hb4))
  have s4 := run_str w4 _ A4 R.1 c4 (row_reads h4)
  have hl : (x ++ [7] : By).length = n + 1 := by rw [List.length_append, HN.out]; rfl
  have s5 := run_str w4 _ A2 (x ++ [7]) c2 (by rw [hl]; exact row_reads HW4.out)
  rw [hl] at s5
  have s6 := run_str w4 _ A x c (by rw [HN.out]; exact HH.out.keep (Same.ofBelow HB4.out fun k hk => hk))
  rw [HN.out] at s6
  have s7 : (⟨x.toArray⟩ : ByteArray) ++ ⟨#[7]⟩ = ⟨(x ++ [7]).toArray⟩ := bytes_cat x [7]
  clear hl h4 hb4
  go_wp2_with fail
  refine (HNM.out _ _).mono ?_
  rintro e w5 ⟨rfl, rfl⟩
  go_wp2_with fail
  refine (HK.out _).mono ?_
  rintro e w6 ⟨rfl, hb6⟩
  have HB6 := Lib.hid (HB4.out.trans (hb6.mono HB4.out.size))
  clear hb6
  go_wp2_with fail
  go_ret
  exact ⟨rfl, HB6.out⟩
end Go.Proofs.Ytfddkehnhkfjeaa
