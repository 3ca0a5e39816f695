/- SplitHashes' walk. -/
import Derived.Test.YtfddkehnhkfjeaaSpJ
import Derived.Test.YtfddkehnhkfjeaaSpV
namespace Go.Proofs.Ytfddkehnhkfjeaa
open Go.RowKit Go.Sort
set_option maxRecDepth 20000 in
set_option maxHeartbeats 1600000 in
theorem hashes_any (A : Option Addr) (n c : Nat) (x : By) (w : World) (h : Reads w (fun k => k < w.heap.size) 1 A n (bytesV x)) (hn : x.length = n) (hc : n ≤ c) :
    Calls Try.prog 13 #[.slice A n c] w fun e w' => e = .returned (.bool true) ∧ Below w.heap.size w w' := by
  have HK := Lib.hid (fun wx => known13_any wx)
  have HNM := Lib.hid (fun z wx => num13_any z wx)
  have HR := Lib.hid h
  have HN := Lib.hid hn
  have HC := Lib.hid hc
  clear h hn hc
  go_enter Try.func13, Try.ntmps13
  by_cases hbig : 70000 < n
  · have hg : decide ((70000 : Int) < (n : Int)) = true := decide_eq_true (by omega)
    go_wp2_with fail
    refine (HK.out _).mono ?_
    rintro e w1 ⟨rfl, hb⟩
    have HB := Lib.hid hb
    clear hb
    go_wp2_with fail
    go_ret
    exact ⟨rfl, HB.out⟩
  have hg : decide ((70000 : Int) < (n : Int)) = false := decide_eq_false (by omega)
  have HS := Lib.hid (show n ≤ 1000000 by omega)
  have h1 := hash_any A n c x _ w HR.out HN.out HC.out HS.out
  have h2 := fun wx (hb : Below w.heap.size w wx) => rhash_any A n c x _ wx (HR.out.keep (Same.ofBelow hb fun _ hk => hk)) HN.out HC.out HS.out
  obtain ⟨N, hN⟩ : ∃ N, N = hashR (prsF x) := ⟨_, rfl⟩
  rw [← hN] at h1 h2
  have e0 : ((N : Int) == (N : Int)) = true := by rw [beq_iff_eq]
  by_cases hf : (prsF x).2.2 = 0
  · rw [if_pos hf] at h1
    rw [decide_eq_true hf] at h2
    have H1 := Lib.hid h1
    have H2 := Lib.hid h2
    clear h1 h2 hN hf hbig
    go_wp2_with fail
    refine H1.out.mono ?_
    rintro e w1 ⟨rfl, hb1⟩
    have HB1 := Lib.hid hb1
    clear hb1
    go_wp2_with fail
    refine (H2.out _ HB1.out).mono ?_
    rintro e w2 ⟨rfl, hb2⟩
    have HB2 := Lib.hid (HB1.out.trans (hb2.mono HB1.out.size))
    clear hb2
    go_wp2_with fail
    refine (HNM.out _ _).mono ?_
    rintro e w3 ⟨rfl, rfl⟩
    go_wp2_with fail
    refine (HK.out _).mono ?_
    rintro e w4 ⟨rfl, hb4⟩
    have HB4 := Lib.hid (HB2.out.trans (hb4.mono HB2.out.size))
    clear hb4
    go_wp2_with fail
    go_ret
    exact ⟨rfl, HB4.out⟩
  · rw [if_neg hf] at h1
    rw [decide_eq_false hf] at h2
    have H1 := Lib.hid h1
    have H2 := Lib.hid h2
    clear h1 h2 hN hf hbig
    go_wp2_with fail
    refine H1.out.mono ?_
    rintro e w1 ⟨rfl, hb1⟩
    have HB1 := Lib.hid hb1
    clear hb1
    go_wp2_with fail
    refine (H2.out _ HB1.out).mono ?_
    rintro e w2 ⟨rfl, hb2⟩
    have HB2 := Lib.hid (HB1.out.trans (hb2.mono HB1.out.size))
    clear hb2
    go_wp2_with fail
    refine (HNM.out _ _).mono ?_
    rintro e w3 ⟨rfl, rfl⟩
    go_wp2_with fail
    refine (HNM.out _ _).mono ?_
    rintro e w3 ⟨rfl, rfl⟩
    go_wp2_with fail
    refine (HK.out _).mono ?_
    rintro e w4 ⟨rfl, hb4⟩
    have HB4 := Lib.hid (HB2.out.trans (hb4.mono HB2.out.size))
    clear hb4
    go_wp2_with fail
    go_ret
    exact ⟨rfl, HB4.out⟩
end Go.Proofs.Ytfddkehnhkfjeaa
