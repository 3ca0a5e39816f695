/- guidepostref14.Much; fib.All. -/
import Derived.Test.YthlommalbkhcjaaFuN
import Derived.Test.YthlommalbkhcjaaRowF
namespace Go.Proofs.Ythlommalbkhcjaa
open Go.RowKit Go.Sort
variable {dc : Int → Array Value}
def MuchPost (l : List Rt) (n : Nat) (w : World) (e : Ending) (w' : World) : Prop := ∃ b : Bool, e = .returned (.bool b) ∧ (b = false → n ≤ 2000 ∧ ∀ r ∈ l, r.n ≤ 9000) ∧ w = w'
theorem rt_cell5 {w : World} {J : Nat → Prop} {A : Option Addr} {n : Nat} {l : List Rt} (hr : Reads w J 6 A n (l.flatMap rtC)) {k : Nat} (hk : k < n) {r : Rt} (hrk : l[k]? = some r) :
    ∃ ad, A = some ad ∧ w.cell? ⟨(ad.add (k * 6)).block, (ad.add (k * 6)).off + 5, none⟩ = some (.slice r.A r.n r.c) := by
  obtain ⟨ad, e, hj, hadl, hc⟩ := hr.2 (by omega)
  refine ⟨ad, e, ?_⟩
  have e5 : ad.add (k * 6 + 5) = ⟨(ad.add (k * 6)).block, (ad.add (k * 6)).off + 5, none⟩ := by rw [← add_of_add]; rfl
  rw [← e5]
  exact hc _ _ (by rw [rtC_get hrk (by decide)]; rfl)
theorem take_all {l : List Rt} {k z y : Nat} {r : Rt} (hr : l[k]? = some r) (h : ∀ x ∈ l.take k, x.n ≤ z) (hz : z ≤ y) (hy : r.n ≤ y) : ∀ x ∈ l.take (k + 1), x.n ≤ y := by
  obtain ⟨h1, h2⟩ := List.getElem?_eq_some_iff.1 hr
  intro x hx
  rw [List.take_succ_eq_append_getElem h1, h2] at hx
  rcases List.mem_append.1 hx with hx | hx
  · exact Nat.le_trans (h x hx) hz
  · obtain rfl : x = r := by simpa using hx
    exact hy
set_option maxRecDepth 20000 in
theorem much14_any (A : Option Addr) (n c : Nat) (l : List Rt) (w : World) (hr : Reads w (fun k => k < w.heap.size) 6 A n (l.flatMap rtC)) (hl : l.length = n) :
    Calls Try.prog 13 #[.slice A n c] w (MuchPost l n w) := by
  have HR := Lib.hid hr
  have HL := Lib.hid hl
  clear hr hl
  go_enter Try.func13, Try.ntmps13
  go_wp2_with fail
  go_loop [3, 4] (fun s i => ∃ (k z : Nat), k ≤ n ∧ k ≤ 2001 ∧ i = .int .i64 (k : Int) ∧ s = .int .i64 (z : Int) ∧ z ≤ 9000 ∧ (∀ r ∈ l.take k, r.n ≤ z)) (fun _ i => n - (intOf i).toNat)
  case atStart => exact ⟨0, 0, Nat.zero_le _, Nat.zero_le _, rfl, rfl, Nat.zero_le _, by simp⟩
  case round =>
    obtain ⟨k, z, hk, hk2, rfl, rfl, hz, hall⟩ := hrel
    have HA := Lib.hid hall
    clear hall
    by_cases hlt : k < n
    · have hd0 : decide ((k : Int) < (n : Int)) = true := decide_eq_true (by omega)
      have hd1 : decide (k < n) = true := decide_eq_true hlt
      by_cases h2 : k ≤ 2000
      · have hd2 : decide ((k : Int) ≤ 2000) = true := decide_eq_true (by omega)
        obtain ⟨r, hrk⟩ : ∃ r, l[k]? = some r := ⟨_, List.getElem?_eq_getElem (by rw [HL.out]; exact hlt)⟩
        obtain ⟨ad, rfl, hc5⟩ := rt_cell5 HR.out hlt hrk
        have HRK := Lib.hid hrk
        have i0 : (0 : Int) ≤ k := by omega
        have i1 : (k : Int) < n := by omega
        have j0 : (0 : Int) ≤ z := by omega
        have j1 : (z : Int) ≤ 9000 := by omega
        clear hrk
        by_cases h3 : r.n ≤ 9000
        · have m1 : (r.n : Int) ≤ 9000 := by omega
          have m2 : (0 : Int) ≤ r.n := by omega
          have hm : (if (9001 : Int) < (r.n : Int) then (9001 : Int) else (r.n : Int)) = (r.n : Int) := if_neg (by omega)
          by_cases h4 : z + r.n ≤ 9000
          · have hd4 : decide ((9000 : Int) < (z : Int) + (r.n : Int)) = false := decide_eq_false (by omega)
            go_wp2_with fail
            go_round
            case rel => exact ⟨k + 1, z + r.n, by omega, by omega, by go_num, by go_num, h4, take_all HRK.out HA.out (by omega) (by omega)⟩
            case measure => simp [intOf]; omega
          · have hd4 : decide ((9000 : Int) < (z : Int) + (r.n : Int)) = true := decide_eq_true (by omega)
            go_wp2_with fail
            go_ret
            exact ⟨true, rfl, fun h => (by cases h), rfl⟩
        · obtain ⟨q, hq⟩ : ∃ q : Int, q = 9001 := ⟨_, rfl⟩
          have hm : min (r.n : Int) 9001 = q := by omega
          have q0 : 0 ≤ q := by omega
          have q1 : q ≤ 9001 := by omega
          have hd4 : decide ((9000 : Int) < (z : Int) + q) = true := decide_eq_true (by omega)
          clear hq h3
          go_wp2_with fail
          go_ret
          exact ⟨true, rfl, fun h => (by cases h), rfl⟩
      · have hd2 : decide ((k : Int) ≤ 2000) = false := decide_eq_false (by omega)
        have hd3 : decide ((2000 : Int) < (n : Int)) = true := decide_eq_true (by omega)
        clear h2
        go_wp2_with fail
        go_ret
        exact ⟨true, rfl, fun h => (by cases h), rfl⟩
    · obtain rfl : k = n := by omega
      have hd0 : decide ((k : Int) < (k : Int)) = false := decide_eq_false (by omega)
      have hd1 : decide (k < k) = false := decide_eq_false (by omega)
      have HALL := Lib.hid (show ∀ r ∈ l, r.n ≤ 9000 from fun r hr => by have := HA.out r (by rw [List.take_of_length_le (by rw [HL.out]; exact Nat.le_refl _)]; exact hr); omega)
      clear hlt
      by_cases h2 : k ≤ 2000
      · have hd3 : decide ((2000 : Int) < (k : Int)) = false := decide_eq_false (by omega)
        go_wp2_with fail
        go_ret
        exact ⟨false, rfl, fun _ => ⟨h2, HALL.out⟩, rfl⟩
      · have hd3 : decide ((2000 : Int) < (k : Int)) = true := decide_eq_true (by omega)
        clear h2
        go_wp2_with fail
        go_ret
        exact ⟨true, rfl, fun h => (by cases h), rfl⟩
/-- All, of a table of the call's own. -/
def FAllPost (dc : Int → Array Value) (w wx : World) (fb : Nat) (T : TT) (lim : Int) (e : Ending) (w' : World) : Prop := ∃ f, e = .returned f ∧ SeqOf dc w' (fun k => wx.heap.size ≤ k) f T.list ∧ Below wx.heap.size wx w' ∧ KF dc w w' fb T lim
set_option maxRecDepth 20000 in
theorem fall_any (hd : Dc dc) {w wx : World} {fb : Nat} {T : TT} {lim : Int} (h : KF dc w wx fb T lim) (hsm : T.list.length ≤ 1000000) :
    Calls Try.prog 16 #[.pointer (some ⟨fb, 0, none⟩)] wx (FAllPost dc w wx fb T lim) := by
  have h0 := h
  obtain ⟨M, tb, h1, h2, h3, h4⟩ := h
  have HK := Lib.hid h0
  have HT := Lib.hid (fthere_any h1.f)
  have HA := Lib.hid (all_any hd tb M lim T wx h1.t hsm)
  have hc : wx.cell? ⟨fb, 0, none⟩ = some (.pointer (some ⟨tb, 0, none⟩)) := h1.f.cell 0
  clear h0 h1 h2 h3 h4 hd hsm
  go_enter Try.func16, Try.ntmps16
  go_wp2_with (first
    | (go_at_call 33; refine HT.out.mono ?_; rintro e w' ⟨rfl, rfl⟩)
    | (go_at_call 36; refine HA.out.mono ?_; rintro e w2 ⟨f, rfl, hs, hb⟩; have HS := Lib.hid hs; have HB := Lib.hid hb; clear hs hb))
  go_ret
  exact ⟨f, rfl, HS.out, HB.out, HK.out.later HB.out⟩
end Go.Proofs.Ythlommalbkhcjaa
