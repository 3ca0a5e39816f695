/- Options as views; guidepostref03.Options. -/
import Derived.Test.YtfddkehnhkfjeaaIpA
import Derived.Test.YtfddkehnhkfjeaaRgA
namespace Go.Proofs.Ytfddkehnhkfjeaa
open Go.RowKit Go.Sort

/-! ### The plain law -/
theorem flatF_app (L M : List (UInt8 × By)) : flatF (L ++ M) = flatF L ++ flatF M := by simp [flatF]
theorem steps_prefix : ∀ (n : Nat) (x : By), x.length ≤ n → ∃ z, x = flatF (steps x) ++ z
  | _, [], _ => ⟨[], rfl⟩
  | 0, _ :: _, h => by simp at h
  | n + 1, k :: r, h => by
    rw [steps_cons]
    split
    · exact ⟨_, rfl⟩
    · split
      · exact ⟨k :: r, by simp [flatF]⟩
      · rename_i h0
        have hl := stepN_le (k :: r)
        obtain ⟨z, hz⟩ := steps_prefix n ((k :: r).drop (stepN (k :: r))) (by rw [List.length_drop]; simp only [List.length_cons] at h ⊢; omega)
        refine ⟨z, ?_⟩
        have e : flatF ((k, (k :: r).take (stepN (k :: r))) :: steps ((k :: r).drop (stepN (k :: r)))) = (k :: r).take (stepN (k :: r)) ++ flatF (steps ((k :: r).drop (stepN (k :: r)))) := by simp [flatF]
        rw [e, List.append_assoc, ← hz, List.take_append_drop]
theorem partsAt_get : ∀ (L : List (UInt8 × By)) (q i : Nat) (s : UInt8 × By), L[i]? = some s → (partsAt q L)[i]? = some (q + (flatF (L.take i)).length, s.2.length)
  | [], _, _, _, h => by cases h
  | t :: r, q, 0, s, h => by
    obtain rfl : t = s := by simpa using h
    simp [partsAt, flatF]
  | t :: r, q, i + 1, s, h => by
    have := partsAt_get r (q + t.2.length) i s (by simpa using h)
    simp only [partsAt, List.getElem?_cons_succ, this, List.take_succ_cons]
    have e : flatF (t :: r.take i) = t.2 ++ flatF (r.take i) := by simp [flatF]
    rw [e, List.length_append, Nat.add_assoc]
theorem part_at {x : By} {i : Nat} {s : UInt8 × By} (h : (steps x)[i]? = some s) : ∃ p, (partsAt 0 (steps x))[i]? = some (p, s.2.length) ∧ p + s.2.length ≤ x.length ∧ ∀ a b, a ≤ b → b ≤ s.2.length → partF x (p + a) (p + b) = (s.2.take b).drop a := by
  refine ⟨(flatF ((steps x).take i)).length, by rw [partsAt_get _ _ _ _ h, Nat.zero_add], ?_⟩
  obtain ⟨z, hz⟩ := steps_prefix _ x (Nat.le_refl _)
  have hi := (List.getElem?_eq_some_iff.1 h).1
  have hs := (List.getElem?_eq_some_iff.1 h).2
  have e : steps x = (steps x).take i ++ s :: (steps x).drop (i + 1) := by
    rw [← hs, ← List.drop_eq_getElem_cons hi, List.take_append_drop]
  obtain ⟨u, hu⟩ : ∃ u, flatF (steps x) = flatF ((steps x).take i) ++ (s.2 ++ u) := ⟨flatF ((steps x).drop (i + 1)), by
    have : flatF (s :: (steps x).drop (i + 1)) = s.2 ++ flatF ((steps x).drop (i + 1)) := by simp [flatF]
    rw [← this, ← flatF_app, ← e]⟩
  rw [hu] at hz
  obtain ⟨f, hf⟩ : ∃ f, f = flatF ((steps x).take i) := ⟨_, rfl⟩
  rw [← hf] at hz ⊢
  rw [List.append_assoc, List.append_assoc] at hz
  refine ⟨by rw [hz]; simp only [List.length_append]; omega, fun a b hab hb => ?_⟩
  unfold partF
  rw [hz, List.take_append, List.take_of_length_le (by omega), List.drop_append, List.drop_eq_nil_of_le (by omega), List.nil_append, Nat.add_sub_cancel_left, Nat.add_sub_cancel_left, List.take_append, show b - s.2.length = 0 by omega, List.take_zero, List.append_nil]
theorem part_head {x : By} {p : Nat} {s : By} (hp : ∀ a b, a ≤ b → b ≤ s.length → partF x (p + a) (p + b) = (s.take b).drop a) {k : UInt8} {r : By} (hs : s = k :: r) : x[p]? = some k := by
  have h1 := hp 0 1 (by omega) (by rw [hs]; simp)
  rw [hs] at h1
  unfold partF at h1
  have h2 : ((x.take (p + 1)).drop (p + 0))[0]? = some k := by rw [h1]; rfl
  rw [List.getElem?_drop, List.getElem?_take_of_lt (by omega)] at h2
  simpa using h2
theorem optsOf_take {L : List (UInt8 × By)} {i : Nat} {s : UInt8 × By} (h : L[i]? = some s) : optsOf (L.take (i + 1)) = optsOf (L.take i) ++ (if s.1 = 1 then [] else [(s.1, s.2.drop 2)]) := by
  have hi := (List.getElem?_eq_some_iff.1 h).1
  rw [List.take_succ_eq_append_getElem hi, (List.getElem?_eq_some_iff.1 h).2, opts_snoc]

/-! ### Options whose bytes lie in J -/
def OptE (J : Nat → Prop) (W : World) : List (UInt8 × Value) → List (UInt8 × By) → Prop
  | [], [] => True
  | p :: us, q :: L => (p.1 = q.1 ∧ Sl8 W J p.2 q.2) ∧ OptE J W us L
  | _, _ => False
section
variable {J : Nat → Prop} {W W' : World}
theorem OptE.len : ∀ {us : List (UInt8 × Value)} {L : List (UInt8 × By)}, OptE J W us L → us.length = L.length
  | [], [], _ => rfl
  | _ :: _, _ :: _, h => by simp [OptE.len h.2]
  | [], _ :: _, h => h.elim
  | _ :: _, [], h => h.elim
theorem OptE.keep (hs : Same J W W') : ∀ {us : List (UInt8 × Value)} {L : List (UInt8 × By)}, OptE J W us L → OptE J W' us L
  | [], [], _ => trivial
  | _ :: _, _ :: _, h => ⟨⟨h.1.1, h.1.2.keep hs⟩, OptE.keep hs h.2⟩
  | [], _ :: _, h => h.elim
  | _ :: _, [], h => h.elim
theorem OptE.mono {J2 : Nat → Prop} (hj : ∀ k, J k → J2 k) : ∀ {us : List (UInt8 × Value)} {L : List (UInt8 × By)}, OptE J W us L → OptE J2 W us L
  | [], [], _ => trivial
  | _ :: _, _ :: _, h => ⟨⟨h.1.1, h.1.2.mono hj⟩, OptE.mono hj h.2⟩
  | [], _ :: _, h => h.elim
  | _ :: _, [], h => h.elim
theorem OptE.snoc {p : UInt8 × Value} {q : UInt8 × By} (h1 : p.1 = q.1) (h2 : Sl8 W J p.2 q.2) : ∀ {us : List (UInt8 × Value)} {L : List (UInt8 × By)}, OptE J W us L → OptE J W (us ++ [p]) (L ++ [q])
  | [], [], _ => ⟨⟨h1, h2⟩, trivial⟩
  | _ :: _, _ :: _, h => ⟨h.1, OptE.snoc h1 h2 h.2⟩
  | [], _ :: _, h => h.elim
  | _ :: _, [], h => h.elim
theorem OptE.get : ∀ {us : List (UInt8 × Value)} {L : List (UInt8 × By)} {i : Nat} {q : UInt8 × By}, OptE J W us L → L[i]? = some q → ∃ u, us[i]? = some (q.1, u) ∧ Sl8 W J u q.2
  | p :: _, t :: _, 0, q, h, e => by
    obtain rfl : t = q := by simpa using e
    obtain ⟨⟨h1, h2⟩, _⟩ := h
    exact ⟨p.2, by rw [← h1]; rfl, h2⟩
  | _ :: us, _ :: L, i + 1, q, h, e => by
    have := OptE.get (i := i) h.2 (by simpa using e)
    simpa using this
  | [], [], _, _, _, e => by cases e
  | [], _ :: _, _, _, h, _ => h.elim
  | _ :: _, [], _, _, h, _ => h.elim
theorem OptD.view {B : Nat} (hB : ∀ k, B ≤ k → k < W.heap.size → J k) : ∀ {us : List (UInt8 × Value)} {L : List (UInt8 × By)}, OptD B W us L → OptE J W us L
  | [], [], _ => trivial
  | _ :: _, _ :: _, h => ⟨⟨h.1.1, h.1.2.sl.mono fun k hk => hB k hk.1 hk.2⟩, OptD.view hB h.2⟩
  | [], _ :: _, h => h.elim
  | _ :: _, [], h => h.elim
end
/-- v reads as the options L, all in J. -/
def OptV (W : World) (J : Nat → Prop) (v : Value) (L : List (UInt8 × By)) : Prop := ∃ A c us, v = .slice A L.length c ∧ Reads W J 2 A L.length (us.flatMap optC) ∧ OptE J W us L
theorem OptR.view {B : Nat} {W : World} {v : Value} {L : List (UInt8 × By)} {J : Nat → Prop} (h : OptR B W v L) (hB : ∀ k, B ≤ k → k < W.heap.size → J k) : OptV W J v L := by
  obtain ⟨us, h1, h2⟩ := h
  obtain ⟨A, c, rfl, _⟩ := own_form h1
  rw [h2.len] at h1 ⊢
  exact ⟨A, c, us, rfl, Reads.of_own h1 fun g hg => by obtain ⟨a, b⟩ := own_lt h1 hg; exact hB g a b, h2.view hB⟩
theorem OptV.keep {W W' : World} {J : Nat → Prop} {v : Value} {L : List (UInt8 × By)} (h : OptV W J v L) (hs : Same J W W') : OptV W' J v L := by
  obtain ⟨A, c, us, rfl, h1, h2⟩ := h
  exact ⟨A, c, us, rfl, h1.keep hs, h2.keep hs⟩
theorem optC_get {us : List (UInt8 × Value)} {i : Nat} {p : UInt8 × Value} (h : us[i]? = some p) : (us.flatMap optC)[i * 2]? = some (.int .u8 (p.1.toNat : Int)) ∧ (us.flatMap optC)[i * 2 + 1]? = some p.2 := by
  induction us generalizing i with
  | nil => cases h
  | cons q us ih =>
    cases i with
    | zero =>
      obtain rfl : q = p := by simpa using h
      exact ⟨rfl, rfl⟩
    | succ i =>
      have := ih (i := i) (by simpa using h)
      rw [List.flatMap_cons, show (i + 1) * 2 = (i * 2) + 2 by omega]
      exact this
theorem partC_get {L : List (Nat × Nat)} {i : Nat} {p : Nat × Nat} (h : L[i]? = some p) : (L.flatMap partC)[i * 2]? = some (.int .i64 (p.1 : Int)) ∧ (L.flatMap partC)[i * 2 + 1]? = some (.int .i64 (p.2 : Int)) := by
  induction L generalizing i with
  | nil => cases h
  | cons q us ih =>
    cases i with
    | zero =>
      obtain rfl : q = p := by simpa using h
      exact ⟨rfl, rfl⟩
    | succ i =>
      have := ih (i := i) (by simpa using h)
      rw [List.flatMap_cons, show (i + 1) * 2 = (i * 2) + 2 by omega]
      exact this
/-- The cells of part i, in every world that is as W below D. -/
theorem part_cells {B D : Nat} {W : World} {gp cp n : Nat} {L : List (Nat × Nat)} (h : PartR B W (.slice (some ⟨gp, 0, none⟩) n cp) L) {i : Nat} {p : Nat × Nat} (hp : L[i]? = some p) (hD : W.heap.size ≤ D) {wx : World} (hx : Below D W wx) :
    wx.cell? ⟨gp, i * 2, none⟩ = some (.int .i64 (p.1 : Int)) ∧ wx.cell? ⟨gp, i * 2 + 1, none⟩ = some (.int .i64 (p.2 : Int)) := by
  obtain ⟨h0, h1⟩ := partC_get hp
  have hc := h.cells (g := gp) rfl
  have hlt := (own_lt h (g := gp) rfl).2
  have e : ∀ j, (⟨gp, 0, none⟩ : Addr).add j = ⟨gp, j, none⟩ := fun j => by rw [add_off, Nat.zero_add]
  refine ⟨(hx.cell (p := ⟨gp, i * 2, none⟩) (by show gp < D; omega)).trans ?_, (hx.cell (p := ⟨gp, i * 2 + 1, none⟩) (by show gp < D; omega)).trans ?_⟩
  · rw [← e]; exact hc _ _ h0
  · rw [← e]; exact hc _ _ h1

/-! ### The walk -/
def ROptPost (w : World) (I : Nat → Prop) (x : By) (e : Ending) (w' : World) : Prop := ∃ v us, e = .returned (.tuple #[v, .bool (goodF x)]) ∧ w'.ownsRow w.heap.size 40 2 v us.length (us.flatMap optC) ∧ OptE I w' us (optsF x) ∧ Below w.heap.size w w'
set_option maxRecDepth 20000 in
set_option maxHeartbeats 2000000 in
theorem roptions_any (A : Option Addr) (n c : Nat) (x : By) (I : Nat → Prop) (w : World) (h : Reads w I 1 A n (bytesV x)) (hn : x.length = n) (hc : n ≤ c) (hsm : n ≤ 1000000) :
    Calls Try.prog 20 #[.slice A n c] w (ROptPost w (fun k => I k ∧ k < w.heap.size) x) := by
  have HR := Lib.hid h.lt
  have HL := Lib.hid hn
  have HC := Lib.hid (parts_any A n c x I w h hn hsm)
  clear h hn
  go_enter Try.func20, Try.ntmps20
  go_wp2_with fail
  refine HC.out.mono ?_
  rintro e w1 ⟨v1, rfl, hp, hb⟩
  obtain ⟨N, hN⟩ : ∃ N, N = (partsF x).length := ⟨_, rfl⟩
  have hp0 := hp
  unfold PartR at hp0
  obtain ⟨A1, c1, rfl, hc1⟩ := own_form hp0
  rw [← hN]
  rw [← hN] at hp hc1
  have HN := Lib.hid hN
  have HP := Lib.hid hp
  have HB := Lib.hid hb
  clear hp hb hp0 hN
  go_wp2_with fail
  go_loopw [6, 7] (fun v i wr => ∃ (k : Nat) (us : List (UInt8 × Value)), k ≤ N ∧ i = .int .i64 (k : Int) ∧ us.length ≤ k ∧ wr.ownsRow w1.heap.size 40 2 v us.length (us.flatMap optC) ∧ OptE (fun k => I k ∧ k < w.heap.size) w us (optsOf ((if goodF x = true then steps x else []).take k)) ∧ Below w1.heap.size w1 wr) (fun _ i _ => N - (intOf i).toNat)
  case atStart => exact ⟨0, [], Nat.zero_le _, rfl, Nat.le_refl _, World.ownsRow_nil _ _ _ _, trivial, Below.refl _ _⟩
  case round =>
    obtain ⟨k, us, hk, rfl, huk, hv, hd, hb⟩ := hrel
    have HV := Lib.hid hv
    have HD := Lib.hid hd
    have HB1 := Lib.hid hb
    clear hv hd hb
    by_cases hlt : k < N
    · have hgood : goodF x = true := by
        by_cases hg : goodF x = true
        · exact hg
        · exfalso
          have := HN.out
          unfold partsF at this
          rw [if_neg hg] at this
          simp at this
          omega
      have hpf : partsF x = partsAt 0 (steps x) := by unfold partsF; rw [if_pos hgood]
      have hNn : N ≤ 1000000 := by
        have h1 := HN.out
        have h2 := steps_len _ x (Nat.le_refl _)
        have h3 := HL.out
        rw [hpf, partsAt_len] at h1
        omega
      obtain ⟨s, hs⟩ : ∃ s, (steps x)[k]? = some s := ⟨(steps x)[k]'(by have := HN.out; rw [hpf, partsAt_len] at this; omega), List.getElem?_eq_getElem _⟩
      obtain ⟨p, hp, hple, hcut⟩ := part_at hs
      rw [← hpf] at hp
      have hok := good_ok hgood s (List.mem_of_getElem? hs)
      have HP1 := HP.out
      have hgp : ∃ gp, A1 = some ⟨gp, 0, none⟩ := by
        obtain ⟨g, cap, hv, _⟩ := HP1.form (by have := HN.out; omega)
        injection hv with hv
        exact ⟨g, hv⟩
      obtain ⟨gp, rfl⟩ := hgp
      have hcell := fun (wx : World) (hx : Below w1.heap.size w1 wx) => part_cells HP1 hp (Nat.le_refl _) hx
      obtain ⟨kb, r, hsk⟩ : ∃ kb r, s.2 = kb :: r := by
        cases h : s.2 with
        | nil => exact absurd h (ok_ne hok)
        | cons a b => exact ⟨a, b, rfl⟩
      have hkb : kb = s.1 := by
        rcases hok with ⟨h1, h2⟩ | ⟨_, _, m, d, h2, _⟩
        · rw [h2] at hsk; injection hsk with e _; rw [← e, h1]
        · rw [h2] at hsk; injection hsk with e _; exact e.symm
      have hxp := part_head hcut hsk
      have hpx : p < x.length := (List.getElem?_eq_some_iff.1 hxp).1
      have hxe : x[p] = s.1 := by rw [← hkb]; exact (List.getElem?_eq_some_iff.1 hxp).2
      have hrd1 := HR.out.keep (Same.ofBelow HB.out fun k hk => hk.2)
      obtain ⟨ad, rfl, hadl, hc0⟩ := byte_at hrd1 hpx
      rw [hxe] at hc0
      have hbyte : ∀ wx, Below w1.heap.size w1 wx → wx.cell? (ad.add p) = some (.int .u8 (s.1.toNat : Int)) := fun wx hx => (hx.cell (by rw [block_of_add]; exact hadl)).trans hc0
      have hi0 : (0 : Int) ≤ k := by omega
      have hi1 : (k : Int) < N := by omega
      have hd0 : decide ((k : Int) < (N : Int)) = true := decide_eq_true (by omega)
      have hd1 : decide (k < N) = true := decide_eq_true hlt
      have hp0 : (0 : Int) ≤ p := by omega
      have hpn : (p : Int) < n := by have := HL.out; omega
      obtain ⟨m, hm⟩ : ∃ m, m = s.2.length := ⟨_, rfl⟩
      obtain ⟨b, hbe⟩ : ∃ b, b = s.1.toNat := ⟨_, rfl⟩
      have hb256 : b < 256 := by rw [hbe]; exact s.1.toNat_lt
      rw [← hm] at hcell hple
      rw [← hbe] at hbyte
      have hopt := optsOf_take hs
      have HOPT := Lib.hid hopt
      have hxl := HL.out
      obtain ⟨x1, x2⟩ := hcell wr HB1.out
      have x3 := hbyte wr HB1.out
      have HCELL := Lib.hid hcell
      have HBYTE := Lib.hid hbyte
      have HHG := Lib.hid hgood
      have HM := Lib.hid hm
      have HBE := Lib.hid hbe
      have HCUT := Lib.hid hcut
      have HOK := Lib.hid hok
      clear hcell hbyte hopt hm hbe hcut hxe hxp hpx hkb hsk hrd1 hc0 hp hs hpf HP1 hgood hxl hok
      by_cases h1 : b = 1
      · have hb1 : ((b : Int) != 1) = false := by rw [h1]; rfl
        have hs1 : s.1 = 1 := by apply UInt8.toNat_inj.1; rw [← HBE.out, h1]; rfl
        have HD2 : Hid (OptE (fun k => I k ∧ k < w.heap.size) w us (optsOf ((if goodF x = true then steps x else []).take (k + 1)))) := by
          have := HD.out
          rw [if_pos HHG.out] at this ⊢
          rw [HOPT.out, if_pos hs1, List.append_nil]
          exact this
        go_wp2_with fail
        go_roundw
        case rel => exact ⟨k + 1, us, by omega, rfl, by omega, HV.out, HD2, HB1.out⟩
        case measure => simp [intOf]; omega
      · have hb1 : ((b : Int) != 1) = true := by rw [bne_iff_ne]; omega
        have hs1 : ¬ s.1 = 1 := fun e => h1 (by rw [HBE.out, e]; rfl)
        go_wp2_with fail
        have hm2 : 2 ≤ m := by
          rcases HOK.out with ⟨h1, _⟩ | ⟨_, _, q, d, h2, _⟩
          · exact absurd h1 hs1
          · rw [HM.out, h2]; simp
        obtain ⟨p2, hp2⟩ : ∃ p2, p2 = p + 2 := ⟨_, rfl⟩
        obtain ⟨pm, hpm⟩ : ∃ pm, pm = p + m := ⟨_, rfl⟩
        have hpl : p + m ≤ n := by rw [← HL.out]; exact hple
        have hw2 : IntKind.i64.wrap ((p : Int) + 2) = (p2 : Int) := by rw [wrap_i64 _ (by omega) (by omega)]; omega
        have hwm : IntKind.i64.wrap ((p : Int) + (m : Int)) = (pm : Int) := by rw [wrap_i64 _ (by omega) (by omega)]; omega
        obtain ⟨ca, hca⟩ : ∃ ca, ca = (if c = p2 then some ad else (some ad).map (·.add p2)) := ⟨_, rfl⟩
        obtain ⟨cn, hcn⟩ : ∃ cn, cn = pm - p2 := ⟨_, rfl⟩
        obtain ⟨cc, hcc⟩ : ∃ cc, cc = c - p2 := ⟨_, rfl⟩
        have hcv : Value.slice ca cn cc = Value.slice (if c = p2 then some ad else (some ad).map (·.add p2)) (pm - p2) (c - p2) := by rw [hca, hcn, hcc]
        have hsl : ∀ wx : World, (Instr.slice 22 (.slice (some ad) n c) (some (.int .i64 (p2 : Int))) (some (.int .i64 (pm : Int))) none).run Try.prog wx = .ok (.slice ca cn cc) wx := fun wx => by rw [hcv]; exact sl_lohi (some ad) n c wx p2 pm (by omega) (by omega)
        have hdata : Sl8 w (fun k => I k ∧ k < w.heap.size) (.slice ca cn cc) (s.2.drop 2) := by
          have hr := HR.out
          have := cut_lohi (a := p2) (b := pm) (cap := c) (x := x) (by rw [HL.out]; exact hr) (by omega) (by rw [HL.out]; omega) (by rw [HL.out]; exact hc)
          rw [← hcv, hp2, hpm, HCUT.out 2 m hm2 (by rw [HM.out]; exact Nat.le_refl _), List.take_of_length_le (by rw [HM.out]; exact Nat.le_refl _)] at this
          exact this
        have HDATA := Lib.hid hdata
        have HPL := Lib.hid hpl
        obtain ⟨i0, hi, hz0, hz1, hz2⟩ := info_parts info_opt
        have hmx : us.length + 1 ≤ maxLen := by unfold maxLen; omega
        have hmb : (us.length + 1) * 32 ≤ 140737488355328 := by omega
        clear hp2 hpm hcv hca hcn hcc hdata hpl hm2
        go_wp2_with fail
        clear x1 x2 x3
        refine wp_region_mix [(true, 29), (false, 3)] 1 (by kernel_rfl) (fun wx => Below w1.heap.size w1 wx) (fun _ _ h k => h.trans (k.mono h.size)) (by kernel_rfl) HB1.out (a' := ?_) (fun wz hz => ?_) fun wz hz => ?_
        rotate_left
        · obtain ⟨y1, y2⟩ := HCELL.out wz hz
          have y3 := HBYTE.out wz hz
          have z1 := cell_regrown y1
          have z2 := cell_regrown y2
          have z3 := cell_regrown y3
          clear y1 y2 y3
          simp only [pick_nil, pick_tt, pick_ft, List.take_succ_cons, List.take_zero, List.drop_succ_cons, List.drop_zero, List.append_nil]
          repeat (go_big_quiet_step (fail))
          refine wpQuiet_nil ?_
          rfl
        · simp only [pick_nil, pick_ff, pick_tf, List.take_succ_cons, List.take_zero, List.drop_succ_cons, List.drop_zero, List.append_nil]
          have HZ := Lib.hid (HB1.out.trans (hz.mono HB1.out.size))
          have HVZ := own_below HV.out hz
          clear hz
          refine wpMix_push (fun _ _ h k => h.trans (k.mono h.size)) HZ.out 40 [.int .u8 (b : Int), .slice ca cn cc] rfl (fun w' => by go_simp) rfl (.tmp 28) (.tmp 57) _ rfl rfl w1.heap.size i0 _ 2 32 Try.underlying34 hi hz0 hz1 hz2 rfl (by decide) u6 us.length _ (fun _ => rfl) (fun _ => rfl) HVZ rfl (by simp [Value.oneCell']) hmx hmb HZ.out.size fun g v2 w2 h2 hg2 _ => ?_
          have HB2 := Lib.hid (HZ.out.grown hg2 HZ.out.size fun _ hg => (own_lt HVZ hg).1)
          have H2 := Lib.hid h2
          clear h2 hg2 HVZ
          refine wpMix_plain ?_
          have h4 : w2.ownsRow w1.heap.size 40 2 v2 (us ++ [(s.1, Value.slice ca cn cc)]).length ((us ++ [(s.1, Value.slice ca cn cc)]).flatMap optC) := by
            have e : (us ++ [(s.1, Value.slice ca cn cc)]).flatMap optC = us.flatMap optC ++ [.int .u8 (b : Int), .slice ca cn cc] := by rw [List.flatMap_append, HBE.out]; rfl
            rw [e, List.length_append]
            exact H2.out
          have h5 : OptE (fun k => I k ∧ k < w.heap.size) w (us ++ [(s.1, Value.slice ca cn cc)]) (optsOf ((if goodF x = true then steps x else []).take (k + 1))) := by
            have hd := HD.out
            rw [if_pos HHG.out] at hd ⊢
            rw [HOPT.out, if_neg hs1]
            exact OptE.snoc rfl HDATA.out hd
          have H4 := Lib.hid h4
          have H5 := Lib.hid h5
          clear h4 h5
          go_wp2_with fail
          go_roundw
          case rel => exact ⟨k + 1, us ++ [(s.1, Value.slice ca cn cc)], by omega, rfl, by rw [List.length_append]; simp; omega, H4.out, H5.out, HB2.out⟩
          case measure => simp [intOf]; omega
    · obtain rfl : k = N := by omega
      have hd0 : decide ((k : Int) < (k : Int)) = false := decide_eq_false (by omega)
      have hd1 : decide (k < k) = false := decide_eq_false (by omega)
      have hfin : OptE (fun k => I k ∧ k < w.heap.size) w us (optsF x) := by
        have hd := HD.out
        have hN := HN.out
        unfold optsF
        unfold partsF at hN
        by_cases hg : goodF x = true
        · rw [if_pos hg] at hd hN ⊢
          rw [partsAt_len] at hN
          rw [List.take_of_length_le (by omega)] at hd
          exact hd
        · rw [if_neg hg] at hd hN ⊢
          rw [List.take_nil] at hd
          exact hd
      have HF := Lib.hid hfin
      clear hfin hd0
      go_wp2_with fail
      go_ret2
      exact ⟨_, us, rfl, own_base HV.out HB.out.size, HF.out.keep (Same.ofBelow (HB.out.trans (HB1.out.mono HB.out.size)) fun k hk => hk.2), HB.out.trans (HB1.out.mono HB.out.size)⟩
end Go.Proofs.Ytfddkehnhkfjeaa
