/- Frag: rows of rows of bytes of a call's own; Cut, Many. -/
import Derived.Test.YtfddkehnhkfjeaaFrJ
namespace Go.Proofs.Ytfddkehnhkfjeaa
open Go.RowKit Go.Sort Go.BigFrame
attribute [local go_sem] Oper.semAt_some

theorem info_sl8 : (Try.prog.info? 22).map (fun i => (i.zero, i.size, i.bytes)) = some (some (.slice none 0 0), 1, 24) := by kernel_rfl
/-- A row of rows of bytes, all from block B on, each in a row of its own. -/
def Rows8 (B : Nat) (w : World) (v : Value) (L : List By) : Prop :=
  ∃ us, w.ownsRow B 22 1 v L.length us ∧ us.length = L.length ∧ ∀ (k : Nat) (x : By), L[k]? = some x → ∃ u, us[k]? = some u ∧ w.ownsRow B 5 1 u x.length (bytesV x)
section
variable {w w' : World} {B : Nat} {v : Value} {L : List By}
theorem Rows8.nil (B : Nat) (w : World) : Rows8 B w (.slice none 0 0) [] := ⟨[], World.ownsRow_nil _ _ _ _, rfl, fun k x h => by simp at h⟩
theorem Rows8.form (h : Rows8 B w v L) : ∃ A c, v = .slice A L.length c ∧ L.length ≤ c := by
  obtain ⟨us, h1, _⟩ := h
  exact own_form h1
theorem Rows8.types (h : Rows8 B w v L) (hs : w.heap.size ≤ w'.heap.size) (h1 : ∀ k (cs : Array Value), k < w.heap.size → Blk w k 22 cs → w'.heap[k]? = w.heap[k]?) (h2 : ∀ k (cs : Array Value), k < w.heap.size → Blk w k 5 cs → w'.heap[k]? = w.heap[k]?) : Rows8 B w' v L := by
  obtain ⟨us, ho, hl, hu⟩ := h
  exact ⟨us, own_type ho hs h1, hl, fun k x hx => by obtain ⟨u, e, r⟩ := hu k x hx; exact ⟨u, e, own_type r hs h2⟩⟩
theorem Rows8.below (h : Rows8 B w v L) (hb : Below w.heap.size w w') : Rows8 B w' v L := h.types hb.size (fun k _ hk _ => hb.block k hk) fun k _ hk _ => hb.block k hk
theorem Rows8.own {row : Option Nat} (h : Rows8 B w v L) (hg : w.grownBy w' row) (hr : ∀ r, row = some r → ∃ o : Obj, w.heap[r]? = some o ∧ o.isCells = false) : Rows8 B w' v L :=
  h.types hg.size (fun k cs hk hb => hg.block k hk fun e => by
    obtain ⟨o, ho, hc⟩ := hr k e.symm
    unfold Blk at hb
    rw [ho] at hb
    injection hb with hb
    rw [hb] at hc
    cases hc) fun k cs hk hb => hg.block k hk fun e => by
    obtain ⟨o, ho, hc⟩ := hr k e.symm
    unfold Blk at hb
    rw [ho] at hb
    injection hb with hb
    rw [hb] at hc
    cases hc
/-- append of one row. -/
theorem Rows8.push {us : List Value} {v2 u : Value} {x : By} (h1 : w'.ownsRow B 22 1 v2 (L.length + 1) (us ++ [u])) (hv : w.ownsRow B 22 1 v L.length us) (hl : us.length = L.length) (hg : w.grownBy w' v.ownBlock)
    (hu : ∀ (k : Nat) (x : By), L[k]? = some x → ∃ u, us[k]? = some u ∧ w.ownsRow B 5 1 u x.length (bytesV x)) (hx : w.ownsRow B 5 1 u x.length (bytesV x)) : Rows8 B w' v2 (L ++ [x]) := by
  have hk : ∀ k (cs : Array Value), k < w.heap.size → Blk w k 5 cs → w'.heap[k]? = w.heap[k]? := fun k cs hk hb => hg.block k hk fun e => own_blk_ne hv hb (by decide) e.symm
  refine ⟨us ++ [u], by rw [List.length_append, List.length_singleton]; exact h1, by simp [hl], fun k y hy => ?_⟩
  rcases Nat.lt_or_ge k L.length with hlt | hge
  · rw [List.getElem?_append_left hlt] at hy
    obtain ⟨u', e, r⟩ := hu k y hy
    exact ⟨u', by rw [List.getElem?_append_left (by rw [hl]; exact hlt)]; exact e, own_type r hg.size hk⟩
  · rw [List.getElem?_append_right hge] at hy
    obtain ⟨e0, rfl⟩ : k - L.length = 0 ∧ y = x := by
      cases hkl : k - L.length with
      | zero => rw [hkl] at hy; simpa using hy.symm
      | succ j => rw [hkl] at hy; simp at hy
    exact ⟨u, by rw [List.getElem?_append_right (by rw [hl]; exact hge), hl, e0]; rfl, own_type hx hg.size hk⟩
/-- What a reader sees. -/
theorem Rows8.lst {A : Option Addr} {n c : Nat} (h : Rows8 B w (.slice A n c) L) : n = L.length ∧ ∃ us, Lst8 w (fun k => B ≤ k ∧ k < w.heap.size) A n us L := by
  obtain ⟨us, h1, h2, h3⟩ := h
  obtain ⟨A1, c1, e, _⟩ := own_form h1
  injection e with e1 e2 e3
  subst e1 e2 e3
  refine ⟨rfl, us, Reads.of_own h1 fun g hg => own_lt h1 hg, rfl, fun k x hx => ?_⟩
  obtain ⟨u, e, r⟩ := h3 k x hx
  obtain ⟨A2, c2, rfl, hc⟩ := own_form r
  exact ⟨A2, c2, e, hc, Reads.of_own r fun g hg => own_lt r hg⟩
end
theorem pcs_len (h : Hd) (L m : Nat) : ∀ f a, (pcsF h L m f a).length ≤ f
  | 0, _ => Nat.le_refl _
  | f + 1, a => by
    unfold pcsF
    split
    · exact Nat.succ_le_succ (pcs_len h L m f _)
    · exact Nat.zero_le _
theorem cut_len (x : By) (m : Int) : (cutF x m).1.length ≤ x.length + 1 := by
  unfold cutF
  have := pcs_len (prsF x).1 (prsF x).2.1.length m.toNat (prsF x).2.1.length 0
  have := (prs_len x).1
  split
  · exact Nat.zero_le _
  split
  · simp
  split
  · exact Nat.zero_le _
  split
  · exact Nat.zero_le _
  · rw [List.length_map]; omega
/-- Within Cut: the row's block Bc. -/
structure CtS (w W : World) (Bc : Nat) (L : List By) : Prop where
  below : Below w.heap.size w W
  le : w.heap.size ≤ Bc
  ex : ∃ v, Blk W Bc 56 #[v] ∧ Rows8 (Bc + 1) W v L
theorem CtS.own {w W W' : World} {Bc : Nat} {L : List By} {row : Option Nat} (h : CtS w W Bc L) (hg : W.grownBy W' row) (hr : ∀ r, row = some r → w.heap.size ≤ r ∧ ∃ o : Obj, W.heap[r]? = some o ∧ o.isCells = false) : CtS w W' Bc L := by
  obtain ⟨v, h1, h2⟩ := h.ex
  exact ⟨h.below.grown hg h.below.size fun r e => (hr r e).1, h.le, v, blk_own h1 hg fun r e => (hr r e).2, h2.own hg fun r e => (hr r e).2⟩
/-- The bytes that were handed out. -/
def pcB (pre : List Pc) : List By := pre.map (·.2.2)
def CutPost (w : World) (r : List By × Nat) (e : Ending) (w' : World) : Prop := ∃ v, e = .returned (.tuple #[v, .int .i64 (r.2 : Int)]) ∧ Rows8 w.heap.size w' v r.1 ∧ Below w.heap.size w w'
set_option maxRecDepth 100000 in
set_option maxHeartbeats 8000000 in
theorem fcut_any (A : Option Addr) (n c : Nat) (x : By) (m : Int) (I : Nat → Prop) (w : World) (h : Reads w I 1 A n (bytesV x)) (hn : x.length = n) (hc : n ≤ c) (hsm : n ≤ 1000000) :
    Calls Try.prog 42 #[.slice A n c, .int .i64 m] w (CutPost w (cutF x m)) := by
  have HPI := Lib.hid (pieces_any A n c x m I w h hn hc hsm)
  have hcl := cut_len x m
  obtain ⟨R, hR⟩ : ∃ R, R = cutF x m := ⟨_, rfl⟩
  rw [← hR] at HPI hcl ⊢
  obtain ⟨L, en⟩ := R
  have hL : L.length ≤ 1000001 := by have : L.length ≤ x.length + 1 := hcl; omega
  clear h hn hc hR hcl
  refine (callsIn_wide (n := 5)).1 ?_
  refine callsIn_of_wp_marks Try.func42 rfl trivial ?_ rfl
  simp only [Try.ntmps42, List.size_toArray, List.length_cons, List.length_nil, Nat.reduceAdd, Nat.reduceSub, Array.replicate_succ, Array.replicate_zero, List.push_toArray, List.append_toArray, List.nil_append, List.cons_append]
  refine wpIn_wide.2 ?_
  go_wp2_with fail
  refine HPI.out.mono ?_
  rintro e wo ⟨f, rfl, hsq, hbo⟩
  obtain ⟨W0, hW0⟩ : ∃ W0, W0 = wo.alloc (.cells #[.slice none 0 0] 56) := ⟨_, rfl⟩
  have hB00 : Below wo.heap.size wo W0 := by rw [hW0]; exact (Below.refl _ _).alloc (Nat.le_refl _) _
  have hB0 : Below w.heap.size w W0 := hbo.trans (hB00.mono hbo.size)
  have hS0 : CtS w W0 wo.heap.size [] := ⟨hB0, hbo.size, .slice none 0 0, by rw [hW0]; exact Blk.new _ _ _, Rows8.nil _ _⟩
  obtain ⟨gf, lb, rfl, hent, hfit⟩ := (hsq.keep (Same.ofBelow hB00 fun k hk => hk.2)).fits fun k hk => Nat.lt_of_lt_of_le hk.2 hB00.size
  have HZ0 := Lib.hid (show W0.heap.size = wo.heap.size + 1 by rw [hW0]; simp)
  have HW0 := Lib.hid hW0
  have HS0 := Lib.hid hS0
  have HZO := Lib.hid hbo.size
  have HFIT := Lib.hid hfit
  have HENT := Lib.hid hent
  obtain ⟨Bc, hBc⟩ : ∃ Bc, Bc = wo.heap.size := ⟨_, rfl⟩
  rw [← hBc] at HS0 HZ0 HZO HFIT
  have HBC := Lib.hid hBc
  clear hW0 hS0 hB0 hB00 hsq hbo hBc hfit hent
  go_wp2_with fail
  rw [← HW0.out, ← HBC.out]
  go_wp2_with fail
  refine (wpIn_wide (n := 5)).1 ?_
  refine wpIn_range_fit rfl (by omega) (gf := gf) (lb := lb) rfl trivial HENT.out HFIT.out (fun h k => same_t h k) (fun W l o o' hl h h1 h2 => same_b (w := W0) (fun k hk => by have := hk.2; have := HZ0.out; omega) W l o o' hl h h1 h2) (Below.refl _ _) (fun _ => rfl)
    (fun pre W => CtS w W Bc (pcB pre) ∧ pcB pre = L.take pre.length) (fun _ _ _ => False) (fun pre W W' row hs hg hr => ⟨hs.1.own hg fun r e => ⟨Nat.le_trans (by have := HZ0.out; have := HZO.out; omega) (hr r e).1, (hr r e).2⟩, hs.2⟩) (fun cd pre W W' row hs hg hr => hs) ⟨HS0.out, rfl⟩
    (fun t pre x a' W => PcFit L W0.heap.size pre x W ∧ a' = { tmps := (t.setIfInBounds 17 (.slice x.1 x.2.2.length x.2.1)).setIfInBounds 9 (.slice x.1 x.2.2.length x.2.1), defers := [] })
    (fun pre x a' _ W W' row hs hg hr => ⟨⟨hs.1.1, own_own hs.1.2 hg fun r e => (hr r e).2⟩, hs.2⟩) ?assign ?body ?done ?stop
  case assign =>
    intro l pre x W K hi hfit hsz hK
    simp only [pcV]
    gi_wp2
    exact hK _ _ ⟨Nat.le_refl _, fun k o _ hk _ => hk⟩ (Same.refl _ _) hi ⟨hfit, rfl⟩
  case body =>
    rintro l pre ⟨A1, c1, y⟩ a' W hl ⟨rr, hr⟩ ⟨hs, htk⟩ ⟨⟨hget, hown⟩, rfl⟩
    obtain ⟨lv, hkl, hrow⟩ := hs.ex
    simp only at hget hown ⊢
    have hpl : pre.length < L.length := (List.getElem?_eq_some_iff.1 hget).1
    obtain ⟨us, hv, hul, hu⟩ := hrow
    have hpn : (pcB pre).length = pre.length := by unfold pcB; simp
    obtain ⟨Y, hY⟩ : ∃ Y, Y = pcB pre := ⟨_, rfl⟩
    rw [← hY] at hv hul hu hs htk hpn
    obtain ⟨k, hk⟩ : ∃ k, k = Y.length := ⟨_, rfl⟩
    have hkp : k = pre.length := hk.trans hpn
    obtain ⟨nn, hnn⟩ : ∃ nn, nn = y.length := ⟨_, rfl⟩
    rw [← hk] at hv
    rw [← hnn]
    have hBl : Bc < W.heap.size := hkl.lt
    obtain ⟨i0, hi, hz0, hz1, hz2⟩ := info_parts info_sl8
    obtain ⟨Al, cl, rfl, hcl⟩ := own_form hv
    have hkl1 := hkl.alloc (.cells #[.slice A1 nn c1] 22)
    have hv1 := hv.alloc (.cells #[.slice A1 nn c1] 22)
    have hoy : W.ownsRow (Bc + 1) 5 1 (.slice A1 nn c1) y.length (bytesV y) := by rw [hnn]; exact own_base hown (by have := HZ0.out; omega)
    have hu1 : ∀ (k : Nat) (x : By), Y[k]? = some x → ∃ u, us[k]? = some u ∧ (W.alloc (.cells #[.slice A1 nn c1] 22)).ownsRow (Bc + 1) 5 1 u x.length (bytesV x) := fun k x hx => by
      obtain ⟨u, e, r⟩ := hu k x hx
      exact ⟨u, e, r.alloc _⟩
    have hx1 := hoy.alloc (.cells #[.slice A1 nn c1] 22)
    have b0 : W.cell? ⟨Bc, 0, none⟩ = some (.slice Al k cl) := hkl.cell 0
    have hmx : k + 1 ≤ maxLen := by unfold maxLen; omega
    have hmb : (k + 1) * 24 ≤ 140737488355328 := by omega
    have hbs : Bc + 1 ≤ (W.alloc (.cells #[.slice A1 nn c1] 22)).heap.size := by simp; omega
    have HV1 := Lib.hid hv1
    have HV := Lib.hid hv
    have HU1 := Lib.hid hu1
    have HX1 := Lib.hid hx1
    have HK1 := Lib.hid hkl1
    have HKL := Lib.hid hkl
    have HS := Lib.hid hs
    have HTK := Lib.hid htk
    have HUL := Lib.hid hul
    have HGET := Lib.hid hget
    have HKN := Lib.hid hk
    have hk1 : k ≤ 1000001 := by omega
    have HKP := Lib.hid hkp
    have HPL := Lib.hid hpl
    have HNN := Lib.hid hnn
    have HY := Lib.hid hY
    clear hv1 hv hu1 hx1 hkl1 hkl hs htk hul hget hk hnn hoy hu hown hcl hpn hY hkp hpl
    gi_wp2_with (gi_at_builtin; refine wpListIn_append_any _ rfl (.tmp 18) (.tmp 20) _ rfl rfl (Bc + 1) 22 i0 _ 1 24 Try.underlying56 hi hz0 hz1 hz2 rfl (by decide) _ _ _ rfl HV1.out (fun _ => True) (some ⟨W.heap.size, 0, none⟩) 1 1 [.slice A1 nn c1] rfl (reads_new W 22 (.slice A1 nn c1)) (fun u hu => by rw [List.mem_singleton.1 hu]; rfl) hmx hmb hbs ?_; intro v2 w2 h2 hg2 _; obtain ⟨A2, d2, rfl, hd2⟩ := own_form h2; have hkl2 : Blk w2 Bc 56 #[.slice Al k cl] := (hg2.block Bc HK1.out.lt fun e => by have := (own_lt HV1.out e.symm).1; omega).trans HK1.out; have c2 := hkl2.cell 0; have z2 := hkl2.frozen 0)
    have hu2 : Upd (fun j => (Value.slice Al k cl).ownBlock = some j ∨ j = Bc) W (w2.setCell ⟨Bc, 0, none⟩ (.slice A2 (k + 1) d2)) := (((Upd.refl (fun j => (Value.slice Al k cl).ownBlock = some j ∨ j = Bc) W).alloc _).grown hg2 (fun k hk => .inl (.inl hk))).setCell (p := ⟨Bc, 0, none⟩) (.inl (.inr rfl)) _
    have hrow2 := Rows8.push (L := Y) (by rw [← HKN.out]; exact h2) (by rw [← HKN.out]; exact HV1.out) HUL.out hg2 HU1.out HX1.out
    have hrow3 : Rows8 (Bc + 1) (w2.setCell ⟨Bc, 0, none⟩ (.slice A2 (k + 1) d2)) (.slice A2 (k + 1) d2) (Y ++ [y]) := hrow2.types (by simp [World.setCell]) (fun j cs hj hb => Below.heap_setCell w2 ⟨Bc, 0, none⟩ _ j (hb.ne_ hkl2 (by decide))) fun j cs hj hb => Below.heap_setCell w2 ⟨Bc, 0, none⟩ _ j (hb.ne_ hkl2 (by decide))
    have epc : pcB (pre ++ [((A1, c1, y) : Pc)]) = Y ++ [y] := by rw [HY.out]; unfold pcB; simp
    refine ⟨keeps_of_cells _ hu2 fun j hj _ => ?_, hu2.same fun j hj hi => ?_, ⟨HS.out.below.trans (hu2.below (fun j hj => ?_) HS.out.below.size), HZO.out, _, hkl2.set_ 0 _, by rw [epc]; exact hrow3⟩, ?_⟩
    · rcases hj with hj | rfl
      · obtain ⟨cs, hb⟩ := own_blk HV.out hj
        exact ⟨_, _, hb⟩
      · exact ⟨_, _, HKL.out⟩
    · rcases hj with hj | hj
      · have := (own_lt HV.out hj).1
        omega
      · omega
    · have := HZO.out
      rcases hj with hj | hj
      · have := (own_lt HV.out hj).1
        omega
      · omega
    · rw [epc, List.length_append, List.length_singleton, List.take_add_one, HGET.out, HTK.out]
      rfl
  case stop =>
    rintro D cd pre W hD hsp hf hK
    exact hf.elim
  case done =>
    rintro D ys W hD hys ⟨hs, htk⟩ hK
    rw [hys, List.take_length] at htk
    rw [htk] at hs
    obtain ⟨lv, hkl, hrow⟩ := hs.ex
    have b0 := hkl.cell 0
    obtain ⟨Al, cl, rfl, hcl⟩ := hrow.form
    have HBW := Lib.hid hs.below
    have HROW := Lib.hid hrow
    have hDl : D < W.heap.size := (Array.getElem?_eq_some_iff.1 hK).1
    have HK := Lib.hid hK
    have hno : ∀ r, some D = some r → ∃ o : Obj, W.heap[r]? = some o ∧ o.isCells = false := fun r e => by cases e; exact ⟨_, HK.out, rfl⟩
    have hfin2 := hrow.own (grownBy_putObj' W D (.deferred none)) hno
    have hBz := hs.below.trans (belowK_b (w := w) (Nat.le_refl _) W D _ (.deferred none) (by have := HZ0.out; have := HZO.out; omega) hK rfl rfl)
    have HF2 := Lib.hid hfin2
    have HBZ := Lib.hid hBz
    clear hfin2 hBz hs hrow hkl htk hK hno hcl
    go_wp2_with fail
    refine ⟨by simp, .inl ⟨_, _, rfl, run_takeDeferred HK.out, ?_⟩⟩
    refine ⟨.tuple #[.slice Al L.length cl, .int .i64 (en : Int)], ?_, .slice Al L.length cl, rfl, ?_, HBZ.out⟩
    · simp [results, Try.f42, go_sem]
    · obtain ⟨us, q1, q2, q3⟩ := HF2.out
      have hle : w.heap.size ≤ Bc + 1 := by have := HZO.out; omega
      exact ⟨us, own_base q1 hle, q2, fun k x hx => by obtain ⟨u, e, r⟩ := q3 k x hx; exact ⟨u, e, own_base r hle⟩⟩
set_option maxRecDepth 100000 in
set_option maxHeartbeats 4000000 in
theorem many_any (A : Option Addr) (n c : Nat) (x : By) (m : Int) (I : Nat → Prop) (w : World) (h : Reads w I 1 A n (bytesV x)) (hn : x.length = n) (hc : n ≤ c) (hsm : n ≤ 1000000) :
    Calls Try.prog 47 #[.slice A n c, .int .i64 m] w fun e w' => e = .returned (.tuple #[.int .i64 ((cutF x m).1.length : Int), .int .i64 ((cutF x m).2 : Int)]) ∧ Below w.heap.size w w' := by
  have HC := Lib.hid (fcut_any A n c x m I w h hn hc hsm)
  obtain ⟨R, hR⟩ : ∃ R, R = cutF x m := ⟨_, rfl⟩
  rw [← hR] at HC ⊢
  obtain ⟨L, en⟩ := R
  clear h hn hc hsm hR
  go_enter Try.func47, Try.ntmps47
  go_wp2_with fail
  refine HC.out.mono ?_
  rintro e w1 ⟨v, rfl, hr, hb⟩
  obtain ⟨A1, c1, rfl, _⟩ := hr.form
  have HB := Lib.hid hb
  clear hr hb
  go_wp2_with fail
  go_ret2
  exact ⟨rfl, HB.out⟩
end Go.Proofs.Ytfddkehnhkfjeaa
