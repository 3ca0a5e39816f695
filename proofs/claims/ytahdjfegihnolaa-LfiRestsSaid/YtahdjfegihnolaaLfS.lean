/- Layer 12: LfiRests' plain law. -/
import Derived.Test.YtahdjfegihnolaaLfR
namespace Go.Proofs.Ytahdjfegihnolaa

def cntO (W : List Tl) (q : Nat) (p : Pf) : Nat := W.countP fun t => t.1 == q && t.2.1 == p
def awO (q : Nat) : Option Le → Nat
  | some x => x.aw q
  | none => 0
theorem cnt_sq (o : List Tl) (q : Nat) (p : Pf) : cntO o q p = (sq (selp o p) q).length := by
  unfold cntO sq selp
  rw [List.length_map, ← List.countP_eq_length_filter, List.countP_map, List.countP_filter]
  congr 1
/-- How the law keeps books of what is not acknowledged yet. -/
def owedDo (W : List Tl) (e : Ev) (o : List Tl) : List Tl :=
  let q := e.port.toNat
  let w := if e.kind = 1 ∨ e.kind = 2 then W.filter fun t => t.1 != q else W
  (if e.kind = 5 then w.eraseP fun t => t.1 == q && t.2.1 == e.p else w) ++ o
structure OI (c : Lc) (W : List Tl) : Prop where
  h : ∀ q p, cntO W q p = awO q (findE c.all p)
theorem aw_look (c : Pc) (x : Le) (q : Nat) : (lookF c x).1.aw q = x.aw q + (sq (tls c x) q).length := by
  rw [sq_tls]
  unfold lookF
  by_cases ha : actF x = true
  · rw [if_pos ha, if_neg (by rw [ha]; simp)]
    rfl
  · rw [if_neg ha]
    by_cases hd : distF c x = x.told
    · rw [if_pos hd, if_neg (fun hh => hh.2.1 hd)]
      rfl
    · rw [if_neg hd]
      show (if q < 8 ∧ c.up q = true then x.aw q + 1 else x.aw q) = _
      by_cases hq : q < 8 ∧ c.up q = true
      · rw [if_pos hq, if_pos ⟨by simpa using ha, hd, hq⟩]; rfl
      · rw [if_neg hq, if_neg (fun hh => hq hh.2.2)]; rfl
theorem EW.out8 {c : Pc} {x : Le} (h : EW c x) (hc : PcOk c) {q : Nat} (hq : ¬ q < 8) : x.aw q = 0 := by
  refine (h.sd q ?_).2
  cases hh : c.up q with
  | false => rfl
  | true => exact absurd (hc.lt q hh) hq
theorem owed_law {c : Lc} (h : LcOk c) {W : List Tl} (hi : OI c W) {e : Ev} {c' : Lc} {o : List Tl} (hd : doF c e = (c', o, 0)) : OI c' (owedDo W e o) := by
  obtain ⟨hok, hw, l, o1, hs, e1, e2, _⟩ := do_parts hd
  obtain ⟨s1, s2, s3, s4, s5⟩ := step_ok h hw hs
  obtain ⟨hp0, hp8⟩ := okE_p hok
  have hp : e.port.toNat < 8 := by omega
  have hpcx : c'.pc = pcX c e := (step_x h hs (0, 0)).1
  have main : ∀ W0 : List Tl, (∀ q p, awO q (stepX c e p (findE c.all p)).1 = cntO W0 q p + (sq (stepX c e p (findE c.all p)).2 q).length) → OI c' (W0 ++ o) := fun W0 h0 => by
    refine ⟨fun q p => ?_⟩
    obtain ⟨x1, x2, x3⟩ := step_x h hs p
    have hc : cntO (W0 ++ o) q p = cntO W0 q p + (sq (selp o p) q).length := by rw [← cnt_sq]; unfold cntO; rw [List.countP_append]
    rw [hc, e2, selp_app, e1]
    have hev := tidy_evt c'.pc c.room p _ l (Nat.le_refl _) s2
    have := (hev.ind (K := fun ox s => (∀ x, ox = some x → EW c'.pc x) ∧ awO q ox = cntO W0 q p + (sq s q).length) (fun x s hk hst => ?_) (fun x s hk _ => ?_) (selp o1 p) ?_).2
    · exact this.symm
    · refine ⟨fun _ hh => (by cases hh), ?_⟩
      unfold staysF at hst
      simp only [Bool.or_eq_false_iff, decide_eq_false_iff_not, Decidable.not_not] at hst
      have h0 : x.aw q = 0 := by
        by_cases hq : q < 8
        · exact act_no hst.1.2 hq
        · exact (hk.1 x rfl).out8 s1 hq
      rw [← hk.2]
      exact h0.symm
    · refine ⟨fun y hy => ?_, ?_⟩
      · injection hy with hy
        rw [← hy]
        exact (look_ok (take_ew (hk.1 x rfl)) s1).toEW
      · rw [sq_app, List.length_append, ← Nat.add_assoc, ← hk.2]
        exact aw_look c'.pc { x with tk := true } q
    · refine ⟨fun x hx => (s3 x (find_mem hx).1).toEW, ?_⟩
      rw [x2, x3]
      exact h0 q p
  have hlk : ∀ (d : Pc) (f : Le → Le) (ox : Option Le) q, awO q (ox.map fun x => (lookF d (f x)).1) = awO q (ox.map f) + (sq (optS (fun x => tls d (f x)) ox) q).length := fun d f ox q => by
    cases ox with
    | none => rfl
    | some x => exact aw_look d (f x) q
  have htl : ∀ (oy : Option Le) q, awO q (oy.map (tellX e.port.toNat)) = awO q oy + (sq (optS (tellS e.port.toNat) oy) q).length := fun oy q => by
    cases oy with
    | none => rfl
    | some y =>
      show (tellX e.port.toNat y).aw q = y.aw q + (sq (tellS e.port.toNat y) q).length
      unfold tellX tellS
      by_cases ht : y.told ≠ 255
      · rw [if_pos ht, if_pos ht]
        show setN y.aw e.port.toNat (y.aw e.port.toNat + 1) q = _
        unfold setN sq
        by_cases hq : q = e.port.toNat
        · subst hq; simp
        · have : (e.port.toNat == q) = false := by rw [beq_eq_false_iff_ne]; exact fun e => hq e.symm
          simp [hq, this]
      · rw [if_neg ht, if_neg ht]
        rfl
  unfold owedDo
  simp only
  by_cases k12 : e.kind = 1 ∨ e.kind = 2
  · rw [if_pos k12, if_neg (by omega)]
    refine main _ fun q p => ?_
    have hW : cntO (W.filter fun t => t.1 != e.port.toNat) q p = if q = e.port.toNat then 0 else cntO W q p := by
      unfold cntO
      rw [List.countP_filter]
      by_cases hq : q = e.port.toNat
      · rw [if_pos hq, List.countP_eq_zero]
        intro t _
        subst hq
        simp only [Bool.and_eq_true, beq_iff_eq, bne_iff_ne]
        exact fun hh => hh.2 hh.1.1
      · rw [if_neg hq]
        refine List.countP_congr fun t _ => ?_
        simp only [Bool.and_eq_true, beq_iff_eq, bne_iff_ne]
        exact ⟨fun hh => hh.1, fun hh => ⟨hh, fun e => hq (hh.1.symm.trans e)⟩⟩
    rw [hW, hi.h]
    have hcut : awO q ((findE c.all p).map (cutE e.port.toNat)) = if q = e.port.toNat then 0 else awO q (findE c.all p) := by
      cases findE c.all p with
      | none => simp [awO]
      | some x => rfl
    unfold stepX
    simp only
    by_cases k1 : e.kind = 1
    · rw [if_pos k1]
      by_cases hu : c.pc.up e.port.toNat = true
      · rw [if_pos hu]
        simp only
        rw [htl, hlk, hcut, sq_app, List.length_append, Nat.add_assoc]
      · rw [if_neg hu]
        simp only
        rw [htl]
        congr 1
        split
        · rename_i hq
          subst hq
          cases hf : findE c.all p with
          | none => rfl
          | some x => exact ((h.e x (find_mem hf).1).sd _ (by simpa using hu)).2
        · rfl
    · have k2 : e.kind = 2 := by omega
      rw [if_neg k1, if_pos k2]
      simp only
      rw [hlk, hcut]
  · rw [if_neg k12]
    have k1 : e.kind ≠ 1 := fun hh => k12 (.inl hh)
    have k2 : e.kind ≠ 2 := fun hh => k12 (.inr hh)
    by_cases k5 : e.kind = 5
    · rw [if_pos k5]
      refine main _ fun q p => ?_
      have hst := hs
      unfold stepE at hst
      simp only at hst
      rw [if_neg k1, if_neg k2, if_neg (by omega), if_neg (by omega)] at hst
      obtain ⟨x, hx, hax⟩ : ∃ x, findE c.all e.p = some x ∧ x.aw e.port.toNat ≠ 0 := by
        split at hst
        · cases hst
        · rename_i x hx
          split at hst
          · cases hst
          · rename_i ha; exact ⟨x, hx, ha⟩
      have hW : cntO (W.eraseP fun t => t.1 == e.port.toNat && t.2.1 == e.p) q p = if q = e.port.toNat ∧ p = e.p then cntO W q p - 1 else cntO W q p := by
        have h1 := hi.h e.port.toNat e.p
        rw [hx] at h1
        have h2 : cntO W e.port.toNat e.p ≠ 0 := by rw [h1]; exact hax
        unfold cntO at h2 ⊢
        by_cases hqp : q = e.port.toNat ∧ p = e.p
        · rw [if_pos hqp]
          obtain ⟨rfl, rfl⟩ := hqp
          have : ∀ L : List Tl, (L.eraseP fun t => t.1 == e.port.toNat && t.2.1 == e.p).countP (fun t => t.1 == e.port.toNat && t.2.1 == e.p) = L.countP (fun t => t.1 == e.port.toNat && t.2.1 == e.p) - 1 := fun L => by
            induction L with
            | nil => rfl
            | cons t L ih =>
              rw [List.eraseP_cons]
              cases ht : (t.1 == e.port.toNat && t.2.1 == e.p) with
              | true => simp [ht]
              | false => simp only [cond_false]; rw [List.countP_cons, List.countP_cons, ih, ht]; simp
          exact this W
        · rw [if_neg hqp]
          have : ∀ L : List Tl, (L.eraseP fun t => t.1 == e.port.toNat && t.2.1 == e.p).countP (fun t => t.1 == q && t.2.1 == p) = L.countP (fun t => t.1 == q && t.2.1 == p) := fun L => by
            induction L with
            | nil => rfl
            | cons t L ih =>
              rw [List.eraseP_cons]
              cases ht : (t.1 == e.port.toNat && t.2.1 == e.p) with
              | true =>
                simp only [cond_true]
                rw [List.countP_cons]
                have : (t.1 == q && t.2.1 == p) = false := by
                  rw [Bool.eq_false_iff]
                  intro hh
                  simp only [Bool.and_eq_true, beq_iff_eq] at ht hh
                  exact hqp ⟨hh.1.symm.trans ht.1, hh.2.symm.trans ht.2⟩
                rw [this]; simp
              | false => simp only [cond_false]; rw [List.countP_cons, List.countP_cons, ih]
          exact this W
      rw [hW, hi.h]
      unfold stepX
      simp only
      rw [if_neg k1, if_neg k2, if_neg (by omega)]
      by_cases hpe : p = e.p
      · subst hpe
        rw [if_neg (fun hh => hh rfl), if_neg (by omega), hlk, hx]
        simp only
        congr 1
        show setN x.aw e.port.toNat (x.aw e.port.toNat - 1) q = _
        unfold setN
        by_cases hq : q = e.port.toNat
        · subst hq; simp [awO]
        · simp [awO, hq]
      · rw [if_pos hpe, if_neg (fun hh => hpe hh.2)]
        rfl
    · rw [if_neg k5]
      refine main _ fun q p => ?_
      rw [hi.h]
      unfold stepX
      simp only
      rw [if_neg k1, if_neg k2]
      by_cases k3 : e.kind = 3
      · rw [if_pos k3]
        have := hlk ⟨c.pc.up, setAt c.pc.cost e.port.toNat e.cost⟩ id (findE c.all p) q
        simpa using this
      · rw [if_neg k3]
        by_cases hpe : p = e.p
        · have k4 : e.kind = 4 := by
            by_cases hk4 : e.kind = 4
            · exact hk4
            · exact absurd (okE_ack hok k1 k2 k3 hk4).1 k5
          rw [if_neg (fun hh => hh hpe), if_pos k4]
          show (lookF c.pc _).1.aw q = _
          rw [aw_look]
          congr 1
          cases findE c.all p <;> rfl
        · rw [if_pos hpe]
          rfl
def sum8 (f : Nat → Nat) : Nat := ((List.range 8).map f).sum
def phi (c : Pc) (x : Le) : Nat := sum8 x.aw + (if x.tk = false then 8 else 0) + (if actF x = true ∧ distF c x ≠ x.told then 8 else 0)
def Phi (c : Pc) (l : List Le) : Nat := (l.map (phi c)).sum
theorem sum8_le {f : Nat → Nat} (h : ∀ q, f q ≤ 1) : sum8 f ≤ 8 := by
  have := h 0; have := h 1; have := h 2; have := h 3; have := h 4; have := h 5; have := h 6; have := h 7
  unfold sum8
  simp [List.range, List.range.loop]
  omega
theorem sum8_zero {f : Nat → Nat} (h : ∀ q, q < 8 → f q = 0) : sum8 f = 0 := by
  unfold sum8
  simp [List.range, List.range.loop, h]
theorem phi_look {c : Pc} {x : Le} (hw : EW c x) (hc : PcOk c) : phi c (lookF c x).1 ≤ (if actF x = true then phi c x else if distF c x = x.told then phi c x else 8) := by
  have hok := look_ok hw hc
  have hdist : distF c (lookF c x).1 = distF c x := by
    obtain ⟨a1, a2, _, a4⟩ := lookF_tk c x
    unfold distF
    rw [a1, a2, a4]
  by_cases ha : actF x = true
  · rw [if_pos ha]
    unfold phi
    rw [hdist]
    unfold lookF
    rw [if_pos ha]
    exact Nat.le_refl _
  · rw [if_neg ha]
    have ha' : actF x = false := by simpa using ha
    by_cases hd : distF c x = x.told
    · rw [if_pos hd]
      unfold phi
      rw [hdist]
      unfold lookF
      rw [if_neg ha, if_pos hd]
      exact Nat.le_refl _
    · rw [if_neg hd]
      have htk : x.tk = true := by
        cases ht : x.tk with
        | true => rfl
        | false =>
          have h1 := (hw.un ht).1
          have ho : x.own = false := by
            cases hoo : x.own with
            | false => rfl
            | true => have := hw.own hoo; rw [ht] at this; cases this
          have : distF c x = 255 := by unfold distF; rw [ho, if_neg (by simp), if_pos ht]
          omega
      have h3 : (lookF c x).1.told = distF c x := by unfold lookF; rw [if_neg ha, if_neg hd]
      unfold phi
      rw [(lookF_tk c x).1, htk, hdist, h3, if_neg (by simp), if_neg (by simp)]
      exact sum8_le hok.aw
theorem Phi_filter (c : Pc) (g : Le → Bool) : ∀ l : List Le, Phi c (l.filter g) ≤ Phi c l
  | [] => Nat.le_refl _
  | x :: l => by
    have ih := Phi_filter c g l
    rw [List.filter_cons]
    unfold Phi at ih ⊢
    split
    · rw [List.map_cons, List.map_cons, List.sum_cons, List.sum_cons]; omega
    · rw [List.map_cons, List.sum_cons]; omega
theorem Phi_take {c : Pc} (hc : PcOk c) (room : Int) : ∀ (l : List Le) (n : Nat), (∀ x ∈ l, EOk c x) → Phi c (takeR c room n l).1 ≤ Phi c l
  | [], _, _ => Nat.le_refl _
  | x :: l, n, h => by
    have hx := h x (List.mem_cons_self ..)
    have h2 : ∀ x ∈ l, EOk c x := fun x hx => h x (List.mem_cons_of_mem _ hx)
    unfold takeR
    by_cases hh : x.tk = false ∧ (n : Int) < room
    · rw [if_pos hh]
      have ih := Phi_take hc room l (n + 1) h2
      have hp := phi_look (take_ew hx.toEW) hc
      have h0 := (hx.un hh.1).2
      have ha : actF x = false := act_of fun q _ => h0 q
      have ha2 : actF { x with tk := true } = false := ha
      have h1 : phi c { x with tk := true } ≤ 8 := by
        unfold phi
        rw [ha2, if_neg (by simp), if_neg (by simp)]
        have := sum8_le (f := x.aw) hx.aw
        show sum8 x.aw + 0 + 0 ≤ 8
        omega
      have h3 : phi c (lookF c { x with tk := true }).1 ≤ 8 := by
        rw [if_neg (by rw [ha2]; simp)] at hp
        split at hp <;> omega
      have h4 : 8 ≤ phi c x := by unfold phi; rw [if_pos hh.1]; omega
      unfold Phi at ih ⊢
      simp only [List.map_cons, List.sum_cons]
      omega
    · rw [if_neg hh]
      have ih := Phi_take hc room l n h2
      unfold Phi at ih ⊢
      simp only [List.map_cons, List.sum_cons]
      omega
theorem Phi_tidy {c : Pc} (hc : PcOk c) {room : Int} : ∀ (m : Nat) (l : List Le), l.length + untk l ≤ m → (∀ x ∈ l, EOk c x) → Phi c (tidyW c room l).1 ≤ Phi c l
  | m, l, hm, h => by
    have h1 : ∀ x ∈ l.filter staysF, EOk c x := fun x hx => h x (List.mem_filter.1 hx).1
    obtain ⟨d1, d2⟩ := takeR_len c room (l.filter staysF) (cntT (l.filter staysF))
    have d3 := untk_filter l
    have d4 := List.length_filter_le staysF l
    rw [tidyW]
    unfold stayL
    split
    · exact Nat.le_refl _
    · rename_i hh
      match m with
      | 0 => omega
      | m + 1 =>
        have := Phi_tidy hc (room := room) m (takeR c room (cntT (l.filter staysF)) (l.filter staysF)).1 (by omega) (takeR_ok hc room _ _ h1)
        exact Nat.le_trans this (Nat.le_trans (Phi_take hc room _ _ h1) (Phi_filter c _ l))
theorem Phi_le {c : Pc} {l : List Le} (h : ∀ x ∈ l, EOk c x) : Phi c l ≤ 16 * l.length := by
  induction l with
  | nil => exact Nat.le_refl _
  | cons x l ih =>
    have hx := h x (List.mem_cons_self ..)
    have := ih fun y hy => h y (List.mem_cons_of_mem _ hy)
    have h8 := sum8_le (f := x.aw) hx.aw
    have : phi c x ≤ 16 := by
      unfold phi
      cases ht : x.tk with
      | false =>
        have h0 := (hx.un ht).2
        rw [act_of fun q _ => h0 q, if_pos rfl, if_neg (by simp)]
        omega
      | true =>
        rw [if_neg (by simp)]
        split <;> omega
    unfold Phi at *
    rw [List.map_cons, List.sum_cons, List.length_cons]
    omega
theorem Phi_turn {c : Pc} {p : Pf} {f : Le → Le} : ∀ {l : List Le}, sortedL l → ∀ {x}, findE l p = some x → Phi c (turnE l p f) + phi c x = Phi c l + phi c (f x)
  | [], _, _, h => by cases h
  | y :: l, hs, x, h => by
    obtain ⟨h1, h2⟩ := sorted_tail hs
    rw [find_cons] at h
    unfold turnE Phi
    simp only [List.map_cons, List.sum_cons]
    by_cases hy : y.p = p
    · rw [if_pos hy] at h
      injection h with h
      subst h
      rw [if_pos hy]
      have : (l.map fun x => if x.p = p then f x else x) = l := by
        refine (List.map_congr_left fun z hz => ?_).trans (List.map_id' l)
        rw [if_neg]
        rw [← hy]
        exact find_none h2 z hz
      rw [this]
      omega
    · rw [if_neg hy] at h ⊢
      have ih := Phi_turn (c := c) (f := f) h1 h
      unfold turnE Phi at ih
      omega
theorem sum8_set {f : Nat → Nat} {q : Nat} (hq : q < 8) (h : f q = 1) : sum8 (setN f q (f q - 1)) + 1 = sum8 f := by
  unfold sum8 setN
  rcases (by omega : q = 0 ∨ q = 1 ∨ q = 2 ∨ q = 3 ∨ q = 4 ∨ q = 5 ∨ q = 6 ∨ q = 7) with rfl | rfl | rfl | rfl | rfl | rfl | rfl | rfl <;> simp [List.range, List.range.loop, h] <;> omega
/-- An acknowledgement of the first update that is owed. -/
theorem ack_law {c : Lc} (h : LcOk c) {W : List Tl} (hi : OI c W) {t : Tl} (ht : t ∈ W) : ∃ c' o, doF c ⟨5, t.1, 0, t.2.1, 0⟩ = (c', o, 0) ∧ Phi c'.pc c'.all + 1 ≤ Phi c.pc c.all := by
  have h1 := hi.h t.1 t.2.1
  have h2 : cntO W t.1 t.2.1 ≠ 0 := by
    unfold cntO
    have := List.countP_pos_iff (p := fun u : Tl => u.1 == t.1 && u.2.1 == t.2.1) (l := W)
    have := this.2 ⟨t, ht, by simp⟩
    omega
  rw [h1] at h2
  obtain ⟨x, hx⟩ : ∃ x, findE c.all t.2.1 = some x := by
    cases hf : findE c.all t.2.1 with
    | none => rw [hf] at h2; exact absurd rfl h2
    | some x => exact ⟨x, rfl⟩
  rw [hx] at h2
  have ha : x.aw t.1 ≠ 0 := h2
  obtain ⟨hm, hxp⟩ := find_mem hx
  have he := h.e x hm
  have hup : c.pc.up t.1 = true := by
    cases hh : c.pc.up t.1 with
    | true => rfl
    | false => exact absurd (he.sd _ hh).2 ha
  have hq8 := h.pc.lt _ hup
  have ha1 : x.aw t.1 = 1 := by have := he.aw t.1; omega
  have hmay : mayP t.2.1 = true := by rw [← hxp]; exact he.may
  have hok : okE ⟨5, (t.1 : Int), 0, t.2.1, 0⟩ = true := by
    unfold okE
    simp [hmay]
    omega
  have hw : wrongF c.pc ⟨5, (t.1 : Int), 0, t.2.1, 0⟩ = 0 := by
    unfold wrongF
    rw [hok, if_neg (by simp), if_neg]
    simp [hup]
  have hs : stepE c ⟨5, (t.1 : Int), 0, t.2.1, 0⟩ = .inl (c.pc, turnE c.all t.2.1 fun x => (lookF c.pc (ackF t.1 x)).1, outE c.all t.2.1 fun x => (lookF c.pc (ackF t.1 x)).2) := by
    unfold stepE
    simp only [Int.toNat_natCast]
    rw [if_neg (by omega), if_neg (by omega), if_neg (by omega), if_neg (by omega), hx]
    simp only
    rw [if_neg ha]
  obtain ⟨s1, s2, s3, s4, s5⟩ := step_ok h hw hs
  refine ⟨_, _, by unfold doF; rw [if_neg (by simpa using hw), hs], ?_⟩
  simp only
  have hT := Phi_tidy h.pc (room := c.room) _ _ (Nat.le_refl _) s3
  have hturn := Phi_turn (c := c.pc) (f := fun x => (lookF c.pc (ackF t.1 x)).1) h.srt hx
  have hew : EW c.pc (ackF t.1 x) := ack_ew he.toEW t.1
  have hl := phi_look hew h.pc
  have hxact : actF x = true := (act_iff x).2 ⟨t.1, hq8, ha⟩
  have htk : x.tk = true := by
    cases hh : x.tk with
    | true => rfl
    | false => exact absurd ((he.un hh).2 t.1) ha
  have hsum := sum8_set (f := x.aw) hq8 ha1
  have hdist : distF c.pc (ackF t.1 x) = distF c.pc x := rfl
  have hlt : phi c.pc (lookF c.pc (ackF t.1 x)).1 + 1 ≤ phi c.pc x := by
    have hps : phi c.pc x = sum8 x.aw + (if distF c.pc x ≠ x.told then 8 else 0) := by
      unfold phi
      rw [htk, hxact]
      simp
    have hpa : phi c.pc (ackF t.1 x) = sum8 (setN x.aw t.1 (x.aw t.1 - 1)) + (if actF (ackF t.1 x) = true ∧ distF c.pc x ≠ x.told then 8 else 0) := by
      unfold phi
      show sum8 (setN x.aw t.1 (x.aw t.1 - 1)) + (if x.tk = false then 8 else 0) + _ = _
      rw [htk]
      simp only [if_neg (show ¬ (true = false) by simp), Nat.add_zero]
      rfl
    rw [hps]
    have h9 : (ackF t.1 x).told = x.told := rfl
    by_cases hb : actF (ackF t.1 x) = true
    · rw [if_pos hb, hpa] at hl
      by_cases hdt : distF c.pc x ≠ x.told
      · rw [if_pos ⟨hb, hdt⟩] at hl
        rw [if_pos hdt]
        omega
      · rw [if_neg (fun hh => hdt hh.2)] at hl
        rw [if_neg hdt]
        omega
    · rw [if_neg hb, hdist, h9] at hl
      by_cases hdt : distF c.pc x = x.told
      · rw [if_pos hdt, hpa, if_neg (fun hh => hb hh.1)] at hl
        rw [if_neg (fun hh => hh hdt)]
        omega
      · rw [if_neg hdt] at hl
        rw [if_pos hdt]
        omega
  have hT' : Phi c.pc (tidyW c.pc c.room (turnE c.all t.2.1 fun x => (lookF c.pc (ackF t.1 x)).1)).1 ≤ Phi c.pc (turnE c.all t.2.1 fun x => (lookF c.pc (ackF t.1 x)).1) := hT
  omega
theorem do_len {c : Lc} (h : LcOk c) {e : Ev} : (doF c e).1.all.length ≤ c.all.length + 1 := by
  unfold doF
  by_cases hw : wrongF c.pc e = 0
  · rw [if_neg (by simpa using hw)]
    cases hs : stepE c e with
    | inr n => exact Nat.le_succ _
    | inl r =>
      obtain ⟨pc, l, o⟩ := r
      obtain ⟨s1, s2, s3, s4, s5⟩ := step_ok h hw hs
      obtain ⟨t1, t2, _⟩ := tidy_ok s1 (l.length + untk l) l (Nat.le_refl _) s3 s5
      have hl := t2.length_le
      simp only [List.length_map] at hl
      refine Nat.le_trans hl ?_
      clear t1 t2 hl s1 s2 s3 s4 s5
      unfold stepE at hs
      simp only at hs
      split at hs
      · injection hs with hs
        simp only [Prod.mk.injEq] at hs
        obtain ⟨_, rfl, _⟩ := hs
        unfold tellUp portDownF lookAllF
        split <;> simp
      split at hs
      · injection hs with hs
        simp only [Prod.mk.injEq] at hs
        obtain ⟨_, hs⟩ := hs
        have : l = (portDownF c.pc c.all e.port.toNat).1 := by rw [hs]
        rw [this]
        unfold portDownF lookAllF
        simp
      split at hs
      · injection hs with hs
        simp only [Prod.mk.injEq, lookAllF] at hs
        obtain ⟨_, rfl, _⟩ := hs
        simp
      split at hs
      · split at hs
        · cases hs
        injection hs with hs
        simp only [Prod.mk.injEq] at hs
        obtain ⟨_, rfl, _⟩ := hs
        unfold turnE
        rw [List.length_map]
        split
        · rw [insE_len]; exact Nat.le_refl _
        · exact Nat.le_succ _
      · split at hs
        · cases hs
        split at hs
        · cases hs
        injection hs with hs
        simp only [Prod.mk.injEq] at hs
        obtain ⟨_, rfl, _⟩ := hs
        unfold turnE
        simp
  · rw [if_pos hw]
    exact Nat.le_succ _
end Go.Proofs.Ytahdjfegihnolaa
