/- Layer 12: LfiHeld's plain law. -/
import Derived.Test.YtahdjfegihnolaaLfQ
namespace Go.Proofs.Ytahdjfegihnolaa

abbrev Held := Nat → Pf → List Int
def hv (l : List Int) : List Int := if l = [] then [255] else l
def tellH (H : Held) (t : Tl) : Held := fun q p => if q = t.1 ∧ p = t.2.1 then hv (H q p) ++ [t.2.2] else H q p
def tellsH (H : Held) (o : List Tl) : Held := o.foldl tellH H
def sq (s : List (Nat × Int)) (q : Nat) : List Int := (s.filter fun t => t.1 == q).map (·.2)
theorem sq_app (a b : List (Nat × Int)) (q : Nat) : sq (a ++ b) q = sq a q ++ sq b q := by unfold sq; rw [List.filter_append, List.map_append]
theorem hv_ne {l : List Int} (h : l ≠ []) : hv l = l := by unfold hv; rw [if_neg h]
theorem tells_hv (q : Nat) (p : Pf) : ∀ (o : List Tl) (H : Held), hv (tellsH H o q p) = hv (H q p) ++ sq (selp o p) q
  | [], H => by unfold tellsH; simp [selp_nil, sq]
  | t :: o, H => by
    have ih := tells_hv q p o (tellH H t)
    have e1 : tellsH H (t :: o) = tellsH (tellH H t) o := rfl
    rw [e1, ih]
    have e2 : selp (t :: o) p = selp [t] p ++ selp o p := by rw [← selp_app]; rfl
    rw [e2, sq_app, ← List.append_assoc]
    congr 1
    unfold tellH selp sq
    by_cases h1 : p = t.2.1
    · by_cases h2 : q = t.1
      · subst h1 h2
        rw [if_pos ⟨rfl, rfl⟩, hv_ne (by simp)]
        simp
      · rw [if_neg (fun h => h2 h.1)]
        subst h1
        have : (t.1 == q) = false := by rw [beq_eq_false_iff_ne]; exact fun e => h2 e.symm
        simp [this]
    · rw [if_neg (fun h => h1 h.2)]
      have : (t.2.1 == p) = false := by rw [beq_eq_false_iff_ne]; exact fun e => h1 e.symm
      simp [this]
/-- What was told of an entry to a port: the last one is what is told; one ahead of it is not acknowledged. -/
def Hx (q : Nat) (ox : Option Le) (L : List Int) : Prop :=
  match ox with
  | some x => (x.aw q = 0 ∧ L = [x.told]) ∨ (x.aw q = 1 ∧ ∃ v, L = [v, x.told] ∧ x.feas ≤ v)
  | none => L = [255]
theorem range_filter_eq {n q : Nat} : (List.range n).filter (fun a => a == q) = if q < n then [q] else [] := by
  induction n with
  | zero => simp
  | succ n ih =>
    rw [List.range_succ, List.filter_append, ih]
    by_cases h : n = q
    · subst h
      simp
    · have : (n == q) = false := by rw [beq_eq_false_iff_ne]; exact h
      simp only [List.filter_cons, this, List.filter_nil, Bool.false_eq_true, if_false, List.append_nil]
      by_cases h1 : q < n
      · rw [if_pos h1, if_pos (by omega)]
      · rw [if_neg h1, if_neg (by omega)]
theorem sq_tls (c : Pc) (x : Le) (q : Nat) : sq (tls c x) q = if actF x = false ∧ distF c x ≠ x.told ∧ q < 8 ∧ c.up q = true then [distF c x] else [] := by
  unfold tls
  by_cases hh : actF x = false ∧ distF c x ≠ x.told
  · rw [if_pos hh]
    have e : sq ((upsF c).map fun q => (q, distF c x)) q = if q < 8 ∧ c.up q = true then [distF c x] else [] := by
      unfold sq upsF
      rw [List.filter_map, List.map_map, List.filter_filter]
      have e : (List.range 8).filter (fun a => ((fun t : Nat × Int => t.1 == q) ∘ fun q => (q, distF c x)) a && c.up a) = ((List.range 8).filter (fun a => a == q)).filter c.up := by
        rw [List.filter_filter]
        refine List.filter_congr fun a _ => ?_
        simp [Bool.and_comm]
      rw [e, range_filter_eq]
      by_cases hq : q < 8
      · rw [if_pos hq]
        by_cases hu : c.up q = true
        · rw [if_pos ⟨hq, hu⟩]; simp [hu]
        · rw [if_neg (fun h => hu h.2)]; simp [hu]
      · rw [if_neg hq, if_neg (fun h => hq h.1)]
        rfl
    rw [e]
    by_cases hq : q < 8 ∧ c.up q = true
    · rw [if_pos hq, if_pos ⟨hh.1, hh.2, hq⟩]
    · rw [if_neg hq, if_neg (fun h => hq h.2.2)]
  · rw [if_neg hh, if_neg (fun h => hh ⟨h.1, h.2.1⟩)]
    rfl
theorem Hx.look {c : Pc} (hc : PcOk c) {x : Le} {q : Nat} (hq : c.up q = true) {L : List Int} (h : Hx q (some x) L) : Hx q (some (lookF c x).1) (L ++ sq (tls c x) q) := by
  have hq8 := hc.lt q hq
  rw [sq_tls]
  unfold lookF
  by_cases ha : actF x = true
  · rw [if_pos ha, if_neg (by rw [ha]; simp), List.append_nil]
    rcases h with ⟨h1, h2⟩ | ⟨h1, v, h2, h3⟩
    · exact .inl ⟨h1, h2⟩
    · refine .inr ⟨h1, v, h2, ?_⟩
      show min x.feas (distF c x) ≤ v
      omega
  · rw [if_neg ha]
    have ha' : actF x = false := by simpa using ha
    have h0 := act_no ha' hq8
    have hL : L = [x.told] := by
      rcases h with ⟨_, h2⟩ | ⟨h1, _⟩
      · exact h2
      · omega
    by_cases hd : distF c x = x.told
    · rw [if_pos hd, if_neg (fun hh => hh.2.1 hd), List.append_nil]
      exact .inl ⟨h0, hL⟩
    · rw [if_neg hd, if_pos (show actF x = false ∧ distF c x ≠ x.told ∧ q < 8 ∧ c.up q = true from ⟨ha', hd, hq8, hq⟩)]
      dsimp only
      have hu : upsF c ≠ [] := fun e => by have := mem_ups.2 ⟨hq8, hq⟩; rw [e] at this; cases this
      refine .inr ⟨?_, x.told, by rw [hL]; rfl, ?_⟩
      · show (if q < 8 ∧ c.up q = true then x.aw q + 1 else x.aw q) = 1
        rw [if_pos ⟨hq8, hq⟩, h0]
      · show (if upsF c = [] then distF c x else min x.told (distF c x)) ≤ x.told
        rw [if_neg hu]
        omega
structure HI (c : Lc) (H : Held) : Prop where
  h : ∀ q, c.pc.up q = true → ∀ p, Hx q (findE c.all p) (hv (H q p))
/-- How the law keeps books; none: an acknowledgement without an update. -/
def heldDo (H : Held) (e : Ev) (o : List Tl) : Option Held :=
  let q := e.port.toNat
  if e.kind = 1 ∨ e.kind = 2 then some (tellsH (fun r p => if r = q then [] else H r p) o)
  else if e.kind = 5 then
    if (H q e.p).length < 2 then none else some (tellsH (fun r p => if r = q ∧ p = e.p then (H r p).tail else H r p) o)
  else some (tellsH H o)
theorem held_law {c : Lc} (h : LcOk c) {H : Held} (hi : HI c H) {e : Ev} {c' : Lc} {o : List Tl} (hd : doF c e = (c', o, 0)) : ∃ H', heldDo H e o = some H' ∧ HI c' H' := by
  obtain ⟨hok, hw, l, o1, hs, e1, e2, _⟩ := do_parts hd
  obtain ⟨s1, s2, s3, s4, s5⟩ := step_ok h hw hs
  obtain ⟨hp0, hp8⟩ := okE_p hok
  have hp : e.port.toNat < 8 := by omega
  have hup : e.kind ≠ 1 → c.pc.up e.port.toNat = true := fun hk => by
    unfold wrongF at hw
    rw [hok, if_neg (by simp)] at hw
    cases hh : c.pc.up e.port.toNat with
    | true => rfl
    | false => rw [hh, if_pos ⟨hk, rfl⟩] at hw; cases hw
  -- it is enough to know how it stands ahead of the tidying
  have main : ∀ H0 : Held, (∀ q, c'.pc.up q = true → ∀ p, Hx q (stepX c e p (findE c.all p)).1 (hv (H0 q p) ++ sq (stepX c e p (findE c.all p)).2 q)) → HI c' (tellsH H0 o) := fun H0 h0 => by
    refine ⟨fun q hq p => ?_⟩
    obtain ⟨x1, x2, x3⟩ := step_x h hs p
    rw [tells_hv, e2, selp_app, e1]
    have hev := tidy_evt c'.pc c.room p _ l (Nat.le_refl _) s2
    refine hev.ind (K := fun ox s => Hx q ox (hv (H0 q p) ++ sq s q)) (fun x s hk hst => ?_) (fun x s hk _ => ?_) _ ?_
    · unfold staysF at hst
      simp only [Bool.or_eq_false_iff, decide_eq_false_iff_not, Decidable.not_not] at hst
      have ha := act_no hst.1.2 (s1.lt q hq)
      rcases hk with ⟨_, hL⟩ | ⟨h1, _⟩
      · show _ = _
        rw [hL, hst.1.1.2]
      · omega
    · rw [sq_app, ← List.append_assoc]
      have hk' : Hx q (some { x with tk := true }) (hv (H0 q p) ++ sq s q) := hk
      exact hk'.look s1 hq
    · rw [x2, x3]
      exact h0 q hq p
  have hnil : ∀ (s : List (Nat × Int)) q, (∀ t ∈ s, t.1 ≠ q) → sq s q = [] := fun s q hh => by
    unfold sq
    rw [List.map_eq_nil_iff, List.filter_eq_nil_iff]
    intro t ht
    have := hh t ht
    simpa using this
  have htell : ∀ (x : Le) q, q ≠ e.port.toNat → sq (tellS e.port.toNat x) q = [] := fun x q hq => hnil _ _ fun t ht => by
    unfold tellS at ht
    split at ht
    · rw [List.mem_singleton.1 ht]; exact fun e => hq e.symm
    · cases ht
  have hxt : ∀ (x : Le) q L, q ≠ e.port.toNat → Hx q (some x) L → Hx q (some (tellX e.port.toNat x)) L := fun x q L hq hx => by
    unfold tellX
    split
    · have : setN x.aw e.port.toNat (x.aw e.port.toNat + 1) q = x.aw q := by unfold setN; rw [if_neg hq]
      rcases hx with ⟨a1, a2⟩ | ⟨a1, a2⟩
      · exact .inl ⟨this.trans a1, a2⟩
      · exact .inr ⟨this.trans a1, a2⟩
    · exact hx
  have hxc : ∀ (x : Le) q L, q ≠ e.port.toNat → Hx q (some x) L → Hx q (some (cutE e.port.toNat x)) L := fun x q L hq hx => by
    have : setN x.aw e.port.toNat 0 q = x.aw q := by unfold setN; rw [if_neg hq]
    rcases hx with ⟨a1, a2⟩ | ⟨a1, a2⟩
    · exact .inl ⟨this.trans a1, a2⟩
    · exact .inr ⟨this.trans a1, a2⟩
  have hnew : ∀ (d : Pc) (y : Le), EOk d y → y.aw e.port.toNat = 0 → Hx e.port.toNat (some (tellX e.port.toNat y)) ([255] ++ sq (tellS e.port.toNat y) e.port.toNat) := fun d y hy h0 => by
    unfold tellX tellS
    by_cases ht : y.told ≠ 255
    · rw [if_pos ht, if_pos ht]
      refine .inr ⟨?_, 255, ?_, ?_⟩
      · show setN y.aw e.port.toNat (y.aw e.port.toNat + 1) e.port.toNat = 1
        unfold setN; rw [if_pos rfl, h0]
      · simp [sq]
      · show y.feas ≤ 255
        have := hy.f.2
        have := hy.t.2
        omega
    · rw [if_neg ht, if_neg ht]
      refine .inl ⟨h0, ?_⟩
      have : y.told = 255 := by simpa using ht
      simp [sq, this]
  have hpcx : c'.pc = pcX c e := (step_x h hs (0, 0)).1
  unfold heldDo
  simp only
  by_cases k12 : e.kind = 1 ∨ e.kind = 2
  · rw [if_pos k12]
    refine ⟨_, rfl, main _ fun q hq p => ?_⟩
    have hH0 : ∀ q, q ≠ e.port.toNat → (if q = e.port.toNat then [] else H q p) = H q p := fun q hq => if_neg hq
    unfold stepX
    simp only
    by_cases k1 : e.kind = 1
    · rw [if_pos k1]
      have hback : ∀ (d : Pc), q ≠ e.port.toNat → (upF d e.port.toNat e.cost).up q = true → d.up q = true := fun d hq h => by unfold upF setB at h; simp only [if_neg hq] at h; exact h
      by_cases hu : c.pc.up e.port.toNat = true
      · rw [if_pos hu]
        have hcu : q ≠ e.port.toNat → (downF c.pc e.port.toNat).up q = true := fun hne => by
          rw [hpcx] at hq
          unfold pcX at hq
          rw [if_pos k1, if_pos hu] at hq
          exact hback _ hne hq
        by_cases hqe : q = e.port.toNat
        · subst hqe
          rw [if_pos rfl]
          cases hf : findE c.all p with
          | none => simp [Hx, hv, optS, sq]
          | some x =>
            obtain ⟨hm, _⟩ := find_mem hf
            have hz : sq (tls (downF c.pc e.port.toNat) (cutE e.port.toNat x)) e.port.toNat = [] := by
              rw [sq_tls, if_neg]
              rintro ⟨_, _, _, hh⟩
              unfold downF setB at hh
              simp at hh
            have hlk := look_ok (cut_ew (h.e x hm).toEW e.port.toNat) (pc_down h.pc e.port.toNat)
            have haw : (lookF (downF c.pc e.port.toNat) (cutE e.port.toNat x)).1.aw e.port.toNat = 0 := (hlk.sd e.port.toNat (by unfold downF setB; simp)).2
            have := hnew _ _ hlk haw
            show Hx _ _ (hv [] ++ sq (tls (downF c.pc e.port.toNat) (cutE e.port.toNat x) ++ tellS e.port.toNat _) e.port.toNat)
            rw [sq_app, hz, List.nil_append]
            exact this
        · rw [if_neg hqe]
          have hcq : c.pc.up q = true := by
            have := hcu hqe
            unfold downF setB at this
            simp only [if_neg hqe] at this
            exact this
          have hx0 := hi.h q hcq p
          cases hf : findE c.all p with
          | none => rw [hf] at hx0; show _ = _; simp only [optS, Option.map_none, List.append_nil]; simpa [sq, Hx] using hx0
          | some x =>
            rw [hf] at hx0
            have h1 := (hxc x q _ hqe hx0).look (pc_down h.pc e.port.toNat) (hcu hqe)
            have h2 := hxt _ q _ hqe h1
            show Hx _ _ (hv (H q p) ++ sq (tls (downF c.pc e.port.toNat) (cutE e.port.toNat x) ++ tellS e.port.toNat _) q)
            rw [sq_app, htell _ q hqe, List.append_nil]
            exact h2
      · rw [if_neg hu]
        have hu' : c.pc.up e.port.toNat = false := by simpa using hu
        by_cases hqe : q = e.port.toNat
        · subst hqe
          rw [if_pos rfl]
          cases hf : findE c.all p with
          | none => simp [Hx, hv, optS, sq]
          | some x =>
            obtain ⟨hm, _⟩ := find_mem hf
            exact hnew _ x (h.e x hm) ((h.e x hm).sd _ hu').2
        · rw [if_neg hqe]
          have hcq : c.pc.up q = true := by
            rw [hpcx] at hq
            unfold pcX at hq
            rw [if_pos k1, if_neg hu] at hq
            exact hback _ hqe hq
          have hx0 := hi.h q hcq p
          cases hf : findE c.all p with
          | none => rw [hf] at hx0; show _ = _; simp only [optS]; simpa [sq, Hx] using hx0
          | some x =>
            rw [hf] at hx0
            show Hx _ _ (hv (H q p) ++ sq (tellS e.port.toNat x) q)
            rw [htell _ q hqe, List.append_nil]
            exact hxt _ q _ hqe hx0
    · have k2 : e.kind = 2 := by omega
      rw [if_neg k1, if_pos k2]
      rw [hpcx] at hq
      unfold pcX at hq
      rw [if_neg k1, if_pos k2] at hq
      have hqe : q ≠ e.port.toNat := by
        rintro rfl
        unfold downF setB at hq
        simp at hq
      rw [if_neg hqe]
      have hcq : c.pc.up q = true := by
        have := hq
        unfold downF setB at this
        simp only [if_neg hqe] at this
        exact this
      have hx0 := hi.h q hcq p
      cases hf : findE c.all p with
      | none => rw [hf] at hx0; show _ = _; simp only [optS]; simpa [sq, Hx] using hx0
      | some x =>
        rw [hf] at hx0
        exact (hxc x q _ hqe hx0).look (pc_down h.pc e.port.toNat) hq
  · rw [if_neg k12]
    have k1 : e.kind ≠ 1 := fun hh => k12 (.inl hh)
    have k2 : e.kind ≠ 2 := fun hh => k12 (.inr hh)
    have hcx : c'.pc.up = c.pc.up := by
      rw [hpcx]
      unfold pcX
      rw [if_neg k1, if_neg k2]
      split <;> rfl
    by_cases k5 : e.kind = 5
    · rw [if_pos k5]
      have hst := hs
      unfold stepE at hst
      simp only at hst
      rw [if_neg k1, if_neg k2, if_neg (by omega), if_neg (by omega)] at hst
      obtain ⟨x, hx, hax⟩ : ∃ x, findE c.all e.p = some x ∧ x.aw e.port.toNat ≠ 0 := by
        split at hst
        · cases hst
        · rename_i x hx
          split at hst
          · cases hst
          · rename_i ha; exact ⟨x, hx, ha⟩
      have hxe := hi.h e.port.toNat (hup k1) e.p
      rw [hx] at hxe
      have hL : ∃ v, H e.port.toNat e.p = [v, x.told] ∧ x.aw e.port.toNat = 1 := by
        rcases hxe with ⟨a1, _⟩ | ⟨a1, v, a2, _⟩
        · exact absurd a1 hax
        · refine ⟨v, ?_, a1⟩
          unfold hv at a2
          split at a2
          · cases a2
          · exact a2
      obtain ⟨v, hL, ha1⟩ := hL
      rw [if_neg (by rw [hL]; simp)]
      refine ⟨_, rfl, main _ fun q hq p => ?_⟩
      rw [hcx] at hq
      have hx0 := hi.h q hq p
      unfold stepX
      simp only
      rw [if_neg k1, if_neg k2, if_neg (by omega)]
      by_cases hpe : p = e.p
      · subst hpe
        rw [if_neg (fun hh => hh rfl), if_neg (by omega), hx]
        rw [hx] at hx0
        have hstep : Hx q (some (ackF e.port.toNat x)) (hv (if q = e.port.toNat ∧ e.p = e.p then (H q e.p).tail else H q e.p)) := by
          by_cases hqe : q = e.port.toNat
          · subst hqe
            rw [if_pos ⟨rfl, rfl⟩, hL]
            refine .inl ⟨?_, rfl⟩
            show setN x.aw e.port.toNat (x.aw e.port.toNat - 1) e.port.toNat = 0
            unfold setN
            rw [if_pos rfl, ha1]
          · rw [if_neg (fun hh => hqe hh.1)]
            have : setN x.aw e.port.toNat (x.aw e.port.toNat - 1) q = x.aw q := by unfold setN; rw [if_neg hqe]
            rcases hx0 with ⟨a1, a2⟩ | ⟨a1, a2⟩
            · exact .inl ⟨this.trans a1, a2⟩
            · exact .inr ⟨this.trans a1, a2⟩
        exact hstep.look h.pc hq
      · rw [if_pos hpe, if_neg (fun hh => hpe hh.2)]
        show Hx q _ (hv (H q p) ++ sq [] q)
        rw [show sq [] q = [] from rfl, List.append_nil]
        exact hx0
    · rw [if_neg k5]
      refine ⟨_, rfl, main _ fun q hq p => ?_⟩
      have hx0 := hi.h q (by rw [← hcx]; exact hq) p
      unfold stepX
      simp only
      rw [if_neg k1, if_neg k2]
      by_cases k3 : e.kind = 3
      · rw [if_pos k3]
        have hpc3 : PcOk ⟨c.pc.up, setAt c.pc.cost e.port.toNat e.cost⟩ := by
          have : c'.pc = ⟨c.pc.up, setAt c.pc.cost e.port.toNat e.cost⟩ := by rw [hpcx]; unfold pcX; rw [if_neg k1, if_neg k2, if_pos k3]
          rw [← this]; exact s1
        cases hf : findE c.all p with
        | none => rw [hf] at hx0; show _ = _; simp only [optS]; simpa [sq, Hx] using hx0
        | some x => rw [hf] at hx0; exact hx0.look hpc3 (by rw [← hcx]; exact hq)
      · rw [if_neg k3]
        by_cases hpe : p = e.p
        · have k4 : e.kind = 4 := by
            by_cases hk4 : e.kind = 4
            · exact hk4
            · exact absurd (okE_ack hok k1 k2 k3 hk4).1 k5
          rw [if_neg (fun hh => hh hpe), if_pos k4]
          have hgd : Hx q (some (hearF e.port.toNat e.dist ((findE c.all p).getD (newE p (decide ((cntT c.all : Int) < c.room)))))) (hv (H q p)) := by
            cases hf : findE c.all p with
            | none => rw [hf] at hx0; exact .inl ⟨rfl, hx0⟩
            | some x => rw [hf] at hx0; exact hx0
          exact hgd.look h.pc (by rw [← hcx]; exact hq)
        · rw [if_pos hpe]
          show Hx q _ (hv (H q p) ++ sq [] q)
          rw [show sq [] q = [] from rfl, List.append_nil]
          exact hx0
end Go.Proofs.Ytahdjfegihnolaa
