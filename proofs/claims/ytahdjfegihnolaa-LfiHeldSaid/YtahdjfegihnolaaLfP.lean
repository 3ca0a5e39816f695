/- Layer 12: an event, prefix by prefix; LfiTells' plain law. -/
import Derived.Test.YtahdjfegihnolaaLfO
namespace Go.Proofs.Ytahdjfegihnolaa

theorem find_map {l : List Le} {f : Le → Le} (hf : ∀ x, (f x).p = x.p) (p : Pf) : findE (l.map f) p = (findE l p).map f := by
  induction l with
  | nil => rfl
  | cons x l ih =>
    rw [List.map_cons, find_cons, find_cons, hf, ih]
    by_cases h : x.p = p
    · rw [if_pos h, if_pos h]; rfl
    · rw [if_neg h, if_neg h]
theorem selp_flat {l : List Le} (hs : sortedL l) {g : Le → List Tl} {s : Le → List (Nat × Int)} (hg : ∀ x, g x = (s x).map fun t => (t.1, x.p, t.2)) (p : Pf) : selp (l.flatMap g) p = match findE l p with | some x => s x | none => [] := by
  induction l with
  | nil => rfl
  | cons x l ih =>
    obtain ⟨h1, h2⟩ := sorted_tail hs
    rw [List.flatMap_cons, selp_app, ih h1, hg, selp_own, find_cons]
    by_cases h : p = x.p
    · subst h
      rw [if_pos rfl, if_pos rfl, h2, List.append_nil]
    · rw [if_neg h, if_neg (fun e => h e.symm), List.nil_append]
theorem find_insE {e : Le} : ∀ {l : List Le}, findE l e.p = none → ∀ p, findE (insE e l) p = if e.p = p then some e else findE l p
  | [], _, p => by unfold insE; rw [find_cons]
  | y :: l, hn, p => by
    rw [find_cons] at hn
    by_cases hy : y.p = e.p
    · rw [if_pos hy] at hn; cases hn
    · rw [if_neg hy] at hn
      unfold insE
      split
      · rw [find_cons, find_cons, find_insE hn p]
        by_cases h1 : y.p = p
        · rw [if_pos h1, if_pos h1, if_neg (fun h2 => hy (h1.trans h2.symm))]
        · rw [if_neg h1, if_neg h1]
      · rw [find_cons]
def tellX (p : Nat) (x : Le) : Le := if x.told ≠ 255 then { x with aw := setN x.aw p (x.aw p + 1) } else x
def tellS (p : Nat) (x : Le) : List (Nat × Int) := if x.told ≠ 255 then [(p, x.told)] else []
theorem tellX_p (p : Nat) (x : Le) : (tellX p x).p = x.p := by unfold tellX; split <;> rfl
def optS (s : Le → List (Nat × Int)) : Option Le → List (Nat × Int)
  | some x => s x
  | none => []
theorem selp_tell (p : Nat) {l : List Le} (hs : sortedL l) (r : Pf) : selp (tellUp p l).2 r = optS (tellS p) (findE l r) := by
  have e : (tellUp p l).2 = l.flatMap fun x => (tellS p x).map fun t => (t.1, x.p, t.2) := by
    unfold tellUp
    simp only
    clear hs
    induction l with
    | nil => rfl
    | cons x l ih =>
      rw [List.filter_cons, List.flatMap_cons, ← ih]
      unfold tellS
      by_cases h : x.told ≠ 255
      · rw [if_pos h, if_pos (decide_eq_true h)]; rfl
      · rw [if_neg h, if_neg (by simpa using h)]; rfl
  rw [e, selp_flat hs fun _ => rfl]
  unfold optS
  cases findE l r <;> rfl
/-- An event, at one entry, ahead of the tidying. -/
def stepX (c : Lc) (e : Ev) (p : Pf) (ox : Option Le) : Option Le × List (Nat × Int) :=
  let q := e.port.toNat
  if e.kind = 1 then
    if c.pc.up q = true then ((ox.map fun x => (lookF (downF c.pc q) (cutE q x)).1).map (tellX q), optS (fun x => tls (downF c.pc q) (cutE q x)) ox ++ optS (tellS q) (ox.map fun x => (lookF (downF c.pc q) (cutE q x)).1))
    else (ox.map (tellX q), optS (tellS q) ox)
  else if e.kind = 2 then (ox.map fun x => (lookF (downF c.pc q) (cutE q x)).1, optS (fun x => tls (downF c.pc q) (cutE q x)) ox)
  else if e.kind = 3 then (ox.map fun x => (lookF ⟨c.pc.up, setAt c.pc.cost q e.cost⟩ x).1, optS (tls ⟨c.pc.up, setAt c.pc.cost q e.cost⟩) ox)
  else if p ≠ e.p then (ox, [])
  else if e.kind = 4 then
    (some (lookF c.pc (hearF q e.dist (ox.getD (newE p (decide ((cntT c.all : Int) < c.room)))))).1, tls c.pc (hearF q e.dist (ox.getD (newE p (decide ((cntT c.all : Int) < c.room))))))
  else (ox.map fun x => (lookF c.pc (ackF q x)).1, optS (fun x => tls c.pc (ackF q x)) ox)
theorem cut_tells (c : Pc) (q : Nat) (x : Le) : (lookF c (cutE q x)).2 = (tls c (cutE q x)).map fun t => (t.1, x.p, t.2) := look_tells c (cutE q x)
theorem look_p (c : Pc) (x : Le) : (lookF c x).1.p = x.p := (lookF_tk c x).2.2.1
theorem down_find {c : Pc} {l : List Le} (q : Nat) (p : Pf) : findE (portDownF c l q).1 p = (findE l p).map fun x => (lookF (downF c q) (cutE q x)).1 := by
  unfold portDownF lookAllF
  simp only
  rw [find_map (f := fun x => (lookF (downF c q) x).1) (fun x => look_p _ x), find_map (f := cutE q) (fun x => rfl), Option.map_map]
  rfl
theorem down_sorted {c : Pc} {l : List Le} (hs : sortedL l) (q : Nat) : sortedL (portDownF c l q).1 := by
  unfold portDownF lookAllF
  simp only [List.map_map]
  exact map_sorted hs fun x => look_p _ _
theorem down_selp {c : Pc} {l : List Le} (hs : sortedL l) (q : Nat) (p : Pf) : selp (portDownF c l q).2 p = optS (fun x => tls (downF c q) (cutE q x)) (findE l p) := by
  unfold portDownF lookAllF
  simp only
  rw [List.flatMap_map, selp_flat hs fun x => cut_tells (downF c q) q x]
  unfold optS
  cases findE l p <;> rfl
theorem turn_find {l : List Le} {f : Le → Le} (hf : ∀ x, (f x).p = x.p) (r p : Pf) : findE (turnE l r f) p = if p = r then (findE l p).map f else findE l p := by
  unfold turnE
  rw [find_map fun x => by split; exact hf x; rfl]
  by_cases h : p = r
  · rw [if_pos h]
    cases hx : findE l p with
    | none => rfl
    | some x => have := (find_mem hx).2; simp only [Option.map_some]; rw [if_pos (this.trans h)]
  · rw [if_neg h]
    cases hx : findE l p with
    | none => rfl
    | some x => have := (find_mem hx).2; simp only [Option.map_some]; rw [if_neg (fun e => h (this.symm.trans e))]
theorem out_selp {l : List Le} (hs : sortedL l) {g : Le → List Tl} {s : Le → List (Nat × Int)} (hg : ∀ x, g x = (s x).map fun t => (t.1, x.p, t.2)) (r p : Pf) : selp (outE l r g) p = if p = r then optS s (findE l p) else [] := by
  unfold outE
  rw [selp_flat (s := fun x => if x.p = r then s x else []) hs fun x => by split; exact hg x; rfl]
  by_cases h : p = r
  · rw [if_pos h]
    cases hx : findE l p with
    | none => rfl
    | some x => have := (find_mem hx).2; unfold optS; simp only; rw [if_pos (this.trans h)]
  · rw [if_neg h]
    cases hx : findE l p with
    | none => rfl
    | some x => have := (find_mem hx).2; simp only; rw [if_neg (fun e => h (this.symm.trans e))]
theorem hear_tells (c : Pc) (q : Nat) (d : Int) (x : Le) : (lookF c (hearF q d x)).2 = (tls c (hearF q d x)).map fun t => (t.1, x.p, t.2) := look_tells c (hearF q d x)
theorem ack_tells (c : Pc) (q : Nat) (x : Le) : (lookF c (ackF q x)).2 = (tls c (ackF q x)).map fun t => (t.1, x.p, t.2) := look_tells c (ackF q x)
/-- The core's ports behind an event. -/
def pcX (c : Lc) (e : Ev) : Pc :=
  if e.kind = 1 then upF (if c.pc.up e.port.toNat = true then downF c.pc e.port.toNat else c.pc) e.port.toNat e.cost
  else if e.kind = 2 then downF c.pc e.port.toNat
  else if e.kind = 3 then ⟨c.pc.up, setAt c.pc.cost e.port.toNat e.cost⟩
  else c.pc
theorem step_x {c : Lc} (h : LcOk c) {e : Ev} {pc : Pc} {l : List Le} {o : List Tl} (hs : stepE c e = .inl (pc, l, o)) (p : Pf) : pc = pcX c e ∧ findE l p = (stepX c e p (findE c.all p)).1 ∧ selp o p = (stepX c e p (findE c.all p)).2 := by
  unfold stepE at hs
  simp only at hs
  unfold stepX pcX
  simp only
  by_cases k1 : e.kind = 1
  · rw [if_pos k1] at hs ⊢
    rw [if_pos k1]
    injection hs with hs
    simp only [Prod.mk.injEq] at hs
    obtain ⟨rfl, rfl, rfl⟩ := hs
    refine ⟨rfl, ?_⟩
    by_cases hu : c.pc.up e.port.toNat = true
    · rw [if_pos hu, if_pos hu]
      refine ⟨?_, ?_⟩
      · show findE ((portDownF c.pc c.all e.port.toNat).1.map (tellX e.port.toNat)) p = _
        rw [find_map (tellX_p _), down_find]
      · rw [selp_app, down_selp h.srt, selp_tell _ (down_sorted h.srt _), down_find]
    · rw [if_neg hu, if_neg hu]
      refine ⟨?_, ?_⟩
      · show findE (c.all.map (tellX e.port.toNat)) p = _
        rw [find_map (tellX_p _)]
      · rw [List.nil_append, selp_tell _ h.srt]
  rw [if_neg k1] at hs ⊢
  rw [if_neg k1]
  by_cases k2 : e.kind = 2
  · rw [if_pos k2] at hs ⊢
    rw [if_pos k2]
    injection hs with hs
    simp only [Prod.mk.injEq] at hs
    obtain ⟨rfl, hs⟩ := hs
    obtain ⟨rfl, rfl⟩ : l = (portDownF c.pc c.all e.port.toNat).1 ∧ o = (portDownF c.pc c.all e.port.toNat).2 := by rw [hs]; exact ⟨rfl, rfl⟩
    exact ⟨rfl, down_find _ _, down_selp h.srt _ _⟩
  rw [if_neg k2] at hs ⊢
  rw [if_neg k2]
  by_cases k3 : e.kind = 3
  · rw [if_pos k3] at hs ⊢
    rw [if_pos k3]
    injection hs with hs
    simp only [Prod.mk.injEq, lookAllF] at hs
    obtain ⟨rfl, rfl, rfl⟩ := hs
    refine ⟨rfl, find_map (fun x => look_p _ x) p, ?_⟩
    rw [selp_flat h.srt fun x => look_tells _ x]
    unfold optS
    cases findE c.all p <;> rfl
  rw [if_neg k3] at hs ⊢
  rw [if_neg k3]
  by_cases k4 : e.kind = 4
  · rw [if_pos k4] at hs ⊢
    split at hs
    · cases hs
    injection hs with hs
    simp only [Prod.mk.injEq] at hs
    obtain ⟨rfl, rfl, rfl⟩ := hs
    refine ⟨rfl, ?_⟩
    have hL : sortedL (if findE c.all e.p = none then insE (newE e.p (decide ((cntT c.all : Int) < c.room))) c.all else c.all) := by
      split
      · rename_i hn; exact insE_sorted h.srt hn
      · exact h.srt
    have hF : findE (if findE c.all e.p = none then insE (newE e.p (decide ((cntT c.all : Int) < c.room))) c.all else c.all) p = if p = e.p then some ((findE c.all p).getD (newE p (decide ((cntT c.all : Int) < c.room)))) else findE c.all p := by
      by_cases hn : findE c.all e.p = none
      · rw [if_pos hn, find_insE hn]
        by_cases hp : p = e.p
        · subst hp; rw [if_pos (show (newE e.p (decide ((cntT c.all : Int) < c.room))).p = e.p from rfl), if_pos rfl, hn]; rfl
        · rw [if_neg hp, if_neg (fun e => hp e.symm)]
      · rw [if_neg hn]
        by_cases hp : p = e.p
        · subst hp
          rw [if_pos rfl]
          cases hx : findE c.all e.p with
          | none => exact absurd hx hn
          | some x => rfl
        · rw [if_neg hp]
    rw [turn_find (f := fun x => (lookF c.pc (hearF e.port.toNat e.dist x)).1) (fun x => look_p _ (hearF _ _ x)), out_selp hL fun x => hear_tells _ _ _ x, hF]
    by_cases hp : p = e.p
    · rw [if_pos hp, if_pos hp, if_pos hp, if_neg (fun hh => hh hp)]
      exact ⟨rfl, rfl⟩
    · rw [if_neg hp, if_neg hp, if_neg hp, if_pos hp]
      exact ⟨rfl, rfl⟩
  rw [if_neg k4] at hs
  simp only [if_neg k4]
  split at hs
  · cases hs
  split at hs
  · cases hs
  injection hs with hs
  simp only [Prod.mk.injEq] at hs
  obtain ⟨rfl, rfl, rfl⟩ := hs
  refine ⟨rfl, ?_⟩
  rw [turn_find (f := fun x => (lookF c.pc (ackF e.port.toNat x)).1) (fun x => look_p _ (ackF _ x)), out_selp h.srt fun x => ack_tells _ _ x]
  by_cases hp : p = e.p
  · rw [if_pos hp, if_pos hp, if_neg (fun hh => hh hp)]
    exact ⟨rfl, rfl⟩
  · rw [if_neg hp, if_neg hp, if_pos hp]
    exact ⟨rfl, rfl⟩
theorem Evt.ind {c : Pc} {K : Option Le → List (Nat × Int) → Prop} (hg : ∀ x s, K (some x) s → staysF x = false → K none s) (ht : ∀ x s, K (some x) s → x.tk = false → K (some (lookF c { x with tk := true }).1) (s ++ tls c { x with tk := true })) {a b : Option Le} {t : List (Nat × Int)} (h : Evt c a t b) : ∀ s, K a s → K b (s ++ t) := by
  induction h with
  | refl x => intro s hs; rwa [List.append_nil]
  | gone x hx => intro s hs; rw [List.append_nil]; exact hg x s hs hx
  | take x hx => intro s hs; exact ht x s hs hx
  | trans _ _ ih1 ih2 => intro s hs; rw [← List.append_assoc]; exact ih2 _ (ih1 _ hs)
end Go.Proofs.Ytahdjfegihnolaa
