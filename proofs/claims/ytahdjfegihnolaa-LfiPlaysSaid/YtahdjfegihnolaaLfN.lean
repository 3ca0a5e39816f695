/- Layer 12: events keep what holds of a core. -/
import Derived.Test.YtahdjfegihnolaaLfM
namespace Go.Proofs.Ytahdjfegihnolaa

theorem find_mem {l : List Le} {p : Pf} {x : Le} (h : findE l p = some x) : x ∈ l ∧ x.p = p := by
  unfold findE at h
  exact ⟨List.mem_of_find?_eq_some h, by have := List.find?_some h; simpa using this⟩
theorem find_none {l : List Le} {p : Pf} (h : findE l p = none) : ∀ x ∈ l, x.p ≠ p := fun x hx => by
  unfold findE at h
  have := List.find?_eq_none.1 h x hx
  simpa using this
theorem lessP_irrefl (a : Pf) : ¬ lessP a a := by unfold lessP; omega
theorem lessP_trans {a b c : Pf} (h1 : lessP a b) (h2 : lessP b c) : lessP a c := by unfold lessP at *; omega
theorem lessP_tri (a b : Pf) : lessP a b ∨ a = b ∨ lessP b a := by
  unfold lessP
  rcases Nat.lt_trichotomy a.1 b.1 with h | h | h
  · exact .inl (.inl h)
  · rcases (by omega : a.2 < b.2 ∨ a.2 = b.2 ∨ b.2 < a.2) with h2 | h2 | h2
    · exact .inl (.inr ⟨h, h2⟩)
    · exact .inr (.inl (Prod.ext h h2))
    · exact .inr (.inr (.inr ⟨h.symm, h2⟩))
  · exact .inr (.inr (.inl h))
theorem sorted_find {l : List Le} (h : sortedL l) {x : Le} (hx : x ∈ l) : findE l x.p = some x := by
  induction l with
  | nil => cases hx
  | cons y l ih =>
    unfold sortedL at h
    rw [List.map_cons, List.pairwise_cons] at h
    unfold findE
    rw [List.find?_cons]
    rcases List.mem_cons.1 hx with rfl | hx
    · simp
    · have h1 := h.1 x.p (List.mem_map_of_mem hx)
      have : (y.p == x.p) = false := by rw [beq_eq_false_iff_ne]; intro e; rw [e] at h1; exact lessP_irrefl _ h1
      rw [this]
      exact ih h.2 hx
theorem mem_insE {e x : Le} : ∀ {l : List Le}, x ∈ insE e l ↔ x = e ∨ x ∈ l
  | [] => by simp [insE]
  | y :: l => by
    unfold insE
    split
    · rw [List.mem_cons, mem_insE (l := l), List.mem_cons]
      exact ⟨fun h => by rcases h with h | h | h <;> simp [h], fun h => by rcases h with h | h | h <;> simp [h]⟩
    · rw [List.mem_cons]
theorem insE_len (e : Le) : ∀ l : List Le, (insE e l).length = l.length + 1
  | [] => rfl
  | y :: l => by unfold insE; split <;> simp [insE_len e l]
theorem insE_cnt (e : Le) (g : Le → Bool) : ∀ l : List Le, (insE e l).countP g = l.countP g + if g e = true then 1 else 0
  | [] => by simp [insE, List.countP_cons]
  | y :: l => by
    unfold insE
    split
    · rw [List.countP_cons, insE_cnt e g l, List.countP_cons]; omega
    · rw [List.countP_cons]
theorem insE_sorted {e : Le} : ∀ {l : List Le}, sortedL l → findE l e.p = none → sortedL (insE e l)
  | [], _, _ => by simp [insE, sortedL]
  | y :: l, h, hn => by
    have hne := find_none hn y (List.mem_cons_self ..)
    unfold sortedL at h
    rw [List.map_cons, List.pairwise_cons] at h
    have hn2 : findE l e.p = none := by
      unfold findE at hn ⊢
      rw [List.find?_cons] at hn
      have : (y.p == e.p) = false := by rw [beq_eq_false_iff_ne]; exact hne
      rw [this] at hn
      exact hn
    unfold insE
    split
    · rename_i hl
      unfold sortedL
      rw [List.map_cons, List.pairwise_cons]
      refine ⟨fun q hq => ?_, insE_sorted h.2 hn2⟩
      obtain ⟨x, hx, rfl⟩ := List.mem_map.1 hq
      rcases mem_insE.1 hx with rfl | hx
      · exact hl
      · exact h.1 _ (List.mem_map_of_mem hx)
    · rename_i hl
      have hey : lessP e.p y.p := by
        rcases lessP_tri e.p y.p with h1 | h1 | h1
        · exact h1
        · exact absurd h1.symm hne
        · exact absurd h1 hl
      unfold sortedL
      rw [List.map_cons, List.map_cons, List.pairwise_cons, List.pairwise_cons]
      refine ⟨fun q hq => ?_, h⟩
      rcases List.mem_cons.1 hq with rfl | hq
      · exact hey
      · exact lessP_trans hey (h.1 q hq)
theorem map_sorted {l : List Le} (h : sortedL l) {f : Le → Le} (hf : ∀ x, (f x).p = x.p) : sortedL (l.map f) := by
  unfold sortedL at h ⊢
  rw [List.map_map, show ((fun x : Le => x.p) ∘ f) = fun x => x.p from funext hf]
  exact h
theorem map_cnt {f : Le → Le} (hf : ∀ x, (f x).tk = x.tk ∧ (f x).own = x.own) : ∀ l : List Le, cntT (l.map f) = cntT l := fun l => by
  unfold cntT
  rw [List.countP_map]
  congr 1
  funext x
  simp [(hf x).1, (hf x).2]
theorem pc_down {c : Pc} (h : PcOk c) (p : Nat) : PcOk (downF c p) :=
  ⟨fun q => by have := h.b q; unfold downF setAt; simp only; split <;> omega,
   fun q hq => by
    unfold downF setAt setB at *
    simp only at *
    split
    · rfl
    · rename_i hne
      rw [if_neg hne] at hq
      exact h.dn q hq,
   fun q hq => by
    unfold downF setB at hq
    simp only at hq
    split at hq
    · cases hq
    · exact h.lt q hq⟩
theorem pc_up {c : Pc} (h : PcOk c) {p : Nat} (hp : p < 8) {v : Int} (h1 : 1 ≤ v) (h2 : v ≤ 50) : PcOk (upF c p v) :=
  ⟨fun q => by have := h.b q; unfold upF setAt; simp only; split <;> omega,
   fun q hq => by
    unfold upF setAt setB at *
    simp only at *
    split
    · rename_i he; rw [if_pos he] at hq; cases hq
    · rename_i hne
      rw [if_neg hne] at hq
      exact h.dn q hq,
   fun q hq => by
    unfold upF setB at hq
    simp only at hq
    split at hq
    · rename_i he; rw [he]; exact hp
    · exact h.lt q hq⟩
theorem cut_ew {c : Pc} {x : Le} (h : EW c x) (p : Nat) : EW (downF c p) (cutE p x) :=
  ⟨h.may, h.own, fun q => by have := h.s q; show 0 ≤ setAt x.said p 255 q ∧ setAt x.said p 255 q ≤ 255; unfold setAt; split <;> omega,
   fun q hq => by
    show setAt x.said p 255 q = 255 ∧ setN x.aw p 0 q = 0
    unfold downF setB at hq
    simp only at hq
    unfold setAt setN
    by_cases he : q = p
    · rw [if_pos he, if_pos he]; exact ⟨rfl, rfl⟩
    · rw [if_neg he] at hq ⊢
      rw [if_neg he]
      exact h.sd q hq,
   fun q => by have := h.aw q; show setN x.aw p 0 q ≤ 1; unfold setN; split <;> omega,
   h.t, h.f, fun ht => ⟨(h.un ht).1, fun q => by have := (h.un ht).2 q; show setN x.aw p 0 q = 0; unfold setN; split <;> omega⟩⟩
theorem minUp_up (c : Pc) (s : Nat → Int) (p : Nat) (v : Int) (hv : 0 ≤ v) (hs : s p = 255) (hd : c.up p = false) : ∀ n, minUp (upF c p v) s n = minUp c s n
  | 0 => rfl
  | n + 1 => by
    have h := minUp_up c s p v hv hs hd n
    unfold minUp
    rw [h]
    by_cases he : n = p
    · subst he
      have hle : ∀ m, minUp c s m ≤ 255 := fun m => by
        induction m with
        | zero => exact Int.le_refl _
        | succ m ih => unfold minUp; split <;> omega
      have := hle n
      rw [hd]
      unfold upF setB setAt
      simp only [if_pos]
      rw [hs]
      simp
      omega
    · unfold upF setB setAt
      simp only [if_neg he]
theorem tell_ok {c : Pc} (_hc : PcOk c) {x : Le} (h : EOk c x) {p : Nat} (hp : p < 8) {v : Int} (hv : 0 ≤ v) (hd : c.up p = false) :
    EOk (upF c p v) (if x.told ≠ 255 then { x with aw := setN x.aw p (x.aw p + 1) } else x) := by
  have h0 := h.sd p hd
  have hsd : ∀ q, (upF c p v).up q = false → q ≠ p ∧ c.up q = false := fun q hq => by
    unfold upF setB at hq
    simp only at hq
    split at hq
    · cases hq
    · rename_i he; exact ⟨he, hq⟩
  have hdist : ∀ y : Le, y.own = x.own → y.tk = x.tk → y.said = x.said → distF (upF c p v) y = distF c x := fun y e1 e2 e3 => by
    unfold distF
    rw [e1, e2, e3, minUp_up c x.said p v hv h0.1 hd]
  by_cases ht : x.told ≠ 255
  · rw [if_pos ht]
    refine ⟨⟨h.may, h.own, h.s, fun q hq => ?_, fun q => ?_, h.t, h.f, fun e => absurd (h.un e).1 ht⟩, fun hn => ?_⟩
    · obtain ⟨h1, h2⟩ := hsd q hq
      refine ⟨(h.sd q h2).1, ?_⟩
      show setN x.aw p (x.aw p + 1) q = 0
      unfold setN
      rw [if_neg h1]
      exact (h.sd q h2).2
    · show setN x.aw p (x.aw p + 1) q ≤ 1
      unfold setN
      split
      · rw [h0.2]; omega
      · exact h.aw q
    · have := act_no hn hp
      have e : setN x.aw p (x.aw p + 1) p = 0 := this
      unfold setN at e
      rw [if_pos rfl] at e
      omega
  · rw [if_neg ht]
    refine ⟨⟨h.may, h.own, h.s, fun q hq => h.sd q (hsd q hq).2, h.aw, h.t, h.f, h.un⟩, fun hn => ?_⟩
    have := h.pas hn
    exact ⟨by rw [hdist x rfl rfl rfl]; exact this.1, this.2⟩
theorem EW.pc {c d : Pc} {x : Le} (h : EW c x) (he : d.up = c.up) : EW d x := ⟨h.may, h.own, h.s, fun q hq => h.sd q (by rw [← he]; exact hq), h.aw, h.t, h.f, h.un⟩
theorem hear_ew {c : Pc} {x : Le} (h : EW c x) {p : Nat} (hp : c.up p = true) {d : Int} (h0 : 0 ≤ d) (h1 : d ≤ 255) : EW c (hearF p d x) :=
  ⟨h.may, h.own, fun q => by have := h.s q; show 0 ≤ setAt x.said p d q ∧ setAt x.said p d q ≤ 255; unfold setAt; split <;> omega,
   fun q hq => by
    refine ⟨?_, (h.sd q hq).2⟩
    show setAt x.said p d q = 255
    unfold setAt
    rw [if_neg (by rintro rfl; rw [hp] at hq; cases hq)]
    exact (h.sd q hq).1, h.aw, h.t, h.f, h.un⟩
theorem ack_ew {c : Pc} {x : Le} (h : EW c x) (p : Nat) : EW c (ackF p x) :=
  ⟨h.may, h.own, h.s, fun q hq => by
    refine ⟨(h.sd q hq).1, ?_⟩
    have := (h.sd q hq).2
    show setN x.aw p (x.aw p - 1) q = 0
    unfold setN
    split
    · rename_i e; subst e; omega
    · exact this, fun q => by have := h.aw q; have := h.aw p; show setN x.aw p (x.aw p - 1) q ≤ 1; unfold setN; split <;> omega, h.t, h.f,
   fun ht => ⟨(h.un ht).1, fun q => by have := (h.un ht).2; have h1 := this q; have h2 := this p; show setN x.aw p (x.aw p - 1) q = 0; unfold setN; split <;> omega⟩⟩
theorem new_ew (c : Pc) {p : Pf} (hp : mayP p = true) (tk : Bool) : EW c (newE p tk) :=
  ⟨hp, fun h => (by cases h), fun _ => (by simp [newE]), fun _ _ => ⟨rfl, rfl⟩, fun _ => (by simp [newE]), (by simp [newE]), (by simp [newE]), fun _ => ⟨rfl, fun _ => rfl⟩⟩
theorem okE_p {e : Ev} (h : okE e = true) : 0 ≤ e.port ∧ e.port < 8 := by
  unfold okE at h
  simp only [Bool.and_eq_true, decide_eq_true_eq] at h
  exact h.1
theorem okE_cost {e : Ev} (h : okE e = true) (hk : e.kind = 1 ∨ e.kind = 3) : 1 ≤ e.cost ∧ e.cost ≤ 50 := by
  unfold okE at h
  rw [if_pos hk] at h
  simp only [Bool.and_eq_true, decide_eq_true_eq] at h
  exact h.2.1.1
theorem okE_hear {e : Ev} (h : okE e = true) (hk : e.kind = 4) : mayP e.p = true ∧ 0 ≤ e.dist ∧ e.dist ≤ 255 := by
  unfold okE at h
  rw [if_neg (by omega), if_neg (by omega), if_pos hk] at h
  simp only [Bool.and_eq_true, decide_eq_true_eq] at h
  exact ⟨h.2.1.1.2, h.2.1.2, h.2.2⟩
theorem okE_ack {e : Ev} (h : okE e = true) (h1 : e.kind ≠ 1) (h2 : e.kind ≠ 2) (h3 : e.kind ≠ 3) (h4 : e.kind ≠ 4) : e.kind = 5 ∧ mayP e.p = true := by
  unfold okE at h
  rw [if_neg (by omega), if_neg h2, if_neg h4] at h
  by_cases h5 : e.kind = 5
  · rw [if_pos h5] at h
    simp only [Bool.and_eq_true, decide_eq_true_eq] at h
    exact ⟨h5, h.2.1.2⟩
  · rw [if_neg h5] at h
    simp at h
/-- What an event does ahead of the tidying. -/
theorem step_ok {c : Lc} (h : LcOk c) {e : Ev} (hw : wrongF c.pc e = 0) {pc : Pc} {l : List Le} {o : List Tl} (hs : stepE c e = .inl (pc, l, o)) :
    PcOk pc ∧ sortedL l ∧ (∀ x ∈ l, EOk pc x) ∧ l.length ≤ 1024 ∧ (cntT l : Int) ≤ c.room := by
  have hok : okE e = true := by
    unfold wrongF at hw
    cases hh : okE e with
    | true => rfl
    | false => rw [hh] at hw; simp at hw
  obtain ⟨hp0, hp8⟩ := okE_p hok
  have hp : e.port.toNat < 8 := by omega
  have hup : e.kind ≠ 1 → c.pc.up e.port.toNat = true := fun hk => by
    unfold wrongF at hw
    rw [hok, if_neg (by simp)] at hw
    cases hh : c.pc.up e.port.toNat with
    | true => rfl
    | false => rw [hh, if_pos ⟨hk, rfl⟩] at hw; cases hw
  have hlk : ∀ x : Le, ∀ d : Pc, (lookF d x).1.p = x.p := fun x d => (lookF_tk d x).2.2.1
  have hlt : ∀ x : Le, ∀ d : Pc, (lookF d x).1.tk = x.tk ∧ (lookF d x).1.own = x.own := fun x d => ⟨(lookF_tk d x).1, (lookF_tk d x).2.1⟩
  have hdown : ∀ x ∈ (portDownF c.pc c.all e.port.toNat).1, EOk (downF c.pc e.port.toNat) x := fun x hx => by
    unfold portDownF lookAllF at hx
    simp only [List.map_map, List.mem_map] at hx
    obtain ⟨y, hy, rfl⟩ := hx
    exact look_ok (cut_ew (h.e y hy).toEW _) (pc_down h.pc _)
  have hds : sortedL (portDownF c.pc c.all e.port.toNat).1 := by
    unfold portDownF lookAllF
    simp only [List.map_map]
    exact map_sorted h.srt fun x => hlk (cutE _ x) _
  have hdc : cntT (portDownF c.pc c.all e.port.toNat).1 = cntT c.all := by
    unfold portDownF lookAllF
    simp only [List.map_map]
    exact map_cnt (fun x => hlt (cutE _ x) _) _
  have hdl : (portDownF c.pc c.all e.port.toNat).1.length = c.all.length := by unfold portDownF lookAllF; simp
  unfold stepE at hs
  simp only at hs
  by_cases k1 : e.kind = 1
  · rw [if_pos k1] at hs
    obtain ⟨hc1, hc2⟩ := okE_cost hok (.inl k1)
    injection hs with hs
    simp only [Prod.mk.injEq] at hs
    obtain ⟨rfl, rfl, _⟩ := hs
    have tp : ∀ x : Le, (if x.told ≠ 255 then { x with aw := setN x.aw e.port.toNat (x.aw e.port.toNat + 1) } else x : Le).p = x.p := fun x => by split <;> rfl
    have tt : ∀ x : Le, (if x.told ≠ 255 then { x with aw := setN x.aw e.port.toNat (x.aw e.port.toNat + 1) } else x : Le).tk = x.tk ∧ (if x.told ≠ 255 then { x with aw := setN x.aw e.port.toNat (x.aw e.port.toNat + 1) } else x : Le).own = x.own := fun x => by split <;> exact ⟨rfl, rfl⟩
    by_cases hu : c.pc.up e.port.toNat = true
    · rw [if_pos hu, if_pos hu]
      have hd : (downF c.pc e.port.toNat).up e.port.toNat = false := by unfold downF setB; simp
      refine ⟨pc_up (pc_down h.pc _) hp hc1 hc2, ?_, fun x hx => ?_, ?_, ?_⟩
      · unfold tellUp; exact map_sorted hds tp
      · unfold tellUp at hx
        obtain ⟨y, hy, rfl⟩ := List.mem_map.1 hx
        exact tell_ok (pc_down h.pc _) (hdown y hy) hp (by omega) hd
      · unfold tellUp; simp only [List.length_map]; rw [hdl]; exact h.len
      · unfold tellUp; simp only; rw [map_cnt tt, hdc]; exact h.cnt
    · rw [if_neg hu, if_neg hu]
      have hd : c.pc.up e.port.toNat = false := by simpa using hu
      refine ⟨pc_up h.pc hp hc1 hc2, ?_, fun x hx => ?_, ?_, ?_⟩
      · unfold tellUp; exact map_sorted h.srt tp
      · unfold tellUp at hx
        obtain ⟨y, hy, rfl⟩ := List.mem_map.1 hx
        exact tell_ok h.pc (h.e y hy) hp (by omega) hd
      · unfold tellUp; simp only [List.length_map]; exact h.len
      · unfold tellUp; simp only; rw [map_cnt tt]; exact h.cnt
  rw [if_neg k1] at hs
  by_cases k2 : e.kind = 2
  · rw [if_pos k2] at hs
    have hs2 := Sum.inl.inj hs
    obtain ⟨rfl, hs3⟩ := Prod.mk.inj hs2
    have e1 : l = (portDownF c.pc c.all e.port.toNat).1 := by rw [hs3]
    subst e1
    exact ⟨pc_down h.pc _, hds, hdown, by rw [hdl]; exact h.len, by rw [hdc]; exact h.cnt⟩
  rw [if_neg k2] at hs
  by_cases k3 : e.kind = 3
  · rw [if_pos k3] at hs
    obtain ⟨hc1, hc2⟩ := okE_cost hok (.inr k3)
    have hs2 := Sum.inl.inj hs
    obtain ⟨rfl, hs3⟩ := Prod.mk.inj hs2
    have e1 : l = (lookAllF ⟨c.pc.up, setAt c.pc.cost e.port.toNat e.cost⟩ c.all).1 := by rw [hs3]
    have hpc : PcOk ⟨c.pc.up, setAt c.pc.cost e.port.toNat e.cost⟩ := ⟨fun q => by have := h.pc.b q; unfold setAt; simp only; split <;> omega, fun q hq => by
      have h1 := hup k1
      unfold setAt
      simp only at hq ⊢
      rw [if_neg (by rintro rfl; rw [h1] at hq; cases hq)]
      exact h.pc.dn q hq, h.pc.lt⟩
    subst e1
    unfold lookAllF
    refine ⟨hpc, map_sorted h.srt fun x => hlk x _, fun x hx => ?_, by simp; exact h.len, by simp only; rw [map_cnt fun x => hlt x _]; exact h.cnt⟩
    simp only [List.mem_map] at hx
    obtain ⟨y, hy, rfl⟩ := hx
    exact look_ok ((h.e y hy).toEW.pc rfl) hpc
  rw [if_neg k3] at hs
  have hu := hup k1
  by_cases k4 : e.kind = 4
  · rw [if_pos k4] at hs
    obtain ⟨hm, hd0, hd1⟩ := okE_hear hok k4
    split at hs
    · cases hs
    rename_i hfull
    injection hs with hs
    simp only [Prod.mk.injEq] at hs
    obtain ⟨rfl, rfl, _⟩ := hs
    obtain ⟨L, hL⟩ : ∃ L, L = if findE c.all e.p = none then insE (newE e.p (decide ((cntT c.all : Int) < c.room))) c.all else c.all := ⟨_, rfl⟩
    rw [← hL]
    have hLs : sortedL L ∧ (∀ x ∈ L, EW c.pc x ∧ (x.p ≠ e.p → EOk c.pc x)) ∧ L.length ≤ 1024 ∧ (cntT L : Int) ≤ c.room := by
      rw [hL]
      by_cases hf : findE c.all e.p = none
      · rw [if_pos hf]
        refine ⟨insE_sorted h.srt (by exact hf), fun x hx => ?_, ?_, ?_⟩
        · rcases mem_insE.1 hx with rfl | hx
          · exact ⟨new_ew _ hm _, fun hne => absurd rfl hne⟩
          · exact ⟨(h.e x hx).toEW, fun _ => h.e x hx⟩
        · rw [insE_len]
          have : ¬ 1024 ≤ c.all.length := fun hh => hfull ⟨hf, hh⟩
          omega
        · have := h.cnt
          unfold cntT at this ⊢
          rw [insE_cnt]
          split
          · rename_i hh
            simp [newE] at hh
            omega
          · omega
      · rw [if_neg hf]
        exact ⟨h.srt, fun x hx => ⟨(h.e x hx).toEW, fun _ => h.e x hx⟩, h.len, h.cnt⟩
    obtain ⟨l1, l2, l3, l4⟩ := hLs
    refine ⟨h.pc, ?_, fun x hx => ?_, ?_, ?_⟩
    · unfold turnE
      exact map_sorted l1 fun x => by
        split
        · exact hlk (hearF _ _ x) _
        · rfl
    · unfold turnE at hx
      obtain ⟨y, hy, rfl⟩ := List.mem_map.1 hx
      split
      · exact look_ok (hear_ew (l2 y hy).1 hu hd0 hd1) h.pc
      · rename_i hne; exact (l2 y hy).2 hne
    · unfold turnE; simp; exact l3
    · unfold turnE
      rw [map_cnt fun x => by
        split
        · exact hlt (hearF _ _ x) _
        · exact ⟨rfl, rfl⟩]
      exact l4
  rw [if_neg k4] at hs
  split at hs
  · cases hs
  · rename_i x hx
    split at hs
    · cases hs
    injection hs with hs
    simp only [Prod.mk.injEq] at hs
    obtain ⟨rfl, rfl, _⟩ := hs
    refine ⟨h.pc, ?_, fun x hx => ?_, ?_, ?_⟩
    · unfold turnE
      exact map_sorted h.srt fun x => by
        split
        · exact hlk (ackF _ x) _
        · rfl
    · unfold turnE at hx
      obtain ⟨y, hy, rfl⟩ := List.mem_map.1 hx
      split
      · exact look_ok (ack_ew (h.e y hy).toEW _) h.pc
      · exact h.e y hy
    · unfold turnE; simp; exact h.len
    · unfold turnE
      rw [map_cnt fun x => by
        split
        · exact hlt (ackF _ x) _
        · exact ⟨rfl, rfl⟩]
      exact h.cnt
/-- An event keeps what holds. -/
theorem do_ok {c : Lc} (h : LcOk c) (e : Ev) : LcOk (doF c e).1 := by
  unfold doF
  by_cases hw : wrongF c.pc e = 0
  · rw [if_neg (by simpa using hw)]
    cases hs : stepE c e with
    | inr n => exact h
    | inl r =>
      obtain ⟨pc, l, o⟩ := r
      obtain ⟨s1, s2, s3, s4, s5⟩ := step_ok h hw hs
      obtain ⟨t1, t2, t3, t4, _⟩ := tidy_ok s1 (l.length + untk l) l (Nat.le_refl _) s3 s5
      have hl := t2.length_le
      simp only [List.length_map] at hl
      exact ⟨s1, sorted_sub s2 t2, t1, Nat.le_trans hl s4, h.room, t3, t4⟩
  · rw [if_pos hw]
    exact h
end Go.Proofs.Ytahdjfegihnolaa
