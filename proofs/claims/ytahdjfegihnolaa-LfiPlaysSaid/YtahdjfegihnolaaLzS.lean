/- Layer 12: kinds; one step of Do. -/
import Derived.Test.YtahdjfegihnolaaLzQ
namespace Go.Proofs.Ytahdjfegihnolaa
open Go.RowKit Go.Sort
theorem ckKeyed : Maps.Keyed Try.prog 32 := Maps.int_keyed Try.underlying32
def fnV (n : Nat) : Value := .func (.func n) #[] #[]
/-- The map of kinds. -/
structure KindsM (w : World) (b : Nat) : Prop where
  map : ∃ F s, MapV Try.prog 32 w b 5 F s ∧ F (.int .i64 1) = some (fnV 48) ∧ F (.int .i64 2) = some (fnV 49) ∧ F (.int .i64 3) = some (fnV 50) ∧ F (.int .i64 4) = some (fnV 51) ∧ F (.int .i64 5) = some (fnV 52)
theorem KindsM.below {w w' : World} {b : Nat} (h : KindsM w b) (hb : Below w.heap.size w w') : KindsM w' b := by
  obtain ⟨F, s, m, h1⟩ := h.map
  exact ⟨F, s, m.below hb, h1⟩
theorem ck_key (a : Int) (h : (Lit.int .i64 a).wf = true) : keyOf Try.prog 32 (.int .i64 a) = some (.int .i64 a) := Maps.keyOf_int_mk Try.underlying32 h
theorem upd_below' {w w' W : World} {b : Nat} (h : Below w.heap.size w W) (hu : Upd (only b) W w') (hb : w.heap.size ≤ b) : Below w.heap.size w w' := upd_below (w := w) (W := W) h hu hb h.size
set_option maxRecDepth 20000 in
theorem kinds_any (w : World) : Calls Try.prog 29 #[] w fun e w' => ∃ b, e = .returned (.map (some b)) ∧ KindsM w' b ∧ Below w.heap.size w w' := by
  have hm0 := mapv_new w Try.prog 32
  obtain ⟨mb, hmb⟩ : ∃ mb, mb = w.heap.size := ⟨_, rfl⟩
  obtain ⟨W1, hW1⟩ : ∃ W1, W1 = w.alloc (.map #[] 0) := ⟨_, rfl⟩
  rw [← hmb, ← hW1] at hm0
  have hb1 : Below w.heap.size w W1 := by rw [hW1]; exact (Below.refl _ _).alloc (Nat.le_refl _) _
  obtain ⟨W2, hr2, hm2, hu2, _⟩ := hm0.store ckKeyed Try.underlying90 (by omega) (ck_key 1 (by decide)) (fnV 48)
  obtain ⟨W3, hr3, hm3, hu3, _⟩ := hm2.store ckKeyed Try.underlying90 (by omega) (ck_key 2 (by decide)) (fnV 49)
  obtain ⟨W4, hr4, hm4, hu4, _⟩ := hm3.store ckKeyed Try.underlying90 (by omega) (ck_key 3 (by decide)) (fnV 50)
  obtain ⟨W5, hr5, hm5, hu5, _⟩ := hm4.store ckKeyed Try.underlying90 (by omega) (ck_key 4 (by decide)) (fnV 51)
  obtain ⟨W6, hr6, hm6, hu6, _⟩ := hm5.store ckKeyed Try.underlying90 (by omega) (ck_key 5 (by decide)) (fnV 52)
  have hb6 : Below w.heap.size w W6 := by
    have hu := (((hu2.trans_ (hu3.mono fun _ e => .inl e)).trans_ (hu4.mono fun _ e => .inl e)).trans_ (hu5.mono fun _ e => .inl e)).trans_ (hu6.mono fun _ e => .inl e)
    exact upd_below' hb1 hu (Nat.le_of_eq hmb.symm)
  have hmm : (Instr.makeMap 90 none).run Try.prog w = .ok (.map (some mb)) W1 := by rw [hW1, hmb]; exact run_makeMap _ _
  have HK := Lib.hid (show KindsM W6 mb from ⟨_, _, hm6, by simp [setK_other, setK_same], by simp [setK_other, setK_same], by simp [setK_other, setK_same], by simp [setK_other, setK_same], setK_same _ _ _⟩)
  have HB6 := Lib.hid hb6
  unfold fnV at hr2 hr3 hr4 hr5 hr6
  clear hm0 hm2 hm3 hm4 hm5 hm6 hu2 hu3 hu4 hu5 hu6 hb1 hb6 hW1 hmb
  go_enter Try.func29, Try.ntmps29
  go_wp2_with fail
  go_ret
  exact ⟨mb, rfl, HK.out, HB6.out⟩
end Go.Proofs.Ytahdjfegihnolaa
namespace Go.Proofs.Ytahdjfegihnolaa
open Go.RowKit Go.Sort
theorem tu_x (q : Nat) (G : List GE) : (mapK (tuE q) G G.length).map (·.x) = (tellUp q (G.map (·.x))).1 := by
  rw [mapK_end]
  unfold tellUp
  simp only [List.map_map]
  rfl
theorem tu_o (q : Nat) (G : List GE) : tuO q G = (tellUp q (G.map (·.x))).2 := by
  unfold tuO tellUp
  simp only [List.filter_map, List.map_map]
  rfl
theorem cutAll_x (q : Nat) (G : List GE) : (cutAll q G).map (·.x) = (G.map (·.x)).map (cutE q) := by
  unfold cutAll
  simp only [List.map_map]
  rfl
theorem down_x (c : Pc) (q : Nat) (G : List GE) : (lookG (downF c q) (cutAll q G)).map (·.x) = (portDownF c (G.map (·.x)) q).1 ∧ lookO (downF c q) (cutAll q G) = (portDownF c (G.map (·.x)) q).2 := by
  unfold portDownF
  rw [lookG_x, lookO_x, cutAll_x]
  exact ⟨rfl, rfl⟩
theorem old_map {w : World} {G : List GE} {G' : List GE} (h : G'.map (·.b) = G.map (·.b)) : OldB w G G' := fun a ha => by
  have : a.b ∈ G'.map (·.b) := List.mem_map_of_mem (f := fun g : GE => g.b) ha
  rw [h] at this
  obtain ⟨b, hb, e⟩ := List.mem_map.1 this
  exact .inl ⟨b, hb, e.symm⟩
theorem cutAll_b (q : Nat) (G : List GE) : (cutAll q G).map (·.b) = G.map (·.b) := by
  unfold cutAll
  rw [List.map_map]
  rfl
theorem CoU.tid {cb mb : Nat} {G : List GE} {ov : Value} {k : Nat} (h : CoU cb G ov k) : TidU cb mb G ov k := by
  rcases h with h | h | h
  · exact .inl h
  · exact .inr (.inr (.inl h))
  · exact .inr (.inr (.inr h))
theorem TlM.monoU {w W : World} {cb mb B : Nat} {room : Int} {c : Pc} {G : List GE} {o : List Tl} {ov : Value} {U V : Nat → Prop} (m : TlM w cb mb B room c G o W ov U) (h : ∀ k, U k → V k) : TlM w cb mb B room c G o W ov V :=
  ⟨m.com, m.out, m.upd.mono fun k hk => .inl (h k hk), fun j hj => by
    rcases m.own j hj with e | e
    · exact .inl (h j e)
    · exact .inr e⟩
def StepPost (w : World) (cb mb B : Nat) (room : Int) (c : Pc) (G : List GE) (e : Ev) (U : Nat → Prop) (en : Ending) (w' : World) : Prop :=
  match stepE ⟨room, c, G.map (·.x)⟩ e with
  | .inr n => en = .returned (.int .i64 ((n : Nat) : Int)) ∧ n ≠ 0 ∧ ∃ ov, TlM w cb mb B room c G [] w' ov U
  | .inl (pc, l, o) => en = .returned (.int .i64 0) ∧ ∃ ov G', TlM w cb mb B room pc G' o w' ov U ∧ G'.map (·.x) = l ∧ OldB w G G'
def stepId (k : Int) : Nat := if k = 1 then 48 else if k = 2 then 49 else if k = 3 then 50 else if k = 4 then 51 else 52
theorem upD_x (c : Pc) (q : Nat) (G : List GE) : (upD c q G).1 = (if c.up q = true then downF c q else c) ∧ (upD c q G).2.1.map (·.x) = (if c.up q = true then portDownF c (G.map (·.x)) q else (G.map (·.x), [])).1 ∧ (upD c q G).2.2 = (if c.up q = true then portDownF c (G.map (·.x)) q else (G.map (·.x), [])).2 ∧ (upD c q G).2.1.map (·.b) = G.map (·.b) := by
  unfold upD
  split
  · exact ⟨rfl, (down_x c q G).1, (down_x c q G).2, by rw [lookG_b, cutAll_b]⟩
  · exact ⟨rfl, rfl, rfl, rfl⟩
theorem step_any {w : World} {cb mb B : Nat} {ov : Value} {room : Int} {c : Pc} {G : List GE} (h : CoM w cb mb ov room c G) (hok : LcOk ⟨room, c, G.map (·.x)⟩) {e : Ev} (hw : wrongF c e = 0) (hp : e.p.1 < 2 ^ 32) (ho : OutM w B ov []) (hB : B ≤ w.heap.size) :
    Calls Try.prog (stepId e.kind) #[.pointer (some ⟨cb, 0, none⟩), .agg #[.int .i64 e.kind, .int .i64 e.port, .int .i64 e.cost, .int .u32 (e.p.1 : Int), .int .i64 e.p.2, .int .i64 e.dist]] w (StepPost w cb mb B room c G e (TidU cb mb G ov)) := by
  have hoe : okE e = true := by
    unfold wrongF at hw
    split at hw
    · cases hw
    · rename_i hh; simpa using hh
  have hup : e.kind ≠ 1 → c.up e.port.toNat = true := fun hk => by
    unfold wrongF at hw
    rw [if_neg (by rw [hoe]; simp)] at hw
    split at hw
    · cases hw
    · rename_i hh
      cases hu : c.up e.port.toNat with
      | true => rfl
      | false => exact absurd ⟨hk, hu⟩ hh
  obtain ⟨hp0, hp8⟩ := okE_p hoe
  obtain ⟨k, po, v, p, d⟩ := e
  dsimp only at *
  obtain ⟨q, rfl⟩ : ∃ q : Nat, po = q := ⟨po.toNat, by omega⟩
  have hq : q < 8 := by omega
  have hqn : (q : Int).toNat = q := rfl
  have hE : ∀ g ∈ G, EW c g.x := fun g hg => (hok.e g.x (List.mem_map_of_mem hg)).toEW
  by_cases h1 : k = 1
  · subst h1
    refine (portUp_any h hq hok.pc hE ho hB (by simp) 1 v p d).mono fun en w' ⟨he, ov', m⟩ => ?_
    obtain ⟨x1, x2, x3, x4⟩ := upD_x c q G
    rw [List.nil_append, tu_o] at m
    unfold StepPost stepE
    simp only [if_pos, hqn]
    refine ⟨he, ov', mapK (tuE q) (upD c q G).2.1 (upD c q G).2.1.length, ?_, ?_, ?_⟩
    · rw [← x1, ← x2, ← x3]
      exact m.monoU fun k hk => hk.tid
    · rw [tu_x, x2]
    · exact old_map (by rw [mapK_b, x4])
  by_cases h2 : k = 2
  · subst h2
    refine (portDown_any h hq hok.pc hE ho hB (by simp) 2 v p d).mono fun en w' ⟨he, ov', m⟩ => ?_
    obtain ⟨y1, y2⟩ := down_x c q G
    rw [List.nil_append, y2] at m
    unfold StepPost stepE
    simp only [if_neg h1, if_pos, hqn]
    exact ⟨he, ov', _, m.monoU fun k hk => hk.tid, y1, old_map (by rw [lookG_b, cutAll_b])⟩
  by_cases h3 : k = 3
  · subst h3
    have hcb := okE_cost hoe (.inr rfl)
    dsimp only at hcb
    have hupq : c.up q = true := hup (by decide)
    have hpc : PcOk (⟨c.up, setAt c.cost q v⟩ : Pc) := ⟨fun i => by
        have := hok.pc.b i
        show 0 ≤ setAt c.cost q v i ∧ setAt c.cost q v i ≤ 50
        dsimp only at this
        unfold setAt
        split <;> omega, fun i hi => by
        show setAt c.cost q v i = 0
        unfold setAt
        rw [if_neg fun e => by rw [e] at hi; rw [show c.up q = false from hi] at hupq; cases hupq]
        exact hok.pc.dn i hi, fun i hi => hok.pc.lt i hi⟩
    refine (costs_any h hq rfl hpc (fun g hg => (hE g hg).pc rfl) ho hB (by simp) 3 p d).mono fun en w' ⟨he, ov', m⟩ => ?_
    rw [List.nil_append] at m
    unfold StepPost stepE
    simp only [if_neg h1, if_neg h2, if_pos, hqn]
    refine ⟨he, ov', lookG ⟨c.up, setAt c.cost q v⟩ G, ?_, lookG_x _ _, old_map (lookG_b _ _)⟩
    rw [← lookO_x]
    exact m.monoU fun k hk => hk.tid
  by_cases h4 : k = 4
  · subst h4
    have hcb := okE_hear hoe rfl
    dsimp only at hcb
    refine (heard_any h hq (hup (by decide)) hok.pc hE ho hB (by simp) 4 v ⟨hcb.1, hp⟩ hcb.2).mono fun en w' hh => ?_
    unfold StepPost stepE
    simp only [if_neg h1, if_neg h2, if_neg h3, if_pos, hqn]
    rcases hh with ⟨f1, f2, f3, ov', m⟩ | ⟨f1, f2, ov', G', m, f3, f4⟩
    · rw [if_pos ⟨f1, by rw [List.length_map]; exact f2⟩]
      exact ⟨f3, by decide, ov', m⟩
    · rw [if_neg (by rw [List.length_map]; exact f1)]
      rw [List.nil_append] at m
      exact ⟨f2, ov', G', m, f3, f4⟩
  have hk5 := okE_ack hoe h1 h2 h3 h4
  dsimp only at hk5
  obtain ⟨rfl, hmp⟩ := hk5
  refine (acked_any h hq hok.pc hE ho hB (by simp) 5 v (may_ok ⟨hmp, hp⟩) d).mono fun en w' ⟨he, ov', m⟩ => ?_
  unfold StepPost stepE
  simp only [if_neg h1, if_neg h2, if_neg h3, if_neg h4, hqn]
  have hx := findP_x G p
  cases hf : findP G p with
  | none =>
    rw [hf] at hx
    rw [show findE (G.map (·.x)) p = none from hx.symm]
    have hR : ackR c q p G = (7, G, []) := by unfold ackR; rw [hf]
    rw [hR] at he m
    exact ⟨he, by decide, ov', m.monoU fun k hk => hk.tid⟩
  | some g =>
    rw [hf] at hx
    rw [show findE (G.map (·.x)) p = some g.x from hx.symm]
    dsimp only
    by_cases hz : g.x.aw q = 0
    · have hR : ackR c q p G = (7, G, []) := by unfold ackR; rw [hf]; exact if_pos hz
      rw [hR] at he m
      rw [if_pos hz]
      exact ⟨he, by decide, ov', m.monoU fun k hk => hk.tid⟩
    · have hR : ackR c q p G = (0, putG G g.b (lookF c (ackF q g.x)).1, (lookF c (ackF q g.x)).2) := by unfold ackR; rw [hf]; exact if_neg hz
      rw [hR] at he m
      rw [if_neg hz]
      obtain ⟨hgm, rfl⟩ := findP_some hf
      have t1 := putG_turn h.nd h.ndp hgm (fun x => (lookF c (ackF q x)).1)
      have t2 := outE_one (f := fun x => (lookF c (ackF q x)).2) h.ndp hgm
      rw [List.nil_append] at m
      refine ⟨he, ov', _, ?_, t1, old_map (putG_b _ _ _)⟩
      rw [t2]
      exact m.monoU fun k hk => hk.tid
end Go.Proofs.Ytahdjfegihnolaa
namespace Go.Proofs.Ytahdjfegihnolaa
open Go.RowKit Go.Sort
theorem flat_len {f : Le → List Tl} (hf : ∀ x, (f x).length ≤ 8) : ∀ l : List Le, (l.flatMap f).length ≤ 8 * l.length
  | [] => by simp
  | x :: l => by
    have := flat_len hf l
    have := hf x
    rw [List.flatMap_cons, List.length_append, List.length_cons]
    omega
theorem lookAllF_len (c : Pc) (l : List Le) : (lookAllF c l).2.length ≤ 8 * l.length := flat_len (fun x => lookF_len c x) l
theorem outE_len (l : List Le) (p : Pf) {f : Le → List Tl} (hf : ∀ x, (f x).length ≤ 8) : (outE l p f).length ≤ 8 * l.length :=
  flat_len (fun x => by split <;> first | exact hf x | simp) l
theorem step_len {c : Lc} {e : Ev} {pc : Pc} {l : List Le} {o : List Tl} (hs : stepE c e = .inl (pc, l, o)) : o.length ≤ 9 * (c.all.length + 1) := by
  unfold stepE at hs
  dsimp only at hs
  have hd : ∀ p, (portDownF c.pc c.all p).1.length = c.all.length ∧ (portDownF c.pc c.all p).2.length ≤ 8 * c.all.length := fun p => by
    unfold portDownF
    refine ⟨by unfold lookAllF; simp, ?_⟩
    have := lookAllF_len (downF c.pc p) (c.all.map (cutE p))
    rwa [List.length_map] at this
  have ht : ∀ p (l : List Le), (tellUp p l).2.length ≤ l.length := fun p l => by
    unfold tellUp
    rw [List.length_map]
    exact List.length_filter_le _ _
  by_cases h1 : e.kind = 1
  · rw [if_pos h1] at hs
    injection hs with hs
    injection hs with _ hs
    injection hs with _ hs
    rw [← hs, List.length_append]
    by_cases hu : c.pc.up e.port.toNat = true
    · rw [if_pos hu]
      have := hd e.port.toNat
      have := ht e.port.toNat (portDownF c.pc c.all e.port.toNat).1
      omega
    · rw [if_neg hu]
      have := ht e.port.toNat c.all
      simp only [List.length_nil]
      omega
  rw [if_neg h1] at hs
  by_cases h2 : e.kind = 2
  · rw [if_pos h2] at hs
    injection hs with hs
    injection hs with _ hs
    have := (hd e.port.toNat).2
    rw [hs] at this
    dsimp only at this
    omega
  rw [if_neg h2] at hs
  by_cases h3 : e.kind = 3
  · rw [if_pos h3] at hs
    injection hs with hs
    injection hs with _ hs
    have := lookAllF_len ⟨c.pc.up, setAt c.pc.cost e.port.toNat e.cost⟩ c.all
    rw [hs] at this
    dsimp only at this
    omega
  rw [if_neg h3] at hs
  by_cases h4 : e.kind = 4
  · rw [if_pos h4] at hs
    split at hs
    · cases hs
    · injection hs with hs
      injection hs with _ hs
      injection hs with _ hs
      rw [← hs]
      have := outE_len (if findE c.all e.p = none then insE (newE e.p (decide ((cntT c.all : Int) < c.room))) c.all else c.all) e.p (f := fun x => (lookF c.pc (hearF e.port.toNat e.dist x)).2) (fun x => lookF_len _ _)
      have h5 : (if findE c.all e.p = none then insE (newE e.p (decide ((cntT c.all : Int) < c.room))) c.all else c.all).length ≤ c.all.length + 1 := by
        split
        · rw [insE_len]; omega
        · omega
      omega
  rw [if_neg h4] at hs
  split at hs
  · cases hs
  · split at hs
    · cases hs
    · injection hs with hs
      injection hs with _ hs
      injection hs with _ hs
      rw [← hs]
      have := outE_len c.all e.p (f := fun x => (lookF c.pc (ackF e.port.toNat x)).2) (fun x => lookF_len _ _)
      omega
/-- What Do leaves. -/
def DoPost (w : World) (cb mb : Nat) (room : Int) (c : Pc) (G : List GE) (e : Ev) (en : Ending) (w' : World) : Prop :=
  ∃ (v : Value) (G' : List GE) (ov' : Value), en = .returned (.tuple #[v, .int .i64 (((doF ⟨room, c, G.map (·.x)⟩ e).2.2 : Nat) : Int)]) ∧ OutM w' w.heap.size v (doF ⟨room, c, G.map (·.x)⟩ e).2.1 ∧
    CoM w' cb mb ov' room (doF ⟨room, c, G.map (·.x)⟩ e).1.pc G' ∧ G'.map (·.x) = (doF ⟨room, c, G.map (·.x)⟩ e).1.all ∧ OldB w G G' ∧ Upd (CoMut cb mb G) w w'
theorem zero_fn (w : World) : (zeroValue 89).run Try.prog w = .ok .nilFunc w := by kernel_rfl
end Go.Proofs.Ytahdjfegihnolaa
