/- Layer 12: one step of Do, whatever its kind. -/
import Derived.Test.YtahdjfegihnolaaLzR
namespace Go.Proofs.Ytahdjfegihnolaa
open Go.RowKit Go.Sort
theorem tu_x (q : Nat) (G : List GE) : (mapK (tuE q) G G.length).map (·.x) = (tellUp q (G.map (·.x))).1 := by
  rw [mapK_end]
  unfold tellUp
  simp only [List.map_map]
  rfl
theorem tu_o (q : Nat) (G : List GE) : tuO q G = (tellUp q (G.map (·.x))).2 := by
  unfold tuO tellUp
  simp only [List.filter_map, List.map_map]
  rfl
theorem cutAll_x (q : Nat) (G : List GE) : (cutAll q G).map (·.x) = (G.map (·.x)).map (cutE q) := by
  unfold cutAll
  simp only [List.map_map]
  rfl
theorem down_x (c : Pc) (q : Nat) (G : List GE) : (lookG (downF c q) (cutAll q G)).map (·.x) = (portDownF c (G.map (·.x)) q).1 ∧ lookO (downF c q) (cutAll q G) = (portDownF c (G.map (·.x)) q).2 := by
  unfold portDownF
  rw [lookG_x, lookO_x, cutAll_x]
  exact ⟨rfl, rfl⟩
theorem old_map {w : World} {G : List GE} {G' : List GE} (h : G'.map (·.b) = G.map (·.b)) : OldB w G G' := fun a ha => by
  have : a.b ∈ G'.map (·.b) := List.mem_map_of_mem (f := fun g : GE => g.b) ha
  rw [h] at this
  obtain ⟨b, hb, e⟩ := List.mem_map.1 this
  exact .inl ⟨b, hb, e.symm⟩
theorem cutAll_b (q : Nat) (G : List GE) : (cutAll q G).map (·.b) = G.map (·.b) := by
  unfold cutAll
  rw [List.map_map]
  rfl
theorem CoU.tid {cb mb : Nat} {G : List GE} {ov : Value} {k : Nat} (h : CoU cb G ov k) : TidU cb mb G ov k := by
  rcases h with h | h | h
  · exact .inl h
  · exact .inr (.inr (.inl h))
  · exact .inr (.inr (.inr h))
theorem TlM.monoU {w W : World} {cb mb B : Nat} {room : Int} {c : Pc} {G : List GE} {o : List Tl} {ov : Value} {U V : Nat → Prop} (m : TlM w cb mb B room c G o W ov U) (h : ∀ k, U k → V k) : TlM w cb mb B room c G o W ov V :=
  ⟨m.com, m.out, m.upd.mono fun k hk => .inl (h k hk), fun j hj => by
    rcases m.own j hj with e | e
    · exact .inl (h j e)
    · exact .inr e⟩
def StepPost (w : World) (cb mb B : Nat) (room : Int) (c : Pc) (G : List GE) (e : Ev) (U : Nat → Prop) (en : Ending) (w' : World) : Prop :=
  match stepE ⟨room, c, G.map (·.x)⟩ e with
  | .inr n => en = .returned (.int .i64 ((n : Nat) : Int)) ∧ n ≠ 0 ∧ ∃ ov, TlM w cb mb B room c G [] w' ov U
  | .inl (pc, l, o) => en = .returned (.int .i64 0) ∧ ∃ ov G', TlM w cb mb B room pc G' o w' ov U ∧ G'.map (·.x) = l ∧ OldB w G G'
def stepId (k : Int) : Nat := if k = 1 then 48 else if k = 2 then 49 else if k = 3 then 50 else if k = 4 then 51 else 52
theorem upD_x (c : Pc) (q : Nat) (G : List GE) : (upD c q G).1 = (if c.up q = true then downF c q else c) ∧ (upD c q G).2.1.map (·.x) = (if c.up q = true then portDownF c (G.map (·.x)) q else (G.map (·.x), [])).1 ∧ (upD c q G).2.2 = (if c.up q = true then portDownF c (G.map (·.x)) q else (G.map (·.x), [])).2 ∧ (upD c q G).2.1.map (·.b) = G.map (·.b) := by
  unfold upD
  split
  · exact ⟨rfl, (down_x c q G).1, (down_x c q G).2, by rw [lookG_b, cutAll_b]⟩
  · exact ⟨rfl, rfl, rfl, rfl⟩
theorem step_any {w : World} {cb mb B : Nat} {ov : Value} {room : Int} {c : Pc} {G : List GE} (h : CoM w cb mb ov room c G) (hok : LcOk ⟨room, c, G.map (·.x)⟩) {e : Ev} (hw : wrongF c e = 0) (hp : e.p.1 < 2 ^ 32) (ho : OutM w B ov []) (hB : B ≤ w.heap.size) :
    Calls Try.prog (stepId e.kind) #[.pointer (some ⟨cb, 0, none⟩), .agg #[.int .i64 e.kind, .int .i64 e.port, .int .i64 e.cost, .int .u32 (e.p.1 : Int), .int .i64 e.p.2, .int .i64 e.dist]] w (StepPost w cb mb B room c G e (TidU cb mb G ov)) := by
  have hoe : okE e = true := by
    unfold wrongF at hw
    split at hw
    · cases hw
    · rename_i hh; simpa using hh
  have hup : e.kind ≠ 1 → c.up e.port.toNat = true := fun hk => by
    unfold wrongF at hw
    rw [if_neg (by rw [hoe]; simp)] at hw
    split at hw
    · cases hw
    · rename_i hh
      cases hu : c.up e.port.toNat with
      | true => rfl
      | false => exact absurd ⟨hk, hu⟩ hh
  obtain ⟨hp0, hp8⟩ := okE_p hoe
  obtain ⟨k, po, v, p, d⟩ := e
  dsimp only at *
  obtain ⟨q, rfl⟩ : ∃ q : Nat, po = q := ⟨po.toNat, by omega⟩
  have hq : q < 8 := by omega
  have hqn : (q : Int).toNat = q := rfl
  have hE : ∀ g ∈ G, EW c g.x := fun g hg => (hok.e g.x (List.mem_map_of_mem hg)).toEW
  by_cases h1 : k = 1
  · subst h1
    refine (portUp_any h hq hok.pc hE ho hB (by simp) 1 v p d).mono fun en w' ⟨he, ov', m⟩ => ?_
    obtain ⟨x1, x2, x3, x4⟩ := upD_x c q G
    rw [List.nil_append, tu_o] at m
    unfold StepPost stepE
    simp only [if_pos, hqn]
    refine ⟨he, ov', mapK (tuE q) (upD c q G).2.1 (upD c q G).2.1.length, ?_, ?_, ?_⟩
    · rw [← x1, ← x2, ← x3]
      exact m.monoU fun k hk => hk.tid
    · rw [tu_x, x2]
    · exact old_map (by rw [mapK_b, x4])
  by_cases h2 : k = 2
  · subst h2
    refine (portDown_any h hq hok.pc hE ho hB (by simp) 2 v p d).mono fun en w' ⟨he, ov', m⟩ => ?_
    obtain ⟨y1, y2⟩ := down_x c q G
    rw [List.nil_append, y2] at m
    unfold StepPost stepE
    simp only [if_neg h1, if_pos, hqn]
    exact ⟨he, ov', _, m.monoU fun k hk => hk.tid, y1, old_map (by rw [lookG_b, cutAll_b])⟩
  by_cases h3 : k = 3
  · subst h3
    have hcb := okE_cost hoe (.inr rfl)
    dsimp only at hcb
    have hupq : c.up q = true := hup (by decide)
    have hpc : PcOk (⟨c.up, setAt c.cost q v⟩ : Pc) := ⟨fun i => by
        have := hok.pc.b i
        show 0 ≤ setAt c.cost q v i ∧ setAt c.cost q v i ≤ 50
        dsimp only at this
        unfold setAt
        split <;> omega, fun i hi => by
        show setAt c.cost q v i = 0
        unfold setAt
        rw [if_neg fun e => by rw [e] at hi; rw [show c.up q = false from hi] at hupq; cases hupq]
        exact hok.pc.dn i hi, fun i hi => hok.pc.lt i hi⟩
    refine (costs_any h hq rfl hpc (fun g hg => (hE g hg).pc rfl) ho hB (by simp) 3 p d).mono fun en w' ⟨he, ov', m⟩ => ?_
    rw [List.nil_append] at m
    unfold StepPost stepE
    simp only [if_neg h1, if_neg h2, if_pos, hqn]
    refine ⟨he, ov', lookG ⟨c.up, setAt c.cost q v⟩ G, ?_, lookG_x _ _, old_map (lookG_b _ _)⟩
    rw [← lookO_x]
    exact m.monoU fun k hk => hk.tid
  by_cases h4 : k = 4
  · subst h4
    have hcb := okE_hear hoe rfl
    dsimp only at hcb
    refine (heard_any h hq (hup (by decide)) hok.pc hE ho hB (by simp) 4 v ⟨hcb.1, hp⟩ hcb.2).mono fun en w' hh => ?_
    unfold StepPost stepE
    simp only [if_neg h1, if_neg h2, if_neg h3, if_pos, hqn]
    rcases hh with ⟨f1, f2, f3, ov', m⟩ | ⟨f1, f2, ov', G', m, f3, f4⟩
    · rw [if_pos ⟨f1, by rw [List.length_map]; exact f2⟩]
      exact ⟨f3, by decide, ov', m⟩
    · rw [if_neg (by rw [List.length_map]; exact f1)]
      rw [List.nil_append] at m
      exact ⟨f2, ov', G', m, f3, f4⟩
  have hk5 := okE_ack hoe h1 h2 h3 h4
  dsimp only at hk5
  obtain ⟨rfl, hmp⟩ := hk5
  refine (acked_any h hq hok.pc hE ho hB (by simp) 5 v (may_ok ⟨hmp, hp⟩) d).mono fun en w' ⟨he, ov', m⟩ => ?_
  unfold StepPost stepE
  simp only [if_neg h1, if_neg h2, if_neg h3, if_neg h4, hqn]
  have hx := findP_x G p
  cases hf : findP G p with
  | none =>
    rw [hf] at hx
    rw [show findE (G.map (·.x)) p = none from hx.symm]
    have hR : ackR c q p G = (7, G, []) := by unfold ackR; rw [hf]
    rw [hR] at he m
    exact ⟨he, by decide, ov', m.monoU fun k hk => hk.tid⟩
  | some g =>
    rw [hf] at hx
    rw [show findE (G.map (·.x)) p = some g.x from hx.symm]
    dsimp only
    by_cases hz : g.x.aw q = 0
    · have hR : ackR c q p G = (7, G, []) := by unfold ackR; rw [hf]; exact if_pos hz
      rw [hR] at he m
      rw [if_pos hz]
      exact ⟨he, by decide, ov', m.monoU fun k hk => hk.tid⟩
    · have hR : ackR c q p G = (0, putG G g.b (lookF c (ackF q g.x)).1, (lookF c (ackF q g.x)).2) := by unfold ackR; rw [hf]; exact if_neg hz
      rw [hR] at he m
      rw [if_neg hz]
      obtain ⟨hgm, rfl⟩ := findP_some hf
      have t1 := putG_turn h.nd h.ndp hgm (fun x => (lookF c (ackF q x)).1)
      have t2 := outE_one (f := fun x => (lookF c (ackF q x)).2) h.ndp hgm
      rw [List.nil_append] at m
      refine ⟨he, ov', _, ?_, t1, old_map (putG_b _ _ _)⟩
      rw [t2]
      exact m.monoU fun k hk => hk.tid
end Go.Proofs.Ytahdjfegihnolaa
