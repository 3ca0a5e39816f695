/- Layer 12: an entry comes in; the plain part of heard. -/
import Derived.Test.YtahdjfegihnolaaLzL
namespace Go.Proofs.Ytahdjfegihnolaa
open Go.RowKit Go.Sort
def insGE (e : GE) : List GE → List GE
  | [] => [e]
  | x :: l => if lessP x.x.p e.x.p then x :: insGE e l else e :: x :: l
theorem insGE_x (e : GE) : ∀ l : List GE, (insGE e l).map (·.x) = insE e.x (l.map (·.x))
  | [] => rfl
  | x :: l => by
    rw [List.map_cons]
    unfold insGE insE
    by_cases h : lessP x.x.p e.x.p
    · rw [if_pos h, if_pos h, List.map_cons, insGE_x e l]
    · rw [if_neg h, if_neg h, List.map_cons, List.map_cons]
theorem insGE_perm (e : GE) : ∀ l : List GE, (insGE e l).Perm (e :: l)
  | [] => List.Perm.refl _
  | x :: l => by
    unfold insGE
    by_cases h : lessP x.x.p e.x.p
    · rw [if_pos h]
      exact ((insGE_perm e l).cons x).trans (List.Perm.swap e x l)
    · rw [if_neg h]
theorem mem_insGE {e x : GE} {l : List GE} : x ∈ insGE e l ↔ x = e ∨ x ∈ l := by rw [(insGE_perm e l).mem_iff, List.mem_cons]
set_option maxRecDepth 100000 in
/-- An entry comes in. -/
theorem CoM.put {w : World} {cb mb : Nat} {ov : Value} {room : Int} {c : Pc} {G : List GE} (h : CoM w cb mb ov room c G) (hl : G.length < 1024) {e : Le} (hp : mayP e.p = true ∧ e.p.1 < 2 ^ 32) (hn : findP G e.p = none) {b : Nat} (hb : Blk w b 87 (enC e)) (hbn : ∀ g ∈ G, g.b ≠ b) :
    ∃ w', (Instr.mapUpdate 79 (.map (some mb)) (.agg #[.int .u32 (e.p.1 : Int), .int .i64 e.p.2]) (.pointer (some ⟨b, 0, none⟩))).run Try.prog w = .ok () w' ∧ CoM w' cb mb ov room c (insGE ⟨e, b⟩ G) ∧ Upd (only mb) w w' := by
  obtain ⟨F, m⟩ := h.map
  have hpo := may_ok hp
  have hmiss := m.miss e.p hpo (findP_none hn)
  obtain ⟨w', hr, hm, hu, hs⟩ := m.map.store pfKeyed Try.underlying79 (by omega) (pfL_key hpo) (.pointer (some ⟨b, 0, none⟩))
  rw [hmiss, if_neg (by simp)] at hm
  have hlen : (insGE ⟨e, b⟩ G).length = G.length + 1 := by rw [(insGE_perm _ _).length_eq]; rfl
  obtain ⟨n1, n2⟩ := h.ne
  have hbm : b ≠ mb := by
    rintro rfl
    obtain ⟨D, ⟨es, cc, q1, _⟩, _⟩ := m.map
    unfold Blk at hb
    rw [q1] at hb
    cases hb
  have hne : ∀ g ∈ G, pfL g.x.p ≠ pfL e.p := fun g hg e2 => findP_none hn g hg (pfL_inj (may_ok (h.may g hg)) hpo e2)
  refine ⟨w', hr, ⟨(hu.block cb h.blk.lt n1).trans h.blk, ⟨setK F (pfL e.p) (some (ptrE b)), ?_, fun a ha => ?_, fun p hp2 hn2 => ?_, fun kl v hv hl2 => ?_⟩, fun a ha => ?_, ?_, ?_, fun a ha => ?_, ?_⟩, hu⟩
  · rw [hlen]; exact hm
  · rcases mem_insGE.1 ha with rfl | ha
    · exact setK_same _ _ _
    · rw [setK_other _ _ (hne a ha)]
      exact m.at_ a ha
  · by_cases e2 : p = e.p
    · exact absurd (show (⟨e, b⟩ : GE).x.p = p from e2.symm) (hn2 ⟨e, b⟩ (mem_insGE.2 (.inl rfl)))
    · rw [setK_other _ _ (fun x => e2 (pfL_inj hp2 hpo x))]
      exact m.miss p hp2 fun a ha ea => hn2 a (mem_insGE.2 (.inr ha)) ea
  · by_cases e2 : kl = pfL e.p
    · exact ⟨⟨e, b⟩, mem_insGE.2 (.inl rfl), e2⟩
    · rw [setK_other _ _ e2] at hv
      obtain ⟨a, ha, h2⟩ := m.keys kl v hv hl2
      exact ⟨a, mem_insGE.2 (.inr ha), h2⟩
  · rcases mem_insGE.1 ha with rfl | ha
    · exact (hu.block b hb.lt hbm).trans hb
    · exact (hu.block a.b (h.en a ha).lt (n2 a ha).2).trans (h.en a ha)
  · rw [((insGE_perm ⟨e, b⟩ G).map (·.b)).nodup_iff, List.map_cons, List.nodup_cons]
    refine ⟨fun hh => ?_, h.nd⟩
    obtain ⟨a, ha, e2⟩ := List.mem_map.1 hh
    exact hbn a ha e2
  · rw [insGE_x]
    refine insE_sorted h.srt ?_
    rw [← findP_x, hn]
    rfl
  · rcases mem_insGE.1 ha with rfl | ha
    · exact hp
    · exact h.may a ha
  · rw [hlen]; omega
theorem putG_turn {G : List GE} (hb : (G.map (·.b)).Nodup) (hp : (G.map (·.x.p)).Nodup) {g : GE} (hg : g ∈ G) (f : Le → Le) : (putG G g.b (f g.x)).map (·.x) = turnE (G.map (·.x)) g.x.p f := by
  unfold putG turnE
  rw [List.map_map, List.map_map]
  refine List.map_congr_left fun h hh => ?_
  show (if h.b = g.b then (⟨f g.x, g.b⟩ : GE) else h).x = if h.x.p = g.x.p then f h.x else h.x
  by_cases e : h.b = g.b
  · obtain rfl := nodup_inj hb hg hh e
    rw [if_pos rfl, if_pos rfl]
  · rw [if_neg e, if_neg fun e2 => e (by rw [nodup_inj (f := fun g : GE => g.x.p) hp hg hh e2])]
theorem outE_one {f : Le → List Tl} : ∀ {G : List GE}, (G.map (·.x.p)).Nodup → ∀ {g : GE}, g ∈ G → outE (G.map (·.x)) g.x.p f = f g.x
  | [], _, _, h => by cases h
  | a :: G, hn, g, hg => by
    rw [List.map_cons, List.nodup_cons] at hn
    unfold outE
    rw [List.map_cons, List.flatMap_cons]
    rcases List.mem_cons.1 hg with rfl | hg
    · rw [if_pos rfl]
      have : ((G.map (·.x)).flatMap fun x => if x.p = g.x.p then f x else []) = [] := by
        rw [List.flatMap_eq_nil_iff]
        intro x hx
        obtain ⟨h, hh, rfl⟩ := List.mem_map.1 hx
        rw [if_neg fun e => hn.1 (by rw [← e]; exact List.mem_map_of_mem (f := fun g : GE => g.x.p) hh)]
      rw [this, List.append_nil]
    · rw [if_neg fun e => hn.1 (by rw [e]; exact List.mem_map_of_mem (f := fun g : GE => g.x.p) hg)]
      exact outE_one hn.2 hg
def heardL (room : Int) (p : Pf) (G : List GE) : List Le := if findE (G.map (·.x)) p = none then insE (newE p (decide ((cntT (G.map (·.x)) : Int) < room))) (G.map (·.x)) else G.map (·.x)
def OldB (w : World) (G G' : List GE) : Prop := ∀ a ∈ G', (∃ b ∈ G, a.b = b.b) ∨ w.heap.size ≤ a.b
def HeardPost (w : World) (cb mb B : Nat) (room : Int) (c : Pc) (q : Nat) (d : Int) (p : Pf) (G : List GE) (o : List Tl) (U : Nat → Prop) (e : Ending) (w' : World) : Prop :=
  (findE (G.map (·.x)) p = none ∧ 1024 ≤ G.length ∧ e = .returned (.int .i64 5) ∧ ∃ ov, TlM w cb mb B room c G o w' ov U) ∨
  (¬ (findE (G.map (·.x)) p = none ∧ 1024 ≤ G.length) ∧ e = .returned (.int .i64 0) ∧ ∃ ov G', TlM w cb mb B room c G' (o ++ outE (heardL room p G) p fun x => (lookF c (hearF q d x)).2) w' ov U ∧ G'.map (·.x) = turnE (heardL room p G) p (fun x => (lookF c (hearF q d x)).1) ∧ OldB w G G')
theorem bd_en (b : Bool) (wx : World) : (Instr.build 87 #[(2, .agg (arA fun _ => 255)), (3, .int .i64 255), (4, .int .i64 255), (1, .bool b)]).run Try.prog wx = .ok (.agg (enC (newE (0, 0) b))) wx := by kernel_rfl
end Go.Proofs.Ytahdjfegihnolaa
