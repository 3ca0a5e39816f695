/- Layer 12: a core in memory; small functions. -/
import Derived.Test.YtahdjfegihnolaaLyC
import Derived.Laws.StructEq
namespace Go.Proofs.Ytahdjfegihnolaa
open Go.RowKit Go.Sort
/-- Eight numbers. -/
def arA (f : Nat → Int) : Array Value := #[.int .i64 (f 0), .int .i64 (f 1), .int .i64 (f 2), .int .i64 (f 3), .int .i64 (f 4), .int .i64 (f 5), .int .i64 (f 6), .int .i64 (f 7)]
def arB (f : Nat → Bool) : Array Value := #[.bool (f 0), .bool (f 1), .bool (f 2), .bool (f 3), .bool (f 4), .bool (f 5), .bool (f 6), .bool (f 7)]
def coC (room : Int) (c : Pc) (mb : Nat) (ov : Value) : Array Value := #[.int .i64 room, .bool (c.up 0), .bool (c.up 1), .bool (c.up 2), .bool (c.up 3), .bool (c.up 4), .bool (c.up 5), .bool (c.up 6), .bool (c.up 7), .int .i64 (c.cost 0), .int .i64 (c.cost 1), .int .i64 (c.cost 2), .int .i64 (c.cost 3), .int .i64 (c.cost 4), .int .i64 (c.cost 5), .int .i64 (c.cost 6), .int .i64 (c.cost 7), .map (some mb), ov]
def enC (x : Le) : Array Value := #[.bool x.own, .bool x.tk, .int .i64 (x.said 0), .int .i64 (x.said 1), .int .i64 (x.said 2), .int .i64 (x.said 3), .int .i64 (x.said 4), .int .i64 (x.said 5), .int .i64 (x.said 6), .int .i64 (x.said 7), .int .i64 x.told, .int .i64 x.feas, .int .i64 ((x.aw 0 : Nat)), .int .i64 ((x.aw 1 : Nat)), .int .i64 ((x.aw 2 : Nat)), .int .i64 ((x.aw 3 : Nat)), .int .i64 ((x.aw 4 : Nat)), .int .i64 ((x.aw 5 : Nat)), .int .i64 ((x.aw 6 : Nat)), .int .i64 ((x.aw 7 : Nat))]
theorem lt8 {p : Nat} (h : p < 8) : p = 0 ∨ p = 1 ∨ p = 2 ∨ p = 3 ∨ p = 4 ∨ p = 5 ∨ p = 6 ∨ p = 7 := by omega
theorem coC_up (room : Int) (c : Pc) (mb : Nat) (ov : Value) {p : Nat} (h : p < 8) : (coC room c mb ov)[1 + p]? = some (.bool (c.up p)) := by rcases lt8 h with rfl | rfl | rfl | rfl | rfl | rfl | rfl | rfl <;> rfl
theorem coC_cost (room : Int) (c : Pc) (mb : Nat) (ov : Value) {p : Nat} (h : p < 8) : (coC room c mb ov)[9 + p]? = some (.int .i64 (c.cost p)) := by rcases lt8 h with rfl | rfl | rfl | rfl | rfl | rfl | rfl | rfl <;> rfl
theorem enC_said (x : Le) {p : Nat} (h : p < 8) : (enC x)[2 + p]? = some (.int .i64 (x.said p)) := by rcases lt8 h with rfl | rfl | rfl | rfl | rfl | rfl | rfl | rfl <;> rfl
theorem enC_aw (x : Le) {p : Nat} (h : p < 8) : (enC x)[12 + p]? = some (.int .i64 ((x.aw p : Nat) : Int)) := by rcases lt8 h with rfl | rfl | rfl | rfl | rfl | rfl | rfl | rfl <;> rfl
theorem enC_set_aw (x : Le) {p : Nat} (h : p < 8) (v : Nat) : (enC x).setIfInBounds (12 + p) (.int .i64 (v : Int)) = enC { x with aw := setN x.aw p v } := by
  rcases lt8 h with rfl | rfl | rfl | rfl | rfl | rfl | rfl | rfl <;> rfl
theorem enC_set_said (x : Le) {p : Nat} (h : p < 8) (v : Int) : (enC x).setIfInBounds (2 + p) (.int .i64 v) = enC { x with said := setAt x.said p v } := by
  rcases lt8 h with rfl | rfl | rfl | rfl | rfl | rfl | rfl | rfl <;> rfl
theorem coC_set_up (room : Int) (c : Pc) (mb : Nat) (ov : Value) {p : Nat} (h : p < 8) (v : Bool) : (coC room c mb ov).setIfInBounds (1 + p) (.bool v) = coC room ⟨setB c.up p v, c.cost⟩ mb ov := by
  rcases lt8 h with rfl | rfl | rfl | rfl | rfl | rfl | rfl | rfl <;> rfl
theorem coC_set_cost (room : Int) (c : Pc) (mb : Nat) (ov : Value) {p : Nat} (h : p < 8) (v : Int) : (coC room c mb ov).setIfInBounds (9 + p) (.int .i64 v) = coC room ⟨c.up, setAt c.cost p v⟩ mb ov := by
  rcases lt8 h with rfl | rfl | rfl | rfl | rfl | rfl | rfl | rfl <;> rfl
/-- An entry with its block. -/
structure GE where
  x : Le
  b : Nat
def ptrE (b : Nat) : Value := .pointer (some ⟨b, 0, none⟩)
structure CoF (w : World) (mb : Nat) (G : List GE) (F : Lit → Option Value) : Prop where
  map : MapV Try.prog 36 w mb G.length F G.length
  at_ : ∀ g ∈ G, F (pfL g.x.p) = some (ptrE g.b)
  miss : ∀ p : Pf, pfOk p → (∀ g ∈ G, g.x.p ≠ p) → F (pfL p) = none
  keys : ∀ kl v, F kl = some v → WideAt.IsKeyLit kl → ∃ g ∈ G, kl = pfL g.x.p
/-- A core in memory: its block, its map's. -/
structure CoM (w : World) (cb mb : Nat) (ov : Value) (room : Int) (c : Pc) (G : List GE) : Prop where
  blk : Blk w cb 81 (coC room c mb ov)
  map : ∃ F, CoF w mb G F
  en : ∀ g ∈ G, Blk w g.b 87 (enC g.x)
  nd : (G.map (·.b)).Nodup
  srt : sortedL (G.map (·.x))
  may : ∀ g ∈ G, mayP g.x.p = true ∧ g.x.p.1 < 2 ^ 32
  len : G.length ≤ 1024
def CoMut (cb mb : Nat) (G : List GE) (b : Nat) : Prop := b = cb ∨ b = mb ∨ ∃ g ∈ G, b = g.b
section
variable {w w' : World} {cb mb : Nat} {ov : Value} {room : Int} {c : Pc} {G : List GE}
theorem may_ok {p : Pf} (h : mayP p = true ∧ p.1 < 2 ^ 32) : pfOk p := by
  unfold mayP at h
  simp only [Bool.and_eq_true, decide_eq_true_eq] at h
  exact ⟨h.2, by omega, by omega⟩
theorem CoM.same (h : CoM w cb mb ov room c G) (hs : Same (CoMut cb mb G) w w') : CoM w' cb mb ov room c G := by
  obtain ⟨F, m⟩ := h.map
  exact ⟨(hs.2 cb (.inl rfl) h.blk.lt).trans h.blk, ⟨F, m.map.block (hs.2 mb (.inr (.inl rfl)) m.map.lt), m.at_, m.miss, m.keys⟩, fun g hg => (hs.2 g.b (.inr (.inr ⟨g, hg, rfl⟩)) (h.en g hg).lt).trans (h.en g hg), h.nd, h.srt, h.may, h.len⟩
theorem CoM.lt (h : CoM w cb mb ov room c G) : ∀ b, CoMut cb mb G b → b < w.heap.size := by
  obtain ⟨F, m⟩ := h.map
  rintro b (rfl | rfl | ⟨g, hg, rfl⟩)
  · exact h.blk.lt
  · exact m.map.lt
  · exact (h.en g hg).lt
theorem CoM.below (h : CoM w cb mb ov room c G) (hb : Below w.heap.size w w') : CoM w' cb mb ov room c G := h.same ⟨hb.size, fun b _ hlt => hb.block b hlt⟩
theorem CoM.ne (h : CoM w cb mb ov room c G) : cb ≠ mb ∧ ∀ g ∈ G, g.b ≠ cb ∧ g.b ≠ mb := by
  obtain ⟨F, m⟩ := h.map
  refine ⟨?_, fun g hg => ⟨?_, ?_⟩⟩
  · rintro rfl
    obtain ⟨D, ⟨es, c, h1, _⟩, _⟩ := m.map
    have := h.blk
    unfold Blk at this
    rw [h1] at this
    cases this
  · exact (h.en g hg).ne_ h.blk (by decide)
  · rintro rfl
    obtain ⟨D, ⟨es, c, h1, _⟩, _⟩ := m.map
    have := h.en g hg
    unfold Blk at this
    rw [h1] at this
    cases this
set_option maxRecDepth 100000 in
theorem CoM.keysAre (h : CoM w cb mb ov room c G) {F : Lit → Option Value} (m : CoF w mb G F) : KeysAre F (G.map (·.x.p)) := by
  refine ⟨fun p hp => ?_, ?_, fun p hp => ?_, fun kl v hv hl => ?_⟩
  · obtain ⟨g, hg, rfl⟩ := List.mem_map.1 hp
    exact may_ok (h.may g hg)
  · have := h.srt
    unfold sortedL at this
    rw [List.map_map] at this
    have h2 : (G.map (·.x.p)).Pairwise lessP := this
    have h3 : ∀ a b : Pf, lessP a b → a ≠ b := fun a b hh e => lessP_irrefl b (by rw [e] at hh; exact hh)
    exact List.Pairwise.imp (fun hh => h3 _ _ hh) h2
  · obtain ⟨g, hg, rfl⟩ := List.mem_map.1 hp
    rw [m.at_ g hg]; rfl
  · obtain ⟨g, hg, rfl⟩ := m.keys kl v hv hl
    exact ⟨_, List.mem_map_of_mem hg, rfl⟩
theorem CoM.keysW (h : CoM w cb mb ov room c G) : Calls Try.prog 31 #[.pointer (some ⟨cb, 0, none⟩)] w fun e w' => ∃ v, e = .returned v ∧ w'.ownsRow w.heap.size 36 2 v G.length (flatP (G.map (·.x.p))) ∧ Below w.heap.size w w' := by
  obtain ⟨F, m⟩ := h.map
  have hs := h.srt
  unfold sortedL at hs
  rw [List.map_map] at hs
  have := keys_any cb mb _ _ F (G.map (·.x.p)) (h.keysAre m) hs (by rw [List.length_map]; have := h.len; omega) w (h.blk.cell 17) m.map
  rwa [List.length_map] at this
end
/-- Loads of eight. -/
theorem ar_info : (Try.prog.info? 41).map (·.size) = some 8 := by kernel_rfl
theorem br_info : (Try.prog.info? 74).map (·.size) = some 8 := by kernel_rfl
theorem blk_rangeZ {w : World} {g : Nat} {t : TypeId} {cs : Array Value} (h : Blk w g t cs) (o : Nat) (l : List Value) (hl : ∀ j u, l[j]? = some u → cs[o + j]? = some u) : w.rangeAt g o l := fun j v hj => by rw [h.cell]; exact hl j v hj
theorem ar_get (f : Nat → Int) {j : Nat} {u : Value} (h : (arA f).toList[j]? = some u) : j < 8 ∧ u = .int .i64 (f j) := by
  have hj : j < 8 := by
    rcases Nat.lt_or_ge j 8 with hl | hg
    · exact hl
    · rw [List.getElem?_eq_none (by simpa [arA] using hg)] at h; cases h
  refine ⟨hj, ?_⟩
  rcases lt8 hj with rfl | rfl | rfl | rfl | rfl | rfl | rfl | rfl <;> exact (Option.some.inj h).symm
theorem br_get (f : Nat → Bool) {j : Nat} {u : Value} (h : (arB f).toList[j]? = some u) : j < 8 ∧ u = .bool (f j) := by
  have hj : j < 8 := by
    rcases Nat.lt_or_ge j 8 with hl | hg
    · exact hl
    · rw [List.getElem?_eq_none (by simpa [arB] using hg)] at h; cases h
  refine ⟨hj, ?_⟩
  rcases lt8 hj with rfl | rfl | rfl | rfl | rfl | rfl | rfl | rfl <;> exact (Option.some.inj h).symm
theorem ld_said {w : World} {b : Nat} {x : Le} (h : Blk w b 87 (enC x)) : (Instr.loadAt 41 (.pointer (some ⟨b, 2, none⟩))).run Try.prog w = .ok (.agg (arA x.said)) w := by
  have := run_loadAt_mid (P := Try.prog) w b 2 41 (arA x.said).toList _ (blk_rangeZ h 2 _ fun j u hu => by obtain ⟨h1, rfl⟩ := ar_get _ hu; exact enC_said x h1) Try.underlying41 rfl (by simpa [arA] using ar_info)
  simpa using this
theorem ld_aw {w : World} {b : Nat} {x : Le} (h : Blk w b 87 (enC x)) : (Instr.loadAt 41 (.pointer (some ⟨b, 12, none⟩))).run Try.prog w = .ok (.agg (arA fun q => ((x.aw q : Nat) : Int))) w := by
  have := run_loadAt_mid (P := Try.prog) w b 12 41 (arA fun q => ((x.aw q : Nat) : Int)).toList _ (blk_rangeZ h 12 _ fun j u hu => by obtain ⟨h1, rfl⟩ := ar_get _ hu; exact enC_aw x h1) Try.underlying41 rfl (by simpa [arA] using ar_info)
  simpa using this
theorem ld_up {w : World} {b mb : Nat} {ov : Value} {room : Int} {c : Pc} (h : Blk w b 81 (coC room c mb ov)) : (Instr.loadAt 74 (.pointer (some ⟨b, 1, none⟩))).run Try.prog w = .ok (.agg (arB c.up)) w := by
  have := run_loadAt_mid (P := Try.prog) w b 1 74 (arB c.up).toList _ (blk_rangeZ h 1 _ fun j u hu => by obtain ⟨h1, rfl⟩ := br_get _ hu; exact coC_up room c mb ov h1) Try.underlying74 rfl (by simpa [arB] using br_info)
  simpa using this
theorem ix_ar (f : Nat → Int) {k : Nat} (h : k < 8) (w : World) : (Instr.index 41 (.agg (arA f)) (.int .i64 (k : Int))).run Try.prog w = .ok (.int .i64 (f k)) w := by
  rcases lt8 h with rfl | rfl | rfl | rfl | rfl | rfl | rfl | rfl <;> kernel_rfl
theorem ix_br (f : Nat → Bool) {k : Nat} (h : k < 8) (w : World) : (Instr.index 74 (.agg (arB f)) (.int .i64 (k : Int))).run Try.prog w = .ok (.bool (f k)) w := by
  rcases lt8 h with rfl | rfl | rfl | rfl | rfl | rfl | rfl | rfl <;> kernel_rfl
theorem bd_ar (w : World) : (Instr.build 41 #[]).run Try.prog w = .ok (.agg (arA fun _ => 0)) w := by kernel_rfl
def eq8 (f g : Nat → Int) : Bool := (List.range 8).all fun i => f i == g i
theorem eqIn_ar (f g : Nat → Int) (w : World) : (Op.equalIn 10000 41 (.agg (arA f)) (.agg (arA g))).run Try.prog w = .ok (eq8 f g) w := by
  obtain ⟨i, hi⟩ : ∃ i, Try.prog.info? 3 = some i := by
    have := (show (Try.prog.info? 3).map (fun i => (i.zero, i.size, i.bytes)) = some (some (.int .i64 0), 1, 8) by kernel_rfl)
    cases h : Try.prog.info? 3 with
    | none => rw [h] at this; cases this
    | some i => exact ⟨i, rfl⟩
  have hc : Try.prog.cellsOf 3 = 1 := by kernel_rfl
  rw [run_equalIn_array (P := Try.prog) w 9999 (arA f) (arA g) Try.underlying41 hi, hc]
  have key : ∀ is : List Nat, (∀ j ∈ is, j < 8) → (Op.eqItems 9999 3 1 (arA f) (arA g) is).run Try.prog w = .ok (is.all fun i => f i == g i) w := fun is => by
    induction is with
    | nil => intro _; simp [Op.eqItems]
    | cons j is ih =>
      intro h
      have hj := h j (by simp)
      have gf : ∀ f : Nat → Int, (arA f)[j * 1]? = some (.int .i64 (f j)) := fun f => by
        rw [Nat.mul_one]
        rcases lt8 hj with rfl | rfl | rfl | rfl | rfl | rfl | rfl | rfl <;> rfl
      have hp : (part 3 (arA f) (j * 1)).run Try.prog w = .ok (.int .i64 (f j)) w := run_part_plain (P := Try.prog) (w := w) (by kernel_rfl) (gf f)
      have hq : (part 3 (arA g) (j * 1)).run Try.prog w = .ok (.int .i64 (g j)) w := run_part_plain (P := Try.prog) (w := w) (by kernel_rfl) (gf g)
      unfold Op.eqItems
      simp only [Sem.run_bind, hp, hq, Result.andThen_ok]
      rw [run_equalIn_int (P := Try.prog) (w := w) 9998 3 .i64 .i64 (f j) (g j) Try.underlying3]
      simp only [Result.andThen_ok, List.all_cons]
      have ih2 := ih fun j hj => h j (by simp [hj])
      by_cases hb : f j = g j
      · simp [hb, ih2]
      · have hb2 : (f j == g j) = false := by rw [beq_eq_false_iff_ne]; exact hb
        clear hb
        simp [hb2]
  rw [key _ fun j hj => List.mem_range.1 hj]
  rfl
theorem eql_ar (f g : Nat → Int) (w : World) : (binOp .eql 41 (.agg (arA f)) (.agg (arA g))).run Try.prog w = .ok (.bool (eq8 f g)) w := by
  rw [run_eql_struct, eqIn_ar]
  rfl
theorem neq_ar (f g : Nat → Int) (w : World) : (binOp .neq 41 (.agg (arA f)) (.agg (arA g))).run Try.prog w = .ok (.bool (!eq8 f g)) w := by
  rw [run_neq_struct, eqIn_ar]
  rfl
theorem ng_ar (x y : Operand) (f g : Nat → Int) (w : World) : (eqGuard .neq 41 x y (.agg (arA f)) (.agg (arA g))).run Try.prog w = .ok () w := by
  go_simp
end Go.Proofs.Ytahdjfegihnolaa
