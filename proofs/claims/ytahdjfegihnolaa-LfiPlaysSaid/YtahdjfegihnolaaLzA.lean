/- Layer 12: a core in memory; there, blank, active, distance, stays, takenNow. -/
import Derived.Test.YtahdjfegihnolaaLyC
import Derived.Laws.StructEq
import Derived.Lib.QuietBelow
namespace Go.Proofs.Ytahdjfegihnolaa
open Go.RowKit Go.Sort
/-- Eight numbers. -/
def arA (f : Nat → Int) : Array Value := #[.int .i64 (f 0), .int .i64 (f 1), .int .i64 (f 2), .int .i64 (f 3), .int .i64 (f 4), .int .i64 (f 5), .int .i64 (f 6), .int .i64 (f 7)]
def arB (f : Nat → Bool) : Array Value := #[.bool (f 0), .bool (f 1), .bool (f 2), .bool (f 3), .bool (f 4), .bool (f 5), .bool (f 6), .bool (f 7)]
def coC (room : Int) (c : Pc) (mb : Nat) (ov : Value) : Array Value := #[.int .i64 room, .bool (c.up 0), .bool (c.up 1), .bool (c.up 2), .bool (c.up 3), .bool (c.up 4), .bool (c.up 5), .bool (c.up 6), .bool (c.up 7), .int .i64 (c.cost 0), .int .i64 (c.cost 1), .int .i64 (c.cost 2), .int .i64 (c.cost 3), .int .i64 (c.cost 4), .int .i64 (c.cost 5), .int .i64 (c.cost 6), .int .i64 (c.cost 7), .map (some mb), ov]
def enC (x : Le) : Array Value := #[.bool x.own, .bool x.tk, .int .i64 (x.said 0), .int .i64 (x.said 1), .int .i64 (x.said 2), .int .i64 (x.said 3), .int .i64 (x.said 4), .int .i64 (x.said 5), .int .i64 (x.said 6), .int .i64 (x.said 7), .int .i64 x.told, .int .i64 x.feas, .int .i64 ((x.aw 0 : Nat)), .int .i64 ((x.aw 1 : Nat)), .int .i64 ((x.aw 2 : Nat)), .int .i64 ((x.aw 3 : Nat)), .int .i64 ((x.aw 4 : Nat)), .int .i64 ((x.aw 5 : Nat)), .int .i64 ((x.aw 6 : Nat)), .int .i64 ((x.aw 7 : Nat))]
theorem lt8 {p : Nat} (h : p < 8) : p = 0 ∨ p = 1 ∨ p = 2 ∨ p = 3 ∨ p = 4 ∨ p = 5 ∨ p = 6 ∨ p = 7 := by omega
theorem coC_up (room : Int) (c : Pc) (mb : Nat) (ov : Value) {p : Nat} (h : p < 8) : (coC room c mb ov)[1 + p]? = some (.bool (c.up p)) := by rcases lt8 h with rfl | rfl | rfl | rfl | rfl | rfl | rfl | rfl <;> rfl
theorem coC_cost (room : Int) (c : Pc) (mb : Nat) (ov : Value) {p : Nat} (h : p < 8) : (coC room c mb ov)[9 + p]? = some (.int .i64 (c.cost p)) := by rcases lt8 h with rfl | rfl | rfl | rfl | rfl | rfl | rfl | rfl <;> rfl
theorem enC_said (x : Le) {p : Nat} (h : p < 8) : (enC x)[2 + p]? = some (.int .i64 (x.said p)) := by rcases lt8 h with rfl | rfl | rfl | rfl | rfl | rfl | rfl | rfl <;> rfl
theorem enC_aw (x : Le) {p : Nat} (h : p < 8) : (enC x)[12 + p]? = some (.int .i64 ((x.aw p : Nat) : Int)) := by rcases lt8 h with rfl | rfl | rfl | rfl | rfl | rfl | rfl | rfl <;> rfl
theorem enC_set_aw (x : Le) {p : Nat} (h : p < 8) (v : Nat) : (enC x).setIfInBounds (12 + p) (.int .i64 (v : Int)) = enC { x with aw := setN x.aw p v } := by
  rcases lt8 h with rfl | rfl | rfl | rfl | rfl | rfl | rfl | rfl <;> rfl
theorem enC_set_said (x : Le) {p : Nat} (h : p < 8) (v : Int) : (enC x).setIfInBounds (2 + p) (.int .i64 v) = enC { x with said := setAt x.said p v } := by
  rcases lt8 h with rfl | rfl | rfl | rfl | rfl | rfl | rfl | rfl <;> rfl
theorem coC_set_up (room : Int) (c : Pc) (mb : Nat) (ov : Value) {p : Nat} (h : p < 8) (v : Bool) : (coC room c mb ov).setIfInBounds (1 + p) (.bool v) = coC room ⟨setB c.up p v, c.cost⟩ mb ov := by
  rcases lt8 h with rfl | rfl | rfl | rfl | rfl | rfl | rfl | rfl <;> rfl
theorem coC_set_cost (room : Int) (c : Pc) (mb : Nat) (ov : Value) {p : Nat} (h : p < 8) (v : Int) : (coC room c mb ov).setIfInBounds (9 + p) (.int .i64 v) = coC room ⟨c.up, setAt c.cost p v⟩ mb ov := by
  rcases lt8 h with rfl | rfl | rfl | rfl | rfl | rfl | rfl | rfl <;> rfl
/-- An entry with its block. -/
structure GE where
  x : Le
  b : Nat
def ptrE (b : Nat) : Value := .pointer (some ⟨b, 0, none⟩)
structure CoF (w : World) (mb : Nat) (G : List GE) (F : Lit → Option Value) : Prop where
  map : MapV Try.prog 36 w mb G.length F G.length
  at_ : ∀ g ∈ G, F (pfL g.x.p) = some (ptrE g.b)
  miss : ∀ p : Pf, pfOk p → (∀ g ∈ G, g.x.p ≠ p) → F (pfL p) = none
  keys : ∀ kl v, F kl = some v → WideAt.IsKeyLit kl → ∃ g ∈ G, kl = pfL g.x.p
/-- A core in memory: its block, its map's. -/
structure CoM (w : World) (cb mb : Nat) (ov : Value) (room : Int) (c : Pc) (G : List GE) : Prop where
  blk : Blk w cb 81 (coC room c mb ov)
  map : ∃ F, CoF w mb G F
  en : ∀ g ∈ G, Blk w g.b 87 (enC g.x)
  nd : (G.map (·.b)).Nodup
  srt : sortedL (G.map (·.x))
  may : ∀ g ∈ G, mayP g.x.p = true ∧ g.x.p.1 < 2 ^ 32
  len : G.length ≤ 1024
def CoMut (cb mb : Nat) (G : List GE) (b : Nat) : Prop := b = cb ∨ b = mb ∨ ∃ g ∈ G, b = g.b
section
variable {w w' : World} {cb mb : Nat} {ov : Value} {room : Int} {c : Pc} {G : List GE}
theorem may_ok {p : Pf} (h : mayP p = true ∧ p.1 < 2 ^ 32) : pfOk p := by
  unfold mayP at h
  simp only [Bool.and_eq_true, decide_eq_true_eq] at h
  exact ⟨h.2, by omega, by omega⟩
theorem CoM.same (h : CoM w cb mb ov room c G) (hs : Same (CoMut cb mb G) w w') : CoM w' cb mb ov room c G := by
  obtain ⟨F, m⟩ := h.map
  exact ⟨(hs.2 cb (.inl rfl) h.blk.lt).trans h.blk, ⟨F, m.map.block (hs.2 mb (.inr (.inl rfl)) m.map.lt), m.at_, m.miss, m.keys⟩, fun g hg => (hs.2 g.b (.inr (.inr ⟨g, hg, rfl⟩)) (h.en g hg).lt).trans (h.en g hg), h.nd, h.srt, h.may, h.len⟩
theorem CoM.lt (h : CoM w cb mb ov room c G) : ∀ b, CoMut cb mb G b → b < w.heap.size := by
  obtain ⟨F, m⟩ := h.map
  rintro b (rfl | rfl | ⟨g, hg, rfl⟩)
  · exact h.blk.lt
  · exact m.map.lt
  · exact (h.en g hg).lt
theorem CoM.below (h : CoM w cb mb ov room c G) (hb : Below w.heap.size w w') : CoM w' cb mb ov room c G := h.same ⟨hb.size, fun b _ hlt => hb.block b hlt⟩
theorem CoM.ne (h : CoM w cb mb ov room c G) : cb ≠ mb ∧ ∀ g ∈ G, g.b ≠ cb ∧ g.b ≠ mb := by
  obtain ⟨F, m⟩ := h.map
  refine ⟨?_, fun g hg => ⟨?_, ?_⟩⟩
  · rintro rfl
    obtain ⟨D, ⟨es, c, h1, _⟩, _⟩ := m.map
    have := h.blk
    unfold Blk at this
    rw [h1] at this
    cases this
  · exact (h.en g hg).ne_ h.blk (by decide)
  · rintro rfl
    obtain ⟨D, ⟨es, c, h1, _⟩, _⟩ := m.map
    have := h.en g hg
    unfold Blk at this
    rw [h1] at this
    cases this
set_option maxRecDepth 100000 in
theorem CoM.keysAre (h : CoM w cb mb ov room c G) {F : Lit → Option Value} (m : CoF w mb G F) : KeysAre F (G.map (·.x.p)) := by
  refine ⟨fun p hp => ?_, ?_, fun p hp => ?_, fun kl v hv hl => ?_⟩
  · obtain ⟨g, hg, rfl⟩ := List.mem_map.1 hp
    exact may_ok (h.may g hg)
  · have := h.srt
    unfold sortedL at this
    rw [List.map_map] at this
    have h2 : (G.map (·.x.p)).Pairwise lessP := this
    have h3 : ∀ a b : Pf, lessP a b → a ≠ b := fun a b hh e => lessP_irrefl b (by rw [e] at hh; exact hh)
    exact List.Pairwise.imp (fun hh => h3 _ _ hh) h2
  · obtain ⟨g, hg, rfl⟩ := List.mem_map.1 hp
    rw [m.at_ g hg]; rfl
  · obtain ⟨g, hg, rfl⟩ := m.keys kl v hv hl
    exact ⟨_, List.mem_map_of_mem hg, rfl⟩
theorem CoM.keysW (h : CoM w cb mb ov room c G) : Calls Try.prog 31 #[.pointer (some ⟨cb, 0, none⟩)] w fun e w' => ∃ v, e = .returned v ∧ w'.ownsRow w.heap.size 36 2 v G.length (flatP (G.map (·.x.p))) ∧ Below w.heap.size w w' := by
  obtain ⟨F, m⟩ := h.map
  have hs := h.srt
  unfold sortedL at hs
  rw [List.map_map] at hs
  have := keys_any cb mb _ _ F (G.map (·.x.p)) (h.keysAre m) hs (by rw [List.length_map]; have := h.len; omega) w (h.blk.cell 17) m.map
  rwa [List.length_map] at this
end
/-- Loads of eight. -/
theorem ar_info : (Try.prog.info? 41).map (·.size) = some 8 := by kernel_rfl
theorem br_info : (Try.prog.info? 74).map (·.size) = some 8 := by kernel_rfl
theorem blk_rangeZ {w : World} {g : Nat} {t : TypeId} {cs : Array Value} (h : Blk w g t cs) (o : Nat) (l : List Value) (hl : ∀ j u, l[j]? = some u → cs[o + j]? = some u) : w.rangeAt g o l := fun j v hj => by rw [h.cell]; exact hl j v hj
theorem ar_get (f : Nat → Int) {j : Nat} {u : Value} (h : (arA f).toList[j]? = some u) : j < 8 ∧ u = .int .i64 (f j) := by
  have hj : j < 8 := by
    rcases Nat.lt_or_ge j 8 with hl | hg
    · exact hl
    · rw [List.getElem?_eq_none (by simpa [arA] using hg)] at h; cases h
  refine ⟨hj, ?_⟩
  rcases lt8 hj with rfl | rfl | rfl | rfl | rfl | rfl | rfl | rfl <;> exact (Option.some.inj h).symm
theorem br_get (f : Nat → Bool) {j : Nat} {u : Value} (h : (arB f).toList[j]? = some u) : j < 8 ∧ u = .bool (f j) := by
  have hj : j < 8 := by
    rcases Nat.lt_or_ge j 8 with hl | hg
    · exact hl
    · rw [List.getElem?_eq_none (by simpa [arB] using hg)] at h; cases h
  refine ⟨hj, ?_⟩
  rcases lt8 hj with rfl | rfl | rfl | rfl | rfl | rfl | rfl | rfl <;> exact (Option.some.inj h).symm
theorem ld_said {w : World} {b : Nat} {x : Le} (h : Blk w b 87 (enC x)) : (Instr.loadAt 41 (.pointer (some ⟨b, 2, none⟩))).run Try.prog w = .ok (.agg (arA x.said)) w := by
  have := run_loadAt_mid (P := Try.prog) w b 2 41 (arA x.said).toList _ (blk_rangeZ h 2 _ fun j u hu => by obtain ⟨h1, rfl⟩ := ar_get _ hu; exact enC_said x h1) Try.underlying41 rfl (by simpa [arA] using ar_info)
  simpa using this
theorem ld_aw {w : World} {b : Nat} {x : Le} (h : Blk w b 87 (enC x)) : (Instr.loadAt 41 (.pointer (some ⟨b, 12, none⟩))).run Try.prog w = .ok (.agg (arA fun q => ((x.aw q : Nat) : Int))) w := by
  have := run_loadAt_mid (P := Try.prog) w b 12 41 (arA fun q => ((x.aw q : Nat) : Int)).toList _ (blk_rangeZ h 12 _ fun j u hu => by obtain ⟨h1, rfl⟩ := ar_get _ hu; exact enC_aw x h1) Try.underlying41 rfl (by simpa [arA] using ar_info)
  simpa using this
theorem ld_up {w : World} {b mb : Nat} {ov : Value} {room : Int} {c : Pc} (h : Blk w b 81 (coC room c mb ov)) : (Instr.loadAt 74 (.pointer (some ⟨b, 1, none⟩))).run Try.prog w = .ok (.agg (arB c.up)) w := by
  have := run_loadAt_mid (P := Try.prog) w b 1 74 (arB c.up).toList _ (blk_rangeZ h 1 _ fun j u hu => by obtain ⟨h1, rfl⟩ := br_get _ hu; exact coC_up room c mb ov h1) Try.underlying74 rfl (by simpa [arB] using br_info)
  simpa using this
theorem ix_ar (f : Nat → Int) {k : Nat} (h : k < 8) (w : World) : (Instr.index 41 (.agg (arA f)) (.int .i64 (k : Int))).run Try.prog w = .ok (.int .i64 (f k)) w := by
  rcases lt8 h with rfl | rfl | rfl | rfl | rfl | rfl | rfl | rfl <;> kernel_rfl
theorem ix_br (f : Nat → Bool) {k : Nat} (h : k < 8) (w : World) : (Instr.index 74 (.agg (arB f)) (.int .i64 (k : Int))).run Try.prog w = .ok (.bool (f k)) w := by
  rcases lt8 h with rfl | rfl | rfl | rfl | rfl | rfl | rfl | rfl <;> kernel_rfl
theorem bd_ar (w : World) : (Instr.build 41 #[]).run Try.prog w = .ok (.agg (arA fun _ => 0)) w := by kernel_rfl
def eq8 (f g : Nat → Int) : Bool := (List.range 8).all fun i => f i == g i
theorem eqIn_ar (f g : Nat → Int) (w : World) : (Op.equalIn 10000 41 (.agg (arA f)) (.agg (arA g))).run Try.prog w = .ok (eq8 f g) w := by
  obtain ⟨i, hi⟩ : ∃ i, Try.prog.info? 3 = some i := by
    have := (show (Try.prog.info? 3).map (fun i => (i.zero, i.size, i.bytes)) = some (some (.int .i64 0), 1, 8) by kernel_rfl)
    cases h : Try.prog.info? 3 with
    | none => rw [h] at this; cases this
    | some i => exact ⟨i, rfl⟩
  have hc : Try.prog.cellsOf 3 = 1 := by kernel_rfl
  rw [run_equalIn_array (P := Try.prog) w 9999 (arA f) (arA g) Try.underlying41 hi, hc]
  have key : ∀ is : List Nat, (∀ j ∈ is, j < 8) → (Op.eqItems 9999 3 1 (arA f) (arA g) is).run Try.prog w = .ok (is.all fun i => f i == g i) w := fun is => by
    induction is with
    | nil => intro _; simp [Op.eqItems]
    | cons j is ih =>
      intro h
      have hj := h j (by simp)
      have gf : ∀ f : Nat → Int, (arA f)[j * 1]? = some (.int .i64 (f j)) := fun f => by
        rw [Nat.mul_one]
        rcases lt8 hj with rfl | rfl | rfl | rfl | rfl | rfl | rfl | rfl <;> rfl
      have hp : (part 3 (arA f) (j * 1)).run Try.prog w = .ok (.int .i64 (f j)) w := run_part_plain (P := Try.prog) (w := w) (by kernel_rfl) (gf f)
      have hq : (part 3 (arA g) (j * 1)).run Try.prog w = .ok (.int .i64 (g j)) w := run_part_plain (P := Try.prog) (w := w) (by kernel_rfl) (gf g)
      unfold Op.eqItems
      simp only [Sem.run_bind, hp, hq, Result.andThen_ok]
      rw [run_equalIn_int (P := Try.prog) (w := w) 9998 3 .i64 .i64 (f j) (g j) Try.underlying3]
      simp only [Result.andThen_ok, List.all_cons]
      have ih2 := ih fun j hj => h j (by simp [hj])
      by_cases hb : f j = g j
      · simp [hb, ih2]
      · have hb2 : (f j == g j) = false := by rw [beq_eq_false_iff_ne]; exact hb
        clear hb
        simp [hb2]
  rw [key _ fun j hj => List.mem_range.1 hj]
  rfl
theorem eql_ar (f g : Nat → Int) (w : World) : (binOp .eql 41 (.agg (arA f)) (.agg (arA g))).run Try.prog w = .ok (.bool (eq8 f g)) w := by
  rw [run_eql_struct, eqIn_ar]
  rfl
theorem neq_ar (f g : Nat → Int) (w : World) : (binOp .neq 41 (.agg (arA f)) (.agg (arA g))).run Try.prog w = .ok (.bool (!eq8 f g)) w := by
  rw [run_neq_struct, eqIn_ar]
  rfl
theorem ng_ar (x y : Operand) (f g : Nat → Int) (w : World) : (eqGuard .neq 41 x y (.agg (arA f)) (.agg (arA g))).run Try.prog w = .ok () w := by
  go_simp
end Go.Proofs.Ytahdjfegihnolaa
namespace Go.Proofs.Ytahdjfegihnolaa
open Go.RowKit Go.Sort
theorem ld_iC {w : World} {b o : Nat} {z : Int} (hu : w.cell? ⟨b, o, none⟩ = some (.int .i64 z)) : (Instr.loadAt 3 (.pointer (some ⟨b, o, none⟩))).run Try.prog w = .ok (.int .i64 z) w := by simp [go_sem, hu]
theorem ld_bC {w : World} {b o : Nat} {z : Bool} (hu : w.cell? ⟨b, o, none⟩ = some (.bool z)) : (Instr.loadAt 4 (.pointer (some ⟨b, o, none⟩))).run Try.prog w = .ok (.bool z) w := by simp [go_sem, hu]
theorem cthere_any {w : World} {cb mb : Nat} {ov : Value} {room : Int} {c : Pc} (h : Blk w cb 81 (coC room c mb ov)) : Calls Try.prog 27 #[.pointer (some ⟨cb, 0, none⟩)] w fun e w' => e = .returned (.bool true) ∧ w = w' := by
  have c0 : w.cell? ⟨cb, 17, none⟩ = some (.map (some mb)) := h.cell 17
  have qT : ∀ (w : World) (r : Option Nat), (binOp .neq 79 (.map r) (.map none)).run Try.prog w = .ok (.bool (!r.isNone)) w := fun w r => run_neq_map_nil w _ _ _ r Try.underlying79
  clear h
  go_enter Try.func27, Try.ntmps27
  go_wp2_with fail
  go_ret
  exact ⟨rfl, rfl⟩
theorem res_ar {w : World} {g : Nat} {f : Nat → Int} {fn : Func} {p : Tmp} (hf : fn.results = #[.cell p 41]) (tmps : Array Value) (hp : tmps.getD p undef = .pointer (some ⟨g, 0, none⟩)) (h : Blk w g 41 (arA f)) :
    (results fn tmps).run Try.prog w = .ok (.agg (arA f)) w := by
  have hl := run_loadVar_mid (P := Try.prog) w g 0 41 (arA f).toList _ (blk_rangeZ h 0 _ fun j u hu => by rw [Nat.zero_add]; simpa using hu) Try.underlying41 rfl (by simpa [arA] using ar_info)
  have e1 : tmps[p]?.getD undef = .pointer (some ⟨g, 0, none⟩) := by simpa using hp
  simp only [results, hf]
  simp [e1, asAddr, hl]
set_option maxRecDepth 100000 in
theorem blank_any (w : World) : Calls Try.prog 26 #[] w fun e w' => e = .returned (.agg (arA fun _ => 255)) ∧ Below w.heap.size w w' := by
  go_enter Try.func26, Try.ntmps26
  go_wp2_with fail
  refine wp_loop_rounds 9 ?_
  rw [rounds_succ]; go_wp2_with fail
  rw [rounds_succ]; go_wp2_with fail
  rw [rounds_succ]; go_wp2_with fail
  rw [rounds_succ]; go_wp2_with fail
  rw [rounds_succ]; go_wp2_with fail
  rw [rounds_succ]; go_wp2_with fail
  rw [rounds_succ]; go_wp2_with fail
  rw [rounds_succ]; go_wp2_with fail
  rw [rounds_succ]; go_wp2_with fail
  have hk := Blk.new w 41 (arA fun _ => 255)
  refine bodyPost_ret_by (res_ar rfl _ rfl hk) rfl ?_
  exact ⟨rfl, (Below.refl _ _).alloc (Nat.le_refl _) _⟩
theorem eq8_act (x : Le) : (!eq8 (fun q => ((x.aw q : Nat) : Int)) fun _ => 0) = actF x := by
  unfold eq8 actF
  rw [Bool.eq_iff_iff]
  simp only [Bool.not_eq_true', List.all_eq_false, List.any_eq_true, beq_iff_eq, decide_eq_true_eq]
  constructor
  · rintro ⟨q, h1, h2⟩; exact ⟨q, h1, by omega⟩
  · rintro ⟨q, h1, h2⟩; exact ⟨q, h1, by omega⟩
set_option maxRecDepth 100000 in
theorem eq8_blank (s : Nat → Int) : (!eq8 s fun _ => 255) = !blankF s := by
  rfl
set_option maxRecDepth 20000 in
attribute [-go_sem] Instr.storeAt Instr.loadAt in
set_option maxHeartbeats 800000 in
theorem active_any {w : World} {b : Nat} {x : Le} (h : Blk w b 87 (enC x)) : Calls Try.prog 34 #[.pointer (some ⟨b, 0, none⟩)] w fun e w' => e = .returned (.bool (actF x)) ∧ w = w' := by
  have l1 := ld_aw h
  have hz : arA (fun _ => 0) = #[.int .i64 0, .int .i64 0, .int .i64 0, .int .i64 0, .int .i64 0, .int .i64 0, .int .i64 0, .int .i64 0] := rfl
  have n1 := fun wx => eqIn_ar (fun q => ((x.aw q : Nat) : Int)) (fun _ => 0) wx
  rw [hz, show (eq8 (fun q => ((x.aw q : Nat) : Int)) fun _ => 0) = !actF x by rw [← eq8_act]; simp] at n1
  clear hz
  clear h
  go_enter Try.func34, Try.ntmps34
  go_wp2_with fail
  go_ret
  exact ⟨rfl, rfl⟩
theorem cell_up {w : World} {cb mb : Nat} {ov : Value} {room : Int} {c : Pc} (h : Blk w cb 81 (coC room c mb ov)) {p : Nat} (hp : p < 8) : w.cell? ⟨cb, 1 + p, none⟩ = some (.bool (c.up p)) := (h.cell (1 + p)).trans (coC_up room c mb ov hp)
theorem cell_cost {w : World} {cb mb : Nat} {ov : Value} {room : Int} {c : Pc} (h : Blk w cb 81 (coC room c mb ov)) {p : Nat} (hp : p < 8) : w.cell? ⟨cb, 9 + p, none⟩ = some (.int .i64 (c.cost p)) := (h.cell (9 + p)).trans (coC_cost room c mb ov hp)
set_option maxRecDepth 100000 in
set_option maxHeartbeats 1000000 in
attribute [-go_sem] Instr.storeAt Instr.loadAt in
theorem distance_any {w : World} {cb mb b : Nat} {ov : Value} {room : Int} {c : Pc} {x : Le} (h : Blk w cb 81 (coC room c mb ov)) (hx : Blk w b 87 (enC x)) (hs : ∀ q, 0 ≤ x.said q ∧ x.said q ≤ 255) (hc : ∀ q, 0 ≤ c.cost q ∧ c.cost q ≤ 50) :
    Calls Try.prog 32 #[.pointer (some ⟨cb, 0, none⟩), .pointer (some ⟨b, 0, none⟩)] w fun e w' => e = .returned (.int .i64 (distF c x)) ∧ w = w' := by
  have c0 := ld_bC (w := w) (b := b) (o := 0) (z := x.own) (hx.cell 0)
  have c1 := ld_bC (w := w) (b := b) (o := 1) (z := x.tk) (hx.cell 1)
  have l1 := ld_said hx
  have H := Lib.hid h
  have HS := Lib.hid hs
  have HC := Lib.hid hc
  have HM := Lib.hid (minUp_bd c x.said (fun q => (hc q).1) (fun q => (hs q).1))
  unfold distF
  clear h hx hs hc
  cases ho : x.own with
  | true =>
    rw [ho] at c0
    rw [if_pos rfl]
    clear ho
    go_enter Try.func32, Try.ntmps32
    go_wp2_with fail
    go_ret
    exact ⟨rfl, rfl⟩
  | false =>
    rw [ho] at c0
    rw [if_neg (by simp)]
    clear ho
    cases ht : x.tk with
    | false =>
      rw [ht] at c1
      rw [if_pos rfl]
      clear ht
      go_enter Try.func32, Try.ntmps32
      go_wp2_with fail
      go_ret
      exact ⟨rfl, rfl⟩
    | true =>
      rw [ht] at c1
      rw [if_neg (by simp)]
      clear ht
      go_enter Try.func32, Try.ntmps32
      go_wp2_with fail
      clear l1 c0 c1
      go_loop [5, 23] (fun s5 s23 => ∃ k : Nat, k ≤ 8 ∧ s23 = .int .i64 (k : Int) ∧ s5 = .int .i64 (minUp c x.said k)) (fun _ s23 => 8 - (intOf s23).toNat)
      case atStart => exact ⟨0, by omega, rfl, rfl⟩
      case round =>
        obtain ⟨k, hk, rfl, rfl⟩ := hrel
        obtain ⟨m0, m1⟩ := HM.out k
        by_cases hlt : k < 8
        · have i1 := fun wx => ix_ar x.said hlt wx
          have u1 := ld_bC (cell_up H.out hlt)
          have u2 := ld_iC (cell_cost H.out hlt)
          obtain ⟨s0, s1⟩ := HS.out k
          obtain ⟨d0, d1⟩ := HC.out k
          have k0 : (0 : Int) ≤ k := by omega
          have k1 : (k : Int) < 8 := by omega
          have HE := Lib.hid (show minUp c x.said (k + 1) = if c.up k = true then min (minUp c x.said k) (x.said k + c.cost k) else minUp c x.said k from rfl)
          obtain ⟨m, hm⟩ : ∃ m, m = minUp c x.said k := ⟨_, rfl⟩
          rw [← hm] at m0 m1 HE ⊢
          clear hm
          cases hu : c.up k with
          | false =>
            rw [hu] at u1 HE
            rw [if_neg (by simp)] at HE
            clear hu
            go_wp2_with fail
            go_round
            case rel => exact ⟨k + 1, by omega, by go_num, by rw [HE.out]⟩
            case measure => simp [intOf]; omega
          | true =>
            rw [hu] at u1 HE
            rw [if_pos rfl] at HE
            clear hu
            go_wp2_with fail
            go_round
            case rel => exact ⟨k + 1, by omega, by go_num, by rw [HE.out]⟩
            case measure => simp [intOf]; omega
        · obtain rfl : k = 8 := by omega
          go_wp2_with fail
          go_ret
          exact ⟨rfl, rfl⟩
end Go.Proofs.Ytahdjfegihnolaa
namespace Go.Proofs.Ytahdjfegihnolaa
open Go.RowKit Go.Sort
theorem ld_mC {w : World} {b o : Nat} {z : Nat} (hu : w.cell? ⟨b, o, none⟩ = some (.map (some z))) : (Instr.loadAt 79 (.pointer (some ⟨b, o, none⟩))).run Try.prog w = .ok (.map (some z)) w := by simp [go_sem, hu]
theorem calls_below {P : Program} {f : FuncId} {args : Array Value} {w : World} {v : Value} (h : Calls P f args w fun e w' => e = .returned v ∧ w = w') : Calls P f args w fun e w' => e = .returned v ∧ Below w.heap.size w w' := h.mono fun _ _ ⟨a, b⟩ => ⟨a, b ▸ Below.refl _ _⟩
set_option maxRecDepth 100000 in
set_option maxHeartbeats 2000000 in
attribute [-go_sem] Instr.storeAt Instr.loadAt in
theorem stays_any {w : World} {b : Nat} {x : Le} (h : Blk w b 87 (enC x)) : Calls Try.prog 53 #[.pointer (some ⟨b, 0, none⟩)] w fun e w' => e = .returned (.bool (staysF x)) ∧ Below w.heap.size w w' := by
  have hb := fun (dd : Nat) (os : Array Obj) => h.below (below_regrown w dd os) h.lt
  have x0 := fun (dd : Nat) (os : Array Obj) => ld_bC (b := b) (o := 0) (z := x.own) ((hb dd os).cell 0)
  have x1 := fun (dd : Nat) (os : Array Obj) => ld_iC (b := b) (o := 10) (z := x.told) ((hb dd os).cell 10)
  have x2 := fun (dd : Nat) (os : Array Obj) => ld_said (hb dd os)
  have c1 := fun (dd : Nat) (os : Array Obj) => Calls.regrown_of (calls_below (active_any (hb dd os)))
  have c2 := fun (dd : Nat) (os : Array Obj) => Calls.regrown_of (blank_any (grow (redrawn w dd) os))
  have n1 := fun wx => neq_ar x.said (fun _ => 255) wx
  have n2 := fun wx => eqIn_ar x.said (fun _ => 255) wx
  have n3 := fun y z wx => ng_ar y z x.said (fun _ => 255) wx
  have e8 : eq8 x.said (fun _ => 255) = blankF x.said := rfl
  rw [e8] at n1 n2
  unfold staysF
  obtain ⟨a, ha⟩ : ∃ a, a = actF x := ⟨_, rfl⟩
  obtain ⟨z, hz⟩ : ∃ z, z = blankF x.said := ⟨_, rfl⟩
  obtain ⟨o, ho⟩ : ∃ o, o = x.own := ⟨_, rfl⟩
  obtain ⟨t, ht⟩ : ∃ o, o = x.told := ⟨_, rfl⟩
  rw [← ha] at c1
  rw [← hz] at n1 n2
  rw [← ho] at x0
  rw [← ht] at x1
  rw [← ha, ← hz, ← ho, ← ht]
  have HX := Lib.hid (And.intro x0 (And.intro x1 (And.intro x2 (And.intro c1 (And.intro c2 (And.intro n1 (And.intro n2 n3)))))))
  clear h hb x0 x1 x2 c1 c2 n1 n2 n3 e8 ha hz ho ht
  go_enter Try.func53, Try.ntmps53
  go_upto_region 1 with (fail)
  obtain ⟨x0, x1, x2, c1, c2, n1, n2, n3⟩ := HX.out
  cases o with
  | true =>
    refine wp_region_quiet_below (by kernel_rfl) (by kernel_rfl) ?_
    repeat (go_big_quiet_step (first | with_reducible exact c1 _ _ | with_reducible exact c2 _ _))
    refine wpQuiet_nil ?_
    intro _ hw'
    obtain ⟨⟨dq, osq⟩, hw''⟩ := hw'
    subst hw''
    have hbq := below_regrown w dq osq
    generalize grow (redrawn w dq) osq = wq at hbq ⊢
    clear x0 x1 x2 c1 c2 n1 n2 n3
    go_wp2_with fail
    go_ret
    exact ⟨rfl, hbq⟩
  | false =>
    by_cases ht : t = 255
    · subst ht
      have b1 : ((255 : Int) != 255) = false := by decide
      cases a with
      | true =>
        refine wp_region_quiet_below (by kernel_rfl) (by kernel_rfl) ?_
        repeat (go_big_quiet_step (first | with_reducible exact c1 _ _ | with_reducible exact c2 _ _))
        refine wpQuiet_nil ?_
        intro _ hw'
        obtain ⟨⟨dq, osq⟩, hw''⟩ := hw'
        subst hw''
        have hbq := below_regrown w dq osq
        generalize grow (redrawn w dq) osq = wq at hbq ⊢
        clear x0 x1 x2 c1 c2 n1 n2 n3
        go_wp2_with fail
        go_ret
        exact ⟨rfl, hbq⟩
      | false =>
        cases z with
        | true =>
          refine wp_region_quiet_below (by kernel_rfl) (by kernel_rfl) ?_
          repeat (go_big_quiet_step (first | with_reducible exact c1 _ _ | with_reducible exact c2 _ _))
          refine wpQuiet_nil ?_
          intro _ hw'
          obtain ⟨⟨dq, osq⟩, hw''⟩ := hw'
          subst hw''
          have hbq := below_regrown w dq osq
          generalize grow (redrawn w dq) osq = wq at hbq ⊢
          clear x0 x1 x2 c1 c2 n1 n2 n3
          go_wp2_with fail
          go_ret
          exact ⟨rfl, hbq⟩
        | false =>
          refine wp_region_quiet_below (by kernel_rfl) (by kernel_rfl) ?_
          repeat (go_big_quiet_step (first | with_reducible exact c1 _ _ | with_reducible exact c2 _ _))
          refine wpQuiet_nil ?_
          intro _ hw'
          obtain ⟨⟨dq, osq⟩, hw''⟩ := hw'
          subst hw''
          have hbq := below_regrown w dq osq
          generalize grow (redrawn w dq) osq = wq at hbq ⊢
          clear x0 x1 x2 c1 c2 n1 n2 n3
          go_wp2_with fail
          go_ret
          exact ⟨rfl, hbq⟩
    · have b1 : ((t : Int) != 255) = true := by rw [bne_iff_ne]; exact ht
      have HTT := Lib.hid ht
      clear ht
      refine wp_region_quiet_below (by kernel_rfl) (by kernel_rfl) ?_
      repeat (go_big_quiet_step (first | with_reducible exact c1 _ _ | with_reducible exact c2 _ _))
      refine wpQuiet_nil ?_
      intro _ hw'
      obtain ⟨⟨dq, osq⟩, hw''⟩ := hw'
      subst hw''
      have hbq := below_regrown w dq osq
      generalize grow (redrawn w dq) osq = wq at hbq ⊢
      clear x0 x1 x2 c1 c2 n1 n2 n3
      go_wp2_with fail
      go_ret
      exact ⟨by have := HTT.out; simp [this], hbq⟩
def takB (x : Le) : Bool := x.tk && !x.own
noncomputable def cntL (G : List GE) (left : Lit → Bool) : Nat := G.countP fun g => left (pfL g.x.p) && takB g.x
set_option maxRecDepth 100000 in
theorem cntL_step {left : Lit → Bool} : ∀ {G : List GE}, (G.map (·.x.p)).Nodup → (∀ g ∈ G, pfOk g.x.p) → ∀ {g}, g ∈ G → left (pfL g.x.p) = true → cntL G (fun x => left x && !x.sameKey (pfL g.x.p)) + (if takB g.x = true then 1 else 0) = cntL G left
  | [], _, _, _, h, _ => by cases h
  | a :: G, hn, ok, g, hg, hl => by
    rw [List.map_cons, List.nodup_cons] at hn
    have ok2 : ∀ g ∈ G, pfOk g.x.p := fun g hg => ok g (List.mem_cons_of_mem _ hg)
    have oka := ok a (List.mem_cons_self ..)
    have okg := ok g hg
    unfold cntL
    rw [List.countP_cons, List.countP_cons]
    dsimp only
    by_cases he : a.x.p = g.x.p
    · have hga : g = a ∨ g ∈ G := List.mem_cons.1 hg
      have hgG : g ∉ G := fun h => hn.1 (by rw [he]; exact List.mem_map_of_mem h)
      obtain rfl : g = a := by
        rcases hga with h | h
        · exact h
        · exact absurd h hgG
      have hsame : (G.countP fun h => (left (pfL h.x.p) && !(pfL h.x.p).sameKey (pfL g.x.p)) && takB h.x) = G.countP fun h => left (pfL h.x.p) && takB h.x := by
        refine List.countP_congr fun h hh => ?_
        have hne : pfL h.x.p ≠ pfL g.x.p := fun e => hn.1 (by rw [← pfL_inj (ok2 h hh) okg e]; exact List.mem_map_of_mem hh)
        rw [Maps.sameKey_ne hne]
        simp
      rw [hsame]
      simp only [WideAt.sameKey_self (pfL_lit okg), hl]
      simp
    · have hgG : g ∈ G := by
        rcases List.mem_cons.1 hg with h | h
        · exact absurd (by rw [h]) he
        · exact h
      have ih := cntL_step (left := left) hn.2 ok2 hgG hl
      unfold cntL at ih
      dsimp only at ih
      have hne : pfL a.x.p ≠ pfL g.x.p := fun e => he (pfL_inj oka okg e)
      simp only [Maps.sameKey_ne hne, Bool.not_false, Bool.and_true]
      omega
theorem cntL_start {G : List GE} {left : Lit → Bool} (h : ∀ g ∈ G, left (pfL g.x.p) = true) : cntL G left = cntT (G.map (·.x)) := by
  unfold cntL cntT
  rw [List.countP_map]
  refine List.countP_congr fun g hg => ?_
  rw [h g hg]
  simp [takB]
theorem cntL_none {G : List GE} {left : Lit → Bool} (h : ∀ kl, left kl = false) : cntL G left = 0 := by
  unfold cntL
  rw [List.countP_eq_zero]
  intro g _
  simp [h]
set_option maxRecDepth 100000 in
set_option maxHeartbeats 2000000 in
attribute [-go_sem] Instr.storeAt Instr.loadAt in
theorem takenNow_any {w : World} {cb mb : Nat} {ov : Value} {room : Int} {c : Pc} {G : List GE} (h : CoM w cb mb ov room c G) :
    Calls Try.prog 54 #[.pointer (some ⟨cb, 0, none⟩)] w fun e w' => e = .returned (.int .i64 (cntT (G.map (·.x)) : Int)) ∧ Below w.heap.size w w' := by
  obtain ⟨F, m⟩ := h.map
  have hka := h.keysAre m
  obtain ⟨W1, lf, hr, hra, hl, hb1, hs1⟩ := m.map.range pfKeyed Try.underlying79
  have c17 := ld_mC (h.blk.cell 17)
  have hst : cntL G lf = cntT (G.map (·.x)) := cntL_start fun g hg => by rw [hl _ (pfL_lit (hka.ok _ (List.mem_map_of_mem hg))), m.at_ g hg]; rfl
  have HRA := Lib.hid hra
  have HM := Lib.hid m
  have HKA := Lib.hid hka
  have HST := Lib.hid hst
  have HB1 := Lib.hid hb1
  have HEN := Lib.hid (fun wx (hb : Below w.heap.size w wx) g (hg : g ∈ G) => (h.en g hg).below hb (h.en g hg).lt)
  have HLEN := Lib.hid h.len
  have HCL := Lib.hid (show cntT (G.map (·.x)) ≤ 1024 from by have := List.countP_le_length (p := fun x : Le => x.tk && !x.own) (l := G.map (·.x)); unfold cntT; rw [List.length_map] at this; have := h.len; omega)
  obtain ⟨T, hT⟩ : ∃ T, T = cntT (G.map (·.x)) := ⟨_, rfl⟩
  rw [← hT] at HST HCL ⊢
  clear h m hka hra hl hb1 hs1 hst hT
  go_enter Try.func54, Try.ntmps54
  go_wp2_with fail
  clear hr c17
  go_loopw [3] (fun s3 wr => ∃ (k : Nat) (left : Lit → Bool) (cnt : Nat), s3 = .int .i64 (k : Int) ∧ RangeV Try.prog 36 wr mb w.heap.size G.length F left cnt ∧ k + cntL G left = T ∧ Below w.heap.size w wr) (fun _ wr => wr.rangeLeft mb w.heap.size)
  case atStart => exact ⟨0, _, _, rfl, HRA.out, by rw [Nat.zero_add]; exact HST.out, HB1.out⟩
  case round =>
    obtain ⟨k, left, cnt, rfl, hR, hk, hB⟩ := hrel
    rcases hR.next pfKeyed 0 with ⟨_, hdone, hrun⟩ | ⟨key, v, kl, w2, cnt2, a1, a2, a3, a4, hrun, hR2, hlt, hg2, hs2, hent⟩
    · rw [cntL_none hdone, Nat.add_zero] at hk
      subst hk
      have HBR := Lib.hid hB
      clear hR hB hdone
      go_wp2_with fail
      go_ret
      exact ⟨rfl, HBR.out⟩
    · obtain ⟨g, hg, rfl⟩ := HM.out.keys kl v a4 a2
      have hv := HM.out.at_ g hg
      rw [a4] at hv
      injection hv with hv
      subst hv
      have hst := cntL_step HKA.out.nd (fun g hg => HKA.out.ok _ (List.mem_map_of_mem hg)) hg a3
      have hB2 : Below w.heap.size w w2 := hB.grown hg2 hB.size fun j e => by injection e with e; omega
      have hkk := HEN.out w2 hB2 g hg
      have c0 := ld_bC (b := g.b) (o := 0) (z := g.x.own) (hkk.cell 0)
      have c1 := ld_bC (b := g.b) (o := 1) (z := g.x.tk) (hkk.cell 1)
      have HR2 := Lib.hid hR2
      have HB2 := Lib.hid hB2
      have HLT := Lib.hid (show w2.rangeLeft mb w.heap.size < wr.rangeLeft mb w.heap.size by rw [hR2.left_eq, hR.left_eq]; exact hlt)
      unfold takB at hst
      unfold ptrE at hrun hent
      have hT9 := HCL.out
      clear hR hB a1 a2 a3 a4 hR2 hlt hg2 hs2 hB2 hkk
      cases ht : g.x.tk with
      | false =>
        rw [ht] at c1 hst
        rw [Bool.false_and, if_neg (by simp), Nat.add_zero] at hst
        have HK := Lib.hid (hst.symm ▸ hk)
        clear ht hst hk
        go_wp2_with fail
        go_roundw
        case rel => exact ⟨k, _, _, rfl, HR2.out, HK.out, HB2.out⟩
        case measure => exact HLT.out
      | true =>
        rw [ht] at c1 hst
        cases ho : g.x.own with
        | true =>
          rw [ho] at c0 hst
          simp at hst
          have HK := Lib.hid (hst.symm ▸ hk)
          clear ht ho hst hk
          go_wp2_with fail
          go_roundw
          case rel => exact ⟨k, _, _, rfl, HR2.out, HK.out, HB2.out⟩
          case measure => exact HLT.out
        | false =>
          rw [ho] at c0 hst
          simp at hst
          have HK := Lib.hid (show k + 1 + cntL G (fun x => left x && !x.sameKey (pfL g.x.p)) = T by omega)
          have hk9 : k ≤ 1024 := by omega
          clear ht ho hst hk
          go_wp2_with fail
          go_roundw
          case rel => exact ⟨k + 1, _, _, by go_num, HR2.out, HK.out, HB2.out⟩
          case measure => exact HLT.out
end Go.Proofs.Ytahdjfegihnolaa
