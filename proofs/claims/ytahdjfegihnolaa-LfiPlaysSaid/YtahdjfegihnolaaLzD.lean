/- Layer 12: a core's memory turns; tell. -/
import Derived.Test.YtahdjfegihnolaaLzA
namespace Go.Proofs.Ytahdjfegihnolaa
open Go.RowKit Go.Sort
def tlE (t : Tl) : List Value := [.int .i64 (t.1 : Int), .int .u32 (t.2.1.1 : Int), .int .i64 t.2.1.2, .int .i64 t.2.2]
def flatT (o : List Tl) : List Value := o.flatMap tlE
theorem flatT_snoc (o : List Tl) (t : Tl) : flatT (o ++ [t]) = flatT o ++ tlE t := by unfold flatT; rw [List.flatMap_append]; simp
theorem info_tl : (Try.prog.info? 56).map (fun i => (i.zero, i.size, i.bytes)) = some (some (.agg #[.int .i64 0, .int .u32 0, .int .i64 0, .int .i64 0]), 4, 32) := by kernel_rfl
/-- The updates that are gathered. -/
def OutM (w : World) (B : Nat) (ov : Value) (o : List Tl) : Prop := w.ownsRow B 56 4 ov o.length (flatT o)
def putG (G : List GE) (b : Nat) (x : Le) : List GE := G.map fun h => if h.b = b then ⟨x, b⟩ else h
section
variable {w w' : World} {cb mb : Nat} {ov ov' : Value} {room : Int} {c c' : Pc} {G : List GE}
theorem putG_b (G : List GE) (b : Nat) (x : Le) : (putG G b x).map (·.b) = G.map (·.b) := by
  unfold putG
  rw [List.map_map]
  refine List.map_congr_left fun h _ => ?_
  show (if h.b = b then (⟨x, b⟩ : GE) else h).b = h.b
  split
  · rename_i e; exact e.symm
  · rfl
theorem nodup_b {G : List GE} (hn : (G.map (·.b)).Nodup) {g h : GE} (hg : g ∈ G) (hh : h ∈ G) (e : h.b = g.b) : h = g := by
  induction G with
  | nil => cases hg
  | cons a G ih =>
    rw [List.map_cons, List.nodup_cons] at hn
    rcases List.mem_cons.1 hg with eg | hg
    · rcases List.mem_cons.1 hh with eh | hh
      · exact eh.trans eg.symm
      · have := List.mem_map_of_mem (f := (·.b)) hh
        rw [e, eg] at this
        exact absurd this hn.1
    · rcases List.mem_cons.1 hh with eh | hh
      · have := List.mem_map_of_mem (f := (·.b)) hg
        rw [← e, eh] at this
        exact absurd this hn.1
      · exact ih hn.2 hg hh
theorem putG_p (hn : (G.map (·.b)).Nodup) {g : GE} (hg : g ∈ G) {x : Le} (hp : x.p = g.x.p) : (putG G g.b x).map (·.x.p) = G.map (·.x.p) := by
  unfold putG
  rw [List.map_map]
  refine List.map_congr_left fun h hh => ?_
  show (if h.b = g.b then (⟨x, g.b⟩ : GE) else h).x.p = h.x.p
  split
  · rename_i e
    rw [nodup_b hn hg hh e]
    exact hp
  · rfl
theorem putG_len (G : List GE) (b : Nat) (x : Le) : (putG G b x).length = G.length := by unfold putG; simp
theorem mem_putG {g : GE} {x : Le} {h : GE} (hh : h ∈ putG G g.b x) : h = ⟨x, g.b⟩ ∨ (h ∈ G ∧ h.b ≠ g.b) := by
  unfold putG at hh
  obtain ⟨a, ha, rfl⟩ := List.mem_map.1 hh
  by_cases e : a.b = g.b
  · rw [if_pos e]; exact .inl rfl
  · rw [if_neg e]; exact .inr ⟨ha, e⟩
set_option maxRecDepth 100000 in
/-- An entry's block has turned. -/
theorem CoM.ent (h : CoM w cb mb ov room c G) {g : GE} (hg : g ∈ G) {x : Le} (hk : Blk w' g.b 87 (enC x)) (hp : x.p = g.x.p) (hu : Upd (only g.b) w w') : CoM w' cb mb ov room c (putG G g.b x) := by
  obtain ⟨F, m⟩ := h.map
  obtain ⟨n1, n2⟩ := h.ne
  have hps := putG_p h.nd hg hp
  have hmem : ∀ p, (∃ h ∈ putG G g.b x, h.x.p = p) ↔ ∃ h ∈ G, h.x.p = p := fun p => by
    have : p ∈ (putG G g.b x).map (·.x.p) ↔ p ∈ G.map (·.x.p) := by rw [hps]
    simpa using this
  refine ⟨(hu.block cb h.blk.lt fun e => (n2 g hg).1 e.symm).trans h.blk, ⟨F, ?_, fun a ha => ?_, fun p hpo hn => ?_, fun kl v hv hl => ?_⟩, fun a ha => ?_, ?_, ?_, fun a ha => ?_, by rw [putG_len]; exact h.len⟩
  · rw [putG_len]
    exact m.map.upd hu fun e => (n2 g hg).2 e.symm
  · rcases mem_putG ha with rfl | ⟨ha, _⟩
    · show F (pfL x.p) = _
      rw [hp]
      exact m.at_ g hg
    · exact m.at_ a ha
  · refine m.miss p hpo fun a ha e => ?_
    obtain ⟨b, hb, e2⟩ := (hmem p).2 ⟨a, ha, e⟩
    exact hn b hb e2
  · obtain ⟨a, ha, rfl⟩ := m.keys kl v hv hl
    obtain ⟨b, hb, e2⟩ := (hmem a.x.p).2 ⟨a, ha, rfl⟩
    exact ⟨b, hb, by rw [e2]⟩
  · rcases mem_putG ha with rfl | ⟨ha, hne⟩
    · exact hk
    · exact (hu.block a.b (h.en a ha).lt hne).trans (h.en a ha)
  · rw [putG_b]; exact h.nd
  · have := h.srt
    unfold sortedL at this ⊢
    rw [List.map_map] at this ⊢
    have e1 : (putG G g.b x).map ((fun x => x.p) ∘ fun x => x.x) = G.map ((fun x => x.p) ∘ fun x => x.x) := hps
    rw [e1]
    exact this
  · rcases mem_putG ha with rfl | ⟨ha, _⟩
    · show mayP x.p = true ∧ x.p.1 < 2 ^ 32
      rw [hp]
      exact h.may g hg
    · exact h.may a ha
/-- The core's block has turned. -/
theorem CoM.core (h : CoM w cb mb ov room c G) (hk : Blk w' cb 81 (coC room c' mb ov')) {U : Nat → Prop} (hu : Upd U w w') (hU : ∀ k, U k → k ≠ mb ∧ ∀ g ∈ G, k ≠ g.b) : CoM w' cb mb ov' room c' G := by
  obtain ⟨F, m⟩ := h.map
  exact ⟨hk, ⟨F, m.map.upd hu fun e => (hU mb e).1 rfl, m.at_, m.miss, m.keys⟩, fun g hg => (hu.block g.b (h.en g hg).lt fun e => (hU _ e).2 g hg rfl).trans (h.en g hg), h.nd, h.srt, h.may, h.len⟩
end
theorem ld_pf {w : World} {b : Nat} {p : Pf} (h : Blk w b 36 (pfC p)) : (Instr.loadAt 36 (.pointer (some ⟨b, 0, none⟩))).run Try.prog w = .ok (.agg #[.int .u32 (p.1 : Int), .int .i64 p.2]) w := by
  have := run_loadAt_mid (P := Try.prog) w b 0 36 (pfE p) _ (blk_rangeZ h 0 _ fun j u hu => by rw [Nat.zero_add]; simpa [pfC, pfE] using hu) Try.underlying36 rfl (show (Try.prog.info? 36).map (·.size) = some 2 by kernel_rfl)
  simpa [pfE] using this
theorem ld_tlC {w : World} {b o : Nat} {A : Option Addr} {n c : Nat} (hu : w.cell? ⟨b, o, none⟩ = some (.slice A n c)) : (Instr.loadAt 29 (.pointer (some ⟨b, o, none⟩))).run Try.prog w = .ok (.slice A n c) w := by simp [go_sem, hu]
theorem st_tlC {w : World} {g i : Nat} {u : Value} (hu : w.cell? ⟨g, i, none⟩ = some u) (hf : w.frozen? ⟨g, i, none⟩ = false) (A : Option Addr) (n c : Nat) : (Instr.storeAt 29 (.pointer (some ⟨g, i, none⟩)) (.slice A n c)).run Try.prog w = .ok () (w.setCell ⟨g, i, none⟩ (.slice A n c)) := by simp [go_sem, hu, hf]
theorem st_iC {w : World} {g i : Nat} {u : Value} (hu : w.cell? ⟨g, i, none⟩ = some u) (hf : w.frozen? ⟨g, i, none⟩ = false) (z : Int) : (Instr.storeAt 3 (.pointer (some ⟨g, i, none⟩)) (.int .i64 z)).run Try.prog w = .ok () (w.setCell ⟨g, i, none⟩ (.int .i64 z)) := by simp [go_sem, hu, hf]
theorem st_bC {w : World} {g i : Nat} {u : Value} (hu : w.cell? ⟨g, i, none⟩ = some u) (hf : w.frozen? ⟨g, i, none⟩ = false) (b : Bool) : (Instr.storeAt 4 (.pointer (some ⟨g, i, none⟩)) (.bool b)).run Try.prog w = .ok () (w.setCell ⟨g, i, none⟩ (.bool b)) := by simp [go_sem, hu, hf]
theorem bd_upd (w : World) (a n d : Int) : (Instr.build 54 #[(0, .agg #[.int .u32 a, .int .i64 n]), (1, .int .i64 d)]).run Try.prog w = .ok (.agg #[.int .u32 a, .int .i64 n, .int .i64 d]) w := by kernel_rfl
theorem bd_tl (w : World) (q a n d : Int) : (Instr.build 56 #[(0, .int .i64 q), (1, .agg #[.int .u32 a, .int .i64 n, .int .i64 d])]).run Try.prog w = .ok (.agg #[.int .i64 q, .int .u32 a, .int .i64 n, .int .i64 d]) w := by kernel_rfl
def TlC (cb pb gb : Nat) (C : Array Value) (p : Pf) (E : Array Value) (a : World) : Prop := Blk a cb 81 C ∧ Blk a pb 36 (pfC p) ∧ Blk a gb 87 E
theorem TlC.below {cb pb gb : Nat} {C : Array Value} {p : Pf} {E : Array Value} {a b : World} (h : TlC cb pb gb C p E a) (hb : Below a.heap.size a b) : TlC cb pb gb C p E b := ⟨h.1.below hb h.1.lt, h.2.1.below hb h.2.1.lt, h.2.2.below hb h.2.2.lt⟩
/-- What a call that tells leaves. -/
structure TlM (w : World) (cb mb B : Nat) (room : Int) (c : Pc) (G : List GE) (o : List Tl) (w' : World) (ov : Value) (U : Nat → Prop) : Prop where
  com : CoM w' cb mb ov room c G
  out : OutM w' B ov o
  upd : Upd U w w'
  own : ∀ j, ov.ownBlock = some j → U j ∨ w.heap.size ≤ j
def TellPost (w : World) (cb mb B : Nat) (room : Int) (c : Pc) (G : List GE) (o : List Tl) (U : Nat → Prop) (e : Ending) (w' : World) : Prop := e = .returned (.tuple #[]) ∧ ∃ ov, TlM w cb mb B room c G o w' ov U
theorem own_blkT {w : World} {B : Nat} {v : Value} {o : List Tl} (h : OutM w B v o) {k : Nat} (hk : v.ownBlock = some k) : ∃ cs, Blk w k 56 cs := own_blk h hk
set_option maxRecDepth 100000 in
set_option maxHeartbeats 4000000 in
attribute [-go_sem] Instr.storeAt Instr.loadAt in
theorem tell_any {w : World} {cb mb B : Nat} {ov : Value} {room : Int} {c : Pc} {G : List GE} (h : CoM w cb mb ov room c G) {g : GE} (hg : g ∈ G) {q : Nat} (hq : q < 8) {o : List Tl} (ho : OutM w B ov o) (hB : B ≤ w.heap.size) (hlen : o.length ≤ 1000000) (haw : g.x.aw q ≤ 1000) (p : Pf) :
    Calls Try.prog 61 #[.pointer (some ⟨cb, 0, none⟩), .int .i64 (q : Int), .agg #[.int .u32 (p.1 : Int), .int .i64 p.2], .pointer (some ⟨g.b, 0, none⟩)] w
      (TellPost w cb mb B room c (putG G g.b { g.x with aw := setN g.x.aw q (g.x.aw q + 1) }) (o ++ [(q, p, g.x.told)]) (fun k => k = cb ∨ k = g.b ∨ ov.ownBlock = some k)) := by
  obtain ⟨W1, hW1⟩ : ∃ Z, Z = w.alloc (.cells #[.int .u32 (p.1 : Int), .int .i64 p.2] 36) := ⟨_, rfl⟩
  have hb1 : Below w.heap.size w W1 := by rw [hW1]; exact (Below.refl _ _).alloc (Nat.le_refl _) _
  have hkp : Blk W1 w.heap.size 36 (pfC p) := by rw [hW1]; exact Blk.new _ _ _
  obtain ⟨A, cp, rfl, hcp⟩ := own_form ho
  have h1 := h.below hb1
  have ho1 : OutM W1 B (.slice A o.length cp) o := own_below ho hb1
  have hc18 := h1.blk.cell 18
  have hx := h1.en g hg
  obtain ⟨n1, n2⟩ := h1.ne
  obtain ⟨i0, hi, hz0, hz1, hz2⟩ := info_parts info_tl
  have hmx : o.length + 1 ≤ maxLen := by unfold maxLen; omega
  have hmb : (o.length + 1) * 32 ≤ 140737488355328 := by omega
  have hB1 : B ≤ W1.heap.size := Nat.le_trans hB hb1.size
  have HW1 := Lib.hid hW1
  have HB1 := Lib.hid hb1
  have HKP := Lib.hid hkp
  have H1 := Lib.hid h1
  have HO1 := Lib.hid ho1
  have HX := Lib.hid hx
  have HNE := Lib.hid (And.intro n1 (n2 g hg))
  obtain ⟨no, hno⟩ : ∃ k, k = o.length := ⟨_, rfl⟩
  rw [← hno] at hmx hmb hc18
  have HNO := Lib.hid hno
  have HC18 := Lib.hid hc18
  have HQ := Lib.hid hq
  have HG := Lib.hid hg
  have hq0 : (0 : Int) ≤ q := by omega
  have hq1 : (q : Int) < 8 := by omega
  clear hW1 hb1 hkp h1 ho1 hx n1 n2 h ho hno hcp hc18 hg
  go_enter Try.func61, Try.ntmps61
  go_upto_region 1 with (fail)
  rw [← HW1.out]
  have HC := Lib.hid (show TlC cb w.heap.size g.b (coC room c mb (.slice A no cp)) p (enC g.x) W1 from ⟨by rw [HNO.out]; exact H1.out.blk, HKP.out, HX.out⟩)
  refine wp_region_mix [(true, 13), (false, 5)] 2 (by kernel_rfl) (TlC cb w.heap.size g.b (coC room c mb (.slice A no cp)) p (enC g.x)) (fun _ _ h k => h.below k) (by kernel_rfl) HC.out (a' := ?_) (fun wz hz => ?_) fun wz hz => ?_
  rotate_left
  · have l1 := fun (dd : Nat) (os : Array Obj) => ld_tlC (b := cb) (o := 18) ((hz.below (below_regrown wz dd os)).1.cell 18)
    have l2 := fun (dd : Nat) (os : Array Obj) => ld_pf (hz.below (below_regrown wz dd os)).2.1
    have l3 := fun (dd : Nat) (os : Array Obj) => ld_iC (b := g.b) (o := 10) (z := g.x.told) ((hz.below (below_regrown wz dd os)).2.2.cell 10)
    have l4 := fun wx => bd_upd wx (p.1 : Int) p.2 g.x.told
    have l5 := fun wx => bd_tl wx (q : Int) (p.1 : Int) p.2 g.x.told
    clear hz
    simp only [pick_nil, pick_tt, pick_ft, List.take_succ_cons, List.take_zero, List.drop_succ_cons, List.drop_zero, List.append_nil]
    repeat (go_big_quiet_step (fail))
    refine wpQuiet_nil ?_
    rfl
  simp only [pick_nil, pick_ff, pick_tf, List.take_succ_cons, List.take_zero, List.drop_succ_cons, List.drop_zero, List.append_nil]
  have HZ := Lib.hid hz
  have hoz : OutM wz B (.slice A no cp) o := by rw [HNO.out]; exact own_below HO1.out hz
  have HOZ := Lib.hid hoz
  unfold OutM at hoz
  rw [← HNO.out] at hoz
  clear hz
  refine wpMix_push (fun _ _ h k => h.below k) (HC.out.below HZ.out) 56 [.int .i64 (q : Int), .int .u32 (p.1 : Int), .int .i64 p.2, .int .i64 g.x.told] rfl (fun w' => by go_simp) rfl (.tmp 12) (.tmp 21) _ rfl rfl B i0 _ 4 32 Try.underlying29 hi hz0 hz1 hz2 rfl (by decide) (.slice A no cp) no _ (fun _ => rfl) (fun _ => rfl) hoz rfl (by simp [Value.oneCell']) hmx hmb (Nat.le_trans hB1 HZ.out.size) fun gq v2 w2 h2 hg2 h3 => ?_
  have hcz := HC.out.below HZ.out
  have ncb : (Value.slice A no cp).ownBlock ≠ some cb := own_blk_ne hoz hcz.1 (by decide)
  have npb : (Value.slice A no cp).ownBlock ≠ some w.heap.size := own_blk_ne hoz hcz.2.1 (by decide)
  have ngb : (Value.slice A no cp).ownBlock ≠ some g.b := own_blk_ne hoz hcz.2.2 (by decide)
  have hc2 : TlC cb w.heap.size g.b (coC room c mb (.slice A no cp)) p (enC g.x) w2 := ⟨(hg2.block cb hcz.1.lt (fun e => ncb e.symm)).trans hcz.1, (hg2.block _ hcz.2.1.lt (fun e => npb e.symm)).trans hcz.2.1, (hg2.block _ hcz.2.2.lt (fun e => ngb e.symm)).trans hcz.2.2⟩
  have hu2 : Upd (fun k => (Value.slice A no cp).ownBlock = some k) W1 w2 := (Upd.ofBelow HZ.out _).grown hg2 fun k hk => .inl hk
  obtain ⟨A2, c2, rfl, _⟩ := own_form h2
  refine wpMix_step hc2 fun w3 hw3 => ?_
  have hc3 := hc2.below hw3
  have hu3 := hu2.trans_ (Upd.ofBelow hw3 _)
  have h3r := own_below h2 hw3
  have st := st_tlC (hc3.1.cell 18) (hc3.1.frozen 18) A2 (no + 1) c2
  have HC3 := Lib.hid hc3
  have HU3 := Lib.hid hu3
  have HR3 := Lib.hid h3r
  have HNB := Lib.hid (And.intro ncb (And.intro npb ngb))
  have HOWN := Lib.hid (show ∀ j, (Value.slice A2 (no + 1) c2).ownBlock = some j → (Value.slice A no cp).ownBlock = some j ∨ w.heap.size ≤ j from fun j hj => by
    rcases h3 with h3 | ⟨gx, h3, h4⟩
    · exact .inl (h3.symm.trans hj)
    · rw [h3] at hj
      injection hj with hj
      have := HB1.out.size
      have := HZ.out.size
      exact .inr (by omega))
  clear hcz ncb npb ngb hc2 hu2 hw3 hc3 hu3 h3r h2 hg2 h3 hoz
  go_wp2_with fail
  refine wpMix_plain ?_
  go_wp2_with fail
  clear st
  obtain ⟨W4, hW4⟩ : ∃ Z, Z = w3.setCell ⟨cb, 18, none⟩ (.slice A2 (no + 1) c2) := ⟨_, rfl⟩
  rw [← hW4]
  have hcg : g.b ≠ cb := HNE.out.2.1
  have hk4 : Blk W4 cb 81 (coC room c mb (.slice A2 (no + 1) c2)) := by rw [hW4]; exact HC3.out.1.set_ 18 _
  have he4 : Blk W4 g.b 87 (enC g.x) := by rw [hW4]; exact HC3.out.2.2.far (p := ⟨cb, 18, none⟩) hcg _
  have hu4 : Upd (fun k => k = cb ∨ (Value.slice A no cp).ownBlock = some k) W1 W4 := by rw [hW4]; exact (HU3.out.mono fun k hk => .inl (.inr hk)).setCell (p := ⟨cb, 18, none⟩) (.inl (.inl rfl)) _
  have hr4 : W4.ownsRow B 56 4 (.slice A2 (no + 1) c2) (no + 1) (flatT (o ++ [(q, p, g.x.told)])) := by
    rw [hW4, flatT_snoc]
    exact ownsRow_setCell_other (a := ⟨cb, 18, none⟩) HR3.out (own_blk_ne HR3.out HC3.out.1 (by decide)) _
  have haw' : (W4.drew).cell? ⟨g.b, 12 + q, none⟩ = some (.int .i64 ((g.x.aw q : Nat) : Int)) := (he4.drew.cell (12 + q)).trans (enC_aw g.x HQ.out)
  have lw := ld_iC haw'
  have sw := st_iC haw' (he4.drew.frozen (12 + q)) (((g.x.aw q : Nat) : Int) + 1)
  have HK4 := Lib.hid hk4
  have HE4 := Lib.hid he4
  have HU4 := Lib.hid hu4
  have HR4 := Lib.hid hr4
  clear hW4 hcg hk4 he4 hu4 hr4 haw' hi hz0 hz1 hz2
  have hwr : IntKind.i64.wrap (((g.x.aw q : Nat) : Int) + 1) = ((g.x.aw q : Nat) : Int) + 1 := IntWalk.i64_in _ ⟨by omega, by omega⟩
  go_still_tail 10, (by kernel_rfl)
  go_wp2_with fail
  go_end0
  obtain ⟨W5, hW5⟩ : ∃ Z, Z = W4.setCell ⟨g.b, 12 + q, none⟩ (.int .i64 (((g.x.aw q : Nat) : Int) + 1)) := ⟨_, rfl⟩
  rw [← hW5]
  have he5 : Blk W5 g.b 87 (enC { g.x with aw := setN g.x.aw q (g.x.aw q + 1) }) := by
    rw [hW5, ← enC_set_aw g.x HQ.out]
    exact HE4.out.set_ (12 + q) _
  have hu45 : Upd (only g.b) W4 W5 := by rw [hW5]; exact upd_set _ _ _ _
  have hu14 : Upd (fun k => k = cb ∨ (Value.slice A no cp).ownBlock = some k) W1 W4 := HU4.out
  have hc4 : CoM W4 cb mb (.slice A2 (no + 1) c2) room c G := H1.out.core HK4.out hu14 fun k hk => by
    rcases hk with rfl | hk
    · exact ⟨HNE.out.1, fun a ha => fun e => (H1.out.ne.2 a ha).1 e.symm⟩
    · obtain ⟨cs, hb⟩ := own_blkT HO1.out (by rw [← HNO.out]; exact hk)
      refine ⟨fun e => ?_, fun a ha e => ?_⟩
      · subst e
        obtain ⟨F, m⟩ := H1.out.map
        obtain ⟨D, ⟨es, cc, q1, _⟩, _⟩ := m.map
        unfold Blk at hb
        rw [q1] at hb
        cases hb
      · exact (hb.ne_ (H1.out.en a ha) (by decide)) e
  have hor : W5.ownsRow B 56 4 (.slice A2 (no + 1) c2) (no + 1) (flatT (o ++ [(q, p, g.x.told)])) := by
    rw [hW5]
    exact ownsRow_setCell_other (a := ⟨g.b, 12 + q, none⟩) HR4.out (own_blk_ne HR4.out HE4.out (by decide)) _
  refine ⟨rfl, .slice A2 (no + 1) c2, (hc4.ent HG.out he5 rfl hu45).below ⟨rfl, rfl, rfl, Nat.le_refl _, fun _ _ => rfl⟩, ?_, ?_, fun j hj => ?_⟩
  · unfold OutM
    rw [List.length_append, List.length_singleton, ← HNO.out]
    exact own_keep hor (Same.ofHeap _ rfl) fun _ e => e
  · refine (((Upd.ofBelow HB1.out _).trans_ (hu14.mono fun k hk => .inl ?_)).trans_ (hu45.mono fun k (hk : k = g.b) => .inl (.inr (.inl hk)))).drew
    rcases hk with hk | hk
    · exact .inl hk
    · exact .inr (.inr (by rw [← HNO.out]; exact hk))
  · rcases HOWN.out j hj with h | h
    · exact .inl (.inr (.inr (by rw [← HNO.out]; exact h)))
    · exact .inr h
end Go.Proofs.Ytahdjfegihnolaa
