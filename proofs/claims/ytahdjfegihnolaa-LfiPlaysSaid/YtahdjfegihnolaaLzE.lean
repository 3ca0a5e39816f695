/- Layer 12: look. -/
import Derived.Test.YtahdjfegihnolaaLzD
import Derived.Deep.QuietTactic
import Derived.BigQuiet
namespace Go.Proofs.Ytahdjfegihnolaa
open Go.RowKit Go.Sort
theorem below_drewN (w : World) (k : Nat) : Below w.heap.size w (w.drewN k) := ⟨rfl, rfl, rfl, Nat.le_refl _, fun _ _ => rfl⟩
theorem zero_ptrE (w : World) : (zeroValue 84).run Try.prog w = .ok (.pointer none) w := by kernel_rfl
theorem CoF.look {w w' : World} {mb : Nat} {G : List GE} {F : Lit → Option Value} (h : CoF w mb G F) (hb : Below w.heap.size w w') {g : GE} (hg : g ∈ G) (hp : pfOk g.x.p) : (Instr.lookup 79 (.map (some mb)) (.agg #[.int .u32 (g.x.p.1 : Int), .int .i64 g.x.p.2]) false).run Try.prog w' = .ok (ptrE g.b) w' := by
  have := (h.map.below hb).look pfKeyed Try.underlying79 (zero_ptrE w') (pfL_key hp)
  rw [h.at_ g hg] at this
  exact this
theorem enC_set_feas (x : Le) (v : Int) : (enC x).setIfInBounds 11 (.int .i64 v) = enC { x with feas := v } := rfl
theorem enC_set_told (x : Le) (v : Int) : (enC x).setIfInBounds 10 (.int .i64 v) = enC { x with told := v } := rfl
theorem TlM.trans {w W W' : World} {cb mb B : Nat} {room : Int} {c c2 : Pc} {G G2 : List GE} {o o2 : List Tl} {ov ov2 : Value} {U V : Nat → Prop} (m : TlM w cb mb B room c G o W ov U) (n : TlM W cb mb B room c2 G2 o2 W' ov2 V) (hV : ∀ k, V k → U k ∨ w.heap.size ≤ k) : TlM w cb mb B room c2 G2 o2 W' ov2 U :=
  ⟨n.com, n.out, m.upd.trans n.upd hV, fun j hj => by
    rcases n.own j hj with h | h
    · exact hV j h
    · exact .inr (Nat.le_trans m.upd.size h)⟩
def LkU (cb gb : Nat) (ov : Value) (k : Nat) : Prop := k = cb ∨ k = gb ∨ ov.ownBlock = some k
/-- An entry has turned by one store. -/
theorem CoM.set1 {w W : World} {cb mb B : Nat} {ov : Value} {room : Int} {c : Pc} {G : List GE} (h : CoM W cb mb ov room c G) {o : List Tl} (ho : OutM W B ov o) (hb : Below w.heap.size w W) {g : GE} (hg : g ∈ G) {i : Nat} {u : Value} {x : Le} (he : (enC g.x).setIfInBounds i u = enC x) (hp : x.p = g.x.p) :
    TlM w cb mb B room c (putG G g.b x) o (W.setCell ⟨g.b, i, none⟩ u) ov (LkU cb g.b ov) := by
  have hk := h.en g hg
  have hu := upd_set W g.b i u
  exact ⟨h.ent hg (by rw [← he]; exact hk.set_ i u) hp hu, ownsRow_setCell_other (a := ⟨g.b, i, none⟩) ho (own_blk_ne ho hk (by decide)) _, (Upd.ofBelow hb _).trans_ (hu.mono fun k (e : k = g.b) => .inl (.inr (.inl e))), fun j hj => .inl (.inr (.inr hj))⟩
set_option maxRecDepth 100000 in
set_option maxHeartbeats 4000000 in
attribute [-go_sem] Instr.storeAt Instr.loadAt in
theorem look_act {w : World} {cb mb B : Nat} {ov : Value} {room : Int} {c : Pc} {G : List GE} (h : CoM w cb mb ov room c G) (hpc : PcOk c) {g : GE} (hg : g ∈ G) (hew : EW c g.x) {o : List Tl} (ho : OutM w B ov o) (_hB : B ≤ w.heap.size) (_hlen : o.length ≤ 950000) (hact : actF g.x = true) :
    Calls Try.prog 55 #[.pointer (some ⟨cb, 0, none⟩), .agg #[.int .u32 (g.x.p.1 : Int), .int .i64 g.x.p.2]] w
      (TellPost w cb mb B room c (putG G g.b { g.x with feas := min g.x.feas (distF c g.x) }) o (LkU cb g.b ov)) := by
  obtain ⟨W1, hW1⟩ : ∃ Z, Z = w.alloc (.cells #[.int .u32 (g.x.p.1 : Int), .int .i64 g.x.p.2] 36) := ⟨_, rfl⟩
  have hb1 : Below w.heap.size w W1 := by rw [hW1]; exact (Below.refl _ _).alloc (Nat.le_refl _) _
  have hkp : Blk W1 w.heap.size 36 (pfC g.x.p) := by rw [hW1]; exact Blk.new _ _ _
  have h1 := h.below hb1
  obtain ⟨F, hF⟩ := h1.map
  have r1 := fun n => ld_mC (w := W1.drewN n) (h1.blk.cell 17)
  have r2 := fun n => ld_pf (w := W1.drewN n) hkp
  have r3 := fun n => hF.look (w' := W1.drewN n) (below_drewN W1 n) hg (may_ok (h.may g hg))
  have HW1 := Lib.hid hW1
  have HB1 := Lib.hid hb1
  have H1 := Lib.hid h1
  have HKP := Lib.hid hkp
  have HO1 := Lib.hid (show OutM W1 B ov o from own_below ho hb1)
  have HEW := Lib.hid hew
  have HPC := Lib.hid hpc
  have HG := Lib.hid hg
  have hbd := dist_bd (x := g.x) (fun q => (hpc.b q).1) fun q => (hew.s q).1
  have htd := hew.t
  have hfd := hew.f
  obtain ⟨d, hd⟩ : ∃ d, d = distF c g.x := ⟨_, rfl⟩
  rw [← hd] at hbd
  have HD := Lib.hid hd
  unfold ptrE at r3
  clear hW1 hb1 hkp h1 hF hew hpc hg h ho hd
  go_enter Try.func55, Try.ntmps55
  go_upto_region 1 with (fail)
  rw [← HW1.out]
  go_quiet (fail)
  clear r1 r2 r3
  obtain ⟨W2, hW2⟩ : ∃ Z, Z = W1.drewN nq := ⟨_, rfl⟩
  rw [← hW2]
  have hb12 : Below W1.heap.size W1 W2 := by rw [hW2]; exact below_drewN W1 nq
  have H2 := Lib.hid (H1.out.below hb12)
  have HKP2 := Lib.hid (HKP.out.below hb12 HKP.out.lt)
  have HB2 := Lib.hid (HB1.out.trans (hb12.mono HB1.out.size))
  have HO2 := Lib.hid (show OutM W2 B ov o from own_below HO1.out hb12)
  have he2 := H2.out.en g HG.out
  have HE2 := Lib.hid he2
  have hdi := distance_any H2.out.blk he2 HEW.out.s HPC.out.b
  rw [← HD.out] at hdi
  have HDI := Lib.hid hdi
  have hac := active_any he2
  rw [hact] at hac
  have HAC := Lib.hid hac
  have lt := ld_iC (b := g.b) (o := 10) (z := g.x.told) (he2.cell 10)
  have lf := ld_iC (b := g.b) (o := 11) (z := g.x.feas) (he2.cell 11)
  have sf := fun z => st_iC (he2.cell 11) (he2.frozen 11) z
  have lt3 := fun z => ld_iC (b := g.b) (o := 10) (z := g.x.told) ((he2.set_ 11 (.int .i64 z)).cell 10)
  clear hW2 hb12 hdi he2 hac hact H1 HKP HB1 HO1
  go_wp2_with (first
    | (go_at_call 32; refine HDI.out.mono ?_; rintro e w' ⟨rfl, rfl⟩)
    | (go_at_call 34; refine HAC.out.mono ?_; rintro e w' ⟨rfl, rfl⟩))
  go_end0
  rw [← HD.out]
  exact ⟨rfl, ov, H2.out.set1 HO2.out HB2.out HG.out (enC_set_feas g.x _) rfl⟩
set_option maxRecDepth 100000 in
set_option maxHeartbeats 4000000 in
attribute [-go_sem] Instr.storeAt Instr.loadAt in
theorem look_same {w : World} {cb mb B : Nat} {ov : Value} {room : Int} {c : Pc} {G : List GE} (h : CoM w cb mb ov room c G) (hpc : PcOk c) {g : GE} (hg : g ∈ G) (hew : EW c g.x) {o : List Tl} (ho : OutM w B ov o) (_hB : B ≤ w.heap.size) (_hlen : o.length ≤ 950000) (hact : actF g.x = false) (hsame : distF c g.x = g.x.told) :
    Calls Try.prog 55 #[.pointer (some ⟨cb, 0, none⟩), .agg #[.int .u32 (g.x.p.1 : Int), .int .i64 g.x.p.2]] w
      (TellPost w cb mb B room c (putG G g.b { g.x with feas := g.x.told }) o (LkU cb g.b ov)) := by
  obtain ⟨W1, hW1⟩ : ∃ Z, Z = w.alloc (.cells #[.int .u32 (g.x.p.1 : Int), .int .i64 g.x.p.2] 36) := ⟨_, rfl⟩
  have hb1 : Below w.heap.size w W1 := by rw [hW1]; exact (Below.refl _ _).alloc (Nat.le_refl _) _
  have hkp : Blk W1 w.heap.size 36 (pfC g.x.p) := by rw [hW1]; exact Blk.new _ _ _
  have h1 := h.below hb1
  obtain ⟨F, hF⟩ := h1.map
  have r1 := fun n => ld_mC (w := W1.drewN n) (h1.blk.cell 17)
  have r2 := fun n => ld_pf (w := W1.drewN n) hkp
  have r3 := fun n => hF.look (w' := W1.drewN n) (below_drewN W1 n) hg (may_ok (h.may g hg))
  have HW1 := Lib.hid hW1
  have HB1 := Lib.hid hb1
  have H1 := Lib.hid h1
  have HKP := Lib.hid hkp
  have HO1 := Lib.hid (show OutM W1 B ov o from own_below ho hb1)
  have HEW := Lib.hid hew
  have HPC := Lib.hid hpc
  have HG := Lib.hid hg
  have hbd := dist_bd (x := g.x) (fun q => (hpc.b q).1) fun q => (hew.s q).1
  have htd := hew.t
  have hfd := hew.f
  obtain ⟨d, hd⟩ : ∃ d, d = distF c g.x := ⟨_, rfl⟩
  rw [← hd] at hbd
  have HD := Lib.hid hd
  unfold ptrE at r3
  clear hW1 hb1 hkp h1 hF hew hpc hg h ho hd
  go_enter Try.func55, Try.ntmps55
  go_upto_region 1 with (fail)
  rw [← HW1.out]
  go_quiet (fail)
  clear r1 r2 r3
  obtain ⟨W2, hW2⟩ : ∃ Z, Z = W1.drewN nq := ⟨_, rfl⟩
  rw [← hW2]
  have hb12 : Below W1.heap.size W1 W2 := by rw [hW2]; exact below_drewN W1 nq
  have H2 := Lib.hid (H1.out.below hb12)
  have HKP2 := Lib.hid (HKP.out.below hb12 HKP.out.lt)
  have HB2 := Lib.hid (HB1.out.trans (hb12.mono HB1.out.size))
  have HO2 := Lib.hid (show OutM W2 B ov o from own_below HO1.out hb12)
  have he2 := H2.out.en g HG.out
  have HE2 := Lib.hid he2
  have hdi := distance_any H2.out.blk he2 HEW.out.s HPC.out.b
  rw [← HD.out] at hdi
  have HDI := Lib.hid hdi
  have hac := active_any he2
  rw [hact] at hac
  have HAC := Lib.hid hac
  have lt := ld_iC (b := g.b) (o := 10) (z := g.x.told) (he2.cell 10)
  have lf := ld_iC (b := g.b) (o := 11) (z := g.x.feas) (he2.cell 11)
  have sf := fun z => st_iC (he2.cell 11) (he2.frozen 11) z
  have lt3 := fun z => ld_iC (b := g.b) (o := 10) (z := g.x.told) ((he2.set_ 11 (.int .i64 z)).cell 10)
  have hdt : d = g.x.told := HD.out.trans hsame
  clear hW2 hb12 hdi he2 hac hact hsame H1 HKP HB1 HO1
  obtain ⟨t, ht⟩ : ∃ t, t = g.x.told := ⟨_, rfl⟩
  rw [← ht] at hdt lt lt3 htd hfd
  rw [hdt] at HDI
  have HT := Lib.hid ht
  have hmin : min t t = t := by omega
  clear ht hdt HD hbd
  go_wp2_with (first
    | (go_at_call 32; refine HDI.out.mono ?_; rintro e w' ⟨rfl, rfl⟩)
    | (go_at_call 34; refine HAC.out.mono ?_; rintro e w' ⟨rfl, rfl⟩))
  go_end0
  exact ⟨rfl, ov, by rw [HT.out]; exact H2.out.set1 HO2.out HB2.out HG.out (enC_set_feas g.x _) rfl⟩
theorem putG_putG (G : List GE) (b : Nat) (x y : Le) : putG (putG G b x) b y = putG G b y := by
  unfold putG
  rw [List.map_map]
  refine List.map_congr_left fun h _ => ?_
  simp only [Function.comp]
  by_cases e : h.b = b
  · rw [if_pos e, if_pos rfl, if_pos e]
  · rw [if_neg e, if_neg e]
theorem mem_put {G : List GE} {g : GE} (hg : g ∈ G) (x : Le) : (⟨x, g.b⟩ : GE) ∈ putG G g.b x := by
  unfold putG
  exact List.mem_map.2 ⟨g, hg, by rw [if_pos rfl]⟩
/-- An entry while it is told to the ports below k. -/
def tellK (c : Pc) (x : Le) (k : Nat) : Le := { x with told := distF c x, feas := min x.told (distF c x), aw := fun q => if q < k ∧ c.up q = true then x.aw q + 1 else x.aw q }
def tellO (c : Pc) (x : Le) (k : Nat) : List Tl := ((List.range k).filter c.up).map fun q => (q, x.p, distF c x)
theorem tellK_zero (c : Pc) (x : Le) : tellK c x 0 = { x with told := distF c x, feas := min x.told (distF c x) } := by
  unfold tellK
  congr 1
theorem tellK_no {c : Pc} {x : Le} {k : Nat} (h : c.up k = false) : tellK c x (k + 1) = tellK c x k := by
  unfold tellK
  congr 1
  funext q
  by_cases e : q = k
  · subst e
    rw [h, if_neg (by simp), if_neg (by simp)]
  · have : q < k + 1 ↔ q < k := by omega
    simp only [this]
theorem tellK_yes {c : Pc} {x : Le} {k : Nat} (h : c.up k = true) : tellK c x (k + 1) = { tellK c x k with aw := setN (tellK c x k).aw k ((tellK c x k).aw k + 1) } := by
  unfold tellK
  congr 1
  funext q
  unfold setN
  by_cases e : q = k
  · subst e
    rw [if_pos ⟨by omega, h⟩, if_pos rfl]
    show x.aw q + 1 = (if q < q ∧ c.up q = true then x.aw q + 1 else x.aw q) + 1
    rw [if_neg (by omega)]
  · have : q < k + 1 ↔ q < k := by omega
    rw [if_neg e]
    simp only [this]
theorem tellK_aw (c : Pc) (x : Le) (k : Nat) : (tellK c x k).aw k = x.aw k := by
  show (if k < k ∧ c.up k = true then x.aw k + 1 else x.aw k) = x.aw k
  rw [if_neg (by omega)]
theorem tellO_no {c : Pc} {x : Le} {k : Nat} (h : c.up k = false) : tellO c x (k + 1) = tellO c x k := by
  unfold tellO
  rw [List.range_succ, List.filter_append]
  simp [h]
theorem tellO_yes {c : Pc} {x : Le} {k : Nat} (h : c.up k = true) : tellO c x (k + 1) = tellO c x k ++ [(k, x.p, distF c x)] := by
  unfold tellO
  rw [List.range_succ, List.filter_append]
  simp [h]
theorem tellK_some {c : Pc} {x : Le} (ha : actF x = false) (hd : distF c x ≠ x.told) (hu : upsF c ≠ []) : lookF c x = (tellK c x 8, tellO c x 8) := by
  unfold lookF
  rw [if_neg (by rw [ha]; simp), if_neg hd, if_neg hu]
  rfl
theorem tellK_none {c : Pc} {x : Le} (ha : actF x = false) (hd : distF c x ≠ x.told) (hu : upsF c = []) : lookF c x = ({ tellK c x 8 with feas := (tellK c x 8).told }, tellO c x 8) := by
  unfold lookF
  rw [if_neg (by rw [ha]; simp), if_neg hd, if_pos hu]
  rfl
theorem tellK_act0 {c : Pc} {x : Le} (ha : actF x = false) (hu : upsF c = []) : actF (tellK c x 8) = false := act_of fun q hq => by
  show (if q < 8 ∧ c.up q = true then x.aw q + 1 else x.aw q) = 0
  rw [if_neg fun hh => by have := mem_ups.2 hh; rw [hu] at this; cases this]
  exact act_no ha hq
theorem tellK_act1 {c : Pc} {x : Le} (hu : upsF c ≠ []) : actF (tellK c x 8) = true := by
  obtain ⟨q, hq⟩ := List.exists_mem_of_ne_nil _ hu
  rw [act_iff]
  refine ⟨q, (mem_ups.1 hq).1, ?_⟩
  show (if q < 8 ∧ c.up q = true then x.aw q + 1 else x.aw q) ≠ 0
  rw [if_pos (mem_ups.1 hq)]
  omega
theorem tellK_ew {c : Pc} {x : Le} (h : EW c x) (hc : PcOk c) (ha : actF x = false) (hd : distF c x ≠ x.told) : EW c (tellK c x 8) := by
  have hl := (look_ok h hc).toEW
  have he : (lookF c x).1 = { tellK c x 8 with feas := if upsF c = [] then distF c x else min x.told (distF c x) } := by
    unfold lookF
    rw [if_neg (by rw [ha]; simp), if_neg hd]
    rfl
  rw [he] at hl
  refine ⟨hl.may, hl.own, hl.s, hl.sd, hl.aw, hl.t, ⟨?_, ?_⟩, hl.un⟩
  · show 0 ≤ min x.told (distF c x)
    have h1 : 0 ≤ distF c x := hl.t.1
    have h2 := h.t.1
    omega
  · show min x.told (distF c x) ≤ distF c x
    omega
theorem tellO_len (c : Pc) (x : Le) (k : Nat) : (tellO c x k).length ≤ k := by
  unfold tellO
  have := List.length_filter_le c.up (List.range k)
  simpa using this
set_option maxRecDepth 100000 in
set_option maxHeartbeats 4000000 in
attribute [-go_sem] Instr.storeAt Instr.loadAt in
theorem look_turn {w : World} {cb mb B : Nat} {ov : Value} {room : Int} {c : Pc} {G : List GE} (h : CoM w cb mb ov room c G) (hpc : PcOk c) {g : GE} (hg : g ∈ G) (hew : EW c g.x) {o : List Tl} (ho : OutM w B ov o) (hB : B ≤ w.heap.size) (hlen : o.length ≤ 900000) (hact : actF g.x = false) (hne : distF c g.x ≠ g.x.told) :
    Calls Try.prog 55 #[.pointer (some ⟨cb, 0, none⟩), .agg #[.int .u32 (g.x.p.1 : Int), .int .i64 g.x.p.2]] w
      (TellPost w cb mb B room c (putG G g.b (lookF c g.x).1) (o ++ (lookF c g.x).2) (LkU cb g.b ov)) := by
  obtain ⟨W1, hW1⟩ : ∃ Z, Z = w.alloc (.cells #[.int .u32 (g.x.p.1 : Int), .int .i64 g.x.p.2] 36) := ⟨_, rfl⟩
  have hb1 : Below w.heap.size w W1 := by rw [hW1]; exact (Below.refl _ _).alloc (Nat.le_refl _) _
  have hkp : Blk W1 w.heap.size 36 (pfC g.x.p) := by rw [hW1]; exact Blk.new _ _ _
  have h1 := h.below hb1
  obtain ⟨F, hF⟩ := h1.map
  have r1 := fun n => ld_mC (w := W1.drewN n) (h1.blk.cell 17)
  have r2 := fun n => ld_pf (w := W1.drewN n) hkp
  have r3 := fun n => hF.look (w' := W1.drewN n) (below_drewN W1 n) hg (may_ok (h.may g hg))
  have HW1 := Lib.hid hW1
  have HB1 := Lib.hid hb1
  have H1 := Lib.hid h1
  have HKP := Lib.hid hkp
  have HO1 := Lib.hid (show OutM W1 B ov o from own_below ho hb1)
  have HEW := Lib.hid hew
  have HPC := Lib.hid hpc
  have HG := Lib.hid hg
  have hbd := dist_bd (x := g.x) (fun q => (hpc.b q).1) fun q => (hew.s q).1
  have htd := hew.t
  have hfd := hew.f
  obtain ⟨d, hd⟩ : ∃ d, d = distF c g.x := ⟨_, rfl⟩
  rw [← hd] at hbd
  have HD := Lib.hid hd
  unfold ptrE at r3
  clear hW1 hb1 hkp h1 hF hew hpc hg h ho hd
  go_enter Try.func55, Try.ntmps55
  go_upto_region 1 with (fail)
  rw [← HW1.out]
  go_quiet (fail)
  clear r1 r2 r3
  obtain ⟨W2, hW2⟩ : ∃ Z, Z = W1.drewN nq := ⟨_, rfl⟩
  rw [← hW2]
  have hb12 : Below W1.heap.size W1 W2 := by rw [hW2]; exact below_drewN W1 nq
  have H2 := Lib.hid (H1.out.below hb12)
  have HKP2 := Lib.hid (HKP.out.below hb12 HKP.out.lt)
  have HB2 := Lib.hid (HB1.out.trans (hb12.mono HB1.out.size))
  have HO2 := Lib.hid (show OutM W2 B ov o from own_below HO1.out hb12)
  have he2 := H2.out.en g HG.out
  have HE2 := Lib.hid he2
  have hdi := distance_any H2.out.blk he2 HEW.out.s HPC.out.b
  rw [← HD.out] at hdi
  have HDI := Lib.hid hdi
  have hac := active_any he2
  rw [hact] at hac
  have HAC := Lib.hid hac
  have lt := ld_iC (b := g.b) (o := 10) (z := g.x.told) (he2.cell 10)
  have lf := ld_iC (b := g.b) (o := 11) (z := g.x.feas) (he2.cell 11)
  have sf := fun z => st_iC (he2.cell 11) (he2.frozen 11) z
  have lt3 := fun z => ld_iC (b := g.b) (o := 10) (z := g.x.told) ((he2.set_ 11 (.int .i64 z)).cell 10)
  have hdt : (d == g.x.told) = false := by rw [beq_eq_false_iff_ne, HD.out]; exact hne
  have HNE := Lib.hid hne
  have HACT := Lib.hid hact
  clear hW2 hb12 hdi he2 hac hact hne H1 HKP HB1 HO1
  obtain ⟨t, ht⟩ : ∃ t, t = g.x.told := ⟨_, rfl⟩
  rw [← ht] at hdt lt lt3 htd hfd
  have HT := Lib.hid ht
  have he3 := HE2.out.set_ 11 (.int .i64 (min t d))
  have s3 := fun z => st_iC (he3.cell 10) (he3.frozen 10) z
  obtain ⟨W3, hW3⟩ : ∃ Z, Z = W2.setCell ⟨g.b, 11, none⟩ (.int .i64 (min t d)) := ⟨_, rfl⟩
  clear ht he3
  go_upto_region 9 with (first
    | (go_at_call 32; refine HDI.out.mono ?_; rintro e w' ⟨rfl, rfl⟩)
    | (go_at_call 34; refine HAC.out.mono ?_; rintro e w' ⟨rfl, rfl⟩))
  obtain ⟨W4, hW4⟩ : ∃ Z, Z = W3.setCell ⟨g.b, 10, none⟩ (.int .i64 d) := ⟨_, rfl⟩
  rw [← hW3, ← hW4]
  have m3 := H2.out.set1 HO2.out HB2.out HG.out (enC_set_feas g.x (min t d)) rfl
  rw [← hW3] at m3
  have m4 := m3.trans (m3.com.set1 (w := W3) m3.out (Below.refl _ _) (mem_put HG.out _) (enC_set_told _ d) rfl) fun k hk => by
    rcases hk with hk | hk | hk
    · exact .inl (.inl hk)
    · exact .inl (.inr (.inl hk))
    · exact m3.own k hk
  rw [← hW4, putG_putG] at m4
  have hkz : ({ ({ g.x with feas := min t d } : Le) with told := d } : Le) = tellK c g.x 0 := by rw [tellK_zero, HT.out, HD.out]
  rw [hkz] at m4
  have hcbl := H2.out.blk.lt
  have hgbl := HE2.out.lt
  have hbp : Blk W4 w.heap.size 36 (pfC g.x.p) := by
    have q1 := HKP2.out.ne_ HE2.out (by decide)
    rw [hW4, hW3]
    exact (HKP2.out.far (p := ⟨g.b, 11, none⟩) q1 _).far (p := ⟨g.b, 10, none⟩) q1 _
  have HM4 := Lib.hid m4
  have HBP4 := Lib.hid hbp
  have HCL := Lib.hid (show cb ≠ w.heap.size ∧ g.b ≠ w.heap.size from ⟨fun e => HKP2.out.ne_ H2.out.blk (by decide) e.symm, fun e => HKP2.out.ne_ HE2.out (by decide) e.symm⟩)
  have lu := ld_up m4.com.blk
  have HBS := Lib.hid HB2.out.size
  clear hW3 hW4 m3 m4 hkz hcbl hgbl hbp lt lf sf s3 lt3 H2 HE2 HKP2 HB2 HO2 HDI HAC hdt
  go_wp2_with fail
  clear lu
  go_loopw [6, 7, 53] (fun _ _ s53 wr => ∃ (k : Nat) (ov2 : Value), k ≤ 8 ∧ s53 = .int .i64 (k : Int) ∧ TlM w cb mb B room c (putG G g.b (tellK c g.x k)) (o ++ tellO c g.x k) wr ov2 (LkU cb g.b ov) ∧ Blk wr w.heap.size 36 (pfC g.x.p)) (fun _ _ s53 _ => 8 - (intOf s53).toNat)
  case atStart => exact ⟨0, ov, by omega, rfl, by rw [show tellO c g.x 0 = [] from rfl, List.append_nil]; exact HM4.out, HBP4.out⟩
  case round =>
    obtain ⟨k, ov2, hk, rfl, hM, hBP⟩ := hrel
    have HM := Lib.hid hM
    have HBP := Lib.hid hBP
    by_cases hlt : k < 8
    · have i1 := fun wx => ix_br c.up hlt wx
      have k0 : (0 : Int) ≤ k := by omega
      have k1 : (k : Int) < 8 := by omega
      have lp := ld_pf hBP
      cases hu : c.up k with
      | false =>
        rw [hu] at i1
        have HTK := Lib.hid (tellK_no (x := g.x) hu)
        have HTO := Lib.hid (tellO_no (x := g.x) hu)
        clear hM hBP hu lp
        go_wp2_with fail
        go_roundw
        case rel => exact ⟨k + 1, ov2, by omega, by go_num, by rw [HTK.out, HTO.out]; exact HM.out, HBP.out⟩
        case measure => simp [intOf]; omega
      | true =>
        rw [hu] at i1
        have HTK := Lib.hid (tellK_yes (x := g.x) hu)
        have HTO := Lib.hid (tellO_yes (x := g.x) hu)
        have htl := tell_any (B := B) hM.com (mem_put HG.out _) hlt hM.out (by have := hM.upd.size; omega) (by have := tellO_len c g.x k; rw [List.length_append]; omega) (by show (tellK c g.x k).aw k ≤ 1000; rw [tellK_aw]; have := HEW.out.aw k; omega) g.x.p
        have HTL := Lib.hid htl
        clear hM hBP hu htl
        go_wp2_with (go_at_call 61; refine HTL.out.mono ?_; rintro e w5 ⟨rfl, ov3, hm⟩; have HM5 := Lib.hid hm; clear hm)
        go_roundw
        case rel =>
          have hm := HM5.out
          rw [putG_putG, List.append_assoc] at hm
          have hm2 := HM.out.trans hm fun j hj => by
            rcases hj with hj | hj | hj
            · exact .inl (.inl hj)
            · exact .inl (.inr (.inl hj))
            · exact HM.out.own j hj
          refine ⟨k + 1, ov3, by omega, by go_num, by rw [HTK.out, HTO.out]; exact hm2, HBP.out.upd HM5.out.upd fun hj => ?_⟩
          rcases hj with hj | hj | hj
          · exact HCL.out.1 hj.symm
          · exact HCL.out.2 hj.symm
          · obtain ⟨cs, hb⟩ := own_blkT HM.out.out hj
            exact hb.ne_ HBP.out (by decide) rfl
        case measure => simp [intOf]; omega
    · obtain rfl : k = 8 := by omega
      have hac := active_any (hM.com.en _ (mem_put HG.out _))
      have lp := ld_pf hBP
      by_cases hups : upsF c = []
      · have hla := tellK_none HACT.out HNE.out hups
        have hna : actF (tellK c g.x 8) = false := tellK_act0 HACT.out hups
        have hls := look_same (g := ⟨tellK c g.x 8, g.b⟩) hM.com HPC.out (mem_put HG.out _) (tellK_ew HEW.out HPC.out HACT.out HNE.out) hM.out (by have := hM.upd.size; omega) (by have := tellO_len c g.x 8; rw [List.length_append]; omega) hna rfl
        change actF (GE.mk (tellK c g.x 8) g.b).x = false at hna
        rw [hna] at hac
        have HAC := Lib.hid hac
        have HLS := Lib.hid (show Calls Try.prog 55 #[.pointer (some ⟨cb, 0, none⟩), .agg #[.int .u32 (g.x.p.1 : Int), .int .i64 g.x.p.2]] wr (TellPost wr cb mb B room c (putG (putG G g.b (tellK c g.x 8)) g.b { tellK c g.x 8 with feas := (tellK c g.x 8).told }) (o ++ tellO c g.x 8) (LkU cb g.b ov2)) from hls)
        have HLA := Lib.hid hla
        clear hM hBP hna hls hac hla hups
        go_wp2_with (first
          | (go_at_call 34; refine HAC.out.mono ?_; rintro e w' ⟨rfl, rfl⟩)
          | (go_at_call 55; refine HLS.out.mono ?_; rintro e w5 ⟨rfl, ov3, hm⟩; have HM5 := Lib.hid hm; clear hm))
        go_end0
        have hm := HM5.out
        rw [putG_putG] at hm
        rw [HLA.out]
        refine ⟨rfl, ov3, HM.out.trans hm fun j hj => ?_⟩
        rcases hj with hj | hj | hj
        · exact .inl (.inl hj)
        · exact .inl (.inr (.inl hj))
        · exact HM.out.own j hj
      · have hla := tellK_some HACT.out HNE.out hups
        have hna : actF (tellK c g.x 8) = true := tellK_act1 hups
        change actF (GE.mk (tellK c g.x 8) g.b).x = true at hna
        rw [hna] at hac
        have HAC := Lib.hid hac
        have HLA := Lib.hid hla
        clear hM hBP hna hac hla hups lp
        go_wp2_with (go_at_call 34; refine HAC.out.mono ?_; rintro e w' ⟨rfl, rfl⟩)
        go_end0
        rw [HLA.out]
        exact ⟨rfl, ov2, HM.out⟩
/-- A look at an entry. -/
theorem look_any {w : World} {cb mb B : Nat} {ov : Value} {room : Int} {c : Pc} {G : List GE} (h : CoM w cb mb ov room c G) (hpc : PcOk c) {g : GE} (hg : g ∈ G) (hew : EW c g.x) {o : List Tl} (ho : OutM w B ov o) (hB : B ≤ w.heap.size) (hlen : o.length ≤ 900000) :
    Calls Try.prog 55 #[.pointer (some ⟨cb, 0, none⟩), .agg #[.int .u32 (g.x.p.1 : Int), .int .i64 g.x.p.2]] w
      (TellPost w cb mb B room c (putG G g.b (lookF c g.x).1) (o ++ (lookF c g.x).2) (LkU cb g.b ov)) := by
  by_cases ha : actF g.x = true
  · have := look_act h hpc hg hew ho hB (by omega) ha
    unfold lookF
    rw [if_pos ha, List.append_nil]
    exact this
  · have ha' : actF g.x = false := by simpa using ha
    by_cases hd : distF c g.x = g.x.told
    · have := look_same h hpc hg hew ho hB (by omega) ha' hd
      unfold lookF
      rw [if_neg ha, if_pos hd, List.append_nil]
      exact this
    · exact look_turn h hpc hg hew ho hB hlen ha' hd
end Go.Proofs.Ytahdjfegihnolaa
