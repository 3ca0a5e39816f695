/- Reass: keys, the table in memory, Missing, Drop; how it turns. -/
import Derived.Test.YtihfihehiifdkaaRsD
import Derived.Test.YtihfihehiifdkaaIrA
import Derived.DeepKeys4
namespace Go.Proofs.Ytihfihehiifdkaa
open Go.RowKit Go.Sort
theorem pcRow : (68 : TypeId) < Try.prog.types.size := of_decide_eq_true (by kernel_rfl)
theorem pcWide : (match Try.prog.underlying 68 with | some (.array _ _) | some (.struct _) => true | _ => false) = true := by rw [Try.underlying68]
theorem pcLaid : laidOutB Try.prog = true := by kernel_rfl
set_option maxRecDepth 100000 in
theorem pcKeyed : Maps.Keyed Try.prog 68 := Maps.Keyed.of_law (deep_law_laid pcLaid (m := 2) (by omega) pcRow (by kernel_rfl) pcWide)
def pcC (k : Key) : Array Value := #[.int .u32 (k.1 : Int), .int .u32 (k.2.1 : Int), .int .u8 (k.2.2.1 : Int), .int .u16 (k.2.2.2 : Int)]
def pcV (k : Key) : Value := .agg (pcC k)
def kOk (k : Key) : Prop := k.1 < 2 ^ 32 ∧ k.2.1 < 2 ^ 32 ∧ k.2.2.1 < 256 ∧ k.2.2.2 < 65536
theorem key_ok {h : Hd} (ok : h.ok) : kOk (keyF h) := ⟨ok.2.2.2.2.1, ok.2.2.2.2.2, ok.2.2.2.1, ok.2.1⟩
theorem pc_key {k : Key} (h : kOk k) : ∃ kl, keyOf Try.prog 68 (pcV k) = some kl := by
  obtain ⟨m, hm⟩ : ∃ m, Try.prog.types.size = m + 1 := ⟨Try.prog.types.size - 1, of_decide_eq_true (by kernel_rfl)⟩
  have hC : Try.prog.cellsOf 68 = 4 := by kernel_rfl
  have hC0 : Try.prog.cellsOf 24 = 1 := by kernel_rfl
  have hC1 : Try.prog.cellsOf 5 = 1 := by kernel_rfl
  have hC2 : Try.prog.cellsOf 30 = 1 := by kernel_rfl
  have hT : Try.prog.keyType 68 = true := by kernel_rfl
  have hF : (pcV k).formed Try.prog 68 = true := by simp [pcV, pcC, Value.formed, Try.underlying68, hC]
  have i1 : IntKind.u32.min = 0 := rfl
  have i2 : IntKind.u32.max = 4294967295 := rfl
  have i3 : IntKind.u8.min = 0 := rfl
  have i4 : IntKind.u8.max = 255 := rfl
  have i5 : IntKind.u16.min = 0 := rfl
  have i6 : IntKind.u16.max = 65535 := rfl
  obtain ⟨k1, k2, k3, k4⟩ := h
  have w0 : (Lit.int .u32 (k.1 : Int)).wf = true := by simp only [Lit.wf, Bool.and_eq_true, decide_eq_true_eq]; omega
  have w1 : (Lit.int .u32 (k.2.1 : Int)).wf = true := by simp only [Lit.wf, Bool.and_eq_true, decide_eq_true_eq]; omega
  have w2 : (Lit.int .u8 (k.2.2.1 : Int)).wf = true := by simp only [Lit.wf, Bool.and_eq_true, decide_eq_true_eq]; omega
  have w3 : (Lit.int .u16 (k.2.2.2 : Int)).wf = true := by simp only [Lit.wf, Bool.and_eq_true, decide_eq_true_eq]; omega
  have hL : Try.prog.keyLits (Try.prog.types.size + 1) 68 (pcV k).cells.toList = some [.int .u32 (k.1 : Int), .int .u32 (k.2.1 : Int), .int .u8 (k.2.2.1 : Int), .int .u16 (k.2.2.2 : Int)] := by
    rw [hm]
    simp [Program.keyLits, pcV, pcC, Try.underlying68, Try.underlying24, Try.underlying5, Try.underlying30, hC, hC0, hC1, hC2, w0, w1, w2, w3, Value.cells]
  refine ⟨.string (keyBytes [.int .u32 (k.1 : Int), .int .u32 (k.2.1 : Int), .int .u8 (k.2.2.1 : Int), .int .u16 (k.2.2.2 : Int)]), ?_⟩
  unfold keyOf
  rw [Try.underlying68]
  simp only [hT, hF, hL, Bool.and_self, if_true, Option.map_some]
noncomputable def kyL (k : Key) : Lit := (keyOf Try.prog 68 (pcV k)).getD .nil
theorem kyL_key {k : Key} (h : kOk k) : keyOf Try.prog 68 (pcV k) = some (kyL k) := by
  obtain ⟨kl, hk⟩ := pc_key h
  unfold kyL
  rw [hk]; rfl
set_option maxRecDepth 100000 in
theorem kyL_lit {k : Key} (h : kOk k) : WideAt.IsKeyLit (kyL k) := pcKeyed.key (kyL_key h)
theorem kyL_inj {x y : Key} (hx : kOk x) (hy : kOk y) (h : kyL x = kyL y) : x = y := by
  have h1 := kyL_key hx
  rw [h] at h1
  have := pcKeyed.inj h1 (kyL_key hy)
  obtain ⟨a, b, c, d⟩ := x
  obtain ⟨a', b', c', d'⟩ := y
  simp only [pcV, pcC, Value.agg.injEq] at this
  simp at this
  obtain ⟨h1, h2, h3, h4⟩ := this
  simp only [Prod.mk.injEq]
  omega
/-- A flow with its blocks; N: where its bytes may lie. -/
structure GF where
  f : Fl
  fb : Nat
  ab : Nat
  N : Nat → Prop
def ptrV (b : Nat) : Value := .pointer (some ⟨b, 0, none⟩)
def TbN (G : List GF) (b : Nat) : Prop := ∃ g ∈ G, g.N b
def TbMut (tb mb : Nat) (G : List GF) (b : Nat) : Prop := b = tb ∨ b = mb ∨ ∃ g ∈ G, b = g.fb ∨ b = g.ab
/-- The map of flows. -/
structure TbF (w : World) (mb : Nat) (G : List GF) (F : Lit → Option Value) : Prop where
  map : MapV Try.prog 68 w mb G.length F G.length
  at_ : ∀ g ∈ G, F (kyL g.f.key) = some (ptrV g.fb)
  miss : ∀ k : Key, kOk k → (∀ g ∈ G, g.f.key ≠ k) → F (kyL k) = none
  keys : ∀ kl v, F kl = some v → WideAt.IsKeyLit kl → ∃ g ∈ G, kl = kyL g.f.key
structure TbM (w : World) (tb mb : Nat) (G : List GF) : Prop where
  blk : Blk w tb 88 #[.map (some mb)]
  map : ∃ F, TbF w mb G F
  fl : ∀ g ∈ G, FlM w g.N g.fb g.ab g.f ∧ FlOk g.f ∧ kOk g.f.key
  nd : (G.map fun g => g.f.key).Nodup
  fbs : (G.map GF.fb).Nodup
  abs : (mb :: G.map GF.ab).Nodup
  nlt : ∀ g ∈ G, ∀ b, g.N b → b < w.heap.size
  len : G.length ≤ 64
section
variable {w w' : World} {N N' : Nat → Prop} {fb ab tb mb : Nat} {f g : Fl} {G : List GF}
theorem FlM.same (h : FlM w N fb ab f) (hs : Same (fun b => b = fb ∨ b = ab ∨ N b) w w') : FlM w' N fb ab f := by
  obtain ⟨⟨vo, a1, a2, a3⟩, F, a4, a5⟩ := h
  have hrow : ∀ u (x : By), Row8 0 w u x → (∀ b, u.ownBlock = some b → N b) → Row8 0 w' u x := fun u x hx hn => own_keep hx hs fun b hb => .inr (.inr (hn b hb))
  exact ⟨⟨vo, (hs.2 fb (.inl rfl) a1.lt).trans a1, hrow _ _ a2 a3, a3⟩, F, a4.block (hs.2 ab (.inr (.inl rfl)) a4.lt), a5.keep fun v x hv hn => ⟨hrow v x hv hn, hn⟩⟩
theorem FlM.lt (h : FlM w N fb ab f) : FlM w (fun b => N b ∧ b < w.heap.size) fb ab f := by
  obtain ⟨⟨vo, a1, a2, a3⟩, F, a4, a5⟩ := h
  exact ⟨⟨vo, a1, a2, fun b hb => ⟨a3 b hb, (own_lt a2 hb).2⟩⟩, F, a4, a5.keep fun v x hv hn => ⟨hv, fun b hb => ⟨hn b hb, (own_lt hv hb).2⟩⟩⟩
theorem FlM.blks (h : FlM w N fb ab f) : fb < w.heap.size ∧ ab < w.heap.size ∧ fb ≠ ab ∧ (∀ b, N b → True) := by
  obtain ⟨⟨vo, a1, a2, a3⟩, F, a4, a5⟩ := h
  exact ⟨a1.lt, a4.lt, a4.ne_blk a1, fun _ _ => trivial⟩
theorem TbM.same (h : TbM w tb mb G) (hs : Same (fun b => TbMut tb mb G b ∨ TbN G b) w w') : TbM w' tb mb G := by
  obtain ⟨F, m⟩ := h.map
  exact ⟨(hs.2 tb (.inl (.inl rfl)) h.blk.lt).trans h.blk, ⟨F, m.map.block (hs.2 mb (.inl (.inr (.inl rfl))) m.map.lt), m.at_, m.miss, m.keys⟩,
    fun g hg => ⟨(h.fl g hg).1.same ⟨hs.1, fun b hb => hs.2 b (by
      rcases hb with hb | hb | hb
      · exact .inl (.inr (.inr ⟨g, hg, .inl hb⟩))
      · exact .inl (.inr (.inr ⟨g, hg, .inr hb⟩))
      · exact .inr ⟨g, hg, hb⟩)⟩, (h.fl g hg).2⟩, h.nd, h.fbs, h.abs, fun g hg b hb => Nat.lt_of_lt_of_le (h.nlt g hg b hb) hs.1, h.len⟩
theorem TbM.mlt (h : TbM w tb mb G) : ∀ b, TbMut tb mb G b → b < w.heap.size := by
  obtain ⟨F, m⟩ := h.map
  rintro b (rfl | rfl | ⟨g, hg, rfl | rfl⟩)
  · exact h.blk.lt
  · exact m.map.lt
  · exact (h.fl g hg).1.blks.1
  · exact (h.fl g hg).1.blks.2.1
theorem TbM.below (h : TbM w tb mb G) (hb : Below w.heap.size w w') : TbM w' tb mb G :=
  h.same ⟨hb.size, fun b _ hlt => hb.block b hlt⟩
end
theorem there_any (tb : Nat) (mb : Nat) (w : World) (h : Blk w tb 88 #[.map (some mb)]) : Calls Try.prog 82 #[.pointer (some ⟨tb, 0, none⟩)] w fun e w' => e = .returned (.bool true) ∧ w = w' := by
  have c0 := h.cell 0
  have qT : ∀ (w : World) (r : Option Nat), (binOp .neq 86 (.map r) (.map none)).run Try.prog w = .ok (.bool (!r.isNone)) w := fun w r => run_neq_map_nil w _ _ _ r Try.underlying86
  go_enter Try.func82, Try.ntmps82
  go_wp2_with fail
  go_ret
  exact ⟨rfl, rfl⟩
theorem tnew_any (w : World) : Calls Try.prog 40 #[] w fun e w' => ∃ tb mb, e = .returned (ptrV tb) ∧ TbM w' tb mb [] ∧ w.heap.size ≤ tb ∧ w.heap.size ≤ mb ∧ Below w.heap.size w w' := by
  have hmm := @run_makeMap Try.prog
  go_enter Try.func40, Try.ntmps40
  go_wp2_with fail
  go_ret
  have hk : Blk ((w.alloc (.map #[] 0)).alloc (.cells #[.map (some w.heap.size)] 88)) (w.heap.size + 1) 88 #[.map (some w.heap.size)] := by
    have := Blk.new (w.alloc (.map #[] 0)) 88 #[.map (some w.heap.size)]
    simpa using this
  have hm := (mapv_new w Try.prog 68).below ((Below.refl _ _).alloc (Nat.le_refl _) (.cells #[.map (some w.heap.size)] 88))
  exact ⟨w.heap.size + 1, w.heap.size, rfl, ⟨hk, ⟨_, hm, fun g hg => (by cases hg), fun _ _ _ => rfl, fun _ _ h => (by cases h)⟩, fun g hg => (by cases hg), List.nodup_nil, List.nodup_nil, by simp, fun g hg => (by cases hg), Nat.zero_le _⟩, Nat.le_succ _, Nat.le_refl _, ((Below.refl _ _).alloc (Nat.le_refl _) _).alloc (by simp) _⟩
theorem tlen_any (tb mb : Nat) (G : List GF) (w : World) (h : TbM w tb mb G) : Calls Try.prog 46 #[.pointer (some ⟨tb, 0, none⟩)] w fun e w' => e = .returned (.int .i64 (G.length : Int)) ∧ w = w' := by
  obtain ⟨F, m⟩ := h.map
  have HT := Lib.hid (there_any tb mb w h.blk)
  have c0 := h.blk.cell 0
  have hl := m.map.len Try.underlying86
  clear h m
  go_enter Try.func46, Try.ntmps46
  go_wp2_with (go_at_call 82; refine HT.out.mono ?_; rintro e w' ⟨rfl, rfl⟩)
  go_ret
  exact ⟨rfl, rfl⟩
theorem ld_u16s {w : World} {g i : Nat} {z : Int} (hu : w.cell? ⟨g, i, none⟩ = some (.int .u16 z)) : (Instr.loadAt 30 (.pointer (some ⟨g, i, none⟩))).run Try.prog w = .ok (.int .u16 z) w := by simp [go_sem, hu]
theorem pc_info : (Try.prog.info? 68).map (·.size) = some 4 := by kernel_rfl
theorem pc_store {w : World} {g : Nat} {cs vs : Array Value} (h : Blk w g 68 cs) (hc : cs.size = 4) (hv : vs.size = 4) (h1 : vs.all (·.oneCell') = true) : (Instr.storeAt 68 (.pointer (some ⟨g, 0, none⟩)) (.agg vs)).run Try.prog w = .ok () (w.setCells g 0 vs.toList) :=
  run_storeAt_mid w g 0 _ vs (by have := blk_there h; rwa [hc, ← hv] at this) (by rw [hv]; exact pc_info) h1
theorem pc_load {w : World} {g : Nat} {cs : Array Value} (h : Blk w g 68 cs) (hc : cs.size = 4) : (Instr.loadAt 68 (.pointer (some ⟨g, 0, none⟩))).run Try.prog w = .ok (.agg cs) w := by
  have := run_loadAt_mid (P := Try.prog) w g 0 68 cs.toList _ (blk_range h) Try.underlying68 rfl (by simpa [hc] using pc_info)
  simpa using this
theorem res_pc {w : World} {g : Nat} {cs : Array Value} {fn : Func} {p : Tmp} (hf : fn.results = #[.cell p 68]) (tmps : Array Value) (hp : tmps.getD p undef = .pointer (some ⟨g, 0, none⟩)) (h : Blk w g 68 cs) (hc : cs.size = 4) :
    (results fn tmps).run Try.prog w = .ok (.agg cs) w := by
  have hl := run_loadVar_mid (P := Try.prog) w g 0 68 cs.toList _ (blk_range h) Try.underlying68 rfl (by simpa [hc] using pc_info)
  have e1 : tmps[p]?.getD undef = .pointer (some ⟨g, 0, none⟩) := by simpa using hp
  simp only [results, hf]
  simp [e1, asAddr, hl]
theorem pc_build (w : World) (a b c d : Int) : (Instr.build 68 #[(0, .int .u32 a), (1, .int .u32 b), (2, .int .u8 c), (3, .int .u16 d)]).run Try.prog w = .ok (.agg #[.int .u32 a, .int .u32 b, .int .u8 c, .int .u16 d]) w := by kernel_rfl
set_option maxRecDepth 100000 in
attribute [-go_sem] Instr.storeAt Instr.loadAt in
theorem key_any (h : Hd) (vo : Value) (w : World) : Calls Try.prog 44 #[hdV h vo] w fun e w' => e = .returned (pcV (keyF h)) ∧ Below w.heap.size w w' := by
  obtain ⟨W, hW⟩ : ∃ W, W = (w.alloc (.cells (hdC h vo) 32)).alloc (.cells #[.int .u32 0, .int .u32 0, .int .u8 0, .int .u16 0] 68) := ⟨_, rfl⟩
  have hb0 : Below w.heap.size w W := by rw [hW]; exact ((Below.refl _ _).alloc (Nat.le_refl _) _).alloc (by simp) _
  have hk1 : Blk W w.heap.size 32 (hdC h vo) := by rw [hW]; exact (Blk.new _ _ _).alloc _
  have hk2 : Blk W (w.heap.size + 1) 68 #[.int .u32 0, .int .u32 0, .int .u8 0, .int .u16 0] := by
    rw [hW]
    have := Blk.new (w.alloc (.cells (hdC h vo) 32)) 68 #[.int .u32 0, .int .u32 0, .int .u8 0, .int .u16 0]
    simpa using this
  have r8 := ld_u32s (hk1.cell 8)
  have r9 := ld_u32s (hk1.cell 9)
  have r7 := ld_u8s (hk1.cell 7)
  have r1 := ld_u16s (hk1.cell 1)
  have bd := fun w a b c d => pc_build w a b c d
  have st := pc_store (vs := pcC (keyF h)) hk2 rfl rfl (by simp [pcC, Value.oneCell'])
  have hk3 : Blk (W.setCells (w.heap.size + 1) 0 (pcC (keyF h)).toList) (w.heap.size + 1) 68 (pcC (keyF h)) := blk_setCells hk2 rfl
  have hb3 : Below w.heap.size w (W.setCells (w.heap.size + 1) 0 (pcC (keyF h)).toList) := below_setCells (Nat.le_succ _) _ 0 _ hb0
  obtain ⟨W3, hW3⟩ : ∃ W3, W3 = W.setCells (w.heap.size + 1) 0 (pcC (keyF h)).toList := ⟨_, rfl⟩
  rw [← hW3] at st hk3 hb3
  have HW := Lib.hid hW
  have HB := Lib.hid hb3
  have HK := Lib.hid hk3
  unfold hdC at HW
  unfold pcC keyF at st
  clear hW3 hk3 hb3 hb0 hk1 hk2 hW
  unfold hdV
  go_enter Try.func44, Try.ntmps44
  go_upto_region 1 with (fail)
  rw [← HW.out]
  go_wp2_with fail
  refine bodyPost_ret_by (res_pc rfl _ rfl HK.out rfl) rfl ?_
  exact ⟨rfl, HB.out⟩

set_option maxRecDepth 100000 in
attribute [-go_sem] Instr.storeAt Instr.loadAt in
theorem rkey_any (h : Hd) (vo : Value) (w : World) : Calls Try.prog 45 #[hdV h vo] w fun e w' => e = .returned (pcV (keyF h)) ∧ Below w.heap.size w w' := by
  obtain ⟨W, hW⟩ : ∃ W, W = (w.alloc (.cells (hdC h vo) 32)).alloc (.cells #[.int .u32 0, .int .u32 0, .int .u8 0, .int .u16 0] 68) := ⟨_, rfl⟩
  have hb0 : Below w.heap.size w W := by rw [hW]; exact ((Below.refl _ _).alloc (Nat.le_refl _) _).alloc (by simp) _
  have hk1 : Blk W w.heap.size 32 (hdC h vo) := by rw [hW]; exact (Blk.new _ _ _).alloc _
  have hk2 : Blk W (w.heap.size + 1) 68 #[.int .u32 0, .int .u32 0, .int .u8 0, .int .u16 0] := by
    rw [hW]
    have := Blk.new (w.alloc (.cells (hdC h vo) 32)) 68 #[.int .u32 0, .int .u32 0, .int .u8 0, .int .u16 0]
    simpa using this
  have r8 := ld_u32s (hk1.cell 8)
  have r9 := ld_u32s (hk1.cell 9)
  have r7 := ld_u8s (hk1.cell 7)
  have r1 := ld_u16s (hk1.cell 1)
  have bd := fun w a b c d => pc_build w a b c d
  have st := pc_store (vs := pcC (keyF h)) hk2 rfl rfl (by simp [pcC, Value.oneCell'])
  have hk3 : Blk (W.setCells (w.heap.size + 1) 0 (pcC (keyF h)).toList) (w.heap.size + 1) 68 (pcC (keyF h)) := blk_setCells hk2 rfl
  have hb3 : Below w.heap.size w (W.setCells (w.heap.size + 1) 0 (pcC (keyF h)).toList) := below_setCells (Nat.le_succ _) _ 0 _ hb0
  obtain ⟨W3, hW3⟩ : ∃ W3, W3 = W.setCells (w.heap.size + 1) 0 (pcC (keyF h)).toList := ⟨_, rfl⟩
  rw [← hW3] at st hk3 hb3
  have HW := Lib.hid hW
  have HB := Lib.hid hb3
  have HK := Lib.hid hk3
  unfold hdC at HW
  unfold pcC keyF at st
  clear hW3 hk3 hb3 hb0 hk1 hk2 hW
  unfold hdV
  go_enter Try.func45, Try.ntmps45
  go_upto_region 1 with (fail)
  rw [← HW.out]
  go_wp2_with fail
  refine bodyPost_ret_by (res_pc rfl _ rfl HK.out rfl) rfl ?_
  exact ⟨rfl, HB.out⟩

theorem ld_mapt {w : World} {a : Addr} {b : Nat} (hu : w.cell? a = some (.map (some b))) : (Instr.loadAt 86 (.pointer (some a))).run Try.prog w = .ok (.map (some b)) w := by simp [go_sem, hu]
theorem zero_ptr (w : World) : (zeroValue 112).run Try.prog w = .ok (.pointer none) w := by kernel_rfl
def findG (G : List GF) (k : Key) : Option GF := G.find? fun g => g.f.key == k
theorem findG_some {G : List GF} {k : Key} {g : GF} (h : findG G k = some g) : g ∈ G ∧ g.f.key = k := by
  unfold findG at h
  exact ⟨List.mem_of_find?_eq_some h, by simpa using List.find?_some h⟩
theorem findG_none {G : List GF} {k : Key} (h : findG G k = none) : ∀ g ∈ G, g.f.key ≠ k := fun g hg => by
  unfold findG at h
  simpa using List.find?_eq_none.1 h g hg
/-- What is looked up in the map of flows. -/
theorem TbF.look {w : World} {mb : Nat} {G : List GF} {F : Lit → Option Value} (h : TbF w mb G F) {k : Key} (hk : kOk k) : (Instr.lookup 86 (.map (some mb)) (pcV k) false).run Try.prog w = .ok (match findG G k with | some g => ptrV g.fb | none => .pointer none) w := by
  rw [h.map.look pcKeyed Try.underlying86 (zero_ptr w) (kyL_key hk)]
  cases hf : findG G k with
  | none => rw [h.miss k hk (findG_none hf)]; rfl
  | some g =>
    obtain ⟨h1, h2⟩ := findG_some hf
    rw [← h2, h.at_ g h1]; rfl
end Go.Proofs.Ytihfihehiifdkaa
namespace Go.Proofs.Ytihfihehiifdkaa
open Go.RowKit Go.Sort
def missG (G : List GF) (k : Key) : List Nat := match findG G k with | some g => missF g.f | none => []
theorem TbF.below {w w' : World} {mb : Nat} {G : List GF} {F : Lit → Option Value} (h : TbF w mb G F) (hb : Below w.heap.size w w') : TbF w' mb G F := ⟨h.map.below hb, h.at_, h.miss, h.keys⟩
theorem calls_quiet {P : Program} {f : FuncId} {args : Array Value} {w : World} {R : Ending → Prop} (h : Calls P f args w fun e w' => R e ∧ w = w') : Calls P f args w fun e w' => R e ∧ w' = w := h.mono fun _ _ ⟨a, b⟩ => ⟨a, b.symm⟩
set_option maxRecDepth 100000 in
set_option maxHeartbeats 4000000 in
attribute [-go_sem] Instr.storeAt Instr.loadAt in
theorem tmiss_any (tb mb : Nat) (G : List GF) (k : Key) (w : World) (h : TbM w tb mb G) (hk : kOk k) :
    Calls Try.prog 48 #[.pointer (some ⟨tb, 0, none⟩), pcV k] w fun e w' => ∃ v, e = .returned v ∧ RowN w.heap.size w' v (missG G k) ∧ Below w.heap.size w w' := by
  obtain ⟨W, hW⟩ : ∃ W, W = w.alloc (.cells (pcC k) 68) := ⟨_, rfl⟩
  have hb0 : Below w.heap.size w W := by rw [hW]; exact (Below.refl _ _).alloc (Nat.le_refl _) _
  have hk0 : Blk W w.heap.size 68 (pcC k) := by rw [hW]; exact Blk.new _ _ _
  have hT := h.below hb0
  obtain ⟨F, hF⟩ := hT.map
  have HTH := Lib.hid (fun n => there_any tb mb (W.drewN n) hT.blk)
  have r0 := fun n => ld_mapt (w := W.drewN n) (hT.blk.cell 0)
  have r1 := fun n => pc_load (w := W.drewN n) hk0 rfl
  have r2 := fun n => TbF.look (hF.below (below_drewN W n)) hk
  have HR0 := Lib.hid (fun wx (hb : Below W.heap.size W wx) => ld_mapt ((hT.below hb).blk.cell 0))
  have HR1 := Lib.hid (fun wx (hb : Below W.heap.size W wx) => pc_load (hk0.below hb hk0.lt) rfl)
  have HR2 := Lib.hid (fun wx (hb : Below W.heap.size W wx) => TbF.look (hF.below hb) hk)
  have HM := Lib.hid (fun g (hg : findG G k = some g) wx (hb : Below W.heap.size W wx) => missing_any g.N g.fb g.ab g.f wx (((hT.fl g (findG_some hg).1).1).below hb) (hT.fl g (findG_some hg).1).2.1)
  have HW := Lib.hid hW
  have HB0 := Lib.hid hb0
  have hms : missG G k = match findG G k with | some g => missF g.f | none => [] := rfl
  rw [hms]
  obtain ⟨og, hog⟩ : ∃ o, o = findG G k := ⟨_, rfl⟩
  rw [← hog] at r2 HM HR2 ⊢
  unfold pcC at HW
  unfold pcV pcC at *
  clear hW hb0 hk0 hT hF h hog hms
  go_enter Try.func48, Try.ntmps48
  go_upto_region 1 with (fail)
  rw [← HW.out]
  cases og with
  | none =>
    go_quiet ((go_at_call 82; exact Calls.quiet_of_same (calls_quiet (HTH.out _))))
    go_wp2_with fail
    go_ret
    exact ⟨_, rfl, World.ownsRow_nil _ _ _ _, HB0.out.trans (below_drewN W _ |>.mono HB0.out.size)⟩
  | some g =>
    simp only [ptrV] at r2 HR2
    go_quiet ((go_at_call 82; exact Calls.quiet_of_same (calls_quiet (HTH.out _))))
    clear r0 r1 r2
    go_upto_region 3 with (fail)
    obtain ⟨Wq, hWq⟩ : ∃ W', W' = W.drewN nq := ⟨_, rfl⟩
    have hbq : Below W.heap.size W Wq := by rw [hWq]; exact below_drewN W nq
    rw [← hWq]
    have HBQ := Lib.hid hbq
    clear hWq hbq
    refine wp_region_mix [(true, 6), (false, 2)] 0 (by kernel_rfl) (fun wx => Below W.heap.size W wx) (fun _ _ h k => h.trans (k.mono h.size)) (by kernel_rfl) HBQ.out (a' := ?_) (fun wz hz => ?_) fun wz hz => ?_
    rotate_left
    · have r0 := fun (d : Nat) (os : Array Obj) => HR0.out (grow (redrawn wz d) os) (hz.trans ((below_regrown wz d os).mono hz.size))
      have r1 := fun (d : Nat) (os : Array Obj) => HR1.out (grow (redrawn wz d) os) (hz.trans ((below_regrown wz d os).mono hz.size))
      have r2 := fun (d : Nat) (os : Array Obj) => HR2.out (grow (redrawn wz d) os) (hz.trans ((below_regrown wz d os).mono hz.size))
      clear hz
      simp only [pick_nil, pick_tt, pick_ft, List.take_succ_cons, List.take_zero, List.drop_succ_cons, List.drop_zero, List.append_nil]
      repeat (go_big_quiet_step (fail))
      refine wpQuiet_nil ?_
      rfl
    · simp only [pick_nil, pick_ff, pick_tf, List.take_succ_cons, List.take_zero, List.drop_succ_cons, List.drop_zero, List.append_nil]
      have HZ := Lib.hid (HBQ.out.trans (hz.mono HBQ.out.size))
      clear hz
      refine wpMix_step HZ.out fun wa ha => ?_
      have HA := Lib.hid (HZ.out.trans (ha.mono HZ.out.size))
      clear ha
      go_wp2_with (go_at_call 85; refine (HM.out g rfl _ HA.out).mono ?_; rintro e wb ⟨v1, rfl, h1, hb1⟩; have H1 := Lib.hid h1; have HB := Lib.hid (HA.out.trans (hb1.mono HA.out.size)); clear h1 hb1)
      refine wpMix_plain ?_
      go_wp2_with fail
      go_ret
      exact ⟨_, rfl, own_base H1.out (Nat.le_trans HB0.out.size HA.out.size), HB0.out.trans (HB.out.mono HB0.out.size)⟩
/-- A key's flow is forgotten. -/
def dropG (G : List GF) (k : Key) : List GF := G.eraseP fun g => g.f.key == k
theorem TbF.drop {w : World} {mb : Nat} {G : List GF} {F : Lit → Option Value} (h : TbF w mb G F) (nd : (G.map fun g => g.f.key).Nodup) (kok : ∀ g ∈ G, kOk g.f.key) {k : Key} (hk : kOk k) {g0 : GF} (hg : findG G k = some g0) (ty : TypeId) :
    ∃ w', (Builtin.delete_ #[86, 68] ty #[.map (some mb), pcV k]).run Try.prog w = .ok (.tuple #[]) w' ∧ (∃ F', TbF w' mb (dropG G k) F') ∧ Upd (only mb) w w' ∧ w'.heap.size = w.heap.size := by
  obtain ⟨w', hr, hm, hu, hs⟩ := h.map.drop pcKeyed Try.underlying86 (kyL_key hk) ty
  obtain ⟨hg1, hg2⟩ := findG_some hg
  have hsome : (F (kyL k)).isSome = true := by rw [← hg2, h.at_ g0 hg1]; rfl
  rw [if_pos hsome] at hm
  have hlen : (dropG G k).length = G.length - 1 := by
    unfold dropG
    rw [List.length_eraseP_of_mem hg1 (by simp [hg2])]
  have hmem : ∀ g, g ∈ dropG G k → g ∈ G ∧ g.f.key ≠ k := fun g hgm => by
    refine ⟨List.mem_of_mem_eraseP hgm, fun e => ?_⟩
    have hsub := List.eraseP_sublist (p := fun g : GF => g.f.key == k) (l := G)
    obtain ⟨a, l1, l2, hl1, ha, hG, he⟩ := List.exists_of_eraseP hg1 (p := fun g : GF => g.f.key == k) (by simp [hg2])
    have hgm2 : g ∈ l1 ++ l2 := by rw [← he]; exact hgm
    rw [hG, List.map_append, List.map_cons] at nd
    have hak : a.f.key = k := by simpa using ha
    rcases List.mem_append.1 hgm2 with hx | hx
    · have := hl1 g hx
      simp [e] at this
    · have := (List.nodup_append.1 nd).2.1
      rw [List.nodup_cons] at this
      exact this.1 (List.mem_map.2 ⟨g, hx, by rw [e, hak]⟩)
  refine ⟨w', hr, ⟨setK F (kyL k) none, ?_, fun g hgm => ?_, fun k' hk' hn => ?_, fun kl v hv hl => ?_⟩, hu, hs⟩
  · rw [hlen]; exact hm.tight
  · obtain ⟨h1, h2⟩ := hmem g hgm
    rw [setK_other _ _ (fun e => h2 (kyL_inj (kok g h1) hk e))]
    exact h.at_ g h1
  · by_cases e : k' = k
    · rw [e, setK_same]
    · rw [setK_other _ _ (fun x => e (kyL_inj hk' hk x))]
      refine h.miss k' hk' fun g hgm hkey => ?_
      refine hn g ?_ hkey
      unfold dropG
      refine (List.mem_eraseP_of_neg (by simp [hkey, e])).2 hgm
  · by_cases e : kl = kyL k
    · rw [e, setK_same] at hv; cases hv
    · rw [setK_other _ _ e] at hv
      obtain ⟨g, h1, h2⟩ := h.keys kl v hv hl
      refine ⟨g, ?_, h2⟩
      unfold dropG
      exact (List.mem_eraseP_of_neg (by simp; intro x; rw [x] at h2; exact e h2)).2 h1
/-- The table, its map's block turned: a flow has gone. -/
theorem TbM.dropped {w w' : World} {tb mb : Nat} {G : List GF} {k : Key} (h : TbM w tb mb G) (hF : ∃ F', TbF w' mb (dropG G k) F') (hu : Upd (only mb) w w') : TbM w' tb mb (dropG G k) := by
  obtain ⟨F, m⟩ := h.map
  have hsub : (dropG G k).Sublist G := List.eraseP_sublist
  have hrow : ∀ u (x : By), Row8 0 w u x → Row8 0 w' u x := fun u x hx => own_keep hx (hu.same (I := fun b => u.ownBlock = some b) fun b hb hI => m.map.ne_row hx (by rw [hI, show b = mb from hb])) fun _ e => e
  refine ⟨h.blk.upd hu (m.map.ne_blk h.blk), hF, fun g hg => ?_, h.nd.sublist (hsub.map _), h.fbs.sublist (hsub.map _), h.abs.sublist ((hsub.map GF.ab).cons_cons mb), fun g hg b hb => Nat.lt_of_lt_of_le (h.nlt g (hsub.subset hg) b hb) hu.size, Nat.le_trans hsub.length_le h.len⟩
  have hgG := hsub.subset hg
  obtain ⟨f1, f2⟩ := h.fl g hgG
  refine ⟨?_, f2⟩
  obtain ⟨⟨vo, a1, a2, a3⟩, F1, a4, a5⟩ := f1
  have hne : g.ab ≠ mb := fun e => (List.nodup_cons.1 h.abs).1 (by rw [← e]; exact List.mem_map.2 ⟨g, hgG, rfl⟩)
  exact ⟨⟨vo, a1.upd hu (m.map.ne_blk a1), hrow _ _ a2, a3⟩, F1, a4.upd hu hne, a5.keep fun v x hv hn => ⟨hrow v x hv, hn⟩⟩
theorem TbMut.drop {tb mb : Nat} {G : List GF} {k : Key} {b : Nat} (h : TbMut tb mb (dropG G k) b) : TbMut tb mb G b := by
  rcases h with h | h | ⟨g, hg, h⟩
  · exact .inl h
  · exact .inr (.inl h)
  · exact .inr (.inr ⟨g, List.mem_of_mem_eraseP hg, h⟩)
set_option maxRecDepth 100000 in
set_option maxHeartbeats 4000000 in
attribute [-go_sem] Instr.storeAt Instr.loadAt in
theorem tdrop_any (tb mb : Nat) (G : List GF) (k : Key) (w : World) (h : TbM w tb mb G) (hk : kOk k) :
    Calls Try.prog 54 #[.pointer (some ⟨tb, 0, none⟩), pcV k] w fun e w' => e = .returned (.bool (findG G k).isSome) ∧ TbM w' tb mb (dropG G k) ∧ Upd (only mb) w w' := by
  obtain ⟨W, hW⟩ : ∃ W, W = w.alloc (.cells (pcC k) 68) := ⟨_, rfl⟩
  have hb0 : Below w.heap.size w W := by rw [hW]; exact (Below.refl _ _).alloc (Nat.le_refl _) _
  have hk0 : Blk W w.heap.size 68 (pcC k) := by rw [hW]; exact Blk.new _ _ _
  have hT := h.below hb0
  obtain ⟨F, hF⟩ := hT.map
  have HTH := Lib.hid (fun n => there_any tb mb (W.drewN n) hT.blk)
  have r0 := fun n => ld_mapt (w := W.drewN n) (hT.blk.cell 0)
  have r1 := fun n => pc_load (w := W.drewN n) hk0 rfl
  have r2 := fun n => TbF.look (hF.below (below_drewN W n)) hk
  have HR0 := Lib.hid (fun wx (hb : Below W.heap.size W wx) => ld_mapt ((hT.below hb).blk.cell 0))
  have HR1 := Lib.hid (fun wx (hb : Below W.heap.size W wx) => pc_load (hk0.below hb hk0.lt) rfl)
  have HDR := Lib.hid (fun g (hg : findG G k = some g) wx (hb : Below W.heap.size W wx) ty => TbF.drop (hF.below hb) h.nd (fun g hg => (h.fl g hg).2.2) hk hg ty)
  have HTB := Lib.hid (fun wx (hb : Below W.heap.size W wx) => hT.below hb)
  have HW := Lib.hid hW
  have HB0 := Lib.hid hb0
  have HNO := Lib.hid (show findG G k = none → dropG G k = G from fun hn => by
    unfold dropG
    exact List.eraseP_of_forall_not fun g hg => by have := findG_none hn g hg; simpa using this)
  obtain ⟨og, hog⟩ : ∃ o, o = findG G k := ⟨_, rfl⟩
  rw [← hog] at r2 HDR HNO ⊢
  unfold pcC at HW
  unfold pcV pcC at *
  clear hW hb0 hk0 hT hF h hog
  go_enter Try.func54, Try.ntmps54
  go_upto_region 1 with (fail)
  rw [← HW.out]
  cases og with
  | none =>
    go_quiet ((go_at_call 82; exact Calls.quiet_of_same (calls_quiet (HTH.out _))))
    go_wp2_with fail
    go_ret
    exact ⟨rfl, by rw [HNO.out trivial]; exact HTB.out _ (below_drewN W _), Upd.ofBelow (HB0.out.trans (below_drewN W _ |>.mono HB0.out.size)) _⟩
  | some g =>
    simp only [ptrV] at r2
    go_quiet ((go_at_call 82; exact Calls.quiet_of_same (calls_quiet (HTH.out _))))
    clear r0 r1 r2
    go_upto_region 3 with (fail)
    obtain ⟨Wq, hWq⟩ : ∃ W', W' = W.drewN nq := ⟨_, rfl⟩
    have hbq : Below W.heap.size W Wq := by rw [hWq]; exact below_drewN W nq
    rw [← hWq]
    have HBQ := Lib.hid hbq
    clear hWq hbq
    refine wp_region_mix [(true, 5), (false, 1)] 0 (by kernel_rfl) (fun wx => Below W.heap.size W wx) (fun _ _ h k => h.trans (k.mono h.size)) (by kernel_rfl) HBQ.out (a' := ?_) (fun wz hz => ?_) fun wz hz => ?_
    rotate_left
    · have r0 := fun (d : Nat) (os : Array Obj) => HR0.out (grow (redrawn wz d) os) (hz.trans ((below_regrown wz d os).mono hz.size))
      have r1 := fun (d : Nat) (os : Array Obj) => HR1.out (grow (redrawn wz d) os) (hz.trans ((below_regrown wz d os).mono hz.size))
      clear hz
      simp only [pick_nil, pick_tt, pick_ft, List.take_succ_cons, List.take_zero, List.drop_succ_cons, List.drop_zero, List.append_nil]
      repeat (go_big_quiet_step (fail))
      refine wpQuiet_nil ?_
      rfl
    · simp only [pick_nil, pick_ff, pick_tf, List.take_succ_cons, List.take_zero, List.drop_succ_cons, List.drop_zero, List.append_nil]
      have HZ := Lib.hid (HBQ.out.trans (hz.mono HBQ.out.size))
      clear hz
      refine wpMix_step HZ.out fun wa ha => ?_
      have HA := Lib.hid (HZ.out.trans (ha.mono HZ.out.size))
      clear ha
      obtain ⟨wd, hrd, hFd, hud, _⟩ := HDR.out g rfl wa HA.out 0
      have HFD := Lib.hid hFd
      have HUD := Lib.hid hud
      clear hFd hud
      go_wp2_with fail
      refine wpMix_plain ?_
      go_wp2_with fail
      go_ret
      exact ⟨rfl, (HTB.out wa HA.out).dropped HFD.out HUD.out, (Upd.ofBelow (HB0.out.trans (HA.out.mono HB0.out.size)) _).trans_ HUD.out⟩
end Go.Proofs.Ytihfihehiifdkaa
namespace Go.Proofs.Ytihfihehiifdkaa
open Go.RowKit Go.Sort
theorem set_same {α : Type} {L : List α} {i : Nat} {a : α} (h : L[i]? = some a) : L.set i a = L := by
  refine List.ext_getElem? fun j => ?_
  rw [List.getElem?_set]
  by_cases e : i = j
  · subst e
    obtain ⟨hl, _⟩ := List.getElem?_eq_some_iff.1 h
    rw [if_pos rfl, if_pos hl, h]
  · rw [if_neg e]
theorem nodup_ne {α : Type} {L : List α} (h : L.Nodup) {i j : Nat} {a b : α} (hi : L[i]? = some a) (hj : L[j]? = some b) (hij : i ≠ j) : a ≠ b := by
  obtain ⟨h1, e1⟩ := List.getElem?_eq_some_iff.1 hi
  obtain ⟨h2, e2⟩ := List.getElem?_eq_some_iff.1 hj
  rw [← e1, ← e2]
  intro e
  exact hij ((List.getElem_inj h).1 e)
section
variable {w w' : World} {N Ni : Nat → Prop} {fb ab fbi abi tb mb : Nat} {f fi : Fl} {G : List GF}
theorem FlM.other (h : FlM w N fb ab f) (hi : FlM w Ni fbi abi fi) (h1 : fb ≠ fbi) (h2 : ab ≠ abi) (hu : Upd (fun b => b = fbi ∨ b = abi) w w') : FlM w' N fb ab f := by
  obtain ⟨⟨vo, a1, a2, a3⟩, F, a4, a5⟩ := h
  obtain ⟨⟨vi, b1, _, _⟩, Fi, b4, _⟩ := hi
  have hrow : ∀ u (x : By), Row8 0 w u x → Row8 0 w' u x := fun u x hx => own_keep hx (hu.same (I := fun b => u.ownBlock = some b) fun b hb hI => by
    rcases hb with e | e
    · exact own_blk_ne hx b1 (by decide) (by rw [hI, e])
    · exact b4.ne_row hx (by rw [hI, e])) fun _ e => e
  exact ⟨⟨vo, a1.upd hu (fun e => by rcases e with e | e; exact h1 e; exact b4.ne_blk a1 e), hrow _ _ a2, a3⟩, F, a4.upd hu (fun e => by rcases e with e | e; exact a4.ne_blk b1 e.symm; exact h2 e), a5.keep fun v x hv hn => ⟨hrow v x hv, hn⟩⟩
theorem FlM.turn (h : FlM w N fb ab f) {k : TypeId} {n s : Nat} {F : Lit → Option Value} (hm : MapV Try.prog k w mb n F s) (hne : ab ≠ mb) (hu : Upd (only mb) w w') : FlM w' N fb ab f := by
  obtain ⟨⟨vo, a1, a2, a3⟩, F1, a4, a5⟩ := h
  have hrow : ∀ u (x : By), Row8 0 w u x → Row8 0 w' u x := fun u x hx => own_keep hx (hu.same (I := fun b => u.ownBlock = some b) fun b hb hI => hm.ne_row hx (by rw [hI, show b = mb from hb])) fun _ e => e
  exact ⟨⟨vo, a1.upd hu (hm.ne_blk a1), hrow _ _ a2, a3⟩, F1, a4.upd hu hne, a5.keep fun v x hv hn => ⟨hrow v x hv, hn⟩⟩
/-- One flow has turned. -/
theorem TbM.set (h : TbM w tb mb G) {i : Nat} {g : GF} (hg : G[i]? = some g) {f' : Fl} {N' : Nat → Prop} (hf : FlM w' N' g.fb g.ab f') (hk : f'.key = g.f.key) (ok' : FlOk f') (hu : Upd (fun b => b = g.fb ∨ b = g.ab) w w') (hN : ∀ b, N' b → b < w'.heap.size) : TbM w' tb mb (G.set i ⟨f', g.fb, g.ab, N'⟩) := by
  obtain ⟨F, m⟩ := h.map
  have hgm := List.mem_of_getElem? hg
  obtain ⟨gf, gok, gk⟩ := h.fl g hgm
  obtain ⟨⟨vi, b1, _, _⟩, Fi, b4, _⟩ := id gf
  have hmapk : (G.set i ⟨f', g.fb, g.ab, N'⟩).map (fun g => g.f.key) = G.map fun g => g.f.key := by
    rw [List.map_set]; exact set_same (by rw [List.getElem?_map, hg]; simp [hk])
  have hmapf : (G.set i ⟨f', g.fb, g.ab, N'⟩).map GF.fb = G.map GF.fb := by
    rw [List.map_set]; exact set_same (by rw [List.getElem?_map, hg]; rfl)
  have hmapa : (G.set i ⟨f', g.fb, g.ab, N'⟩).map GF.ab = G.map GF.ab := by
    rw [List.map_set]; exact set_same (by rw [List.getElem?_map, hg]; rfl)
  have hmem : ∀ g' ∈ G.set i ⟨f', g.fb, g.ab, N'⟩, g' = ⟨f', g.fb, g.ab, N'⟩ ∨ (g' ∈ G ∧ g'.fb ≠ g.fb ∧ g'.ab ≠ g.ab) := fun g' hm => by
    obtain ⟨j, hj⟩ := List.getElem?_of_mem hm
    rw [List.getElem?_set] at hj
    by_cases e : i = j
    · rw [if_pos e] at hj
      split at hj
      · left; injection hj with hj; exact hj.symm
      · cases hj
    · rw [if_neg e] at hj
      exact .inr ⟨List.mem_of_getElem? hj, nodup_ne h.fbs (i := j) (j := i) (by rw [List.getElem?_map, hj]; rfl) (by rw [List.getElem?_map, hg]; rfl) (fun x => e x.symm), nodup_ne (List.nodup_cons.1 h.abs).2 (i := j) (j := i) (by rw [List.getElem?_map, hj]; rfl) (by rw [List.getElem?_map, hg]; rfl) (fun x => e x.symm)⟩
  have hne1 : g.ab ≠ mb := fun e => (List.nodup_cons.1 h.abs).1 (by rw [← e]; exact List.mem_map.2 ⟨g, hgm, rfl⟩)
  have hne2 : tb ≠ g.fb := fun e => by
    have h1 := h.blk
    unfold Blk at h1 b1
    rw [e, b1] at h1
    injection h1 with h1; injection h1 with _ h1; exact absurd h1 (by decide)
  have hlen : (G.set i ⟨f', g.fb, g.ab, N'⟩).length = G.length := List.length_set
  refine ⟨h.blk.upd hu (fun e => by rcases e with e | e; exact hne2 e; exact b4.ne_blk h.blk e), ⟨F, ?_, fun g' hm => ?_, fun k hk' hn => ?_, fun kl v hv hl => ?_⟩, fun g' hm => ?_, by rw [hmapk]; exact h.nd, by rw [hmapf]; exact h.fbs, by rw [hmapa]; exact h.abs, fun g' hm b hb => ?_, by rw [hlen]; exact h.len⟩
  · rw [hlen]
    exact m.map.upd hu (fun e => by rcases e with e | e; exact m.map.ne_blk b1 e.symm; exact hne1 e.symm)
  · rcases hmem g' hm with rfl | ⟨h1, _⟩
    · show F (kyL f'.key) = _
      rw [hk]; exact m.at_ g hgm
    · exact m.at_ g' h1
  · refine m.miss k hk' fun g' hg' => ?_
    obtain ⟨j, hj⟩ := List.getElem?_of_mem hg'
    by_cases e : i = j
    · subst e
      rw [hg] at hj
      injection hj with hj
      rw [← hj, ← hk]
      exact hn ⟨f', g.fb, g.ab, N'⟩ (List.mem_of_getElem? (i := i) (by rw [List.getElem?_set_self (List.getElem?_eq_some_iff.1 hg).1]))
    · exact hn g' (List.mem_of_getElem? (i := j) (by rw [List.getElem?_set_ne e]; exact hj))
  · obtain ⟨g', h1, h2⟩ := m.keys kl v hv hl
    obtain ⟨j, hj⟩ := List.getElem?_of_mem h1
    by_cases e : i = j
    · subst e
      rw [hg] at hj
      injection hj with hj
      exact ⟨⟨f', g.fb, g.ab, N'⟩, List.mem_of_getElem? (i := i) (by rw [List.getElem?_set_self (List.getElem?_eq_some_iff.1 hg).1]), by rw [h2, ← hj, ← hk]⟩
    · exact ⟨g', List.mem_of_getElem? (i := j) (by rw [List.getElem?_set_ne e]; exact hj), h2⟩
  · rcases hmem g' hm with rfl | ⟨h1, h2, h3⟩
    · exact ⟨hf, ok', by show kOk f'.key; rw [hk]; exact gk⟩
    · exact ⟨(h.fl g' h1).1.other gf h2 h3 hu, (h.fl g' h1).2⟩
  · rcases hmem g' hm with rfl | ⟨h1, _⟩
    · exact hN b hb
    · exact Nat.lt_of_lt_of_le (h.nlt g' h1 b hb) hu.size
/-- A flow is new. -/
theorem TbM.add (h : TbM w tb mb G) (hl : G.length < 64) {k : Key} (hk : kOk k) (hn : findG G k = none) (hf : FlM w N fb ab f) (hkey : f.key = k) (ok : FlOk f) (hfb : ∀ g ∈ G, g.fb ≠ fb) (hab : ∀ g ∈ G, g.ab ≠ ab) (habm : ab ≠ mb) (hN : ∀ b, N b → b < w.heap.size) :
    ∃ w', (Instr.mapUpdate 86 (.map (some mb)) (pcV k) (ptrV fb)).run Try.prog w = .ok () w' ∧ TbM w' tb mb (G ++ [⟨f, fb, ab, N⟩]) ∧ Upd (only mb) w w' := by
  obtain ⟨F, m⟩ := h.map
  obtain ⟨w', hr, hm, hu, hs⟩ := m.map.store pcKeyed Try.underlying86 (by have := h.len; omega) (kyL_key hk) (ptrV fb)
  rw [m.miss k hk (findG_none hn)] at hm
  have hmem : ∀ g ∈ G ++ [⟨f, fb, ab, N⟩], g ∈ G ∨ g = ⟨f, fb, ab, N⟩ := fun g hg => by
    rcases List.mem_append.1 hg with hg | hg
    · exact .inl hg
    · exact .inr (List.mem_singleton.1 hg)
  have hne1 : ∀ g ∈ G, g.ab ≠ mb := fun g hgm e => (List.nodup_cons.1 h.abs).1 (by rw [← e]; exact List.mem_map.2 ⟨g, hgm, rfl⟩)
  refine ⟨w', hr, ⟨h.blk.upd hu (m.map.ne_blk h.blk), ⟨_, by rw [List.length_append]; exact hm, fun g hg => ?_, fun k' hk' hn' => ?_, fun kl v hv hlit => ?_⟩, fun g hg => ?_, ?_, ?_, ?_, fun g hg b hb => ?_, by rw [List.length_append]; simp; omega⟩, hu⟩
  · rcases hmem g hg with h1 | rfl
    · rw [setK_other _ _ (fun e => findG_none hn g h1 (kyL_inj (h.fl g h1).2.2 hk e))]
      exact m.at_ g h1
    · show setK F (kyL k) _ (kyL f.key) = _
      rw [hkey, setK_same]
  · have hne : k' ≠ k := fun e => hn' _ (List.mem_append_right _ (List.mem_singleton_self _)) (by rw [e]; exact hkey)
    rw [setK_other _ _ (fun e => hne (kyL_inj hk' hk e))]
    exact m.miss k' hk' fun g hg => hn' g (List.mem_append_left _ hg)
  · by_cases e : kl = kyL k
    · exact ⟨_, List.mem_append_right _ (List.mem_singleton_self _), by rw [e]; show kyL k = kyL f.key; rw [hkey]⟩
    · rw [setK_other _ _ e] at hv
      obtain ⟨g, h1, h2⟩ := m.keys kl v hv hlit
      exact ⟨g, List.mem_append_left _ h1, h2⟩
  · rcases hmem g hg with h1 | rfl
    · exact ⟨(h.fl g h1).1.turn m.map (hne1 g h1) hu, (h.fl g h1).2⟩
    · exact ⟨hf.turn m.map habm hu, ok, by show kOk f.key; rw [hkey]; exact hk⟩
  · rw [List.map_append, List.nodup_append]
    refine ⟨h.nd, by simp, fun a ha b hb => ?_⟩
    obtain ⟨g, hg, rfl⟩ := List.mem_map.1 ha
    rw [show b = f.key by simpa using hb, hkey]
    exact findG_none hn g hg
  · rw [List.map_append, List.nodup_append]
    refine ⟨h.fbs, by simp, fun a ha b hb => ?_⟩
    obtain ⟨g, hg, rfl⟩ := List.mem_map.1 ha
    rw [show b = fb by simpa using hb]
    exact hfb g hg
  · rw [List.map_append, ← List.cons_append, List.nodup_append]
    refine ⟨h.abs, by simp, fun a ha b hb => ?_⟩
    rw [show b = ab by simpa using hb]
    rcases List.mem_cons.1 ha with rfl | ha
    · exact habm.symm
    · obtain ⟨g, hg, rfl⟩ := List.mem_map.1 ha
      exact hab g hg
  · rcases hmem g hg with h1 | rfl
    · exact Nat.lt_of_lt_of_le (h.nlt g h1 b hb) hu.size
    · exact Nat.lt_of_lt_of_le (hN b hb) hu.size
end
end Go.Proofs.Ytihfihehiifdkaa
namespace Go.Proofs.Ytihfihehiifdkaa
open Go.RowKit Go.Sort
theorem findK_map (G : List GF) (k : Key) : findK (G.map GF.f) k = G.findIdx? fun g => g.f.key == k := by
  unfold findK
  rw [List.findIdx?_map]
  rfl
theorem findK_none {G : List GF} {k : Key} (h : findG G k = none) : findK (G.map GF.f) k = none := by
  rw [findK_map, List.findIdx?_eq_none_iff]
  intro g hg
  have := findG_none h g hg
  simpa using this
theorem find_idx {α : Type} {p : α → Bool} {g : α} : ∀ {G : List α}, G.find? p = some g → ∃ i, G.findIdx? p = some i ∧ G[i]? = some g
  | [], h => by cases h
  | a :: r, h => by
    rw [List.find?_cons] at h
    rw [List.findIdx?_cons]
    cases hp : p a with
    | true => rw [hp] at h; exact ⟨0, by simp, by simpa using h⟩
    | false =>
      rw [hp] at h
      obtain ⟨i, h1, h2⟩ := find_idx h
      exact ⟨i + 1, by simp [h1], by simpa using h2⟩
theorem findK_some {G : List GF} {k : Key} {g : GF} (h : findG G k = some g) : ∃ i, findK (G.map GF.f) k = some i ∧ G[i]? = some g := by
  rw [findK_map]
  exact find_idx h
/-- The flow with a key stands at i: it is the one that goes. -/
theorem drop_at {G : List GF} {k : Key} {i : Nat} {g : GF} (nd : (G.map fun g => g.f.key).Nodup) (hi : G[i]? = some g) (hk : g.f.key = k) : dropG G k = G.eraseIdx i := by
  unfold dropG
  rw [List.eraseP_eq_eraseIdx]
  have hex : ∃ j, G.findIdx? (fun g => g.f.key == k) = some j := by
    cases hf : G.findIdx? (fun g => g.f.key == k) with
    | some j => exact ⟨j, rfl⟩
    | none =>
      have := List.findIdx?_eq_none_iff.1 hf g (List.mem_of_getElem? hi)
      simp [hk] at this
  obtain ⟨j, hj⟩ := hex
  rw [hj]
  obtain ⟨hl, h1, _⟩ := List.findIdx?_eq_some_iff_getElem.1 hj
  have e : i = j := Classical.byContradiction fun hne => by
    refine nodup_ne nd (i := i) (j := j) (a := k) (b := k) (by rw [List.getElem?_map, hi]; simp [hk]) ?_ hne rfl
    rw [List.getElem?_map, List.getElem?_eq_getElem hl]
    simp
    simpa using h1
  rw [e]
theorem erase_set {α : Type} (L : List α) (i : Nat) (a : α) : (L.set i a).eraseIdx i = L.eraseIdx i := by
  induction L generalizing i with
  | nil => rfl
  | cons b r ih =>
    cases i with
    | zero => rfl
    | succ i => simp only [List.set_cons_succ, List.eraseIdx_cons_succ, ih]
theorem map_erase {α β : Type} (φ : α → β) (L : List α) (i : Nat) : (L.eraseIdx i).map φ = (L.map φ).eraseIdx i := by
  induction L generalizing i with
  | nil => rfl
  | cons b r ih =>
    cases i with
    | zero => rfl
    | succ i => simp only [List.eraseIdx_cons_succ, List.map_cons, ih]
/-- What Take leaves, and answers. -/
structure TkPost (w : World) (tb mb : Nat) (G : List GF) (r : List Fl × By × Nat) (e : Ending) (w' : World) : Prop where
  out : ∃ v G', e = .returned (.tuple #[v, .int .i64 (r.2.2 : Int)]) ∧ Row8 w.heap.size w' v r.2.1 ∧ G'.map GF.f = r.1 ∧ TbM w' tb mb G' ∧ (∀ b, TbN G' b → TbN G b ∨ w.heap.size ≤ b) ∧ (∀ b, TbMut tb mb G' b → TbMut tb mb G b ∨ w.heap.size ≤ b) ∧ Upd (TbMut tb mb G) w w' ∧ ∀ b, v.ownBlock = some b → ¬ TbN G' b
/-- The i-th flow was laid in and looked at; it is whole. -/
theorem tk_whole {w : World} {tb mb : Nat} {G : List GF} {i : Nat} {g : GF} {v : Value} {x : By} {n : Nat} {f' : Fl} {N' : Nat → Prop} (h : ∀ g' ∈ G.eraseIdx i, ∀ b, g'.N b → b < w.heap.size) (hi : G[i]? = some g) (hk : f'.key = g.f.key) {w' : World} (ht : TbM w' tb mb (dropG (G.set i ⟨f', g.fb, g.ab, N'⟩) g.f.key)) (nd : ((G.set i ⟨f', g.fb, g.ab, N'⟩).map fun g => g.f.key).Nodup) (hv : Row8 w.heap.size w' v x) (hu : Upd (TbMut tb mb G) w w') :
    TkPost w tb mb G ((G.map GF.f).eraseIdx i, x, n) (.returned (.tuple #[v, .int .i64 (n : Int)])) w' := by
  have hl := (List.getElem?_eq_some_iff.1 hi).1
  have e : dropG (G.set i ⟨f', g.fb, g.ab, N'⟩) g.f.key = G.eraseIdx i := by
    rw [drop_at nd (i := i) (g := ⟨f', g.fb, g.ab, N'⟩) (List.getElem?_set_self hl) hk, erase_set]
  rw [e] at ht
  have hsub : (G.eraseIdx i).Sublist G := List.eraseIdx_sublist G i
  refine ⟨v, _, rfl, hv, map_erase _ _ _, ht, fun b hb => ?_, fun b hb => ?_, hu, fun b hb hN => ?_⟩
  · obtain ⟨g', h1, h2⟩ := hb
    exact .inl ⟨g', hsub.subset h1, h2⟩
  · rcases hb with hb | hb | ⟨g', h1, h2⟩
    · exact .inl (.inl hb)
    · exact .inl (.inr (.inl hb))
    · exact .inl (.inr (.inr ⟨g', hsub.subset h1, h2⟩))
  · obtain ⟨g', h1, h2⟩ := hN
    have h3 := h g' h1 b h2
    have h4 := (own_lt hv hb).1
    omega
/-- .. it is not whole. -/
theorem tk_part {w : World} {tb mb : Nat} {G : List GF} {i : Nat} {g : GF} {f' : Fl} {N' : Nat → Prop} (hi : G[i]? = some g) {w' : World} (ht : TbM w' tb mb (G.set i ⟨f', g.fb, g.ab, N'⟩)) (hN : ∀ b, N' b → g.N b ∨ w.heap.size ≤ b) (hu : Upd (TbMut tb mb G) w w') :
    TkPost w tb mb G ((G.map GF.f).set i f', [], 0) (.returned (.tuple #[.slice none 0 0, .int .i64 ((0 : Nat) : Int)])) w' := by
  have hmem : ∀ g' ∈ G.set i ⟨f', g.fb, g.ab, N'⟩, g' = ⟨f', g.fb, g.ab, N'⟩ ∨ g' ∈ G := fun g' hm => (List.mem_or_eq_of_mem_set hm).symm
  have hg := List.mem_of_getElem? hi
  refine ⟨_, _, rfl, Row8.nil _ _, by rw [List.map_set], ht, fun b hb => ?_, fun b hb => ?_, hu, fun b hb _ => by cases hb⟩
  · obtain ⟨g', h1, h2⟩ := hb
    rcases hmem g' h1 with rfl | h3
    · rcases hN b h2 with h4 | h4
      · exact .inl ⟨g, hg, h4⟩
      · exact .inr h4
    · exact .inl ⟨g', h3, h2⟩
  · rcases hb with hb | hb | ⟨g', h1, h2⟩
    · exact .inl (.inl hb)
    · exact .inl (.inr (.inl hb))
    · rcases hmem g' h1 with rfl | h3
      · exact .inl (.inr (.inr ⟨g, hg, h2⟩))
      · exact .inl (.inr (.inr ⟨g', h3, h2⟩))
/-- The table did not turn. -/
theorem tk_same {w w' : World} {tb mb : Nat} {G : List GF} (h : TbM w tb mb G) (hb : Below w.heap.size w w') {v : Value} {x : By} {n : Nat} (hv : Row8 w.heap.size w' v x) : TkPost w tb mb G (G.map GF.f, x, n) (.returned (.tuple #[v, .int .i64 (n : Int)])) w' :=
  ⟨v, G, rfl, hv, rfl, h.below hb, fun _ hb => .inl hb, fun _ hb => .inl hb, Upd.ofBelow hb _, fun b hb ⟨g', h1, h2⟩ => by have := h.nlt g' h1 b h2; have := (own_lt hv hb).1; omega⟩
theorem find_key {G : List GF} {i : Nat} {g : GF} (hi : G[i]? = some g) {k : Key} (hk : g.f.key = k) : ∃ gq, findG G k = some gq := by
  cases hf : findG G k with
  | some q => exact ⟨q, rfl⟩
  | none => exact absurd hk (findG_none hf g (List.mem_of_getElem? hi))
/-- A flow was added ahead. -/
theorem TkPost.new {w w' : World} {tb mb : Nat} {G : List GF} {f : Fl} {fb ab : Nat} {r : List Fl × By × Nat} {e : Ending} (h : TkPost w tb mb (G ++ [⟨f, fb, ab, fun _ => False⟩]) r e w') (h1 : w.heap.size ≤ fb) (h2 : w.heap.size ≤ ab) : TkPost w tb mb G r e w' := by
  obtain ⟨v, G', a1, a2, a3, a4, a5, a6, a7, a8⟩ := h
  have hm : ∀ b, TbMut tb mb (G ++ [⟨f, fb, ab, fun _ => False⟩]) b → TbMut tb mb G b ∨ w.heap.size ≤ b := fun b hb => by
    rcases hb with hb | hb | ⟨g, hg, hb⟩
    · exact .inl (.inl hb)
    · exact .inl (.inr (.inl hb))
    · rcases List.mem_append.1 hg with hg | hg
      · exact .inl (.inr (.inr ⟨g, hg, hb⟩))
      · rw [List.mem_singleton.1 hg] at hb
        rcases hb with rfl | rfl
        · exact .inr h1
        · exact .inr h2
  refine ⟨v, G', a1, a2, a3, a4, fun b hb => ?_, fun b hb => ?_, a7.mono hm, a8⟩
  · rcases a5 b hb with ⟨g, hg, hb⟩ | hb
    · rcases List.mem_append.1 hg with hg | hg
      · exact .inl ⟨g, hg, hb⟩
      · rw [List.mem_singleton.1 hg] at hb
        exact hb.elim
    · exact .inr hb
  · rcases a6 b hb with hb | hb
    · exact hm b hb
    · exact .inr hb
theorem pc_var {B : Nat} {w w1 : World} (hb : Below B w w1) (hB : B ≤ w1.heap.size) (k : Key) : ∃ w2, (Instr.storeAt 68 (.pointer (some ⟨w1.heap.size, 0, none⟩)) (.agg (pcC k))).run Try.prog (w1.alloc (.cells #[.int .u32 0, .int .u32 0, .int .u8 0, .int .u16 0] 68)) = .ok () w2 ∧ Below B w w2 ∧ Below w1.heap.size w1 w2 ∧ Blk w2 w1.heap.size 68 (pcC k) :=
  ⟨_, pc_store (vs := pcC k) (Blk.new w1 _ _) rfl rfl (by simp [pcC, Value.oneCell']), below_setCells hB _ 0 _ (hb.alloc hB _), below_setCells (Nat.le_refl _) _ 0 _ ((Below.refl _ _).alloc (Nat.le_refl _) _), blk_setCells (Blk.new w1 _ _) rfl⟩
theorem fl_build (w : World) (a : Nat) : (Instr.build 115 #[(0, .map (some a)), (3, .int .i64 (-1))]).run Try.prog w = .ok (.agg #[.map (some a), .int .u8 0, .int .u16 0, .bool false, .bool false, .bool false, .int .i64 0, .int .u8 0, .int .u8 0, .int .u32 0, .int .u32 0, .slice none 0 0, .bool false, .int .i64 (-1)]) w := by kernel_rfl
theorem flC_lit (a : Nat) : flC a hd0 (.slice none 0 0) false (-1) = #[.map (some a), .int .u8 0, .int .u16 0, .bool false, .bool false, .bool false, .int .i64 0, .int .u8 0, .int .u8 0, .int .u32 0, .int .u32 0, .slice none 0 0, .bool false, .int .i64 (-1)] := rfl
/-- A new flow in memory. -/
theorem fl0_new (w : World) (k : Key) : FlM ((w.alloc (.map #[] 0)).alloc (.cells (flC w.heap.size hd0 (.slice none 0 0) false (-1)) 115)) (fun _ => False) (w.heap.size + 1) w.heap.size (fl0 k) := by
  have hk : Blk ((w.alloc (.map #[] 0)).alloc (.cells (flC w.heap.size hd0 (.slice none 0 0) false (-1)) 115)) (w.heap.size + 1) 115 (flC w.heap.size hd0 (.slice none 0 0) false (-1)) := by
    have := Blk.new (w.alloc (.map #[] 0)) 115 (flC w.heap.size hd0 (.slice none 0 0) false (-1))
    simpa using this
  have hm := (mapv_new w Try.prog 3).below ((Below.refl _ _).alloc (Nat.le_refl _) (.cells (flC w.heap.size hd0 (.slice none 0 0) false (-1)) 115))
  have hc : cntC (fl0 k).c 8192 = 0 := by unfold cntC fl0; simp
  exact ⟨⟨.slice none 0 0, hk, Row8.nil _ _, fun b hb => by cases hb⟩, _, by rw [hc]; exact hm, fun j hj => absurd rfl hj, fun _ _ => rfl, fun _ _ h => by cases h⟩
end Go.Proofs.Ytihfihehiifdkaa
