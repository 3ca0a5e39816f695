/- Layer 16: the document's table in memory; find, drop, Drop, Copy, whole. -/
import Derived.Test.YtihfihehiifdkaaRzA
import Derived.Test.YtihfihehiifdkaaRtE
namespace Go.Proofs.Ytihfihehiifdkaa
open Go.RowKit Go.Sort
def boolV (l : List Bool) : List Value := l.map .bool
theorem boolV_get {l : List Bool} {i : Nat} {b : Bool} (h : l[i]? = some b) : (boolV l)[i]? = some (.bool b) := by simp [boolV, h]
theorem boolV_one (l : List Bool) : ∀ u ∈ boolV l, u.oneCell' = true := fun u hu => by
  unfold boolV at hu
  obtain ⟨b, _, rfl⟩ := List.mem_map.1 hu
  rfl
/-- A flow of the document's, with its slices. -/
structure Rg where
  f : Fl
  bv : Value
  hv : Value
  vo : Value
def rgL (g : Rg) : List Value := [.int .u32 (g.f.key.1 : Int), .int .u32 (g.f.key.2.1 : Int), .int .u8 (g.f.key.2.2.1 : Int), .int .u16 (g.f.key.2.2.2 : Int), g.bv, g.hv, .int .i64 g.f.en,
  .int .u8 (g.f.hd.tos : Int), .int .u16 (g.f.hd.id : Int), .bool g.f.hd.evil, .bool g.f.hd.df, .bool g.f.hd.mf, .int .i64 g.f.hd.off, .int .u8 (g.f.hd.ttl : Int), .int .u8 (g.f.hd.proto : Int), .int .u32 (g.f.hd.src : Int), .int .u32 (g.f.hd.dst : Int), g.vo, .bool g.f.first]
def rgA (g : Rg) : Array Value := (rgL g).toArray
def flatR (R : List Rg) : List Value := R.flatMap rgL
theorem rgL_len (g : Rg) : (rgL g).length = 19 := rfl
theorem rgA_get (g : Rg) (j : Nat) : (rgA g)[j]? = (rgL g)[j]? := by simp [rgA]
theorem flatR_len : ∀ R : List Rg, (flatR R).length = R.length * 19
  | [] => rfl
  | x :: R => by
    have := flatR_len R
    unfold flatR at this ⊢
    rw [List.flatMap_cons, List.length_append, this, rgL_len, List.length_cons]
    omega
theorem flatR_get : ∀ {R : List Rg} {i : Nat} {x : Rg}, R[i]? = some x → ∀ {j : Nat}, j < 19 → (flatR R)[i * 19 + j]? = (rgL x)[j]?
  | [], i, x, h, _, _ => by simp at h
  | a :: R, 0, x, h, j, hj => by
    simp at h
    subst h
    unfold flatR
    rw [List.flatMap_cons, Nat.zero_mul, Nat.zero_add, List.getElem?_append_left (by rw [rgL_len]; exact hj)]
  | a :: R, i + 1, x, h, j, hj => by
    have := flatR_get (R := R) (i := i) (x := x) (by simpa using h) hj
    unfold flatR at this ⊢
    rw [List.flatMap_cons, List.getElem?_append_right (by rw [rgL_len]; omega), rgL_len, ← this]
    congr 1
    omega
theorem flatR_append (R S : List Rg) : flatR (R ++ S) = flatR R ++ flatR S := by unfold flatR; rw [List.flatMap_append]
theorem flatR_take : ∀ (R : List Rg) (k : Nat), (flatR R).take (k * 19) = flatR (R.take k)
  | [], k => by simp [flatR]
  | x :: R, 0 => by simp [flatR]
  | x :: R, k + 1 => by
    have := flatR_take R k
    unfold flatR at this ⊢
    rw [List.flatMap_cons, List.take_succ_cons, List.flatMap_cons, ← this, List.take_append, rgL_len, List.take_of_length_le (by rw [rgL_len]; omega), show (k + 1) * 19 - 19 = k * 19 by omega]
theorem flatR_drop : ∀ (R : List Rg) (k : Nat), (flatR R).drop (k * 19) = flatR (R.drop k)
  | [], k => by simp [flatR]
  | x :: R, 0 => by simp
  | x :: R, k + 1 => by
    have := flatR_drop R k
    unfold flatR at this ⊢
    rw [List.flatMap_cons, List.drop_succ_cons, ← this, List.drop_append, rgL_len, List.drop_of_length_le (by rw [rgL_len]; omega), show (k + 1) * 19 - 19 = k * 19 by omega, List.nil_append]
/-- What a flow's slices hold; lo: below it lies what came in. -/
structure RgOk (w : World) (lo : Nat) (g : Rg) : Prop where
  b : Row8 0 w g.bv (bL g.f)
  h : w.ownsRow 0 4 1 g.hv g.f.bl (boolV (hL g.f))
  o : Sl8 w (fun k => k < lo) g.vo g.f.hd.opts
  ok : FlOk g.f
  key : kOk g.f.key
theorem RgOk.one {w : World} {lo : Nat} {g : Rg} (h : RgOk w lo g) : ∀ u ∈ rgL g, u.oneCell' = true := by
  intro u hu
  obtain ⟨A1, c1, e1, _⟩ := h.b.form
  obtain ⟨A2, c2, e2, _⟩ := own_form h.h
  obtain ⟨A3, c3, e3, _⟩ := h.o
  unfold rgL at hu
  rw [e1, e2, e3] at hu
  simp only [List.mem_cons, List.not_mem_nil, or_false] at hu
  rcases hu with rfl | rfl | rfl | rfl | rfl | rfl | rfl | rfl | rfl | rfl | rfl | rfl | rfl | rfl | rfl | rfl | rfl | rfl | rfl <;> rfl
/-- The blocks of a flow's rows. -/
def RgN (g : Rg) (k : Nat) : Prop := g.bv.ownBlock = some k ∨ g.hv.ownBlock = some k
theorem RgOk.same {w w' : World} {lo : Nat} {g : Rg} (h : RgOk w lo g) (hs : Same (fun k => k < lo ∨ RgN g k) w w') : RgOk w' lo g :=
  ⟨own_keep h.b hs fun _ hk => .inr (.inl hk), own_keep h.h hs fun _ hk => .inr (.inr hk), h.o.keep ⟨hs.1, fun k hk hlt => hs.2 k (.inl hk) hlt⟩, h.ok, h.key⟩
theorem RgOk.lt {w : World} {lo : Nat} {g : Rg} (h : RgOk w lo g) {k : Nat} (hk : RgN g k) : k < w.heap.size := by
  rcases hk with hk | hk
  · exact (own_lt h.b hk).2
  · exact (own_lt h.h hk).2
theorem RgOk.below {w w' : World} {lo : Nat} {g : Rg} (h : RgOk w lo g) (hb : Below w.heap.size w w') : RgOk w' lo g :=
  ⟨h.b.below hb, own_below h.h hb, (h.o.lt.keep (Same.ofBelow hb fun _ hk => hk.2)).mono fun _ hk => hk.1, h.ok, h.key⟩
/-- A flow whose rows no turned block is. -/
theorem RgOk.upd {w w' : World} {lo : Nat} {g : Rg} (h : RgOk w lo g) {U : Nat → Prop} (hu : Upd U w w') (hU : ∀ k, U k → lo ≤ k ∧ ¬ RgN g k) : RgOk w' lo g :=
  h.same ⟨hu.size, fun k hk hlt => hu.block k hlt fun hx => by
    rcases hk with hk | hk
    · have := (hU k hx).1; omega
    · exact (hU k hx).2 hk⟩
/-- The document's table. -/
structure RfM (w : World) (lo rb : Nat) (v : Value) (R : List Rg) : Prop where
  blk : Blk w rb 79 #[v]
  row : w.ownsRow lo 126 19 v R.length (flatR R)
  fl : ∀ g ∈ R, RgOk w lo g
  len : R.length ≤ 64
  lo : lo ≤ rb
section
variable {w w' : World} {lo rb : Nat} {v : Value} {R : List Rg}
def RfU (rb : Nat) (v : Value) (k : Nat) : Prop := k = rb ∨ v.ownBlock = some k
theorem RfM.ne (h : RfM w lo rb v R) : v.ownBlock ≠ some rb := own_blk_ne h.row h.blk (by decide)
theorem RfM.neN (h : RfM w lo rb v R) {k : Nat} (hk : RfU rb v k) {g : Rg} (hg : RgOk w lo g) : lo ≤ k ∧ ¬ RgN g k := by
  rcases hk with rfl | hk
  · refine ⟨h.lo, fun hx => ?_⟩
    rcases hx with hx | hx
    · exact own_blk_ne hg.b h.blk (by decide) hx
    · exact own_blk_ne hg.h h.blk (by decide) hx
  · obtain ⟨cs, hb⟩ := own_blk h.row hk
    refine ⟨(own_lt h.row hk).1, fun hx => ?_⟩
    rcases hx with hx | hx
    · exact own_blk_ne hg.b hb (by decide) hx
    · exact own_blk_ne hg.h hb (by decide) hx
theorem RfM.below (h : RfM w lo rb v R) (hb : Below w.heap.size w w') : RfM w' lo rb v R :=
  ⟨h.blk.below hb h.blk.lt, own_below h.row hb, fun g hg => (h.fl g hg).below hb, h.len, h.lo⟩
theorem RfM.lt (h : RfM w lo rb v R) {k : Nat} (hk : RfU rb v k) : k < w.heap.size := by
  rcases hk with rfl | hk
  · exact h.blk.lt
  · exact (own_lt h.row hk).2
/-- Blocks turn that are none of its own. -/
theorem RfM.upd (h : RfM w lo rb v R) {U : Nat → Prop} (hu : Upd U w w') (h1 : ∀ k, U k → ¬ RfU rb v k) (h2 : ∀ g ∈ R, ∀ k, U k → lo ≤ k ∧ ¬ RgN g k) : RfM w' lo rb v R :=
  ⟨h.blk.upd hu fun hx => h1 _ hx (.inl rfl), own_keep h.row (hu.same (I := fun k => v.ownBlock = some k) fun k hk hv => h1 k hk (.inr hv)) fun _ e => e, fun g hg => (h.fl g hg).upd hu (h2 g hg), h.len, h.lo⟩
theorem RfM.form (h : RfM w lo rb v R) : ∃ A cap, v = .slice A R.length cap ∧ R.length ≤ cap := own_form h.row
theorem RfM.at_ (h : RfM w lo rb v R) (hn : 0 < R.length) : ∃ g cap, v = .slice (some ⟨g, 0, none⟩) R.length cap ∧ R.length ≤ cap := own_form1 h.row hn
theorem RfM.cell {g cap n : Nat} (h : RfM w lo rb (.slice (some ⟨g, 0, none⟩) n cap) R) (hn : n = R.length) {i : Nat} {x : Rg} (hx : R[i]? = some x) {j : Nat} (hj : j < 19) {u : Value} (hu : (rgL x)[j]? = some u) : w.cell? ⟨g, i * 19 + j, none⟩ = some u := by
  subst hn
  obtain ⟨ad, e, _, _, hc⟩ := (Reads.of_own h.row (I := fun _ => True) fun _ _ => trivial).2 (by have := (List.getElem?_eq_some_iff.1 hx).1; omega)
  injection e with e
  subst e
  have := hc _ _ ((flatR_get hx hj).trans hu)
  rwa [add_off, Nat.zero_add] at this
/-- A whole flow. -/
theorem RfM.ld {g cap n : Nat} (h : RfM w lo rb (.slice (some ⟨g, 0, none⟩) n cap) R) (hn : n = R.length) {i : Nat} {x : Rg} (hx : R[i]? = some x) : (Instr.loadAt 126 (.pointer (some ⟨g, i * 19, none⟩))).run Try.prog w = .ok (.agg (rgA x)) w :=
  run_loadAt_mid (P := Try.prog) w g (i * 19) 126 (rgL x) _ (fun j v hv => h.cell hn hx (by
    rcases Nat.lt_or_ge j 19 with hl | hg
    · exact hl
    · rw [List.getElem?_eq_none (by rw [rgL_len]; exact hg)] at hv; cases hv) hv) Try.underlying126 rfl (show (Try.prog.info? 126).map (·.size) = some 19 by kernel_rfl)
/-- A flow's key. -/
theorem RfM.ld_k {g cap n : Nat} (h : RfM w lo rb (.slice (some ⟨g, 0, none⟩) n cap) R) (hn : n = R.length) {i : Nat} {x : Rg} (hx : R[i]? = some x) : (Instr.loadAt 68 (.pointer (some ⟨g, i * 19, none⟩))).run Try.prog w = .ok (pcV x.f.key) w := by
  have := run_loadAt_mid (P := Try.prog) w g (i * 19) 68 (pcC x.f.key).toList _ (fun j v hv => h.cell hn hx (j := j) (by
    have : j < 4 := by
      rcases Nat.lt_or_ge j 4 with hl | hg
      · exact hl
      · rw [List.getElem?_eq_none (by simpa [pcC] using hg)] at hv; cases hv
    omega) (by
    rcases j with _ | _ | _ | _ | j
    · exact hv
    · exact hv
    · exact hv
    · exact hv
    · simp [pcC] at hv)) Try.underlying68 rfl (show (Try.prog.info? 68).map (·.size) = some 4 by kernel_rfl)
  simpa [pcV] using this
end
theorem ld_rl {w : World} {b : Nat} {A : Option Addr} {n c : Nat} (hu : w.cell? ⟨b, 0, none⟩ = some (.slice A n c)) : (Instr.loadAt 77 (.pointer (some ⟨b, 0, none⟩))).run Try.prog w = .ok (.slice A n c) w := by simp [go_sem, hu]
theorem st_rl {w : World} {b : Nat} {u : Value} (hu : w.cell? ⟨b, 0, none⟩ = some u) (hf : w.frozen? ⟨b, 0, none⟩ = false) (A : Option Addr) (n c : Nat) : (Instr.storeAt 77 (.pointer (some ⟨b, 0, none⟩)) (.slice A n c)).run Try.prog w = .ok () (w.setCell ⟨b, 0, none⟩ (.slice A n c)) := by simp [go_sem, hu, hf]
theorem eql_pc (x y : Key) (w : World) : (binOp .eql 68 (pcV x) (pcV y)).run Try.prog w = .ok (.bool (decide (x = y))) w := by
  obtain ⟨a, b, c, d⟩ := x
  obtain ⟨a', b', c', d'⟩ := y
  unfold pcV pcC
  go_simp
  by_cases h1 : (a : Int) = (a' : Int)
  · rw [if_pos h1]
    have h1' : a = a' := by omega
    by_cases h2 : (b : Int) = (b' : Int)
    · rw [if_pos h2]
      have h2' : b = b' := by omega
      by_cases h3 : (c : Int) = (c' : Int)
      · rw [if_pos h3]
        have h3' : c = c' := by omega
        by_cases h4 : (d : Int) = (d' : Int)
        · have h4' : d = d' := by omega
          simp [h1', h2', h3', h4']
        · have h4' : ¬ d = d' := by omega
          simp [h4, h4']
      · rw [if_neg h3]
        have h3' : ¬ c = c' := by omega
        simp [h3']
    · rw [if_neg h2]
      have h2' : ¬ b = b' := by omega
      simp [h2']
  · rw [if_neg h1]
    have h1' : ¬ a = a' := by omega
    simp [h1']
/-- Where a key stands; -1: nowhere. -/
def idxR (R : List Rg) (k : Key) : Int := match R.findIdx? (fun g => g.f.key == k) with | some i => (i : Int) | none => -1
theorem idxR_found {R : List Rg} {k : Key} {i : Nat} {x : Rg} (hx : R[i]? = some x) (hp : x.f.key = k) (hn : ∀ j y, j < i → R[j]? = some y → y.f.key ≠ k) : idxR R k = (i : Int) := by
  have : R.findIdx? (fun g => g.f.key == k) = some i := by
    rw [List.findIdx?_eq_some_iff_getElem]
    obtain ⟨h, he⟩ := List.getElem?_eq_some_iff.1 hx
    refine ⟨h, by rw [he, hp]; simp, fun j hj => ?_⟩
    have := hn j R[j] hj (List.getElem?_eq_getElem (by omega))
    simpa using this
  unfold idxR
  rw [this]
theorem idxR_none {R : List Rg} {k : Key} (hn : ∀ x ∈ R, x.f.key ≠ k) : idxR R k = -1 := by
  have : R.findIdx? (fun g => g.f.key == k) = none := by
    rw [List.findIdx?_eq_none_iff]
    intro x hx
    have := hn x hx
    simpa using this
  unfold idxR
  rw [this]
theorem idxR_cases (R : List Rg) (k : Key) : (idxR R k = -1 ∧ findK (R.map Rg.f) k = none) ∨ ∃ i x, idxR R k = ((i : Nat) : Int) ∧ R[i]? = some x ∧ x.f.key = k ∧ findK (R.map Rg.f) k = some i := by
  have e : findK (R.map Rg.f) k = R.findIdx? fun g => g.f.key == k := by
    unfold findK
    rw [List.findIdx?_map]
    rfl
  rw [e]
  cases h : R.findIdx? (fun g => g.f.key == k) with
  | none => exact .inl ⟨by unfold idxR; rw [h], rfl⟩
  | some i =>
    obtain ⟨hk, h1, _⟩ := List.findIdx?_eq_some_iff_getElem.1 h
    exact .inr ⟨i, R[i], by unfold idxR; rw [h], List.getElem?_eq_getElem hk, by simpa using h1, rfl⟩
set_option maxRecDepth 100000 in
set_option maxHeartbeats 4000000 in
attribute [-go_sem] Instr.storeAt Instr.loadAt in
theorem find16_any {w : World} {lo rb : Nat} {v : Value} {R : List Rg} (h : RfM w lo rb v R) (p : Key) :
    Calls Try.prog 88 #[.pointer (some ⟨rb, 0, none⟩), pcV p] w fun e w' => e = .returned (.int .i64 (idxR R p)) ∧ Below w.heap.size w w' := by
  obtain ⟨W1, hW1⟩ : ∃ Z, Z = w.alloc (.cells (pcC p) 68) := ⟨_, rfl⟩
  have hb1 : Below w.heap.size w W1 := by rw [hW1]; exact (Below.refl _ _).alloc (Nat.le_refl _) _
  have hkp : Blk W1 w.heap.size 68 (pcC p) := by rw [hW1]; exact Blk.new _ _ _
  have h1 := h.below hb1
  obtain ⟨A, cap, rfl, hcap⟩ := h1.form
  have HW1 := Lib.hid hW1
  have HB1 := Lib.hid hb1
  have HKP := Lib.hid hkp
  have H1 := Lib.hid h1
  have hl := h.len
  obtain ⟨n, hn⟩ : ∃ n, n = R.length := ⟨_, rfl⟩
  rw [← hn] at hl
  have HN := Lib.hid hn
  unfold pcC at HW1
  clear hW1 hb1 hkp h1 h hn hcap
  unfold pcV
  unfold pcC
  go_enter Try.func88, Try.ntmps88
  go_wp2_with fail
  rw [← HW1.out]
  go_loopw [5] (fun s5 wr => ∃ k : Nat, k ≤ n ∧ s5 = .int .i64 (k : Int) ∧ Below w.heap.size w wr ∧ Below W1.heap.size W1 wr ∧ ∀ j y, j < k → R[j]? = some y → y.f.key ≠ p) (fun s5 _ => n - (intOf s5).toNat)
  case atStart => exact ⟨0, Nat.zero_le _, rfl, HB1.out, Below.refl _ _, fun j y hj => absurd hj (Nat.not_lt_zero _)⟩
  case round =>
    obtain ⟨k, hk, rfl, hB, hB1, hno⟩ := hrel
    have HB := Lib.hid hB
    have HBB := Lib.hid hB1
    have HNO := Lib.hid hno
    have hr := H1.out.below hB1
    have l1 := fun (q : Nat) => ld_rl (w := wr.drewN q) (hr.blk.cell 0)
    have l0 := ld_rl (hr.blk.cell 0)
    rw [← HN.out] at l0 l1
    have hi0 : (0 : Int) ≤ k := by omega
    clear hB hB1 hno
    by_cases hlt : k < n
    · obtain ⟨x, hx⟩ : ∃ x, R[k]? = some x := ⟨_, List.getElem?_eq_getElem (by rw [← HN.out]; exact hlt)⟩
      obtain ⟨g, c2, e1, _⟩ := hr.at_ (by rw [← HN.out]; omega)
      injection e1 with e1 _ e2
      subst e1
      subst e2
      have l2 := fun (q : Nat) => RfM.ld_k (w := wr.drewN q) (hr.below (below_drewN wr q)) rfl hx
      have l3 := fun (q : Nat) => pc_load (w := wr.drewN q) ((HKP.out.below HBB.out HKP.out.lt).below (below_drewN wr q) (HKP.out.below HBB.out HKP.out.lt).lt) rfl
      have l4 := fun wx => eql_pc x.f.key p wx
      have hi1 : (k : Int) < n := by omega
      have HX := Lib.hid hx
      unfold pcV at l2 l4
      unfold pcC at l2 l3 l4
      clear hx hr
      by_cases he : x.f.key = p
      · have hd : decide (x.f.key = p) = true := decide_eq_true he
        rw [hd] at l4
        have HE := Lib.hid he
        clear hd he
        go_wp2_with fail
        go_quiet (fail)
        go_wp2_with fail
        go_ret
        refine ⟨by rw [idxR_found HX.out HE.out HNO.out]; rfl, HB.out.trans ((below_drewN wr _).mono HB.out.size)⟩
      · have hd : decide (x.f.key = p) = false := decide_eq_false he
        rw [hd] at l4
        have HE := Lib.hid he
        clear hd he
        go_wp2_with fail
        go_quiet (fail)
        go_wp2_with fail
        go_roundw
        case measure => simp [intOf]; omega
        case rel =>
          refine ⟨k + 1, by omega, by go_num, HB.out.trans ((below_drewN wr _).mono HB.out.size), HBB.out.trans ((below_drewN wr _).mono HBB.out.size), fun j y hj hy => ?_⟩
          rcases Nat.lt_or_ge j k with h1 | h1
          · exact HNO.out j y h1 hy
          · obtain rfl : j = k := by omega
            rw [HX.out] at hy
            injection hy with hy
            rw [← hy]; exact HE.out
    · have hnone : idxR R p = -1 := idxR_none fun x hx => by
        obtain ⟨j, hj⟩ := List.getElem?_of_mem hx
        exact HNO.out j x (by have := (List.getElem?_eq_some_iff.1 hj).1; have := HN.out; omega) hj
      have HNN := Lib.hid hnone
      clear hr hnone
      go_wp2_with fail
      go_ret
      exact ⟨by rw [HNN.out]; rfl, HB.out⟩
end Go.Proofs.Ytihfihehiifdkaa
namespace Go.Proofs.Ytihfihehiifdkaa
open Go.RowKit Go.Sort
def fl0V : Array Value := #[.int .u32 0, .int .u32 0, .int .u8 0, .int .u16 0, .slice none 0 0, .slice none 0 0, .int .i64 0, .int .u8 0, .int .u16 0, .bool false, .bool false, .bool false, .int .i64 0, .int .u8 0, .int .u8 0, .int .u32 0, .int .u32 0, .slice none 0 0, .bool false]
theorem info_fl : (Try.prog.info? 126).map (fun i => (i.zero, i.size, i.bytes)) = some (some (.agg fl0V), 19, 136) := by kernel_rfl
theorem fsz (wx : World) : (Go.sizeOf 126).run Try.prog wx = .ok 19 wx := by kernel_rfl
theorem flelem : (Try.prog).underlying 77 = some (.slice ((Try.prog).elem 77)) := by simp [Program.elem, Try.underlying77]
theorem flelem2 : (Try.prog).elem 77 = 126 := by simp [Program.elem, Try.underlying77]
theorem fl_take (A : Option Addr) (n cap k : Nat) (wx : World) (hk : k ≤ cap) : (Instr.slice 77 (.slice A n cap) none (some (.int .i64 (k : Int))) none).run Try.prog wx = .ok (.slice A k cap) wx := by
  rw [run_slice_h wx _ _ _ _ flelem .i64 _ (by omega) (by omega), flelem2, fsz]
  cases A <;> simp [Result.andThen, sliced, Addr.add]
theorem fl_drop (A : Option Addr) (n cap k : Nat) (wx : World) (hk : k ≤ n) : (Instr.slice 77 (.slice A n cap) (some (.int .i64 (k : Int))) none none).run Try.prog wx = .ok (.slice (if cap = k then A else A.map (·.add (k * 19))) (n - k) (cap - k)) wx := by
  rw [run_slice_l wx _ _ _ _ flelem .i64 _ (by omega) (by omega), flelem2, fsz]
  by_cases h0 : cap = k
  · simp [Result.andThen, sliced, h0]
  · simp [Result.andThen, sliced, h0]
theorem readsTake {w : World} {I : Nat → Prop} {size n k : Nat} {A : Option Addr} {xs : List Value} (h : Reads w I size A n xs) (hk : k ≤ n) : Reads w I size A k (xs.take (k * size)) := by
  refine ⟨?_, fun hn => ?_⟩
  · rw [List.length_take, h.1]
    have := Nat.mul_le_mul_right size hk
    omega
  · obtain ⟨ad, e, hi, hb, hc⟩ := h.2 (by omega)
    exact ⟨ad, e, hi, hb, fun j u hu => hc j u (by
      rw [List.getElem?_take] at hu
      split at hu
      · exact hu
      · cases hu)⟩
theorem flatR_one {w : World} {lo : Nat} {R : List Rg} (h : ∀ g ∈ R, RgOk w lo g) : ∀ u ∈ flatR R, u.oneCell' = true := fun u hu => by
  unfold flatR at hu
  obtain ⟨g, hg, h1⟩ := List.mem_flatMap.1 hu
  exact (h g hg).one u h1
section
variable {w w' : World} {lo rb : Nat} {v : Value} {R : List Rg}
/-- The table's slice is another one. -/
theorem RfM.turn (h : RfM w lo rb v R) {A : Option Addr} {n c : Nat} {S : List Rg} (hn : n = S.length) (hrow : w.ownsRow lo 126 19 (.slice A n c) n (flatR S)) (hS : ∀ g ∈ S, RgOk w lo g) (h64 : S.length ≤ 64) (hw : w' = w.setCell ⟨rb, 0, none⟩ (.slice A n c)) : RfM w' lo rb (.slice A n c) S ∧ Upd (only rb) w w' := by
  subst hw
  subst hn
  have hu := upd_set w rb 0 (.slice A S.length c)
  have hne := own_blk_ne hrow h.blk (by decide)
  refine ⟨⟨?_, ownsRow_setCell_other (a := ⟨rb, 0, none⟩) hrow hne _, fun g hg => (hS g hg).upd hu fun k (e : k = rb) => h.neN (.inl e) (hS g hg), h64, h.lo⟩, hu⟩
  have := h.blk.set_ 0 (.slice A S.length c)
  exact this
end
theorem eraseIdx_eq {α : Type} : ∀ (l : List α) (i : Nat), l.eraseIdx i = l.take i ++ l.drop (i + 1)
  | [], i => by simp
  | a :: l, 0 => by simp
  | a :: l, i + 1 => by
    have := eraseIdx_eq l i
    simp [this]
/-- What drop leaves. -/
def DropPost (w : World) (lo rb : Nat) (R : List Rg) (i : Nat) (e : Ending) (w' : World) : Prop := e = .returned (.tuple #[]) ∧ ∃ v', RfM w' lo rb v' (R.eraseIdx i) ∧ Upd (only rb) w w' ∧ ∀ j, v'.ownBlock = some j → w.heap.size ≤ j
set_option maxRecDepth 100000 in
set_option maxHeartbeats 4000000 in
attribute [-go_sem] Instr.storeAt Instr.loadAt in
theorem drop16_any {w : World} {lo rb : Nat} {v : Value} {R : List Rg} (h : RfM w lo rb v R) (hlo : lo ≤ w.heap.size) (i : Nat) (hi : i < R.length) :
    Calls Try.prog 89 #[.pointer (some ⟨rb, 0, none⟩), .int .i64 (i : Int)] w (DropPost w lo rb R i) := by
  obtain ⟨A, cap, rfl, hcap⟩ := h.form
  obtain ⟨i0, hi0, hz0, hz1, hz2⟩ := info_parts info_fl
  have hl := h.len
  obtain ⟨n, hn⟩ : ∃ n, n = R.length := ⟨_, rfl⟩
  have HN := Lib.hid hn
  have HH := Lib.hid h
  rw [← hn] at hl hcap hi HH
  obtain ⟨A9, hA9⟩ : ∃ z, z = (if cap = i + 1 then A else A.map (·.add ((i + 1) * 19))) := ⟨_, rfl⟩
  obtain ⟨n9, hn9⟩ : ∃ z, z = n - (i + 1) := ⟨_, rfl⟩
  obtain ⟨c9, hc9⟩ : ∃ z, z = cap - (i + 1) := ⟨_, rfl⟩
  have sh := fun wx => fl_take A n cap i wx (by omega)
  have sl := fun wx => fl_drop A n cap (i + 1) wx (by omega)
  rw [← hA9, ← hn9, ← hc9, show (((i + 1 : Nat)) : Int) = (i : Int) + 1 by omega] at sl
  have HREADS := Lib.hid (show ∀ wx, Below w.heap.size w wx → Reads wx (fun k => k < wx.heap.size) 19 A i (flatR (R.take i)) ∧ Reads wx (fun k => k < wx.heap.size) 19 A9 n9 (flatR (R.drop (i + 1))) from fun wx hx => by
    have h1 := (h.below hx).row
    rw [← hn] at h1
    have hr := Reads.of_own (I := fun k => k < wx.heap.size) h1 fun g hg => (own_lt h1 hg).2
    refine ⟨?_, ?_⟩
    · have := readsTake hr (k := i) (by omega)
      rwa [flatR_take] at this
    · have := hr.cut (k := i + 1) (cap := cap) (by omega) hcap
      rwa [flatR_drop, ← hA9, ← hn9] at this)
  have hwr : IntKind.i64.wrap ((i : Int) + 1) = (i : Int) + 1 := IntWalk.i64_in _ ⟨by omega, by omega⟩
  have HN9 := Lib.hid hn9
  have HLO := Lib.hid hlo
  have HO1 := Lib.hid (flatR_one (R := R.take i) fun g hg => h.fl g (List.mem_of_mem_take hg))
  have HO2 := Lib.hid (flatR_one (R := R.drop (i + 1)) fun g hg => h.fl g (List.mem_of_mem_drop hg))
  clear hn9 hA9 hc9 h hn hlo
  go_enter Try.func89, Try.ntmps89
  go_upto_region 0 with (fail)
  refine wp_region_mix [(true, 7), (false, 1), (true, 7), (false, 4)] 2 (by kernel_rfl) (fun wx => Below w.heap.size w wx) (fun _ _ h k => h.trans (k.mono h.size)) (by kernel_rfl) (Below.refl _ _) (a' := ?_) (fun wz hz => ?_) fun wz hz => ?_
  rotate_left
  · have hb := fun (dd : Nat) (os : Array Obj) => hz.trans ((below_regrown wz dd os).mono hz.size)
    have l1 := fun (dd : Nat) (os : Array Obj) => ld_rl (w := grow (redrawn wz dd) os) ((HH.out.below (hb dd os)).blk.cell 0)
    clear hz hb
    simp only [pick_nil, pick_tt, pick_ft, List.take_succ_cons, List.take_zero, List.drop_succ_cons, List.drop_zero, List.append_nil, List.cons_append, List.nil_append]
    repeat (go_big_quiet_step (fail))
    refine wpQuiet_nil ?_
    rfl
  simp only [pick_nil, pick_ff, pick_tf, List.take_succ_cons, List.take_zero, List.drop_succ_cons, List.drop_zero, List.append_nil, List.cons_append, List.nil_append]
  have HZ := Lib.hid hz
  clear hz sh sl hwr
  have hmx : 0 + i ≤ maxLen := by unfold maxLen; omega
  have hmb : (0 + i) * 136 ≤ 140737488355328 := by omega
  refine wpMix_append HZ.out rfl (.const (.slice none 0 0)) (.tmp 10) _ rfl rfl wz.heap.size 126 i0 _ 19 136 Try.underlying77 hi0 hz0 hz1 hz2 rfl (by decide) (.slice none 0 0) 0 [] rfl (World.ownsRow_nil _ _ _ _) _ A i cap _ rfl (HREADS.out wz HZ.out).1 HO1.out hmx hmb (Nat.le_refl _) fun v2 wy h2 hg2 _ => ?_
  have hby : Below w.heap.size w wy := HZ.out.grown hg2 HZ.out.size fun j hj => by cases hj
  rw [List.nil_append] at h2
  have hmx2 : 0 + i + n9 ≤ maxLen := by unfold maxLen; have := HN9.out; omega
  have hmb2 : (0 + i + n9) * 136 ≤ 140737488355328 := by have := HN9.out; omega
  refine wpMix_append hby rfl (.tmp 11) (.tmp 18) _ rfl rfl wz.heap.size 126 i0 _ 19 136 Try.underlying77 hi0 hz0 hz1 hz2 rfl (by decide) v2 (0 + i) _ rfl h2 _ A9 n9 c9 _ rfl (HREADS.out wy hby).2 HO2.out hmx2 hmb2 hg2.size fun v3 wy3 h3 hg3 _ => ?_
  have hby3 : Below w.heap.size w wy3 := hby.grown hg3 hby.size fun j hj => Nat.le_trans HZ.out.size (own_lt h2 hj).1
  refine wpMix_step hby3 fun wx ha => ?_
  have hbx : Below w.heap.size w wx := hby3.trans (ha.mono hby3.size)
  replace h3 := own_below h3 ha
  rw [← flatR_append, ← eraseIdx_eq, Nat.zero_add] at h3
  have hlen : i + n9 = (R.eraseIdx i).length := by
    rw [eraseIdx_eq, List.length_append, List.length_take, List.length_drop]
    have := HN.out
    have := HN9.out
    omega
  obtain ⟨A6, c6, rfl, hc6⟩ := own_form h3
  have hrx := HH.out.below hbx
  have st6 := st_rl (hrx.blk.cell 0) (hrx.blk.frozen 0) A6 (i + n9) c6
  obtain ⟨W7, hW7⟩ : ∃ Z, Z = wx.setCell ⟨rb, 0, none⟩ (.slice A6 (i + n9) c6) := ⟨_, rfl⟩
  rw [← hW7] at st6
  have H3 := Lib.hid h3
  have ht := hrx.turn hlen (own_base h3 (by have := HLO.out; have := HZ.out.size; omega)) (fun g hg => hrx.fl g (List.mem_of_mem_eraseIdx hg)) (by rw [← hlen]; have := HN9.out; omega) hW7
  have HT := Lib.hid ht
  have HBX := Lib.hid hbx
  clear h2 hg2 hby hby3 ha hmx hmb hmx2 hmb2 h3 hg3 hbx hlen hW7 hc6 hrx ht
  go_wp2_with fail
  refine wpMix_plain ?_
  go_wp2_with fail
  go_end0
  exact ⟨rfl, _, HT.out.1, (Upd.ofBelow HBX.out _).trans_ (HT.out.2.mono fun k e => .inl e), fun j hj => Nat.le_trans HZ.out.size (own_lt H3.out hj).1⟩
end Go.Proofs.Ytihfihehiifdkaa
namespace Go.Proofs.Ytihfihehiifdkaa
open Go.RowKit Go.Sort
/-- A key's flow is forgotten. -/
def dropR (R : List Rg) (k : Key) : List Rg := match R.findIdx? (fun g => g.f.key == k) with | some i => R.eraseIdx i | none => R
theorem dropR_cases (R : List Rg) (k : Key) : (idxR R k = -1 ∧ dropR R k = R) ∨ ∃ i, idxR R k = ((i : Nat) : Int) ∧ i < R.length ∧ dropR R k = R.eraseIdx i := by
  unfold idxR dropR
  cases h : R.findIdx? (fun g => g.f.key == k) with
  | none => exact .inl ⟨rfl, rfl⟩
  | some i => exact .inr ⟨i, rfl, (List.findIdx?_eq_some_iff_getElem.1 h).1, rfl⟩
def Drop16Post (w : World) (lo rb : Nat) (v : Value) (R : List Rg) (k : Key) (e : Ending) (w' : World) : Prop := e = .returned (.bool (decide (0 ≤ idxR R k))) ∧ ∃ v', RfM w' lo rb v' (dropR R k) ∧ Upd (only rb) w w' ∧ ∀ j, v'.ownBlock = some j → v.ownBlock = some j ∨ w.heap.size ≤ j
set_option maxRecDepth 100000 in
set_option maxHeartbeats 4000000 in
attribute [-go_sem] Instr.storeAt Instr.loadAt in
theorem dropk16_any {w : World} {lo rb : Nat} {v : Value} {R : List Rg} (h : RfM w lo rb v R) (hlo : lo ≤ w.heap.size) (p : Key) :
    Calls Try.prog 55 #[.pointer (some ⟨rb, 0, none⟩), pcV p] w (Drop16Post w lo rb v R p) := by
  obtain ⟨W1, hW1⟩ : ∃ Z, Z = w.alloc (.cells (pcC p) 68) := ⟨_, rfl⟩
  have hb1 : Below w.heap.size w W1 := by rw [hW1]; exact (Below.refl _ _).alloc (Nat.le_refl _) _
  have hkp : Blk W1 w.heap.size 68 (pcC p) := by rw [hW1]; exact Blk.new _ _ _
  have l3 := pc_load hkp rfl
  have hfi := find16_any (h.below hb1) p
  have HH := Lib.hid h
  have HF := Lib.hid hfi
  have HW1 := Lib.hid hW1
  have HB1 := Lib.hid hb1
  have HLO := Lib.hid hlo
  have HDC := Lib.hid (dropR_cases R p)
  obtain ⟨z, hz⟩ : ∃ z, z = idxR R p := ⟨_, rfl⟩
  unfold pcV at HF l3 ⊢
  unfold pcC at HF HW1 l3 ⊢
  clear hW1 hb1 hkp h hfi hlo
  rw [← hz] at HF HDC
  unfold Drop16Post
  rw [← hz]
  clear hz
  go_enter Try.func55, Try.ntmps55
  go_upto_region 1 with (fail)
  rw [← HW1.out]
  go_upto_region 2 with (go_at_call 88; refine HF.out.mono ?_; rintro e w2 ⟨rfl, hb2⟩; have HB2 := Lib.hid (HB1.out.trans (hb2.mono HB1.out.size)); clear hb2)
  have hdc := HDC.out
  clear l3
  rcases hdc with ⟨e1, e2⟩ | ⟨i, e1, hi, e2⟩
  · have E2 := Lib.hid e2
    subst e1
    clear e2
    go_wp2_with fail
    go_ret
    exact ⟨rfl, v, by rw [E2.out]; exact HH.out.below HB2.out, Upd.ofBelow HB2.out _, fun j hj => .inl hj⟩
  · have E2 := Lib.hid e2
    subst e1
    have hdr := drop16_any (HH.out.below HB2.out) (Nat.le_trans HLO.out HB2.out.size) i hi
    have HD := Lib.hid hdr
    have i0 : (0 : Int) ≤ (i : Int) := by omega
    clear e2 hdr hi
    go_wp2_with (go_at_call 89; refine HD.out.mono ?_; rintro e w3 ⟨rfl, v', h1, h2, h3⟩; have HM := Lib.hid h1; have HU := Lib.hid h2; have HJ := Lib.hid h3; clear h1 h2 h3)
    go_ret
    exact ⟨by simp, v', by rw [E2.out]; exact HM.out, (Upd.ofBelow HB2.out _).trans_ (HU.out.mono fun k e => .inl e), fun j hj => .inr (Nat.le_trans HB2.out.size (HJ.out j hj))⟩
def Copy16Post (w : World) (lo : Nat) (R : List Rg) (e : Ending) (w' : World) : Prop := ∃ rb v, e = .returned (.pointer (some ⟨rb, 0, none⟩)) ∧ RfM w' lo rb v R ∧ Below w.heap.size w w' ∧ w.heap.size ≤ rb ∧ ∀ j, v.ownBlock = some j → w.heap.size ≤ j
set_option maxRecDepth 100000 in
set_option maxHeartbeats 4000000 in
attribute [-go_sem] Instr.storeAt Instr.loadAt in
theorem copy16_any {w : World} {lo rb : Nat} {v : Value} {R : List Rg} (h : RfM w lo rb v R) (hlo : lo ≤ w.heap.size) :
    Calls Try.prog 51 #[.pointer (some ⟨rb, 0, none⟩)] w (Copy16Post w lo R) := by
  obtain ⟨A, cap, rfl, hcap⟩ := h.form
  obtain ⟨i0, hi0, hz0, hz1, hz2⟩ := info_parts info_fl
  have hl := h.len
  have HO := Lib.hid (flatR_one h.fl)
  have HH := Lib.hid h
  obtain ⟨n, hn⟩ : ∃ n, n = R.length := ⟨_, rfl⟩
  rw [← hn] at hl hcap HH
  have HN := Lib.hid hn
  have HLO := Lib.hid hlo
  have l0 := ld_rl (HH.out.blk.cell 0)
  have hrow := HH.out.row
  rw [← hn] at hrow
  have hrd := Reads.of_own (I := fun _ => True) hrow fun _ _ => trivial
  have hmx : 0 + n ≤ maxLen := by unfold maxLen; omega
  have hmb : (0 + n) * 136 ≤ 140737488355328 := by omega
  clear h hn hlo hrow hcap
  go_enter Try.func51, Try.ntmps51
  go_wp2_with (at_builtin; refine wpList_append_any w rfl (.const (.slice none 0 0)) (.tmp 6) _ rfl w.heap.size 126 i0 _ 19 136 Try.underlying77 hi0 hz0 hz1 hz2 rfl (by decide) (.slice none 0 0) 0 [] rfl (World.ownsRow_nil _ _ _ _) _ A n cap _ rfl hrd HO.out hmx hmb (Nat.le_refl _) ?_; intro v2 w2 h2 hg2 _; rw [List.nil_append, Nat.zero_add] at h2; have H2 := Lib.hid h2; obtain ⟨A6, c6, rfl, _⟩ := own_form h2; have HB2 := Lib.hid (show Below w.heap.size w w2 from (Below.refl _ _).grown hg2 (Nat.le_refl _) fun j hj => by cases hj); clear h2 hg2)
  go_ret
  have hb3 : Below w.heap.size w (w2.alloc (.cells #[.slice A6 n c6] 79)) := HB2.out.alloc HB2.out.size _
  have hk3 : Blk (w2.alloc (.cells #[.slice A6 n c6] 79)) w2.heap.size 79 #[.slice A6 n c6] := Blk.new _ _ _
  have hr3 : (w2.alloc (.cells #[.slice A6 n c6] 79)).ownsRow lo 126 19 (.slice A6 n c6) R.length (flatR R) := by
    rw [← HN.out]
    exact own_base (World.ownsRow.alloc H2.out _) HLO.out
  exact ⟨w2.heap.size, .slice A6 n c6, rfl, ⟨hk3, hr3, fun g hg => (HH.out.fl g hg).below hb3, HH.out.len, Nat.le_trans HLO.out HB2.out.size⟩, hb3, HB2.out.size, fun j hj => (own_lt H2.out hj).1⟩
end Go.Proofs.Ytihfihehiifdkaa
namespace Go.Proofs.Ytihfihehiifdkaa
open Go.RowKit Go.Sort
theorem ld_bools {w : World} {b o : Nat} {A : Option Addr} {n c : Nat} (hu : w.cell? ⟨b, o, none⟩ = some (.slice A n c)) : (Instr.loadAt 119 (.pointer (some ⟨b, o, none⟩))).run Try.prog w = .ok (.slice A n c) w := by simp [go_sem, hu]
theorem ld_bl {w : World} {p : Addr} {z : Bool} (hu : w.cell? p = some (.bool z)) : (Instr.loadAt 4 (.pointer (some p))).run Try.prog w = .ok (.bool z) w := by simp [go_sem, hu]
/-- A flow's cell that says which bytes are there. -/
theorem RgOk.hcell {w : World} {lo : Nat} {g : Rg} (h : RgOk w lo g) (hn : 0 < g.f.bl) : ∃ ab c, g.hv = .slice (some ⟨ab, 0, none⟩) g.f.bl c ∧ ∀ i, i < g.f.bl → w.cell? ⟨ab, i, none⟩ = some (.bool (hasF g.f i)) := by
  obtain ⟨ab, c, e, _⟩ := own_form1 h.h hn
  refine ⟨ab, c, e, fun i hi => ?_⟩
  have hr := h.h
  rw [e] at hr
  obtain ⟨ad, e2, _, _, hc⟩ := (Reads.of_own hr (I := fun _ => True) fun _ _ => trivial).2 hn
  injection e2 with e2
  subst e2
  have := hc i _ (boolV_get (hL_get hi))
  rwa [add_off, Nat.zero_add] at this
set_option maxRecDepth 100000 in
set_option maxHeartbeats 4000000 in
attribute [-go_sem] Instr.storeAt Instr.loadAt in
theorem whole16_any {w : World} {lo : Nat} {g : Rg} (h : RgOk w lo g) :
    Calls Try.prog 103 #[.agg (rgA g)] w fun e w' => e = .returned (.bool (wholeF' g.f)) ∧ Below w.heap.size w w' := by
  obtain ⟨W1, hW1⟩ : ∃ Z, Z = w.alloc (.cells (rgA g) 126) := ⟨_, rfl⟩
  have hb1 : Below w.heap.size w W1 := by rw [hW1]; exact (Below.refl _ _).alloc (Nat.le_refl _) _
  have hk1 : Blk W1 w.heap.size 126 (rgA g) := by rw [hW1]; exact Blk.new _ _ _
  have hg := h.below hb1
  obtain ⟨A, cap, hv, hcap⟩ := own_form h.h
  have c5 : W1.cell? ⟨w.heap.size, 5, none⟩ = some (.slice A g.f.bl cap) := by rw [hk1.cell]; show some g.hv = _; rw [hv]
  have c6 : W1.cell? ⟨w.heap.size, 6, none⟩ = some (.int .i64 g.f.en) := by rw [hk1.cell]; rfl
  have c18 : W1.cell? ⟨w.heap.size, 18, none⟩ = some (.bool g.f.first) := by rw [hk1.cell]; rfl
  have l5 := ld_bools c5
  have l6 := ld_int c6
  have l18 := ld_bl c18
  have e1 := h.ok.e1
  have e0 := h.ok.e0
  have hbl := h.ok.bl
  have hw := whole_iff h.ok
  have HWH := Lib.hid hw
  have HHC := Lib.hid (fun hn : 0 < g.f.bl => hg.hcell hn)
  obtain ⟨bl, hbe⟩ : ∃ x, x = g.f.bl := ⟨_, rfl⟩
  obtain ⟨en, hen⟩ : ∃ x, x = g.f.en := ⟨_, rfl⟩
  obtain ⟨fi, hfi⟩ : ∃ x, x = g.f.first := ⟨_, rfl⟩
  rw [← hbe] at l5 e1 hbl HHC
  rw [← hen] at l6 e1 e0 HWH
  rw [← hfi] at l18 HWH
  have HV := Lib.hid hv
  have HW1 := Lib.hid hW1
  have HB1 := Lib.hid hb1
  unfold rgA rgL at HW1 ⊢
  rw [HV.out] at HW1 ⊢
  obtain ⟨hd, hhd⟩ : ∃ x, x = g.f.hd := ⟨_, rfl⟩
  obtain ⟨ky, hky⟩ : ∃ x, x = g.f.key := ⟨_, rfl⟩
  rw [← hbe, ← hen, ← hfi, ← hhd, ← hky] at HW1 ⊢
  obtain ⟨F, hF⟩ : ∃ x, x = hasF g.f := ⟨_, rfl⟩
  have HAL := Lib.hid (fun n => allF_iff (f := g.f) (n := n))
  rw [← hF] at HHC HAL
  obtain ⟨wf, hwf⟩ : ∃ x, x = wholeF' g.f := ⟨_, rfl⟩
  obtain ⟨af, haf⟩ : ∃ x, x = allF g.f en.toNat := ⟨_, rfl⟩
  rw [← hwf, ← haf] at HWH
  rw [← hwf]
  have HAF := Lib.hid haf
  clear hW1 hb1 hk1 hg hv hcap c5 c6 c18 hw h hbe hen hfi hhd hky hF hwf haf
  go_enter Try.func103, Try.ntmps103
  go_upto_region 1 with (fail)
  rw [← HW1.out]
  go_wp2_with fail
  go_loopw [3] (fun s3 wr => ∃ k : Nat, s3 = .int .i64 (k : Int) ∧ (k : Int) ≤ max en 0 ∧ wr = W1 ∧ ∀ i, i < k → F i = true) (fun s3 _ => en.toNat - (intOf s3).toNat)
  case atStart => exact ⟨0, rfl, by omega, rfl, fun i hi => absurd hi (Nat.not_lt_zero _)⟩
  case round =>
    obtain ⟨k, rfl, hk, rfl, hall⟩ := hrel
    have HA := Lib.hid hall
    clear hall
    by_cases hlt : (k : Int) < en
    · obtain ⟨ab, c, e2, hc⟩ := HHC.out (by omega)
      rw [HV.out] at e2
      injection e2 with e2 _ e3
      subst e2
      have lk := ld_bl (hc k (by omega))
      have k0 : (0 : Int) ≤ (k : Int) := by omega
      have k1 : (k : Int) < (bl : Int) := by omega
      have k2 : ¬ ((bl : Int) ≤ (k : Int)) := by omega
      clear hc
      cases hh : F k with
      | true =>
        rw [hh] at lk
        have HH := Lib.hid hh
        clear hh
        go_wp2_with fail
        go_roundw
        case measure => simp [intOf]; omega
        case rel => exact ⟨k + 1, by go_num, by omega, trivial, fun i hi => by
          rcases Nat.lt_or_ge i k with h1 | h1
          · exact HA.out i h1
          · rw [show i = k by omega]; exact HH.out⟩
      | false =>
        rw [hh] at lk
        have HF := Lib.hid (show af = false by
          cases ha : af with
          | false => rfl
          | true =>
            rw [HAF.out] at ha
            rw [(HAL.out _).1 ha k (by omega)] at hh
            cases hh)
        clear hh
        go_wp2_with fail
        go_ret
        exact ⟨by rw [HWH.out, HF.out, Bool.and_false]; rfl, HB1.out⟩
    · by_cases h0 : 0 ≤ en
      · have HF := Lib.hid (show af = true by rw [HAF.out]; exact (HAL.out _).2 fun i hi => HA.out i (by omega))
        have d1 : decide ((0 : Int) ≤ en) = true := decide_eq_true h0
        cases fi with
        | true =>
          go_wp2_with fail
          go_ret
          exact ⟨by rw [HWH.out, HF.out, d1]; rfl, HB1.out⟩
        | false =>
          go_wp2_with fail
          go_ret
          exact ⟨by rw [HWH.out]; rfl, HB1.out⟩
      · have d1 : decide ((0 : Int) ≤ en) = false := decide_eq_false h0
        cases fi with
        | true =>
          go_wp2_with fail
          go_ret
          exact ⟨by rw [HWH.out, d1]; rfl, HB1.out⟩
        | false =>
          go_wp2_with fail
          go_ret
          exact ⟨by rw [HWH.out]; rfl, HB1.out⟩
end Go.Proofs.Ytihfihehiifdkaa
