/- Tries: the chapter's rows (known). -/
import Derived.Test.YtejiecebckjflaaTrH
import Derived.Test.YtejiecebckjflaaTrN
import Derived.Test.YtejiecebckjflaaTrS
import Derived.Test.YtejiecebckjflaaTrJ
namespace Go.Proofs.Ytejiecebckjflaa
open Go.RowKit Go.Sort Go.BigFrame

theorem num_any (e : Int) (w : World) : Calls Try.prog 12 #[.int .i64 e] w fun r w' => r = .returned (.int .i64 e) ∧ w = w' := by
  go_enter Try.func12, Try.ntmps12
  go_wp2
  go_ret
  exact ⟨rfl, rfl⟩
theorem ten_any (b n a : Nat) (hb : b < 256) (ha : a = 167772160 + b * 65536) (w : World) : Calls Try.prog 30 #[.int .u32 (b : Int), .int .i64 (n : Int)] w fun e w' => e = .returned (pxV a n) ∧ Below w.heap.size w w' := by
  have h1 : (b : Int) < 256 := by omega
  have HA := Lib.hid ha
  clear ha
  go_enter Try.func30, Try.ntmps30
  go_wp2
  have e : (167772160 + (b : Int) * 65536) = (a : Int) := by rw [HA.out]; omega
  rw [e]
  exact bodyPost_ret (v := pxV a n) (by simp [results, Try.results30, go_sem]) rfl ⟨rfl, (Below.refl _ _).alloc (Nat.le_refl _) _⟩

def KS (w wx : World) (tb : Nat) (T : TT) (B : List (Nat × Obj)) : Prop := ∃ M, IsTr wx M tb 3 T ∧ (∀ k, M k → w.heap.size ≤ k) ∧ Below w.heap.size w wx ∧ ∀ x ∈ B, ¬ M x.1 ∧ wx.heap[x.1]? = some x.2
theorem KS.later {w wx wy : World} {tb : Nat} {T : TT} {B : List (Nat × Obj)} (h : KS w wx tb T B) (hb : Below wx.heap.size wx wy) : KS w wy tb T B := by
  obtain ⟨M, h1, h2, h3, h4⟩ := h
  exact ⟨M, h1.keep ⟨hb.size, fun k hm _ => hb.block k (h1.lt k hm)⟩, h2, h3.trans (hb.mono h3.size), fun x hx => ⟨(h4 x hx).1, (hb.block _ (Array.getElem?_eq_some_iff.mp (h4 x hx).2).1).trans (h4 x hx).2⟩⟩
theorem KS.put {w wx : World} {tb : Nat} {T : TT} {B : List (Nat × Obj)} (h : KS w wx tb T B) (o : Obj) : KS w (wx.alloc o) tb T ((wx.heap.size, o) :: B) := by
  obtain ⟨M, h1, h2, h3, h4⟩ := h.later ((Below.refl _ _).alloc (Nat.le_refl _) o)
  have h5 := h
  obtain ⟨M', i1, i2, i3, i4⟩ := h5
  have hb : Below wx.heap.size wx (wx.alloc o) := (Below.refl _ _).alloc (Nat.le_refl _) o
  refine ⟨M', i1.keep ⟨hb.size, fun k hm _ => hb.block k (i1.lt k hm)⟩, i2, i3.trans (hb.mono i3.size), fun x hx => ?_⟩
  rcases List.mem_cons.mp hx with rfl | hx
  · exact ⟨fun hm => Nat.lt_irrefl _ (i1.lt _ hm), heap_alloc_new wx o⟩
  · exact ⟨(i4 x hx).1, (hb.block _ (Array.getElem?_eq_some_iff.mp (i4 x hx).2).1).trans (i4 x hx).2⟩
theorem KS.upd {w wx wy : World} {M M2 : Nat → Prop} {tb : Nat} {T : TT} {B : List (Nat × Obj)} (h2 : ∀ k, M k → w.heap.size ≤ k) (h3 : Below w.heap.size w wx) (h4 : ∀ x ∈ B, ¬ M x.1 ∧ wx.heap[x.1]? = some x.2) (ht : IsTr wy M2 tb 3 T) (hu : Upd M wx wy) (hm : ∀ k, M2 k → M k ∨ wx.heap.size ≤ k) : KS w wy tb T B :=
  ⟨M2, ht, fun k hk => (hm k hk).elim (h2 k) fun h => Nat.le_trans h3.size h, h3.trans (hu.below h2 h3.size), fun x hx => by
    have hl : x.1 < wx.heap.size := (Array.getElem?_eq_some_iff.mp (h4 x hx).2).1
    exact ⟨fun hk => (hm _ hk).elim (h4 x hx).1 fun h => absurd h (Nat.not_le.mpr hl), (hu.block _ hl (h4 x hx).1).trans (h4 x hx).2⟩⟩
theorem ks_ins {w wx : World} {tb : Nat} {T : TT} {B : List (Nat × Obj)} (h : KS w wx tb T B) (p : Bs) (v : Int) (hp : p.length ≤ 32) (hn : T.list.length < 3) :
    Calls Try.prog 14 #[.pointer (some ⟨tb, 0, none⟩), pxV (padB p) p.length, .int .i64 v] wx fun e w' => e = .returned (.int .i64 0) ∧ KS w w' tb (T.ins p v) B := by
  obtain ⟨M, h1, h2, h3, h4⟩ := h
  refine (insert_yes p v tb M 3 T wx h1 hp (by omega)).mono ?_
  rintro e w' (⟨_, he, M3, ht, hu, hm⟩ | ⟨⟨_, hl⟩, _⟩)
  · exact ⟨he, KS.upd h2 h3 h4 ht hu hm⟩
  · omega
theorem ks_full {w wx : World} {tb : Nat} {T : TT} {B : List (Nat × Obj)} (h : KS w wx tb T B) (p : Bs) (v : Int) (hp : p.length ≤ 32) (hg : T.get p = none) (hn : T.list.length = 3) :
    Calls Try.prog 14 #[.pointer (some ⟨tb, 0, none⟩), pxV (padB p) p.length, .int .i64 v] wx fun e w' => e = .returned (.int .i64 5) ∧ KS w w' tb T B := by
  obtain ⟨M, h1, h2, h3, h4⟩ := h
  refine (insert_yes p v tb M 3 T wx h1 hp (by omega)).mono ?_
  rintro e w' (⟨hl, _⟩ | ⟨_, he, hb⟩)
  · rcases hl with hl | hl
    · rw [hg] at hl; cases hl
    · omega
  · exact ⟨he, KS.later ⟨M, h1, h2, h3, h4⟩ hb⟩
theorem ks_del {w wx : World} {tb : Nat} {T : TT} {B : List (Nat × Obj)} (h : KS w wx tb T B) (p : Bs) (hp : p.length ≤ 32) (hg : (T.get p).isSome = true) (hn : T.list.length ≤ 1000) :
    Calls Try.prog 13 #[.pointer (some ⟨tb, 0, none⟩), pxV (padB p) p.length] wx fun e w' => e = .returned (.int .i64 0) ∧ KS w w' tb (T.del p) B := by
  obtain ⟨M, h1, h2, h3, h4⟩ := h
  refine (delete_yes p tb M 3 T wx h1 hp (by omega)).mono ?_
  rintro e w' (⟨_, he, ht, hu⟩ | ⟨hl, _⟩)
  · exact ⟨he, KS.upd h2 h3 h4 ht hu fun k hk => .inl hk⟩
  · rw [hl] at hg; cases hg
theorem ks_match {w wx : World} {tb : Nat} {T : TT} {B : List (Nat × Obj)} (h : KS w wx tb T B) (a : Nat) (ha : a < 2 ^ 32) (hn : T.list.length ≤ 1000) (L : List (Bs × Int)) (hL : T.cov (bitsB a 32) = L) :
    Calls Try.prog 15 #[.pointer (some ⟨tb, 0, none⟩), .int .u32 (a : Int)] wx fun e w' => e = .returned (.tuple #[pxV (padB (lastE L).1) ((lastE L).1.length : Int), .int .i64 (lastE L).2, .bool (!L.isEmpty)]) ∧ KS w w' tb T B := by
  have h0 := h
  obtain ⟨M, h1, h2, h3, h4⟩ := h
  subst hL
  exact (match_any a tb M 3 T wx h1 ha (by omega)).mono fun e w' ⟨he, hb⟩ => ⟨he, h0.later hb⟩
theorem ks_nodes {w wx : World} {tb : Nat} {T : TT} {B : List (Nat × Obj)} (h : KS w wx tb T B) (hn : T.keys.length ≤ 1000) (n : Nat) (hk : T.keys.length = n) :
    Calls Try.prog 19 #[.pointer (some ⟨tb, 0, none⟩)] wx fun e w' => e = .returned (.int .i64 (n : Int)) ∧ Below wx.heap.size wx w' := by
  obtain ⟨M, h1, h2, h3, h4⟩ := h
  subst hk
  exact nodes_any tb M 3 T wx h1 (by omega)

def kP8 : Bs := bitsB 167772160 8
def kP16 : Bs := bitsB 167837696 16
def kQ16 : Bs := bitsB 167903232 16
def kT2 : TT := (TT.nil.ins kP8 1).ins kP16 2
def kT3 : TT := kT2.ins kQ16 3
theorem kf1 : padB kP8 = 167772160 ∧ kP8.length = 8 ∧ padB kP16 = 167837696 ∧ kP16.length = 16 ∧ padB kQ16 = 167903232 ∧ kQ16.length = 16 := by decide +kernel
theorem kf2 : (TT.nil.ins kP8 1).list.length = 1 ∧ kT2.list.length = 2 ∧ kT3.list.length = 3 ∧ kT3.get [] = none ∧ (kT3.get kP8).isSome = true ∧ kT3.keys.length = 4 ∧ (kT3.del kP8).keys.length = 3 := by decide +kernel
theorem kf3 : kT2.cov (bitsB 167838211 32) = [(kP8, 1), (kP16, 2)] ∧ kT2.cov (bitsB 167903747 32) = [(kP8, 1)] ∧ kT2.cov (bitsB 184549376 32) = [] := by decide +kernel
set_option maxRecDepth 100000 in
set_option maxHeartbeats 8000000 in
theorem known_any (w : World) : Calls Try.prog 9 #[] w fun e w' => e = .returned (.bool true) ∧ Below w.heap.size w w' := by
  obtain ⟨f1, f2, f3, f4, f5, f6⟩ := kf1
  obtain ⟨g1, g2, g3, g4, g5, g6, g7⟩ := kf2
  obtain ⟨m1, m2, m3⟩ := kf3
  have C8 := fun wx => ten_any 0 8 167772160 (by decide) rfl wx
  have C16 := fun wx => ten_any 1 16 167837696 (by decide) rfl wx
  have D16 := fun wx => ten_any 2 16 167903232 (by decide) rfl wx
  have hk0 : KS w (w.alloc (.cells #[.pointer none, .int .i64 (max 0 3), .int .i64 0, .bool true] 71)) w.heap.size .nil [] :=
    ⟨fun k => k = w.heap.size, ⟨⟨.pointer none, Blk.new _ _ _, rfl⟩, rfl, trivial, fun k hk => by rw [hk]; simp⟩, fun k hk => by rw [hk]; exact Nat.le_refl _, (Below.refl _ _).alloc (Nat.le_refl _) _, by simp⟩
  have K0 := Lib.hid hk0
  have S1 := Lib.hid (fun (wx : World) (B : List (Nat × Obj)) (h : KS w wx w.heap.size .nil B) => by have := ks_ins h kP8 1 (by rw [f2]; decide) (by decide); rw [f1, f2] at this; exact this)
  have S2 := Lib.hid (fun (wx : World) (B : List (Nat × Obj)) (h : KS w wx w.heap.size (TT.nil.ins kP8 1) B) => by have := ks_ins h kP16 2 (by rw [f4]; decide) (by rw [g1]; decide); rw [f3, f4] at this; exact this)
  have S3 := Lib.hid (fun (wx : World) (B : List (Nat × Obj)) (h : KS w wx w.heap.size kT2 B) => by have := ks_ins h kQ16 3 (by rw [f6]; decide) (by rw [g2]; decide); rw [f5, f6] at this; exact this)
  have S4 := Lib.hid (fun (wx : World) (B : List (Nat × Obj)) (h : KS w wx w.heap.size kT3 B) => show Calls Try.prog 14 #[.pointer (some ⟨w.heap.size, 0, none⟩), pxV 0 0, .int .i64 4] wx _ from ks_full h [] 4 (by decide) g4 g3)
  have S5 := Lib.hid (fun (wx : World) (B : List (Nat × Obj)) (h : KS w wx w.heap.size kT3 B) => by have := ks_del h kP8 (by rw [f2]; decide) g5 (by rw [g3]; decide); rw [f1, f2] at this; exact this)
  have A1 := Lib.hid (fun (wx : World) (B : List (Nat × Obj)) (h : KS w wx w.heap.size kT2 B) => by have := ks_match h 167838211 (by decide) (by rw [g2]; decide) _ m1; simp only [lastE, List.getLast?_cons_cons, List.getLast?_singleton, Option.getD_some] at this; rw [f3, f4] at this; exact this)
  have A2 := Lib.hid (fun (wx : World) (B : List (Nat × Obj)) (h : KS w wx w.heap.size kT2 B) => by have := ks_match h 167903747 (by decide) (by rw [g2]; decide) _ m2; simp only [lastE, List.getLast?_singleton, Option.getD_some] at this; rw [f1, f2] at this; exact this)
  have A3 := Lib.hid (fun (wx : World) (B : List (Nat × Obj)) (h : KS w wx w.heap.size kT2 B) => ks_match h 184549376 (by decide) (by rw [g2]; decide) _ m3)
  have N1 := Lib.hid (fun (wx : World) (B : List (Nat × Obj)) (h : KS w wx w.heap.size kT3 B) => ks_nodes h (by rw [g6]; decide) 4 g6)
  have N2 := Lib.hid (fun (wx : World) (B : List (Nat × Obj)) (h : KS w wx w.heap.size (kT3.del kP8) B) => ks_nodes h (by rw [g7]; decide) 3 g7)
  have T8 := Lib.hid C8
  have T16 := Lib.hid C16
  have U16 := Lib.hid D16
  clear hk0 C8 C16 D16 f1 f2 f3 f4 f5 f6 g1 g2 g3 g4 g5 g6 g7 m1 m2 m3
  go_enter Try.func9, Try.ntmps9
  go_wp2_with fail
  refine (new_any 3 _).mono ?_
  rintro e w1 ⟨rfl, rfl⟩
  generalize w.alloc (.cells #[.pointer none, .int .i64 (max 0 3), .int .i64 0, .bool true] 71) = w1 at K0 ⊢
  go_wp2_with fail
  refine (T8.out _).mono ?_
  rintro e w2 ⟨rfl, hb2⟩
  have K1 := Lib.hid (K0.out.later hb2)
  clear hb2
  go_wp2_with fail
  refine (S1.out _ _ K1.out).mono ?_
  rintro e w3 ⟨rfl, k3⟩
  have K3 := Lib.hid k3
  clear k3
  go_wp2_with fail
  refine (T16.out _).mono ?_
  rintro e w4 ⟨rfl, hb4⟩
  have K4 := Lib.hid (K3.out.later hb4)
  clear hb4
  go_wp2_with fail
  refine (S2.out _ _ K4.out).mono ?_
  rintro e w5 ⟨rfl, k5⟩
  have K5 := Lib.hid (show KS w w5 w.heap.size kT2 _ from k5)
  clear k5
  go_wp2_with fail
  refine (A1.out _ _ K5.out).mono ?_
  rintro e w6 ⟨rfl, k6⟩
  have K6 := Lib.hid k6
  clear k6
  go_wp2_with fail
  have K6b := Lib.hid (K6.out.put (.cells #[.int .u32 167837696, .int .i64 16] 31))
  refine (A2.out _ _ K6b.out).mono ?_
  rintro e w7 ⟨rfl, k7⟩
  have K7 := Lib.hid k7
  clear k7
  go_wp2_with fail
  have K7b := Lib.hid (K7.out.put (.cells #[.int .u32 167772160, .int .i64 8] 31))
  refine (A3.out _ _ K7b.out).mono ?_
  rintro e w8 ⟨rfl, k8⟩
  have K8 := Lib.hid k8
  clear k8
  go_wp2_with fail
  have K8b := Lib.hid (K8.out.put (.cells #[.int .u32 (padB (lastE []).1), .int .i64 ((lastE []).1.length : Nat)] 31))
  refine (U16.out _).mono ?_
  rintro e w9 ⟨rfl, hb9⟩
  have K9 := Lib.hid (K8b.out.later hb9)
  clear hb9
  go_wp2_with fail
  refine (S3.out _ _ K9.out).mono ?_
  rintro e w10 ⟨rfl, k10⟩
  have K10 := Lib.hid (show KS w w10 w.heap.size kT3 _ from k10)
  clear k10
  go_wp2_with fail
  refine (N1.out _ _ K10.out).mono ?_
  rintro e w11 ⟨rfl, hb11⟩
  have K11 := Lib.hid (K10.out.later hb11)
  clear hb11
  go_wp2_with fail
  refine (S4.out _ _ K11.out).mono ?_
  rintro e w12 ⟨rfl, k12⟩
  have K12 := Lib.hid k12
  clear k12
  go_wp2_with fail
  refine (T8.out _).mono ?_
  rintro e w13 ⟨rfl, hb13⟩
  have K13 := Lib.hid (K12.out.later hb13)
  clear hb13
  go_wp2_with fail
  refine (S5.out _ _ K13.out).mono ?_
  rintro e w14 ⟨rfl, k14⟩
  have K14 := Lib.hid k14
  clear k14
  go_wp2_with fail
  obtain ⟨M, hM1, hM2, hM3, hM4⟩ := K14.out
  have b1 : Blk w14 w6.heap.size 31 #[.int .u32 167837696, .int .i64 16] := (hM4 (w6.heap.size, _) (by simp)).2
  have b2 : Blk w14 w7.heap.size 31 #[.int .u32 167772160, .int .i64 8] := (hM4 (w7.heap.size, _) (by simp)).2
  have y0 : w14.cell? ⟨w6.heap.size, 0, none⟩ = some (.int .u32 167837696) := b1.cell 0
  have y1 : w14.cell? ⟨w6.heap.size, 1, none⟩ = some (.int .i64 16) := b1.cell 1
  have y2 : w14.cell? ⟨w7.heap.size, 0, none⟩ = some (.int .u32 167772160) := b2.cell 0
  have y3 : w14.cell? ⟨w7.heap.size, 1, none⟩ = some (.int .i64 8) := b2.cell 1
  have x0 := cell_regrown y0
  have x1 := cell_regrown y1
  have x2 := cell_regrown y2
  have x3 := cell_regrown y3
  have cN := fun (e : Int) (d : Nat) (os : Array Obj) => Calls.regrown_of ((num_any e (grow (redrawn w14 d) os)).mono fun r w' (h : r = .returned (.int .i64 e) ∧ grow (redrawn w14 d) os = w') => (⟨h.1, h.2 ▸ Below.refl _ _⟩ : r = .returned (.int .i64 e) ∧ Below (grow (redrawn w14 d) os).heap.size (grow (redrawn w14 d) os) w'))
  have cP := fun (d : Nat) (os : Array Obj) => Calls.regrown_of (ten_any 1 16 167837696 (by decide) rfl (grow (redrawn w14 d) os))
  have cQ := fun (d : Nat) (os : Array Obj) => Calls.regrown_of (ten_any 0 8 167772160 (by decide) rfl (grow (redrawn w14 d) os))
  have cM := fun (d : Nat) (os : Array Obj) => Calls.regrown_of (N2.out (grow (redrawn w14 d) os) _ (K14.out.later (below_regrown w14 d os)))
  have e1 := fun w => eql_px 167837696 167837696 16 16 w
  have e2 := fun w => eql_px 167772160 167772160 8 8 w
  clear b1 b2 y0 y1 y2 y3
  refine wp_region_quiet_below (by kernel_rfl) (by kernel_rfl) ?_
  repeat (go_big_quiet_step (first | exact cN _ _ _ | exact cP _ _ | exact cQ _ _ | exact cM _ _))
  refine wpQuiet_nil ?_
  intro _ hw'
  obtain ⟨⟨dq, osq⟩, hw''⟩ := hw'
  subst hw''
  have hbq := below_regrown w14 dq osq
  generalize grow (redrawn w14 dq) osq = wq at hbq
  clear x0 x1 x2 x3 cN cP cQ cM e1 e2
  go_wp2_with fail
  go_ret
  exact ⟨rfl, hM3.trans (hbq.mono hM3.size)⟩
end Go.Proofs.Ytejiecebckjflaa
