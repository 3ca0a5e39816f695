/- A trie beside the document's table, any limit; the law's do. -/
import Derived.Test.YtejiecebckjflaaTbH
import Derived.Test.YtejiecebckjflaaTbK
import Derived.Test.YtejiecebckjflaaRowT
import Derived.Test.YtejiecebckjflaaTrL
import Derived.Test.YtejiecebckjflaaTmL
namespace Go.Proofs.Ytejiecebckjflaa
open Go.RowKit Go.Sort Go.BigFrame
attribute [local go_sem] comesV_value comesV_skip comesV_enter

/-- A trie and a table of the call's own, apart from each other and from all that J holds. -/
structure HU (lim : Int) (w : World) (J : Nat → Prop) (w5 : World) (tb db : Nat) (T : TT) (L : List (Bs × Int)) (wx : World) : Prop where
  ex : ∃ M N, IsTr wx M tb (max 0 lim) T ∧ IsTab wx N db lim L ∧ (∀ k, M k → w.heap.size ≤ k) ∧ (∀ k, N k → w.heap.size ≤ k) ∧ (∀ k, M k → ¬ N k) ∧ ∀ k, J k → ¬ M k ∧ ¬ N k
  below : Below w.heap.size w wx
  same : Same J w5 wx
  jlt : ∀ k, J k → k < w5.heap.size
section
variable {w w5 wx wy : World} {J : Nat → Prop} {lim : Int} {tb db : Nat} {T : TT} {L : List (Bs × Int)}
theorem HU.later (h : HU lim w J w5 tb db T L wx) (hb : Below wx.heap.size wx wy) : HU lim w J w5 tb db T L wy := by
  obtain ⟨M, N, h1, h2, h3, h4, h5, h6⟩ := h.ex
  exact ⟨⟨M, N, h1.keep ⟨hb.size, fun k hm _ => hb.block k (h1.lt k hm)⟩, h2.below hb, h3, h4, h5, h6⟩, h.below.trans (hb.mono h.below.size), h.same.trans ⟨hb.size, fun k _ hl => hb.block k hl⟩, h.jlt⟩
theorem HU.yesT {M N : Nat → Prop} {T2 : TT} (h : HU lim w J w5 tb db T L wx) (h2 : IsTab wx N db lim L) (h3 : ∀ k, M k → w.heap.size ≤ k) (h4 : ∀ k, N k → w.heap.size ≤ k) (h5 : ∀ k, M k → ¬ N k) (h6 : ∀ k, J k → ¬ M k ∧ ¬ N k) (hy : InsYes wx M tb (max 0 lim) T2 wy) : HU lim w J w5 tb db T2 L wy := by
  obtain ⟨M3, ht, hu, hm⟩ := hy
  refine ⟨⟨M3, N, ht, h2.keep (hu.same fun k hk hn => h5 k hk hn), fun k hk => (hm k hk).elim (h3 k) fun h' => Nat.le_trans h.below.size h', h4, fun k hk hn => (hm k hk).elim (fun h' => h5 k h' hn) fun h' => absurd h' (Nat.not_le.2 (h2.lt k hn)), fun k hk => ⟨fun h' => (hm k h').elim (h6 k hk).1 fun h' => absurd h' (Nat.not_le.2 (Nat.lt_of_lt_of_le (h.jlt k hk) h.same.1)), (h6 k hk).2⟩⟩, h.below.trans (hu.below h3 h.below.size), h.same.trans (hu.same fun k hk hj => (h6 k hj).1 hk), h.jlt⟩
theorem HU.yesD {M N : Nat → Prop} {L2 : List (Bs × Int)} (h : HU lim w J w5 tb db T L wx) (h2 : IsTr wx M tb (max 0 lim) T) (h3 : ∀ k, M k → w.heap.size ≤ k) (h4 : ∀ k, N k → w.heap.size ≤ k) (h5 : ∀ k, M k → ¬ N k) (h6 : ∀ k, J k → ¬ M k ∧ ¬ N k) (hy : TabYes wx N db lim L2 wy) : HU lim w J w5 tb db T L2 wy := by
  obtain ⟨N3, ht, hu, hm⟩ := hy
  refine ⟨⟨M, N3, h2.keep (hu.same fun k hk hn => h5 k hn hk), ht, h3, fun k hk => (hm k hk).elim (h4 k) fun h' => Nat.le_trans h.below.size h', fun k hk hn => (hm k hn).elim (fun h' => h5 k hk h') fun h' => absurd h' (Nat.not_le.2 (h2.lt k hk)), fun k hk => ⟨(h6 k hk).1, fun h' => (hm k h').elim (h6 k hk).2 fun h' => absurd h' (Nat.not_le.2 (Nat.lt_of_lt_of_le (h.jlt k hk) h.same.1))⟩⟩, h.below.trans (hu.below h4 h.below.size), h.same.trans (hu.same fun k hk hj => (h6 k hj).2 hk), h.jlt⟩
theorem hu_ins (h : HU lim w J w5 tb db T L wx) (x : Px) (v : Int) (ha : x.a < 2 ^ 32) (hsm : T.list.length ≤ 1000000) :
    Calls Try.prog 14 #[.pointer (some ⟨tb, 0, none⟩), pxV x.a x.n, .int .i64 v] wx fun e w' => e = .returned (.int .i64 (insP (max 0 lim) x v T).1) ∧ HU lim w J w5 tb db (insP (max 0 lim) x v T).2 L w' := by
  obtain ⟨M, N, h1, h2, h3, h4, h5, h6⟩ := h.ex
  exact (ins_any x v tb M (max 0 lim) T wx h1 ha hsm).mono fun e w' ⟨he, hy⟩ => ⟨he, h.yesT h2 h3 h4 h5 h6 hy⟩
theorem hu_del (h : HU lim w J w5 tb db T L wx) (x : Px) (ha : x.a < 2 ^ 32) (hsm : T.list.length ≤ 1000000) :
    Calls Try.prog 13 #[.pointer (some ⟨tb, 0, none⟩), pxV x.a x.n] wx fun e w' => e = .returned (.int .i64 (delP x T).1) ∧ HU lim w J w5 tb db (delP x T).2 L w' := by
  obtain ⟨M, N, h1, h2, h3, h4, h5, h6⟩ := h.ex
  exact (del_any x tb M (max 0 lim) T wx h1 ha hsm).mono fun e w' ⟨he, hy⟩ => ⟨he, h.yesT h2 h3 h4 h5 h6 hy⟩
theorem hu_tins (h : HU lim w J w5 tb db T L wx) (x : Px) (v : Int) (ha : x.a < 2 ^ 32) (hsm : L.length ≤ 1000000) :
    Calls Try.prog 42 #[.pointer (some ⟨db, 0, none⟩), pxV x.a x.n, .int .i64 v] wx fun e w' => e = .returned (.int .i64 (insT lim x v L).1) ∧ HU lim w J w5 tb db T (insT lim x v L).2 w' := by
  obtain ⟨M, N, h1, h2, h3, h4, h5, h6⟩ := h.ex
  exact (tabins_any x v db N lim L wx h2 hsm ha).mono fun e w' ⟨he, hy⟩ => ⟨he, h.yesD h1 h3 h4 h5 h6 hy⟩
theorem hu_tdel (h : HU lim w J w5 tb db T L wx) (x : Px) (ha : x.a < 2 ^ 32) (hsm : L.length ≤ 1000000) :
    Calls Try.prog 41 #[.pointer (some ⟨db, 0, none⟩), pxV x.a x.n] wx fun e w' => e = .returned (.int .i64 (delT x L).1) ∧ HU lim w J w5 tb db T (delT x L).2 w' := by
  obtain ⟨M, N, h1, h2, h3, h4, h5, h6⟩ := h.ex
  exact (tabdel_any x db N lim L wx h2 hsm ha).mono fun e w' ⟨he, hy⟩ => ⟨he, h.yesD h1 h3 h4 h5 h6 hy⟩
/-- One block more that stays. -/
theorem HU.with_ (h : HU lim w J w5 tb db T L wx) (o : Obj) : HU lim w (fun k => J k ∨ k = wx.heap.size) (wx.alloc o) tb db T L (wx.alloc o) := by
  have h' := h.later ((Below.refl _ wx).alloc (Nat.le_refl _) o)
  obtain ⟨M, N, h1, h2, h3, h4, h5, h6⟩ := h.ex
  have hs : wx.heap.size < (wx.alloc o).heap.size := by simp
  refine ⟨⟨M, N, h1.keep ⟨by omega, fun k hm hl => Below.heap_alloc wx o k hl⟩, h2.below ((Below.refl _ wx).alloc (Nat.le_refl _) o), h3, h4, h5, fun k hk => ?_⟩, h'.below, Same.refl _ _, fun k hk => ?_⟩
  · rcases hk with hk | rfl
    · exact h6 k hk
    · exact ⟨fun hm => Nat.lt_irrefl _ (h1.lt _ hm), fun hn => Nat.lt_irrefl _ (h2.lt _ hn)⟩
  · rcases hk with hk | rfl
    · exact Nat.lt_of_lt_of_le (h.jlt k hk) h'.same.1
    · exact hs
theorem HU.without_ {K : Nat → Prop} {w6 : World} {T2 : TT} {L2 : List (Bs × Int)} (h : HU lim w J w5 tb db T L wx) (h6 : Same J wx w6) (h2 : HU lim w (fun k => J k ∨ K k) w6 tb db T2 L2 wy) : HU lim w J w5 tb db T2 L2 wy := by
  obtain ⟨M, N, a1, a2, a3, a4, a5, a6⟩ := h2.ex
  exact ⟨⟨M, N, a1, a2, a3, a4, a5, fun k hk => a6 k (.inl hk)⟩, h2.below, h.same.trans (h6.trans ⟨h2.same.1, fun k hk hl => h2.same.2 k (.inl hk) hl⟩), h.jlt⟩
end
theorem insT_eqL {lim : Int} {T : TT} (wf : T.wf []) {x : Px} (v : Int) (hx : x.a < 2 ^ 32) (hs : SortedB T.list) (h32 : ∀ e ∈ T.list, e.1.length ≤ 32) : insT lim x v T.list = ((insP (max 0 lim) x v T).1, (insP (max 0 lim) x v T).2.list) := by
  unfold insT insP
  by_cases hm : x.may = true
  · rw [if_neg (by rw [hm]; decide), if_pos hm, hasB_get wf hx hm hs h32]
    by_cases hg : (T.get (pB x)).isSome = true
    · rw [if_pos hg, if_pos (.inl hg), TT.ins_list wf List.nil_prefix (pB_may hx hm).1]
    · rw [if_neg hg]
      by_cases hl : lim ≤ (T.list.length : Int)
      · rw [if_pos hl, if_neg (by rintro (h | h); exact hg h; have := Int.max_def 0 lim; split at this <;> omega)]
      · rw [if_neg hl, if_pos (.inr (by have := Int.le_max_right 0 lim; omega)), TT.ins_list wf List.nil_prefix (pB_may hx hm).1]
  · rw [if_pos (by simpa using hm), if_neg hm]
set_option maxRecDepth 100000 in
set_option maxHeartbeats 4000000 in
theorem duDel_any {W w5 : World} {J : Nat → Prop} {lim : Int} {tb db : Nat} {T : TT} (x : Px) (v : Int) (wx : World) (h : HU lim W J w5 tb db T T.list wx) (ha : x.a < 2 ^ 32) (hsm : T.list.length ≤ 1000000) :
    Calls Try.prog 20 #[.pointer (some ⟨tb, 0, none⟩), .pointer (some ⟨db, 0, none⟩), .agg #[.bool true, .int .u32 (x.a : Int), .int .i64 x.n, .int .i64 v]] wx fun e w' => e = .returned (.bool true) ∧ HU lim W J w5 tb db (delP x T).2 (delP x T).2.list w' := by
  obtain ⟨M0, N0, tr0, tab0, _⟩ := h.ex
  have heq := delT_eq tr0.wf ha tab0.sorted tab0.short
  have HH := Lib.hid h
  have h0 := h.with_ (.cells #[.bool true, .int .u32 (x.a : Int), .int .i64 x.n, .int .i64 v] 33)
  have k0 : Blk (wx.alloc (.cells #[.bool true, .int .u32 (x.a : Int), .int .i64 x.n, .int .i64 v] 33)) wx.heap.size 33 #[.bool true, .int .u32 (x.a : Int), .int .i64 x.n, .int .i64 v] := Blk.new _ _ _
  have sm0 : Same J wx (wx.alloc (.cells #[.bool true, .int .u32 (x.a : Int), .int .i64 x.n, .int .i64 v] 33)) := ⟨by simp, fun k _ hl => Below.heap_alloc wx _ k hl⟩
  have H0 := Lib.hid h0
  have K0 := Lib.hid k0
  have SM0 := Lib.hid sm0
  obtain ⟨c, hc⟩ : ∃ c, c = (delP x T).1 := ⟨_, rfl⟩
  obtain ⟨T2, hT2⟩ : ∃ T2, T2 = (delP x T).2 := ⟨_, rfl⟩
  rw [← hc, ← hT2] at heq
  rw [← hT2]
  have HC := Lib.hid hc
  have HT2 := Lib.hid hT2
  have HEQ := Lib.hid heq
  clear hc hT2 heq
  clear h tr0 tab0 h0 k0 sm0
  go_enter Try.func20, Try.ntmps20
  have z0 := K0.out.cell 0
  have z1 : (wx.alloc (.cells #[.bool true, .int .u32 (x.a : Int), .int .i64 x.n, .int .i64 v] 33)).cell? ⟨wx.heap.size, 0, none⟩ = some (.bool true) := z0
  clear z0
  go_wp2_with fail
  generalize hw1 : wx.alloc (.cells #[.bool true, .int .u32 (x.a : Int), .int .i64 x.n, .int .i64 v] 33) = w1 at H0 K0 SM0 z1 ⊢
  obtain ⟨bx, hbx⟩ : ∃ bx, bx = wx.heap.size := ⟨_, rfl⟩
  rw [← hbx] at z1 ⊢
  have K1 : Blk w1 bx 33 #[.bool true, .int .u32 (x.a : Int), .int .i64 x.n, .int .i64 v] := by rw [hbx]; exact K0.out
  have H1 : HU lim W (fun k => J k ∨ k = bx) w1 tb db T T.list w1 := by rw [hbx]; exact H0.out
  clear hbx
  refine wp_region_psi (by kernel_rfl) (fun p q => q.heap[bx]? = p.heap[bx]?) (doDelΦ (HU lim W (fun k => J k ∨ k = bx) w1 tb db T2 T.list) (HU lim W (fun k => J k ∨ k = bx) w1 tb db T2 T2.list) tb db bx x.a x.n v c) 11 (fun _ _ => True) doDelDead (fun j w => if j = 3 then HU lim W (fun k => J k ∨ k = bx) w1 tb db T T.list w else True) (by kernel_rfl) (fun _ => rfl) (fun h k => k.trans h) (fun j => ?_) (oblp_of ?_) (fun o h => by cases h) ?_
  · split
    · exact H1.later ⟨rfl, rfl, rfl, Nat.le_refl _, fun _ _ => rfl⟩
    · trivial
  · refine ⟨fun _ => ?_, fun _ => ?_, fun _ => ?_, fun _ => ?_, fun _ => ?_, fun _ => ?_, fun _ => ?_, fun _ => ?_, fun _ => ?_, fun _ => ?_, fun _ => ?_, trivial⟩
    · -- 0 move
      intro val wy hg hψ hd hb hs K hK
      generalize hρ : rhoV _ _ val = ρ
      have cc : ∀ u, ρ (.const u) = u := fun u => by rw [← hρ]; rfl
      have ff : ∀ u, ρ (.func u) = .func (.func u) #[] #[] := fun u => by rw [← hρ]; rfl
      have r : ρ (.tmp 0) = .pointer (some ⟨tb, 0, none⟩) := by rw [← hρ]; rfl
      clear hρ hd hb hs
      refine ifv rfl ?_
      go_simp
      exact hK _ _ rfl rfl (fun _ _ _ _ h => h) fun _ _ _ h => h
    · -- 1 fa
      intro val wy hg hψ hd hb hs K hK
      generalize hρ : rhoV _ _ val = ρ
      have cc : ∀ u, ρ (.const u) = u := fun u => by rw [← hρ]; rfl
      have ff : ∀ u, ρ (.func u) = .func (.func u) #[] #[] := fun u => by rw [← hρ]; rfl
      have r : ρ (.tmp 5) = .pointer (some ⟨bx, 0, none⟩) := by rw [← hρ]; rfl
      clear hρ hd hb hs
      refine ifv rfl ?_
      go_simp
      exact hK _ _ rfl rfl (fun _ _ _ _ h => h) fun _ _ _ h => h
    · -- 2 ldp
      intro val wy hg hψ hd hb hs K hK
      generalize hρ : rhoV _ _ val = ρ
      have cc : ∀ u, ρ (.const u) = u := fun u => by rw [← hρ]; rfl
      have ff : ∀ u, ρ (.func u) = .func (.func u) #[] #[] := fun u => by rw [← hρ]; rfl
      have r : ρ (.tmp 10) = .pointer (some ⟨bx, 1, none⟩) := by rw [← hρ]; exact hd 1 rfl rfl
      have kb : Blk wy bx 33 #[.bool true, .int .u32 (x.a : Int), .int .i64 x.n, .int .i64 v] := hg.trans K1
      have g1 : wy.cell? ⟨bx, 1, none⟩ = some (.int .u32 (x.a : Int)) := kb.cell 1
      have g2 : wy.cell? ⟨bx, 2, none⟩ = some (.int .i64 x.n) := kb.cell 2
      clear hρ hd hb hs
      refine ifv rfl ?_
      go_simp
      exact hK _ _ rfl rfl (fun _ _ _ _ h => h) fun _ _ _ h => h
    · -- 3 callT
      intro val wy hg hψ hd hb hs K hK
      generalize hρ : rhoV _ _ val = ρ
      have cc : ∀ u, ρ (.const u) = u := fun u => by rw [← hρ]; rfl
      have ff : ∀ u, ρ (.func u) = .func (.func u) #[] #[] := fun u => by rw [← hρ]; rfl
      have r9 : ρ (.tmp 9) = .pointer (some ⟨tb, 0, none⟩) := by rw [← hρ]; exact hd 0 rfl rfl
      have r11 : ρ (.tmp 11) = pxV x.a x.n := by rw [← hρ]; exact hd 2 rfl rfl
      rw [if_pos rfl] at hψ
      clear hρ hd hb hs
      refine ifv rfl ?_
      go_simp
      refine (hu_del hψ x ha hsm).mono ?_
      rintro e w2 ⟨rfl, h2⟩
      have hG : w2.heap[bx]? = wy.heap[bx]? := (h2.same.2 bx (.inr rfl) (h2.jlt bx (.inr rfl))).trans (hψ.same.2 bx (.inr rfl) (hψ.jlt bx (.inr rfl))).symm
      rw [← HT2.out] at h2
      refine ⟨_, rfl, hK _ _ hG ⟨by rw [← HC.out]; rfl, h2⟩ (fun j hne hdj hbj hj => doDelΦ.bare (wx := wy) _ ?_ hj) fun j hne _ _ => psi_off hne⟩
      rintro (rfl | rfl)
      · exact hne rfl
      · cases hbj _ rfl
    · -- 4 num
      intro val wy hg hψ hd hb hs K hK
      generalize hρ : rhoV _ _ val = ρ
      have cc : ∀ u, ρ (.const u) = u := fun u => by rw [← hρ]; rfl
      have ff : ∀ u, ρ (.func u) = .func (.func u) #[] #[] := fun u => by rw [← hρ]; rfl
      have r : ρ (.tmp 12) = .int .i64 c := by rw [← hρ]; exact (hd 3 rfl rfl).1
      clear hρ hd hb hs
      refine ifv rfl ?_
      go_simp
      refine (num_any c wy).mono ?_
      rintro e w2 ⟨rfl, rfl⟩
      exact ⟨_, rfl, hK _ _ rfl rfl (fun _ _ _ _ h => h) fun _ _ _ h => h⟩
    · -- 5 move
      intro val wy hg hψ hd hb hs K hK
      generalize hρ : rhoV _ _ val = ρ
      have cc : ∀ u, ρ (.const u) = u := fun u => by rw [← hρ]; rfl
      have ff : ∀ u, ρ (.func u) = .func (.func u) #[] #[] := fun u => by rw [← hρ]; rfl
      have r : ρ (.tmp 1) = .pointer (some ⟨db, 0, none⟩) := by rw [← hρ]; rfl
      clear hρ hd hb hs
      refine ifv rfl ?_
      go_simp
      exact hK _ _ rfl rfl (fun _ _ _ _ h => h) fun _ _ _ h => h
    · -- 6 fa
      intro val wy hg hψ hd hb hs K hK
      generalize hρ : rhoV _ _ val = ρ
      have cc : ∀ u, ρ (.const u) = u := fun u => by rw [← hρ]; rfl
      have ff : ∀ u, ρ (.func u) = .func (.func u) #[] #[] := fun u => by rw [← hρ]; rfl
      have r : ρ (.tmp 5) = .pointer (some ⟨bx, 0, none⟩) := by rw [← hρ]; rfl
      clear hρ hd hb hs
      refine ifv rfl ?_
      go_simp
      exact hK _ _ rfl rfl (fun _ _ _ _ h => h) fun _ _ _ h => h
    · -- 7 ldp
      intro val wy hg hψ hd hb hs K hK
      generalize hρ : rhoV _ _ val = ρ
      have cc : ∀ u, ρ (.const u) = u := fun u => by rw [← hρ]; rfl
      have ff : ∀ u, ρ (.func u) = .func (.func u) #[] #[] := fun u => by rw [← hρ]; rfl
      have r : ρ (.tmp 15) = .pointer (some ⟨bx, 1, none⟩) := by rw [← hρ]; exact hd 6 rfl rfl
      have kb : Blk wy bx 33 #[.bool true, .int .u32 (x.a : Int), .int .i64 x.n, .int .i64 v] := hg.trans K1
      have g1 : wy.cell? ⟨bx, 1, none⟩ = some (.int .u32 (x.a : Int)) := kb.cell 1
      have g2 : wy.cell? ⟨bx, 2, none⟩ = some (.int .i64 x.n) := kb.cell 2
      clear hρ hd hb hs
      refine ifv rfl ?_
      go_simp
      exact hK _ _ rfl rfl (fun _ _ _ _ h => h) fun _ _ _ h => h
    · -- 8 callD
      intro val wy hg hψ hd hb hs K hK
      generalize hρ : rhoV _ _ val = ρ
      have cc : ∀ u, ρ (.const u) = u := fun u => by rw [← hρ]; rfl
      have ff : ∀ u, ρ (.func u) = .func (.func u) #[] #[] := fun u => by rw [← hρ]; rfl
      have r14 : ρ (.tmp 14) = .pointer (some ⟨db, 0, none⟩) := by rw [← hρ]; exact hd 5 rfl rfl
      have r16 : ρ (.tmp 16) = pxV x.a x.n := by rw [← hρ]; exact hd 7 rfl rfl
      have hh : HU lim W (fun k => J k ∨ k = bx) w1 tb db T2 T.list wy := (hd 3 rfl rfl).2
      clear hρ hd hb hs
      refine ifv rfl ?_
      go_simp
      refine (hu_tdel hh x ha hsm).mono ?_
      rintro e w2 ⟨rfl, h2⟩
      have hG : w2.heap[bx]? = wy.heap[bx]? := (h2.same.2 bx (.inr rfl) (h2.jlt bx (.inr rfl))).trans (hh.same.2 bx (.inr rfl) (hh.jlt bx (.inr rfl))).symm
      rw [HEQ.out] at h2
      refine ⟨_, rfl, hK _ _ hG ⟨by rw [HEQ.out]; rfl, h2⟩ (fun j hne hdj hbj hj => doDelΦ.bare (wx := wy) _ ?_ hj) fun j hne hbj hj => ?_⟩
      · rintro (rfl | rfl)
        · cases hdj
        · exact hne rfl
      · refine psi_off fun e => ?_
        subst e
        cases hbj
    · -- 9 eq
      intro val wy hg hψ hd hb hs K hK
      generalize hρ : rhoV _ _ val = ρ
      have cc : ∀ u, ρ (.const u) = u := fun u => by rw [← hρ]; rfl
      have ff : ∀ u, ρ (.func u) = .func (.func u) #[] #[] := fun u => by rw [← hρ]; rfl
      have r1 : ρ (.tmp 13) = .int .i64 c := by rw [← hρ]; exact hd 4 rfl rfl
      have r2 : ρ (.tmp 17) = .int .i64 c := by rw [← hρ]; exact (hd 8 rfl rfl).1
      clear hρ hd hb hs
      refine ifv rfl ?_
      go_simp
      exact hK _ _ rfl rfl (fun _ _ _ _ h => h) fun _ _ _ h => h
    · -- 10 asg
      intro val wy hg hψ hd hb hs K hK
      generalize hρ : rhoV _ _ val = ρ
      have cc : ∀ u, ρ (.const u) = u := fun u => by rw [← hρ]; rfl
      have ff : ∀ u, ρ (.func u) = .func (.func u) #[] #[] := fun u => by rw [← hρ]; rfl
      have r : ρ (.tmp 18) = .bool true := by rw [← hρ]; exact hd 9 rfl rfl
      clear hρ hd hb hs
      refine ifv rfl ?_
      go_simp
      exact hK _ _ rfl rfl (fun _ _ _ _ h => h) fun _ _ _ h => h
  · intro val w9 h9
    rw [if_neg (by decide)] at h9
    have hD : HU lim W (fun k => J k ∨ k = bx) w1 tb db T2 T2.list w9 := (h9.2 8 (by decide) fun i _ => by simp [doDelDead]).2
    have hv : val 10 = .bool true := h9.2 10 (by decide) fun i _ => by simp [doDelDead]
    simp only [putAll]
    rw [hv]
    clear h9 hv
    go_wp2_with fail
    go_ret
    exact ⟨by kernel_rfl, HU.without_ (K := fun k => k = bx) (w6 := w1) HH.out SM0.out hD⟩
set_option maxRecDepth 100000 in
set_option maxHeartbeats 4000000 in
theorem duIns_any {W w5 : World} {J : Nat → Prop} {lim : Int} {tb db : Nat} {T : TT} (x : Px) (v : Int) (wx : World) (h : HU lim W J w5 tb db T T.list wx) (ha : x.a < 2 ^ 32) (hsm : T.list.length ≤ 1000000) :
    Calls Try.prog 20 #[.pointer (some ⟨tb, 0, none⟩), .pointer (some ⟨db, 0, none⟩), .agg #[.bool false, .int .u32 (x.a : Int), .int .i64 x.n, .int .i64 v]] wx fun e w' => e = .returned (.bool true) ∧ HU lim W J w5 tb db (insP (max 0 lim) x v T).2 (insP (max 0 lim) x v T).2.list w' := by
  obtain ⟨M0, N0, tr0, tab0, _⟩ := h.ex
  have heq := insT_eqL (lim := lim) tr0.wf v ha tab0.sorted tab0.short
  have HH := Lib.hid h
  have h0 := h.with_ (.cells #[.bool false, .int .u32 (x.a : Int), .int .i64 x.n, .int .i64 v] 33)
  have k0 : Blk (wx.alloc (.cells #[.bool false, .int .u32 (x.a : Int), .int .i64 x.n, .int .i64 v] 33)) wx.heap.size 33 #[.bool false, .int .u32 (x.a : Int), .int .i64 x.n, .int .i64 v] := Blk.new _ _ _
  have sm0 : Same J wx (wx.alloc (.cells #[.bool false, .int .u32 (x.a : Int), .int .i64 x.n, .int .i64 v] 33)) := ⟨by simp, fun k _ hl => Below.heap_alloc wx _ k hl⟩
  have H0 := Lib.hid h0
  have K0 := Lib.hid k0
  have SM0 := Lib.hid sm0
  obtain ⟨c, hc⟩ : ∃ c, c = (insP (max 0 lim) x v T).1 := ⟨_, rfl⟩
  obtain ⟨T2, hT2⟩ : ∃ T2, T2 = (insP (max 0 lim) x v T).2 := ⟨_, rfl⟩
  rw [← hc, ← hT2] at heq
  rw [← hT2]
  have HC := Lib.hid hc
  have HT2 := Lib.hid hT2
  have HEQ := Lib.hid heq
  clear hc hT2 heq
  clear h tr0 tab0 h0 k0 sm0
  go_enter Try.func20, Try.ntmps20
  have z0 := K0.out.cell 0
  have z1 : (wx.alloc (.cells #[.bool false, .int .u32 (x.a : Int), .int .i64 x.n, .int .i64 v] 33)).cell? ⟨wx.heap.size, 0, none⟩ = some (.bool false) := z0
  clear z0
  go_wp2_with fail
  generalize hw1 : wx.alloc (.cells #[.bool false, .int .u32 (x.a : Int), .int .i64 x.n, .int .i64 v] 33) = w1 at H0 K0 SM0 z1 ⊢
  obtain ⟨bx, hbx⟩ : ∃ bx, bx = wx.heap.size := ⟨_, rfl⟩
  rw [← hbx] at z1 ⊢
  have K1 : Blk w1 bx 33 #[.bool false, .int .u32 (x.a : Int), .int .i64 x.n, .int .i64 v] := by rw [hbx]; exact K0.out
  have H1 : HU lim W (fun k => J k ∨ k = bx) w1 tb db T T.list w1 := by rw [hbx]; exact H0.out
  clear hbx
  refine wp_region_psi (by kernel_rfl) (fun p q => q.heap[bx]? = p.heap[bx]?) (doInsΦ (HU lim W (fun k => J k ∨ k = bx) w1 tb db T2 T.list) (HU lim W (fun k => J k ∨ k = bx) w1 tb db T2 T2.list) tb db bx x.a x.n v c) 15 (fun _ _ => True) doInsDead (fun j w => if j = 5 then HU lim W (fun k => J k ∨ k = bx) w1 tb db T T.list w else True) (by kernel_rfl) (fun _ => rfl) (fun h k => k.trans h) (fun j => ?_) (oblp_of ?_) (fun o h => by cases h) ?_
  · split
    · exact H1.later ⟨rfl, rfl, rfl, Nat.le_refl _, fun _ _ => rfl⟩
    · trivial
  · refine ⟨fun _ => ?_, fun _ => ?_, fun _ => ?_, fun _ => ?_, fun _ => ?_, fun _ => ?_, fun _ => ?_, fun _ => ?_, fun _ => ?_, fun _ => ?_, fun _ => ?_, fun _ => ?_, fun _ => ?_, fun _ => ?_, fun _ => ?_, trivial⟩
    · -- 0 move
      intro val wy hg hψ hd hb hs K hK
      generalize hρ : rhoV _ _ val = ρ
      have cc : ∀ u, ρ (.const u) = u := fun u => by rw [← hρ]; rfl
      have ff : ∀ u, ρ (.func u) = .func (.func u) #[] #[] := fun u => by rw [← hρ]; rfl
      have r : ρ (.tmp 0) = .pointer (some ⟨tb, 0, none⟩) := by rw [← hρ]; rfl
      clear hρ hd hb hs
      refine ifv rfl ?_
      go_simp
      exact hK _ _ rfl rfl (fun _ _ _ _ h => h) fun _ _ _ h => h
    · -- 1 fa
      intro val wy hg hψ hd hb hs K hK
      generalize hρ : rhoV _ _ val = ρ
      have cc : ∀ u, ρ (.const u) = u := fun u => by rw [← hρ]; rfl
      have ff : ∀ u, ρ (.func u) = .func (.func u) #[] #[] := fun u => by rw [← hρ]; rfl
      have r : ρ (.tmp 5) = .pointer (some ⟨bx, 0, none⟩) := by rw [← hρ]; rfl
      clear hρ hd hb hs
      refine ifv rfl ?_
      go_simp
      exact hK _ _ rfl rfl (fun _ _ _ _ h => h) fun _ _ _ h => h
    · -- 2 ldp
      intro val wy hg hψ hd hb hs K hK
      generalize hρ : rhoV _ _ val = ρ
      have cc : ∀ u, ρ (.const u) = u := fun u => by rw [← hρ]; rfl
      have ff : ∀ u, ρ (.func u) = .func (.func u) #[] #[] := fun u => by rw [← hρ]; rfl
      have r : ρ (.tmp 20) = .pointer (some ⟨bx, 1, none⟩) := by rw [← hρ]; exact hd 1 rfl rfl
      have kb : Blk wy bx 33 #[.bool false, .int .u32 (x.a : Int), .int .i64 x.n, .int .i64 v] := hg.trans K1
      have g1 : wy.cell? ⟨bx, 1, none⟩ = some (.int .u32 (x.a : Int)) := kb.cell 1
      have g2 : wy.cell? ⟨bx, 2, none⟩ = some (.int .i64 x.n) := kb.cell 2
      clear hρ hd hb hs
      refine ifv rfl ?_
      go_simp
      exact hK _ _ rfl rfl (fun _ _ _ _ h => h) fun _ _ _ h => h
    · -- 3 fa
      intro val wy hg hψ hd hb hs K hK
      generalize hρ : rhoV _ _ val = ρ
      have cc : ∀ u, ρ (.const u) = u := fun u => by rw [← hρ]; rfl
      have ff : ∀ u, ρ (.func u) = .func (.func u) #[] #[] := fun u => by rw [← hρ]; rfl
      have r : ρ (.tmp 5) = .pointer (some ⟨bx, 0, none⟩) := by rw [← hρ]; rfl
      clear hρ hd hb hs
      refine ifv rfl ?_
      go_simp
      exact hK _ _ rfl rfl (fun _ _ _ _ h => h) fun _ _ _ h => h
    · -- 4 ldv
      intro val wy hg hψ hd hb hs K hK
      generalize hρ : rhoV _ _ val = ρ
      have cc : ∀ u, ρ (.const u) = u := fun u => by rw [← hρ]; rfl
      have ff : ∀ u, ρ (.func u) = .func (.func u) #[] #[] := fun u => by rw [← hρ]; rfl
      have r : ρ (.tmp 22) = .pointer (some ⟨bx, 3, none⟩) := by rw [← hρ]; exact hd 3 rfl rfl
      have kb : Blk wy bx 33 #[.bool false, .int .u32 (x.a : Int), .int .i64 x.n, .int .i64 v] := hg.trans K1
      have g3 : wy.cell? ⟨bx, 3, none⟩ = some (.int .i64 v) := kb.cell 3
      clear hρ hd hb hs
      refine ifv rfl ?_
      go_simp
      exact hK _ _ rfl rfl (fun _ _ _ _ h => h) fun _ _ _ h => h
    · -- 5 callT
      intro val wy hg hψ hd hb hs K hK
      generalize hρ : rhoV _ _ val = ρ
      have cc : ∀ u, ρ (.const u) = u := fun u => by rw [← hρ]; rfl
      have ff : ∀ u, ρ (.func u) = .func (.func u) #[] #[] := fun u => by rw [← hρ]; rfl
      have r19 : ρ (.tmp 19) = .pointer (some ⟨tb, 0, none⟩) := by rw [← hρ]; exact hd 0 rfl rfl
      have r21 : ρ (.tmp 21) = pxV x.a x.n := by rw [← hρ]; exact hd 2 rfl rfl
      have r23 : ρ (.tmp 23) = .int .i64 v := by rw [← hρ]; exact hd 4 rfl rfl
      rw [if_pos rfl] at hψ
      clear hρ hd hb hs
      refine ifv rfl ?_
      go_simp
      refine (hu_ins hψ x v ha hsm).mono ?_
      rintro e w2 ⟨rfl, h2⟩
      have hG : w2.heap[bx]? = wy.heap[bx]? := (h2.same.2 bx (.inr rfl) (h2.jlt bx (.inr rfl))).trans (hψ.same.2 bx (.inr rfl) (hψ.jlt bx (.inr rfl))).symm
      rw [← HT2.out] at h2
      refine ⟨_, rfl, hK _ _ hG ⟨by rw [← HC.out]; rfl, h2⟩ (fun j hne hdj hbj hj => doInsΦ.bare (wx := wy) _ ?_ hj) fun j hne _ _ => psi_off hne⟩
      rintro (rfl | rfl)
      · exact hne rfl
      · cases hbj _ rfl
    · -- 6 num
      intro val wy hg hψ hd hb hs K hK
      generalize hρ : rhoV _ _ val = ρ
      have cc : ∀ u, ρ (.const u) = u := fun u => by rw [← hρ]; rfl
      have ff : ∀ u, ρ (.func u) = .func (.func u) #[] #[] := fun u => by rw [← hρ]; rfl
      have r : ρ (.tmp 24) = .int .i64 c := by rw [← hρ]; exact (hd 5 rfl rfl).1
      clear hρ hd hb hs
      refine ifv rfl ?_
      go_simp
      refine (num_any c wy).mono ?_
      rintro e w2 ⟨rfl, rfl⟩
      exact ⟨_, rfl, hK _ _ rfl rfl (fun _ _ _ _ h => h) fun _ _ _ h => h⟩
    · -- 7 move
      intro val wy hg hψ hd hb hs K hK
      generalize hρ : rhoV _ _ val = ρ
      have cc : ∀ u, ρ (.const u) = u := fun u => by rw [← hρ]; rfl
      have ff : ∀ u, ρ (.func u) = .func (.func u) #[] #[] := fun u => by rw [← hρ]; rfl
      have r : ρ (.tmp 1) = .pointer (some ⟨db, 0, none⟩) := by rw [← hρ]; rfl
      clear hρ hd hb hs
      refine ifv rfl ?_
      go_simp
      exact hK _ _ rfl rfl (fun _ _ _ _ h => h) fun _ _ _ h => h
    · -- 8 fa
      intro val wy hg hψ hd hb hs K hK
      generalize hρ : rhoV _ _ val = ρ
      have cc : ∀ u, ρ (.const u) = u := fun u => by rw [← hρ]; rfl
      have ff : ∀ u, ρ (.func u) = .func (.func u) #[] #[] := fun u => by rw [← hρ]; rfl
      have r : ρ (.tmp 5) = .pointer (some ⟨bx, 0, none⟩) := by rw [← hρ]; rfl
      clear hρ hd hb hs
      refine ifv rfl ?_
      go_simp
      exact hK _ _ rfl rfl (fun _ _ _ _ h => h) fun _ _ _ h => h
    · -- 9 ldp
      intro val wy hg hψ hd hb hs K hK
      generalize hρ : rhoV _ _ val = ρ
      have cc : ∀ u, ρ (.const u) = u := fun u => by rw [← hρ]; rfl
      have ff : ∀ u, ρ (.func u) = .func (.func u) #[] #[] := fun u => by rw [← hρ]; rfl
      have r : ρ (.tmp 27) = .pointer (some ⟨bx, 1, none⟩) := by rw [← hρ]; exact hd 8 rfl rfl
      have kb : Blk wy bx 33 #[.bool false, .int .u32 (x.a : Int), .int .i64 x.n, .int .i64 v] := hg.trans K1
      have g1 : wy.cell? ⟨bx, 1, none⟩ = some (.int .u32 (x.a : Int)) := kb.cell 1
      have g2 : wy.cell? ⟨bx, 2, none⟩ = some (.int .i64 x.n) := kb.cell 2
      clear hρ hd hb hs
      refine ifv rfl ?_
      go_simp
      exact hK _ _ rfl rfl (fun _ _ _ _ h => h) fun _ _ _ h => h
    · -- 10 fa
      intro val wy hg hψ hd hb hs K hK
      generalize hρ : rhoV _ _ val = ρ
      have cc : ∀ u, ρ (.const u) = u := fun u => by rw [← hρ]; rfl
      have ff : ∀ u, ρ (.func u) = .func (.func u) #[] #[] := fun u => by rw [← hρ]; rfl
      have r : ρ (.tmp 5) = .pointer (some ⟨bx, 0, none⟩) := by rw [← hρ]; rfl
      clear hρ hd hb hs
      refine ifv rfl ?_
      go_simp
      exact hK _ _ rfl rfl (fun _ _ _ _ h => h) fun _ _ _ h => h
    · -- 11 ldv
      intro val wy hg hψ hd hb hs K hK
      generalize hρ : rhoV _ _ val = ρ
      have cc : ∀ u, ρ (.const u) = u := fun u => by rw [← hρ]; rfl
      have ff : ∀ u, ρ (.func u) = .func (.func u) #[] #[] := fun u => by rw [← hρ]; rfl
      have r : ρ (.tmp 29) = .pointer (some ⟨bx, 3, none⟩) := by rw [← hρ]; exact hd 10 rfl rfl
      have kb : Blk wy bx 33 #[.bool false, .int .u32 (x.a : Int), .int .i64 x.n, .int .i64 v] := hg.trans K1
      have g3 : wy.cell? ⟨bx, 3, none⟩ = some (.int .i64 v) := kb.cell 3
      clear hρ hd hb hs
      refine ifv rfl ?_
      go_simp
      exact hK _ _ rfl rfl (fun _ _ _ _ h => h) fun _ _ _ h => h
    · -- 12 callD
      intro val wy hg hψ hd hb hs K hK
      generalize hρ : rhoV _ _ val = ρ
      have cc : ∀ u, ρ (.const u) = u := fun u => by rw [← hρ]; rfl
      have ff : ∀ u, ρ (.func u) = .func (.func u) #[] #[] := fun u => by rw [← hρ]; rfl
      have r26 : ρ (.tmp 26) = .pointer (some ⟨db, 0, none⟩) := by rw [← hρ]; exact hd 7 rfl rfl
      have r28 : ρ (.tmp 28) = pxV x.a x.n := by rw [← hρ]; exact hd 9 rfl rfl
      have r30 : ρ (.tmp 30) = .int .i64 v := by rw [← hρ]; exact hd 11 rfl rfl
      have hh : HU lim W (fun k => J k ∨ k = bx) w1 tb db T2 T.list wy := (hd 5 rfl rfl).2
      clear hρ hd hb hs
      refine ifv rfl ?_
      go_simp
      refine (hu_tins hh x v ha hsm).mono ?_
      rintro e w2 ⟨rfl, h2⟩
      have hG : w2.heap[bx]? = wy.heap[bx]? := (h2.same.2 bx (.inr rfl) (h2.jlt bx (.inr rfl))).trans (hh.same.2 bx (.inr rfl) (hh.jlt bx (.inr rfl))).symm
      rw [HEQ.out] at h2
      refine ⟨_, rfl, hK _ _ hG ⟨by rw [HEQ.out]; rfl, h2⟩ (fun j hne hdj hbj hj => doInsΦ.bare (wx := wy) _ ?_ hj) fun j hne hbj hj => ?_⟩
      · rintro (rfl | rfl)
        · cases hdj
        · exact hne rfl
      · refine psi_off fun e => ?_
        subst e
        cases hbj
    · -- 13 eq
      intro val wy hg hψ hd hb hs K hK
      generalize hρ : rhoV _ _ val = ρ
      have cc : ∀ u, ρ (.const u) = u := fun u => by rw [← hρ]; rfl
      have ff : ∀ u, ρ (.func u) = .func (.func u) #[] #[] := fun u => by rw [← hρ]; rfl
      have r1 : ρ (.tmp 25) = .int .i64 c := by rw [← hρ]; exact hd 6 rfl rfl
      have r2 : ρ (.tmp 31) = .int .i64 c := by rw [← hρ]; exact (hd 12 rfl rfl).1
      clear hρ hd hb hs
      refine ifv rfl ?_
      go_simp
      exact hK _ _ rfl rfl (fun _ _ _ _ h => h) fun _ _ _ h => h
    · -- 14 asg
      intro val wy hg hψ hd hb hs K hK
      generalize hρ : rhoV _ _ val = ρ
      have cc : ∀ u, ρ (.const u) = u := fun u => by rw [← hρ]; rfl
      have ff : ∀ u, ρ (.func u) = .func (.func u) #[] #[] := fun u => by rw [← hρ]; rfl
      have r : ρ (.tmp 32) = .bool true := by rw [← hρ]; exact hd 13 rfl rfl
      clear hρ hd hb hs
      refine ifv rfl ?_
      go_simp
      exact hK _ _ rfl rfl (fun _ _ _ _ h => h) fun _ _ _ h => h
  · intro val w9 h9
    rw [if_neg (by decide)] at h9
    have hD : HU lim W (fun k => J k ∨ k = bx) w1 tb db T2 T2.list w9 := (h9.2 12 (by decide) fun i _ => by simp [doInsDead]).2
    have hv : val 14 = .bool true := h9.2 14 (by decide) fun i _ => by simp [doInsDead]
    simp only [putAll]
    rw [hv]
    clear h9 hv
    go_wp2_with fail
    go_ret
    exact ⟨by kernel_rfl, HU.without_ (K := fun k => k = bx) (w6 := w1) HH.out SM0.out hD⟩
end Go.Proofs.Ytejiecebckjflaa
