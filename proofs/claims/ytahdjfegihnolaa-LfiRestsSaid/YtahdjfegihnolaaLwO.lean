/- Layer 12: the closure of LfiRests (printed by gen_lwo.py). -/
import Derived.Test.YtahdjfegihnolaaLwN
import Derived.Test.YtahdjfegihnolaaLwM
namespace Go.Proofs.Ytahdjfegihnolaa
open Go.RowKit Go.Sort
theorem tlelem : (Try.prog).underlying 29 = some (.slice ((Try.prog).elem 29)) := by simp [Program.elem, Try.underlying29]
theorem tlelem2 : (Try.prog).elem 29 = 56 := by simp [Program.elem, Try.underlying29]
theorem tlsize (w : World) : (Go.sizeOf 56).run Try.prog w = .ok 4 w := by
  have := info_tl
  cases h : Try.prog.info? 56 with
  | none => rw [h] at this; cases this
  | some i =>
    rw [h] at this
    simp at this
    simp [Go.sizeOf, typeInfo, h, this.2.1]
theorem stl_hi (A : Option Addr) (n cap : Nat) (w : World) (k : Nat) (hk : k ≤ cap) : (Instr.slice 29 (.slice A n cap) none (some (.int .i64 (k : Int))) none).run Try.prog w = .ok (.slice A k cap) w := by
  rw [run_slice_h w _ _ _ _ tlelem .i64 _ (by omega) (by omega), tlelem2, tlsize]
  cases A <;> simp [Result.andThen, sliced, Addr.add]
theorem stl_lo (A : Option Addr) (n cap : Nat) (w : World) (k : Nat) (hk : k ≤ n) : (Instr.slice 29 (.slice A n cap) (some (.int .i64 (k : Int))) none none).run Try.prog w = .ok (.slice (if cap = k then A else A.map (·.add (k * 4))) (n - k) (cap - k)) w := by
  rw [run_slice_l w _ _ _ _ tlelem .i64 _ (by omega) (by omega), tlelem2, tlsize]
  by_cases h0 : cap = k
  · simp [Result.andThen, sliced, h0]
  · simp [Result.andThen, sliced, h0]
theorem Reads.takeT {w : World} {I : Nat → Prop} {size n k : Nat} {A : Option Addr} {xs : List Value} (h : Reads w I size A n xs) (hk : k ≤ n) : Reads w I size A k (xs.take (k * size)) := by
  refine ⟨by rw [List.length_take, h.1]; exact Nat.min_eq_left (Nat.mul_le_mul_right _ hk), fun hn => ?_⟩
  obtain ⟨ad, rfl, hi, hb, hc⟩ := h.2 (by omega)
  exact ⟨ad, rfl, hi, hb, fun j u hu => hc j u (by
    rw [List.getElem?_take] at hu
    split at hu
    · exact hu
    · cases hu)⟩
theorem flatT_take (o : List Tl) (k : Nat) (hk : k ≤ o.length) : (flatT o).take (k * 4) = flatT (o.take k) := by
  have : flatT o = flatT (o.take k) ++ flatT (o.drop k) := by rw [← flatT_app, List.take_append_drop]
  rw [this, List.take_append_of_le_length (by rw [flatT_len, List.length_take]; omega), List.take_of_length_le (by rw [flatT_len, List.length_take]; omega)]
theorem flatT_drop (o : List Tl) (k : Nat) (hk : k ≤ o.length) : (flatT o).drop (k * 4) = flatT (o.drop k) := by
  have : flatT o = flatT (o.take k) ++ flatT (o.drop k) := by rw [← flatT_app, List.take_append_drop]
  rw [this, List.drop_append_of_le_length (by rw [flatT_len, List.length_take]; omega), List.drop_of_length_le (by rw [flatT_len, List.length_take]; omega)]
  rfl
/-- What LfiRests keeps. -/
structure RsS (w wx : World) (kc ko cb : Nat) (S : Lc) (W : List Tl) : Prop where
  core : ∃ M mb, Core w wx M cb mb S
  bc : Blk wx kc 25 #[.pointer (some ⟨cb, 0, none⟩)]
  bo : ∃ v, Blk wx ko 29 #[v] ∧ OutM wx w.heap.size v W
  hk : w.heap.size ≤ kc ∧ w.heap.size ≤ ko
theorem RsS.later {w wx wy : World} {kc ko cb : Nat} {S : Lc} {W : List Tl} (h : RsS w wx kc ko cb S W) (hb : Below wx.heap.size wx wy) : RsS w wy kc ko cb S W := by
  obtain ⟨⟨M, mb, hc⟩, h2, ⟨v, h3, h4⟩, h5⟩ := h
  exact ⟨⟨M, mb, hc.later hb⟩, h2.below hb h2.lt, ⟨v, h3.below hb h3.lt, own_below h4 hb⟩, h5⟩
theorem RsS.bel {w wx : World} {kc ko cb : Nat} {S : Lc} {W : List Tl} (h : RsS w wx kc ko cb S W) : Below w.heap.size w wx := by
  obtain ⟨M, mb, hc⟩ := h.core
  exact hc.bel
/-- With the row that the event has told, and its variable. -/
structure RsK (w wx : World) (kc ko kb cb : Nat) (S : Lc) (W : List Tl) (A : Option Addr) (n c : Nat) (Av : Option Addr) (nv cv : Nat) (o : List Tl) (e : Ev) : Prop where
  core : ∃ M mb, Core w wx M cb mb S
  bc : Blk wx kc 25 #[.pointer (some ⟨cb, 0, none⟩)]
  bo : Blk wx ko 29 #[.slice A n c]
  row : OutM wx w.heap.size (.slice A n c) W
  out : OutM wx w.heap.size (.slice Av nv cv) o
  ev : Blk wx kb 38 (evI e.kind e.port e.cost e.p.1 e.p.2 e.dist)
  hk : w.heap.size ≤ kc ∧ w.heap.size ≤ ko
  hn : n = W.length ∧ nv = o.length ∧ n ≤ c
theorem RsK.later {w wx wy : World} {kc ko kb cb : Nat} {S : Lc} {W : List Tl} {A : Option Addr} {n c : Nat} {Av : Option Addr} {nv cv : Nat} {o : List Tl} {e : Ev} (h : RsK w wx kc ko kb cb S W A n c Av nv cv o e) (hb : Below wx.heap.size wx wy) : RsK w wy kc ko kb cb S W A n c Av nv cv o e := by
  obtain ⟨⟨M, mb, hc⟩, h2, h3, h4, h5, h6, h7, h8⟩ := h
  exact ⟨⟨M, mb, hc.later hb⟩, h2.below hb h2.lt, h3.below hb h3.lt, own_below h4 hb, own_below h5 hb, h6.below hb h6.lt, h7, h8⟩
/-- The owed row is another one. -/
theorem RsK.turn {w wx w' : World} {kc ko kb cb : Nat} {S : Lc} {W W' : List Tl} {A : Option Addr} {n c : Nat} {Av : Option Addr} {nv cv : Nat} {o : List Tl} {e : Ev} (h : RsK w wx kc ko kb cb S W A n c Av nv cv o e) {A' : Option Addr} {c' : Nat} (hr : OutM wx w.heap.size (.slice A' W'.length c') W') (hw : w' = wx.setCell ⟨ko, 0, none⟩ (.slice A' W'.length c')) (hc' : W'.length ≤ c') : RsK w w' kc ko kb cb S W' A' W'.length c' Av nv cv o e := by
  obtain ⟨⟨M, mb, hc⟩, h2, h3, h4, h5, h6, h7, h8⟩ := h
  have hu : Upd (only ko) wx w' := by rw [hw]; exact upd_set _ _ _ _
  have hk : ¬ M ko := hc.apart h3 (by decide) (by decide)
  refine ⟨⟨M, mb, hc.keep hu (fun b (e : b = ko) => e ▸ hk) fun b (e : b = ko) => e ▸ h7.2⟩, ?_, ?_, ?_, ?_, ?_, h7, rfl, h8.2.1, hc'⟩
  · exact (hu.block kc h2.lt fun (e : kc = ko) => (h2.ne_ h3 (by decide)) e).trans h2
  · rw [hw]; exact h3.set_ 0 _
  · rw [hw]; exact ownsRow_setCell_other (a := ⟨ko, 0, none⟩) hr (own_blk_ne hr h3 (by decide)) _
  · rw [hw]; exact ownsRow_setCell_other (a := ⟨ko, 0, none⟩) h5 (own_blk_ne h5 h3 (by decide)) _
  · exact (hu.block kb h6.lt fun (e : kb = ko) => (h6.ne_ h3 (by decide)) e).trans h6
theorem RsK.shut {w wx : World} {kc ko kb cb : Nat} {S : Lc} {W : List Tl} {A : Option Addr} {n c : Nat} {Av : Option Addr} {nv cv : Nat} {o : List Tl} {e : Ev} (h : RsK w wx kc ko kb cb S W A n c Av nv cv o e) : RsS w wx kc ko cb S W := ⟨h.core, h.bc, ⟨_, h.bo, h.row⟩, h.hk⟩
theorem RsK.grown {w wx w' : World} {kc ko kb cb : Nat} {S : Lc} {W : List Tl} {A : Option Addr} {n c : Nat} {Av : Option Addr} {nv cv : Nat} {o : List Tl} {e : Ev} (h : RsK w wx kc ko kb cb S W A n c Av nv cv o e) (hg : wx.grownBy w' (Value.slice A n c).ownBlock) : (∃ M mb, Core w w' M cb mb S) ∧ Blk w' kc 25 #[.pointer (some ⟨cb, 0, none⟩)] ∧ Blk w' ko 29 #[.slice A n c] := by
  obtain ⟨⟨M, mb, hc⟩, h2, h3, h4, h5, h6, h7, h8⟩ := h
  have hu : Upd (fun k => (Value.slice A n c).ownBlock = some k) wx w' := ⟨hg.os, hg.tape, hg.output, hg.size, fun k hk hn => hg.block k hk fun e => hn e.symm⟩
  refine ⟨⟨M, mb, hc.keep hu (fun b hb => ?_) fun b hb => (own_lt h4 hb).1⟩, ?_, ?_⟩
  · obtain ⟨cs, hk⟩ := own_blkT h4 hb
    exact hc.apart hk (by decide) (by decide)
  · exact (hu.block kc h2.lt fun e => own_blk_ne h4 h2 (by decide) e).trans h2
  · exact (hu.block ko h3.lt fun e => own_blk_ne h4 h3 (by decide) e).trans h3
theorem filter_take_succ {g : Tl → Bool} {W : List Tl} {k : Nat} {t : Tl} (h : W[k]? = some t) : (W.take (k + 1)).filter g = (W.take k).filter g ++ (if g t = true then [t] else []) := by
  rw [List.take_add_one, h, List.filter_append]
  congr 1
  by_cases hg : g t = true
  · simp [hg]
  · simp [hg]
theorem erase_at {g : Tl → Bool} {W : List Tl} {k : Nat} {t : Tl} (h : W[k]? = some t) (hg : g t = true) (hn : ∀ x ∈ W.take k, g x = false) : W.eraseP g = W.take k ++ W.drop (k + 1) := by
  obtain ⟨hk, he⟩ := List.getElem?_eq_some_iff.1 h
  have e : W = W.take k ++ t :: W.drop (k + 1) := by
    conv => lhs; rw [← List.take_append_drop k W, List.drop_eq_getElem_cons hk, he]
  conv => lhs; rw [e]
  rw [List.eraseP_append_right _ (fun b hb => by rw [hn b hb]; simp), List.eraseP_cons_of_pos hg]
theorem erase_no {g : Tl → Bool} {W : List Tl} (hn : ∀ x ∈ W, g x = false) : W.eraseP g = W := List.eraseP_of_forall_not fun a ha => by rw [hn a ha]; simp
/-- What is owed behind an event. -/
def owedNx (W : List Tl) (S : Lc) (e : Ev) : List Tl := if (doF S e).2.2 = 0 then owedDo W e (doF S e).2.1 else W
theorem ld_evP {w : World} {b : Nat} {k po v : Int} {a : Nat} {n d : Int} (h : Blk w b 38 (evI k po v a n d)) : (Instr.loadAt 3 (.pointer (some ⟨b, 1, none⟩))).run Try.prog w = .ok (.int .i64 po) w := ld_iC (h.cell 1)
set_option maxRecDepth 100000 in
set_option maxHeartbeats 8000000 in
attribute [-go_sem] Instr.storeAt Instr.loadAt in
theorem clos_any {w wx : World} {kc ko cb : Nat} {S : Lc} {W : List Tl} (h : RsS w wx kc ko cb S W) (hW : W.length ≤ 100000) (e : Ev) (hp : e.p.1 < 2 ^ 32) (ho9 : (doF S e).2.1.length ≤ 100000) :
    Calls Try.prog 16 #[.agg #[.int .i64 e.kind, .int .i64 e.port, .int .i64 e.cost, .int .u32 (e.p.1 : Int), .int .i64 e.p.2, .int .i64 e.dist], .pointer (some ⟨kc, 0, none⟩), .pointer (some ⟨ko, 0, none⟩)] wx
      fun en w' => en = .returned (.tuple #[]) ∧ RsS w w' kc ko cb (doF S e).1 (owedNx W S e) := by
  obtain ⟨W1, hW1⟩ : ∃ Z, Z = wx.alloc (.cells #[.int .i64 e.kind, .int .i64 e.port, .int .i64 e.cost, .int .u32 (e.p.1 : Int), .int .i64 e.p.2, .int .i64 e.dist] 38) := ⟨_, rfl⟩
  have hb1 : Below wx.heap.size wx W1 := by rw [hW1]; exact (Below.refl _ _).alloc (Nat.le_refl _) _
  have hke : Blk W1 wx.heap.size 38 (evI e.kind e.port e.cost e.p.1 e.p.2 e.dist) := by rw [hW1]; exact Blk.new _ _ _
  obtain ⟨⟨M, mb, hc⟩, hkc, ⟨v0, hko, hr0⟩, hk⟩ := h.later hb1
  obtain ⟨A, c, rfl, hnc⟩ := own_form hr0
  have HDO := Lib.hid (core_do hc e hp)
  have lc := ld_cpC (hkc.cell 0)
  have lv := ev_all hke
  have HC := Lib.hid hc
  have HKC := Lib.hid hkc
  have HKO := Lib.hid hko
  have HR0 := Lib.hid hr0
  have HK := Lib.hid hk
  have HW1 := Lib.hid hW1
  have HKE := Lib.hid hke
  have HNC := Lib.hid hnc
  have HB0 := Lib.hid (show w.heap.size ≤ wx.heap.size from h.bel.size)
  unfold owedNx
  obtain ⟨⟨T, o, n⟩, hd⟩ : ∃ z, z = doF S e := ⟨_, rfl⟩
  have HD := Lib.hid hd
  have HO9 := Lib.hid (show o.length ≤ 100000 by rw [← hd] at ho9; exact ho9)
  rw [← hd]
  dsimp only
  obtain ⟨WN, hWN⟩ : ∃ z, z = (if n = 0 then owedDo W e o else W) := ⟨_, rfl⟩
  rw [← hWN]
  have HWN := Lib.hid hWN
  clear hWN
  clear h hW1 hb1 hke hc hkc hko hr0 hk hnc hd ho9
  go_enter Try.func16, Try.ntmps16
  go_upto_region 1 with (fail)
  rw [← HW1.out]
  go_upto_region 2 with (go_at_call 12; refine HDO.out.mono ?_; rintro en w2 ⟨v, rfl, hdc⟩; unfold DoneC at hdc; rw [← HD.out] at hdc ⊢; obtain ⟨M2, ho2, hc2, _, hu2⟩ := hdc; dsimp only at ho2 hc2 ⊢; obtain ⟨Av, cv, rfl, _⟩ := own_form ho2)
  clear lc lv
  have hkd : RsK w w2 kc ko wx.heap.size cb T W A W.length c Av o.length cv o e := ⟨⟨M2, mb, hc2⟩, (hu2.block kc HKC.out.lt fun hm => HC.out.apart HKC.out (by decide) (by decide) hm).trans HKC.out, (hu2.block ko HKO.out.lt fun hm => HC.out.apart HKO.out (by decide) (by decide) hm).trans HKO.out, out_keep HR0.out HC.out hu2, own_base ho2 (Nat.le_trans HB0.out (by rw [HW1.out]; simp)), (hu2.block _ HKE.out.lt fun hm => HC.out.apart HKE.out (by decide) (by decide) hm).trans HKE.out, HK.out, rfl, rfl, HNC.out⟩
  have HKD := Lib.hid hkd
  obtain ⟨kb, hkb⟩ : ∃ b, b = wx.heap.size := ⟨_, rfl⟩
  rw [← hkb] at HKD ⊢
  obtain ⟨nW, hnW⟩ : ∃ z, z = W.length := ⟨_, rfl⟩
  rw [← hnW] at HKD hW
  obtain ⟨no, hno⟩ : ∃ z, z = o.length := ⟨_, rfl⟩
  rw [← hno] at HKD HO9 ⊢
  have HNW := Lib.hid hnW
  have HNO := Lib.hid hno
  clear HDO HC HKC HKO HR0 HK HW1 HKE HNC HB0 ho2 hc2 hu2 hkd hkb hnW hno
  by_cases hn0 : n = 0
  case neg =>
    have hne : (((n : Nat) : Int) != 0) = true := by rw [bne_iff_ne]; omega
    have HN0 := Lib.hid hn0
    clear hn0
    go_wp2_with fail
    refine bodyPost_ret (results_none rfl _ _ _) rfl ?_
    have hno := do_no (c := S) (e := e) (by rw [← HD.out]; exact HN0.out)
    rw [← HD.out] at hno
    injection hno with h1 h2
    subst h1
    have hw := HWN.out
    rw [if_neg HN0.out] at hw
    rw [hw]
    exact ⟨rfl, HKD.out.shut⟩
  subst hn0
  obtain ⟨i0, hi, hz0, hz1, hz2⟩ := info_parts info_tl
  have HI := Lib.hid (And.intro hi (And.intro hz0 (And.intro hz1 hz2)))
  clear hi hz0 hz1 hz2
  have hport : 0 ≤ e.port ∧ e.port < 8 := by
    have h1 := HD.out
    unfold doF at h1
    by_cases hw : wrongF S.pc e = 0
    · unfold wrongF at hw
      cases hk : okE e with
      | false => rw [hk, if_pos rfl] at hw; cases hw
      | true =>
        unfold okE at hk
        simp only [Bool.and_eq_true, decide_eq_true_eq] at hk
        exact ⟨hk.1.1, hk.1.2⟩
    · rw [if_pos hw] at h1
      injection h1 with _ h1
      injection h1 with _ h1
      exact absurd h1.symm hw
  have HPO := Lib.hid hport
  obtain ⟨po, hpo⟩ : ∃ q : Nat, e.port = (q : Int) := ⟨e.port.toNat, by have := hport.1; omega⟩
  have HPQ := Lib.hid hpo
  have lk := ev_k HKD.out.ev
  clear hport hpo
  by_cases hk12 : e.kind = 1 ∨ e.kind = 2
  · skip
    have HOW := Lib.hid (show owedDo W e o = (W.filter fun t => t.1 != po) ++ o by
      unfold owedDo
      dsimp only
      rw [if_pos hk12, if_neg (by omega), HPQ.out]
      rfl)
    have d5 : (e.kind == 5) = false := by rw [beq_eq_false_iff_ne]; omega
    have dkk : (e.kind = 1 ∧ (e.kind == 1) = true) ∨ ((e.kind == 1) = false ∧ (e.kind == 2) = true) := by
      rcases hk12 with h | h
      · exact .inl ⟨h, by rw [h]; decide⟩
      · exact .inr ⟨by rw [h]; decide, by rw [h]; decide⟩
    clear hk12
    have hcut : ∀ P : Prop, ((e.kind == 1) = true → P) → ((e.kind == 1) = false → (e.kind == 2) = true → P) → P := fun P h1 h2 => by
      rcases dkk with ⟨_, h⟩ | ⟨h, h'⟩
      · exact h1 h
      · exact h2 h h'
    clear dkk
    refine hcut _ (fun d1 => ?_) (fun d1 d2 => ?_)
    all_goals
      clear hcut
      go_upto_region 5 with (fail)
      clear lk
      go_wp2_with fail
      go_loopw [6, 7] (fun s6 s7 wr => ∃ k : Nat, k ≤ nW ∧ s7 = .int .i64 (k : Int) ∧ wr.ownsRow w2.heap.size 56 4 s6 ((W.take k).filter fun t => t.1 != po).length (flatT ((W.take k).filter fun t => t.1 != po)) ∧ Below w2.heap.size w2 wr) (fun _ s7 _ => nW - (intOf s7).toNat)
      case atStart => exact ⟨0, Nat.zero_le _, rfl, World.ownsRow_nil _ _ _ _, Below.refl _ _⟩
      case round =>
        obtain ⟨k, hk, rfl, hv, hB⟩ := hrel
        have HV := Lib.hid hv
        have HB := Lib.hid hB
        have HKR := Lib.hid (HKD.out.later hB)
        have lo := ld_tlC (w := wr) (HKR.out.bo.cell 0)
        clear hv hB
        by_cases hlt : k < nW
        · obtain ⟨t, htk⟩ : ∃ t, W[k]? = some t := ⟨_, List.getElem?_eq_getElem (by rw [← HNW.out]; exact hlt)⟩
          have hrow := HKR.out.row
          have hnn := HKR.out.hn
          obtain ⟨gr, cq, e8, _⟩ := own_form1 hrow (by omega)
          obtain ⟨rfl, rfl⟩ : A = some ⟨gr, 0, none⟩ ∧ c = cq := by cases e8; exact ⟨rfl, rfl⟩
          have HF := Lib.hid (filter_take_succ (g := fun t : Tl => t.1 != po) htk)
          have lt0 := fun (dd : Nat) (os : Array Obj) => ld_tlC (w := grow (redrawn wr dd) os) ((HKR.out.later (below_regrown wr dd os)).bo.cell 0)
          have lt1 := fun (dd : Nat) (os : Array Obj) => tl_port (HKR.out.later (below_regrown wr dd os)).row htk
          have lt2 := fun (dd : Nat) (os : Array Obj) => ld_evP (HKR.out.later (below_regrown wr dd os)).ev
          have HTK := Lib.hid htk
          have k0 : (0 : Int) ≤ k := by omega
          have k1 : (k : Int) < nW := by omega
          clear hrow hnn e8 htk
          go_upto_region 8 with (fail)
          refine wp_region_quiet_below (by kernel_rfl) (by kernel_rfl) ?_
          repeat (go_big_quiet_step (fail))
          refine wpQuiet_nil ?_
          intro _ hw'
          obtain ⟨⟨dq, osq⟩, hw''⟩ := hw'
          subst hw''
          have HBQ := Lib.hid (HB.out.trans ((below_regrown wr dq osq).mono HB.out.size))
          have HBQ0 := Lib.hid (below_regrown wr dq osq)
          generalize grow (redrawn wr dq) osq = wq at HBQ HBQ0 ⊢
          clear lt0 lt1 lt2 lo
          have HKQ := Lib.hid (HKD.out.later HBQ.out)
          have HVQ := Lib.hid (own_below HV.out HBQ0.out)
          by_cases hq : t.1 = po
          · have hd : (((t.1 : Nat) : Int) != e.port) = false := by rw [HPQ.out, hq]; simp
            have HF2 := Lib.hid (show (W.take (k + 1)).filter (fun t => t.1 != po) = (W.take k).filter fun t => t.1 != po by rw [HF.out, if_neg (by simp [hq]), List.append_nil])
            clear hq
            go_wp2_with fail
            go_roundw
            case rel => exact ⟨k + 1, by omega, by go_num, by rw [HF2.out]; exact HVQ.out, HBQ.out⟩
            case measure => simp [intOf]; omega
          · have hd : (((t.1 : Nat) : Int) != e.port) = true := by rw [HPQ.out, bne_iff_ne]; omega
            have HF2 := Lib.hid (show (W.take (k + 1)).filter (fun t => t.1 != po) = ((W.take k).filter fun t => t.1 != po) ++ [t] by rw [HF.out, if_pos (by simp [hq])])
            have lo2 := ld_tlC (w := wq) (HKQ.out.bo.cell 0)
            have la := tl_all HKQ.out.row HTK.out
            obtain ⟨hi, hz0, hz1, hz2⟩ := HI.out
            have hfl : ((W.take k).filter fun t => t.1 != po).length ≤ k := Nat.le_trans (List.length_filter_le _ _) (List.length_take_le _ _)
            have hmx : ((W.take k).filter fun t => t.1 != po).length + 1 ≤ maxLen := by unfold maxLen; omega
            have hmb : (((W.take k).filter fun t => t.1 != po).length + 1) * 32 ≤ 140737488355328 := by omega
            have hbs : w2.heap.size ≤ wq.heap.size := HBQ.out.size
            clear hq hfl
            go_wp2_with (at_builtin; refine wpList_pushN wq rfl (.tmp 39) (.tmp 44) _ 56 rfl rfl i0 _ 4 32 Try.underlying29 hi hz0 hz1 hz2 rfl (by decide) w2.heap.size _ _ _ (tlE t) rfl (tlE_one _) rfl HVQ.out rfl hmx hmb hbs ?_; intro v4 w4 h4 hg4 _; have HB4 := Lib.hid (HBQ.out.grown hg4 HBQ.out.size fun g hg => (own_lt HVQ.out hg).1); have H4 := Lib.hid h4; clear h4 hg4)
            go_roundw
            case rel =>
              refine ⟨k + 1, by omega, by go_num, ?_, HB4.out⟩
              rw [HF2.out, List.length_append, flatT_snoc]
              exact H4.out
            case measure => simp [intOf]; omega
        · obtain rfl : k = nW := by omega
          have hft : W.take k = W := List.take_of_length_le (by rw [HNW.out]; exact Nat.le_refl _)
          have hv := HV.out
          rw [hft] at hv
          obtain ⟨A6, c6, e6, hc6⟩ := own_form hv
          subst e6
          have hfl : (W.filter fun t => t.1 != po).length ≤ 100000 := Nat.le_trans (List.length_filter_le _ _) (by rw [← HNW.out]; exact hW)
          obtain ⟨WF, hWF⟩ : ∃ z, z = W.filter fun t => t.1 != po := ⟨_, rfl⟩
          rw [← hWF] at hv hfl hc6 HOW ⊢
          have st6 := st_tlC (HKR.out.bo.cell 0) (HKR.out.bo.frozen 0) A6 WF.length c6
          obtain ⟨W7, hW7⟩ : ∃ Z, Z = wr.setCell ⟨ko, 0, none⟩ (.slice A6 WF.length c6) := ⟨_, rfl⟩
          rw [← hW7] at st6
          have HK7 := Lib.hid (HKR.out.turn (own_base hv HKD.out.shut.bel.size) hW7 hc6)
          obtain ⟨nF, hnF⟩ : ∃ z, z = WF.length := ⟨_, rfl⟩
          rw [← hnF] at HK7 st6 hfl ⊢
          have lk7 := ev_k HK7.out.ev
          clear hft hv hW7 hnF hWF hc6
          have lo := ld_tlC (w := W7) (HK7.out.bo.cell 0)
          obtain ⟨hi, hz0, hz1, hz2⟩ := HI.out
          have hmx : nF + no ≤ maxLen := by unfold maxLen; have := HO9.out; skip; omega
          have hmb : (nF + no) * 32 ≤ 140737488355328 := by have := HO9.out; skip; omega
          have hrw := HK7.out.row
          have hrd := OutM.reads (c := cv) (by have := HK7.out.out; rw [HNO.out] at this; exact this)
          rw [← HNO.out] at hrd
          have hbs : w.heap.size ≤ W7.heap.size := HK7.out.shut.bel.size
          unfold OutM at hrw
          rw [← HK7.out.hn.1] at hrw

          go_wp2_with (at_builtin; refine wpList_append_any W7 rfl (.tmp 84) (.tmp 85) _ rfl w.heap.size 56 i0 _ 4 32 Try.underlying29 hi hz0 hz1 hz2 rfl (by decide) _ nF _ rfl hrw _ Av no cv _ rfl hrd (flatT_one _) hmx hmb hbs ?_; intro v3 w3 h3 hg3 _; have HG3 := Lib.hid (HK7.out.grown hg3); obtain ⟨A3, c3, rfl, _⟩ := own_form h3; have st3 := st_tlC (HG3.out.2.2.cell 0) (HG3.out.2.2.frozen 0) A3 (nF + no) c3; have H3 := Lib.hid h3; clear h3 hg3 hrw hrd)
          go_end0
          refine ⟨rfl, ?_⟩
          have hWN : WN = owedDo W e o := by have := HWN.out; simpa using this
          rw [hWN]
          have hr3 : OutM w3 w.heap.size (.slice A3 (nF + no) c3) (WF ++ o) := by
            unfold OutM
            rw [List.length_append, flatT_app, ← HK7.out.hn.1, ← HNO.out]
            exact H3.out
          rw [HOW.out]
          have hu3 : Upd (only ko) w3 (w3.setCell ⟨ko, 0, none⟩ (.slice A3 (nF + no) c3)) := upd_set _ _ _ _
          obtain ⟨⟨M3, mb3, hc3⟩, hk3, ho3⟩ := HG3.out
          exact ⟨⟨M3, mb3, hc3.keep hu3 (fun b (e : b = ko) => e ▸ hc3.apart ho3 (by decide) (by decide)) fun b (e : b = ko) => e ▸ HK7.out.hk.2⟩, (hu3.block kc hk3.lt fun (e : kc = ko) => (hk3.ne_ ho3 (by decide)) e).trans hk3, ⟨_, ho3.set_ 0 _, ownsRow_setCell_other (a := ⟨ko, 0, none⟩) hr3 (own_blk_ne hr3 ho3 (by decide)) _⟩, HK7.out.hk⟩
  · by_cases hk5 : e.kind = 5
    · skip
      have d1 : (e.kind == 1) = false := by rw [beq_eq_false_iff_ne]; omega
      have d2 : (e.kind == 2) = false := by rw [beq_eq_false_iff_ne]; omega
      have d5 : (e.kind == 5) = true := by rw [hk5]; decide
      have HOW := Lib.hid (show owedDo W e o = (W.eraseP fun t => t.1 == po && t.2.1 == e.p) ++ o by unfold owedDo; dsimp only; rw [if_neg hk12, if_pos hk5, HPQ.out]; rfl)
      clear hk12 hk5
      go_upto_region 12 with (fail)
      clear lk
      go_wp2_with fail
      go_loopw [8] (fun s8 wr => ∃ k : Nat, k ≤ nW ∧ s8 = .int .i64 (k : Int) ∧ (∀ x ∈ W.take k, (x.1 == po && x.2.1 == e.p) = false) ∧ Below w2.heap.size w2 wr) (fun s8 _ => nW - (intOf s8).toNat)
      case atStart => exact ⟨0, Nat.zero_le _, rfl, fun x hx => by simp at hx, Below.refl _ _⟩
      case round =>
        obtain ⟨k, hk, rfl, hno2, hB⟩ := hrel
        have HNO2 := Lib.hid hno2
        have HB := Lib.hid hB
        have HKR := Lib.hid (HKD.out.later hB)
        have lo := ld_tlC (w := wr) (HKR.out.bo.cell 0)
        clear hno2 hB
        by_cases hlt : k < nW
        · obtain ⟨t, htk⟩ : ∃ t, W[k]? = some t := ⟨_, List.getElem?_eq_getElem (by rw [← HNW.out]; exact hlt)⟩
          have hrow := HKR.out.row
          have hnn := HKR.out.hn
          obtain ⟨gr, cq, e8, _⟩ := own_form1 hrow (by omega)
          obtain ⟨rfl, rfl⟩ : A = some ⟨gr, 0, none⟩ ∧ c = cq := by cases e8; exact ⟨rfl, rfl⟩
          have lt0 := fun (dd : Nat) (os : Array Obj) => ld_tlC (w := grow (redrawn wr dd) os) ((HKR.out.later (below_regrown wr dd os)).bo.cell 0)
          have lt1 := fun (dd : Nat) (os : Array Obj) => tl_port (HKR.out.later (below_regrown wr dd os)).row htk
          have lt2 := fun (dd : Nat) (os : Array Obj) => ld_evP (HKR.out.later (below_regrown wr dd os)).ev
          have lt3 := fun (dd : Nat) (os : Array Obj) => tl_pf (HKR.out.later (below_regrown wr dd os)).row htk
          have lt4 := fun (dd : Nat) (os : Array Obj) => ld_pei (HKR.out.later (below_regrown wr dd os)).ev
          have HTK := Lib.hid htk
          have k0 : (0 : Int) ≤ k := by omega
          have k1 : (k : Int) < nW := by omega
          clear hrow hnn e8 htk
          go_upto_region 15 with (fail)
          by_cases hq : t.1 = po
          · have hd : (((t.1 : Nat) : Int) == e.port) = true := by rw [HPQ.out, hq]; simp
            by_cases hq2 : t.2.1 = e.p
            · have he := fun wx => eq_pf t.2.1.1 e.p.1 t.2.1.2 e.p.2 wx
              rw [decide_eq_true (show (t.2.1.1, t.2.1.2) = (e.p.1, e.p.2) from by rw [← hq2])] at he
              have HM := Lib.hid (show (t.1 == po && t.2.1 == e.p) = true by rw [hq, hq2]; simp)
              clear hq hq2
              refine wp_region_quiet_below (by kernel_rfl) (by kernel_rfl) ?_
              repeat (go_big_quiet_step (fail))
              refine wpQuiet_nil ?_
              intro _ hw'
              obtain ⟨⟨dq, osq⟩, hw''⟩ := hw'
              subst hw''
              have HBQ := Lib.hid (HB.out.trans ((below_regrown wr dq osq).mono HB.out.size))
              generalize grow (redrawn wr dq) osq = wq at HBQ ⊢
              clear lt0 lt1 lt2 lt3 lt4 lo
              clear he hd
              go_upto_region 16 with (fail)
              have HKQ := Lib.hid (HKD.out.later HBQ.out)
              have hkn : k + 1 ≤ nW := by omega
              have hcn : nW ≤ c := HKQ.out.hn.2.2
              obtain ⟨A9, hA9⟩ : ∃ z, z = (if c = k + 1 then (some ⟨gr, 0, none⟩ : Option Addr) else (some ⟨gr, 0, none⟩ : Option Addr).map (·.add ((k + 1) * 4))) := ⟨_, rfl⟩
              obtain ⟨n9, hn9⟩ : ∃ z, z = nW - (k + 1) := ⟨_, rfl⟩
              obtain ⟨c9, hc9⟩ : ∃ z, z = c - (k + 1) := ⟨_, rfl⟩
              have sh := fun wx => stl_hi (some ⟨gr, 0, none⟩) nW c wx k (by omega)
              have sl := fun wx => stl_lo (some ⟨gr, 0, none⟩) nW c wx (k + 1) hkn
              rw [← hA9, ← hn9, ← hc9, show (((k + 1 : Nat)) : Int) = (k : Int) + 1 by omega] at sl
              have HA9 := Lib.hid hA9
              have HN9 := Lib.hid hn9
              have HREADS := Lib.hid (show ∀ wx, Below wq.heap.size wq wx → Reads wx (fun k => k < wx.heap.size) 4 (some ⟨gr, 0, none⟩) k (flatT (W.take k)) ∧ Reads wx (fun k => k < wx.heap.size) 4 A9 n9 (flatT (W.drop (k + 1))) from fun wx hx => by
                have h1 := (HKQ.out.later hx).row
                have h2 := HNW.out
                rw [h2] at h1
                have hr := OutM.reads h1
                rw [← h2] at hr
                refine ⟨?_, ?_⟩
                · have := hr.takeT (k := k) (by omega)
                  rwa [flatT_take W k (by omega)] at this
                · have := hr.cut (k := k + 1) (cap := c) hkn hcn
                  rwa [flatT_drop W (k + 1) (by omega), ← hA9, ← hn9] at this)
              have hwr : IntKind.i64.wrap ((k : Int) + 1) = (k : Int) + 1 := IntWalk.i64_in _ ⟨by omega, by omega⟩
              clear hA9 hn9 hc9
              refine wp_region_mix [(true, 3), (false, 1), (true, 4), (false, 2)] 1 (by kernel_rfl) (fun wx => Below wq.heap.size wq wx) (fun _ _ h k => h.trans (k.mono h.size)) (by kernel_rfl) (Below.refl _ _) (a' := ?_) (fun wz hz => ?_) fun wz hz => ?_
              rotate_left
              · have hb := fun (dd : Nat) (os : Array Obj) => hz.trans ((below_regrown wz dd os).mono hz.size)
                have l1 := fun (dd : Nat) (os : Array Obj) => ld_tlC (w := grow (redrawn wz dd) os) ((HKQ.out.later (hb dd os)).bo.cell 0)
                clear hz hb
                simp only [pick_nil, pick_tt, pick_ft, List.take_succ_cons, List.take_zero, List.drop_succ_cons, List.drop_zero, List.append_nil, List.cons_append, List.nil_append]
                repeat (go_big_quiet_step (fail))
                refine wpQuiet_nil ?_
                rfl
              simp only [pick_nil, pick_ff, pick_tf, List.take_succ_cons, List.take_zero, List.drop_succ_cons, List.drop_zero, List.append_nil, List.cons_append, List.nil_append]
              have HZ := Lib.hid hz
              clear hz sh sl hwr
              obtain ⟨hi, hz0, hz1, hz2⟩ := HI.out
              have hmx : 0 + k ≤ maxLen := by unfold maxLen; omega
              have hmb : (0 + k) * 32 ≤ 140737488355328 := by omega
              refine wpMix_append HZ.out rfl (.const (.slice none 0 0)) (.tmp 77) _ rfl rfl wz.heap.size 56 i0 _ 4 32 Try.underlying29 hi hz0 hz1 hz2 rfl (by decide) (.slice none 0 0) 0 [] rfl (World.ownsRow_nil _ _ _ _) _ (some ⟨gr, 0, none⟩) k c _ rfl (HREADS.out wz HZ.out).1 (flatT_one _) hmx hmb (Nat.le_refl _) fun v2 wy h2 hg2 _ => ?_
              have hby : Below wq.heap.size wq wy := HZ.out.grown hg2 HZ.out.size fun j hj => by cases hj
              rw [List.nil_append] at h2
              have hmx2 : 0 + k + n9 ≤ maxLen := by unfold maxLen; have := HN9.out; omega
              have hmb2 : (0 + k + n9) * 32 ≤ 140737488355328 := by have := HN9.out; omega
              refine wpMix_append hby rfl (.tmp 78) (.tmp 82) _ rfl rfl wz.heap.size 56 i0 _ 4 32 Try.underlying29 hi hz0 hz1 hz2 rfl (by decide) v2 (0 + k) _ rfl h2 _ A9 n9 c9 _ rfl (HREADS.out wy hby).2 (flatT_one _) hmx2 hmb2 hg2.size fun v3 wx h3 hg3 _ => ?_
              refine wpMix_plain ?_
              have hbx : Below wq.heap.size wq wx := hby.grown hg3 hby.size fun j hj => Nat.le_trans HZ.out.size (own_lt h2 hj).1
              rw [← flatT_app] at h3
              have HKX := Lib.hid (HKQ.out.later hbx)
              have hWE := erase_at HTK.out HM.out HNO2.out
              obtain ⟨WE, hwe⟩ : ∃ z, z = W.take k ++ W.drop (k + 1) := ⟨_, rfl⟩
              have hlen : WE.length = 0 + k + n9 := by
                rw [hwe, List.length_append, List.length_take, List.length_drop]
                have := HNW.out
                have := HN9.out
                omega
              rw [← hwe] at h3 hWE
              have HWE := Lib.hid hWE
              rw [← hlen] at h3
              obtain ⟨A6, c6, rfl, hc6⟩ := own_form h3
              have hbw : w.heap.size ≤ wz.heap.size := Nat.le_trans HKQ.out.shut.bel.size HZ.out.size
              have st6 := st_tlC (HKX.out.bo.cell 0) (HKX.out.bo.frozen 0) A6 WE.length c6
              obtain ⟨W7, hW7⟩ : ∃ Z, Z = wx.setCell ⟨ko, 0, none⟩ (.slice A6 WE.length c6) := ⟨_, rfl⟩
              rw [← hW7] at st6
              have HK7 := Lib.hid (HKX.out.turn (own_base h3 hbw) hW7 hc6)
              have HFL := Lib.hid (show WE.length ≤ 100000 by have := HN9.out; omega)
              obtain ⟨nF, hnF⟩ : ∃ z, z = WE.length := ⟨_, rfl⟩
              rw [← hnF] at HK7 st6 HFL ⊢
              have hfl := HFL.out
              clear h2 hg2 hby hmx hmb hmx2 hmb2 h3 hg3 hbx hwe hlen hWE hbw hW7 hnF hc6 hi hz0 hz1 hz2 hkn hcn
              have lo := ld_tlC (w := W7) (HK7.out.bo.cell 0)
              obtain ⟨hi, hz0, hz1, hz2⟩ := HI.out
              have hmx : nF + no ≤ maxLen := by unfold maxLen; have := HO9.out; skip; omega
              have hmb : (nF + no) * 32 ≤ 140737488355328 := by have := HO9.out; skip; omega
              have hrw := HK7.out.row
              have hrd := OutM.reads (c := cv) (by have := HK7.out.out; rw [HNO.out] at this; exact this)
              rw [← HNO.out] at hrd
              have hbs : w.heap.size ≤ W7.heap.size := HK7.out.shut.bel.size
              unfold OutM at hrw
              rw [← HK7.out.hn.1] at hrw

              go_wp2_with (at_builtin; refine wpList_append_any W7 rfl (.tmp 84) (.tmp 85) _ rfl w.heap.size 56 i0 _ 4 32 Try.underlying29 hi hz0 hz1 hz2 rfl (by decide) _ nF _ rfl hrw _ Av no cv _ rfl hrd (flatT_one _) hmx hmb hbs ?_; intro v3 w3 h3 hg3 _; have HG3 := Lib.hid (HK7.out.grown hg3); obtain ⟨A3, c3, rfl, _⟩ := own_form h3; have st3 := st_tlC (HG3.out.2.2.cell 0) (HG3.out.2.2.frozen 0) A3 (nF + no) c3; have H3 := Lib.hid h3; clear h3 hg3 hrw hrd)
              go_end0
              refine ⟨rfl, ?_⟩
              have hWN : WN = owedDo W e o := by have := HWN.out; simpa using this
              rw [hWN]
              have hr3 : OutM w3 w.heap.size (.slice A3 (nF + no) c3) (WE ++ o) := by
                unfold OutM
                rw [List.length_append, flatT_app, ← HK7.out.hn.1, ← HNO.out]
                exact H3.out
              rw [HOW.out, HWE.out]
              have hu3 : Upd (only ko) w3 (w3.setCell ⟨ko, 0, none⟩ (.slice A3 (nF + no) c3)) := upd_set _ _ _ _
              obtain ⟨⟨M3, mb3, hc3⟩, hk3, ho3⟩ := HG3.out
              exact ⟨⟨M3, mb3, hc3.keep hu3 (fun b (e : b = ko) => e ▸ hc3.apart ho3 (by decide) (by decide)) fun b (e : b = ko) => e ▸ HK7.out.hk.2⟩, (hu3.block kc hk3.lt fun (e : kc = ko) => (hk3.ne_ ho3 (by decide)) e).trans hk3, ⟨_, ho3.set_ 0 _, ownsRow_setCell_other (a := ⟨ko, 0, none⟩) hr3 (own_blk_ne hr3 ho3 (by decide)) _⟩, HK7.out.hk⟩
            · have he := fun wx => eq_pf t.2.1.1 e.p.1 t.2.1.2 e.p.2 wx
              rw [decide_eq_false (show ¬ (t.2.1.1, t.2.1.2) = (e.p.1, e.p.2) from hq2)] at he
              have HN2 := Lib.hid (show ∀ x ∈ W.take (k + 1), (x.1 == po && x.2.1 == e.p) = false from fun x hx => by
                rw [List.take_add_one, HTK.out] at hx
                rcases List.mem_append.1 hx with hx | hx
                · exact HNO2.out x hx
                · obtain rfl : x = t := by simpa using hx
                  rw [show (x.2.1 == e.p) = false by rw [beq_eq_false_iff_ne]; exact hq2]; simp)
              clear hq hq2
              refine wp_region_quiet_below (by kernel_rfl) (by kernel_rfl) ?_
              repeat (go_big_quiet_step (fail))
              refine wpQuiet_nil ?_
              intro _ hw'
              obtain ⟨⟨dq, osq⟩, hw''⟩ := hw'
              subst hw''
              have HBQ := Lib.hid (HB.out.trans ((below_regrown wr dq osq).mono HB.out.size))
              generalize grow (redrawn wr dq) osq = wq at HBQ ⊢
              clear lt0 lt1 lt2 lt3 lt4 lo
              clear he hd
              go_wp2_with fail
              go_roundw
              case rel => exact ⟨k + 1, by omega, by go_num, HN2.out, HBQ.out⟩
              case measure => simp [intOf]; omega
          · have hd : (((t.1 : Nat) : Int) == e.port) = false := by rw [HPQ.out, beq_eq_false_iff_ne]; omega
            have HN2 := Lib.hid (show ∀ x ∈ W.take (k + 1), (x.1 == po && x.2.1 == e.p) = false from fun x hx => by
              rw [List.take_add_one, HTK.out] at hx
              rcases List.mem_append.1 hx with hx | hx
              · exact HNO2.out x hx
              · obtain rfl : x = t := by simpa using hx
                rw [show (x.1 == po) = false by rw [beq_eq_false_iff_ne]; exact hq]; simp)
            clear hq
            refine wp_region_quiet_below (by kernel_rfl) (by kernel_rfl) ?_
            repeat (go_big_quiet_step (fail))
            refine wpQuiet_nil ?_
            intro _ hw'
            obtain ⟨⟨dq, osq⟩, hw''⟩ := hw'
            subst hw''
            have HBQ := Lib.hid (HB.out.trans ((below_regrown wr dq osq).mono HB.out.size))
            generalize grow (redrawn wr dq) osq = wq at HBQ ⊢
            clear lt0 lt1 lt2 lt3 lt4 lo
            clear hd
            go_wp2_with fail
            go_roundw
            case rel => exact ⟨k + 1, by omega, by go_num, HN2.out, HBQ.out⟩
            case measure => simp [intOf]; omega
        · obtain rfl : k = nW := by omega
          have HWE := Lib.hid (show (W.eraseP fun t => t.1 == po && t.2.1 == e.p) = W from erase_no fun x hx => HNO2.out x (by rw [List.take_of_length_le (by rw [HNW.out]; exact Nat.le_refl _)]; exact hx))
          clear lo
          have lo := ld_tlC (w := wr) (HKR.out.bo.cell 0)
          obtain ⟨hi, hz0, hz1, hz2⟩ := HI.out
          have hmx : k + no ≤ maxLen := by unfold maxLen; have := HO9.out; skip; omega
          have hmb : (k + no) * 32 ≤ 140737488355328 := by have := HO9.out; skip; omega
          have hrw := HKR.out.row
          have hrd := OutM.reads (c := cv) (by have := HKR.out.out; rw [HNO.out] at this; exact this)
          rw [← HNO.out] at hrd
          have hbs : w.heap.size ≤ wr.heap.size := HKR.out.shut.bel.size
          unfold OutM at hrw
          rw [← HKR.out.hn.1] at hrw

          go_wp2_with (at_builtin; refine wpList_append_any wr rfl (.tmp 84) (.tmp 85) _ rfl w.heap.size 56 i0 _ 4 32 Try.underlying29 hi hz0 hz1 hz2 rfl (by decide) _ k _ rfl hrw _ Av no cv _ rfl hrd (flatT_one _) hmx hmb hbs ?_; intro v3 w3 h3 hg3 _; have HG3 := Lib.hid (HKR.out.grown hg3); obtain ⟨A3, c3, rfl, _⟩ := own_form h3; have st3 := st_tlC (HG3.out.2.2.cell 0) (HG3.out.2.2.frozen 0) A3 (k + no) c3; have H3 := Lib.hid h3; clear h3 hg3 hrw hrd)
          go_end0
          refine ⟨rfl, ?_⟩
          have hWN : WN = owedDo W e o := by have := HWN.out; simpa using this
          rw [hWN]
          have hr3 : OutM w3 w.heap.size (.slice A3 (k + no) c3) (W ++ o) := by
            unfold OutM
            rw [List.length_append, flatT_app, ← HKR.out.hn.1, ← HNO.out]
            exact H3.out
          rw [HOW.out, HWE.out]
          have hu3 : Upd (only ko) w3 (w3.setCell ⟨ko, 0, none⟩ (.slice A3 (k + no) c3)) := upd_set _ _ _ _
          obtain ⟨⟨M3, mb3, hc3⟩, hk3, ho3⟩ := HG3.out
          exact ⟨⟨M3, mb3, hc3.keep hu3 (fun b (e : b = ko) => e ▸ hc3.apart ho3 (by decide) (by decide)) fun b (e : b = ko) => e ▸ HKR.out.hk.2⟩, (hu3.block kc hk3.lt fun (e : kc = ko) => (hk3.ne_ ho3 (by decide)) e).trans hk3, ⟨_, ho3.set_ 0 _, ownsRow_setCell_other (a := ⟨ko, 0, none⟩) hr3 (own_blk_ne hr3 ho3 (by decide)) _⟩, HKR.out.hk⟩
    · have d1 : (e.kind == 1) = false := by rw [beq_eq_false_iff_ne]; omega
      have d2 : (e.kind == 2) = false := by rw [beq_eq_false_iff_ne]; omega
      have d5 : (e.kind == 5) = false := by rw [beq_eq_false_iff_ne]; omega
      have HOW := Lib.hid (show owedDo W e o = W ++ o by unfold owedDo; dsimp only; rw [if_neg hk12, if_neg hk5])
      clear hk12 hk5
      have lo := ld_tlC (w := w2) (HKD.out.bo.cell 0)
      obtain ⟨hi, hz0, hz1, hz2⟩ := HI.out
      have hmx : nW + no ≤ maxLen := by unfold maxLen; have := HO9.out; skip; omega
      have hmb : (nW + no) * 32 ≤ 140737488355328 := by have := HO9.out; skip; omega
      have hrw := HKD.out.row
      have hrd := OutM.reads (c := cv) (by have := HKD.out.out; rw [HNO.out] at this; exact this)
      rw [← HNO.out] at hrd
      have hbs : w.heap.size ≤ w2.heap.size := HKD.out.shut.bel.size
      unfold OutM at hrw
      rw [← HKD.out.hn.1] at hrw

      go_wp2_with (at_builtin; refine wpList_append_any w2 rfl (.tmp 84) (.tmp 85) _ rfl w.heap.size 56 i0 _ 4 32 Try.underlying29 hi hz0 hz1 hz2 rfl (by decide) _ nW _ rfl hrw _ Av no cv _ rfl hrd (flatT_one _) hmx hmb hbs ?_; intro v3 w3 h3 hg3 _; have HG3 := Lib.hid (HKD.out.grown hg3); obtain ⟨A3, c3, rfl, _⟩ := own_form h3; have st3 := st_tlC (HG3.out.2.2.cell 0) (HG3.out.2.2.frozen 0) A3 (nW + no) c3; have H3 := Lib.hid h3; clear h3 hg3 hrw hrd)
      go_end0
      refine ⟨rfl, ?_⟩
      have hWN : WN = owedDo W e o := by have := HWN.out; simpa using this
      rw [hWN]
      have hr3 : OutM w3 w.heap.size (.slice A3 (nW + no) c3) (W ++ o) := by
        unfold OutM
        rw [List.length_append, flatT_app, ← HKD.out.hn.1, ← HNO.out]
        exact H3.out
      rw [HOW.out]
      have hu3 : Upd (only ko) w3 (w3.setCell ⟨ko, 0, none⟩ (.slice A3 (nW + no) c3)) := upd_set _ _ _ _
      obtain ⟨⟨M3, mb3, hc3⟩, hk3, ho3⟩ := HG3.out
      exact ⟨⟨M3, mb3, hc3.keep hu3 (fun b (e : b = ko) => e ▸ hc3.apart ho3 (by decide) (by decide)) fun b (e : b = ko) => e ▸ HKD.out.hk.2⟩, (hu3.block kc hk3.lt fun (e : kc = ko) => (hk3.ne_ ho3 (by decide)) e).trans hk3, ⟨_, ho3.set_ 0 _, ownsRow_setCell_other (a := ⟨ko, 0, none⟩) hr3 (own_blk_ne hr3 ho3 (by decide)) _⟩, HKD.out.hk⟩
end Go.Proofs.Ytahdjfegihnolaa
