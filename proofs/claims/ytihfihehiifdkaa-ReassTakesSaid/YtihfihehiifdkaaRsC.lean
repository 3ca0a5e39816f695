/- Reass: lay. -/
import Derived.Test.YtihfihehiifdkaaRtA
namespace Go.Proofs.Ytihfihehiifdkaa
open Go.RowKit Go.Sort
section
variable {P : Program} {k : TypeId} {w w' : World} {b n s : Nat} {F : Lit → Option Value}
theorem MapV.obj (h : MapV P k w b n F s) : ∃ es c, w.heap[b]? = some (.map es c) := by obtain ⟨D, ⟨es, c, h1, _⟩, _⟩ := h; exact ⟨es, c, h1⟩
theorem MapV.ne_blk (h : MapV P k w b n F s) {g : Nat} {t : TypeId} {cs : Array Value} (hg : Blk w g t cs) : g ≠ b := fun e => by
  obtain ⟨es, c, h1⟩ := h.obj
  unfold Blk at hg
  rw [e, h1] at hg
  cases hg
theorem MapV.ne_row (h : MapV P k w b n F s) {base : Nat} {e : TypeId} {size m : Nat} {v : Value} {xs : List Value} (hr : w.ownsRow base e size v m xs) : v.ownBlock ≠ some b := fun hv => by
  obtain ⟨cs, hk⟩ := own_blk hr hv
  exact h.ne_blk hk rfl
end
/-- A flow with the first j chunks of a piece. -/
def layJ (f : Fl) (h : Hd) (p : By) (j : Nat) : Fl := { f with c := fun k => if h.off.toNat ≤ k ∧ k < h.off.toNat + j then extF (f.c k) (chunkF p (k - h.off.toNat)) else f.c k }
theorem layJ0 (f : Fl) (h : Hd) (p : By) : layJ f h p 0 = f := by
  unfold layJ
  have : (fun k => if h.off.toNat ≤ k ∧ k < h.off.toNat + 0 then extF (f.c k) (chunkF p (k - h.off.toNat)) else f.c k) = f.c := by funext k; rw [if_neg (by omega)]
  rw [this]
theorem layJ_at (f : Fl) (h : Hd) (p : By) (j : Nat) : (layJ f h p j).c (h.off.toNat + j) = f.c (h.off.toNat + j) := by
  unfold layJ; simp
theorem layJ_succ (f : Fl) (h : Hd) (p : By) (j k : Nat) : (layJ f h p (j + 1)).c k = if k = h.off.toNat + j then extF (f.c k) (chunkF p j) else (layJ f h p j).c k := by
  unfold layJ
  simp only
  by_cases hk : k = h.off.toNat + j
  · rw [if_pos hk, if_pos (by omega), show k - h.off.toNat = j by omega]
  · rw [if_neg hk]
    by_cases h2 : h.off.toNat ≤ k ∧ k < h.off.toNat + j
    · rw [if_pos h2, if_pos (by omega)]
    · rw [if_neg h2, if_neg (by omega)]
theorem layJ_end (f : Fl) (h : Hd) (p : By) {j : Nat} (hj : p.length ≤ 8 * j) : (layJ f h p j).c = (layF f h p).c := by
  funext k
  unfold layJ layF
  simp only
  by_cases h1 : h.off.toNat ≤ k
  · rw [if_pos h1]
    by_cases h2 : k < h.off.toNat + j
    · rw [if_pos ⟨h1, h2⟩]
    · rw [if_neg (by omega)]
      have : chunkF p (k - h.off.toNat) = [] := List.eq_nil_of_length_eq_zero (by rw [chunk_len]; omega)
      rw [this, ext_nil]
  · rw [if_neg h1, if_neg (by omega)]
theorem ext_all {a b : By} (h : b.length ≤ a.length) : extF a b = a := by unfold extF; rw [List.drop_of_length_le h, List.append_nil]
section
variable {w w' : World} {N : Nat → Prop} {c d : Nat → By} {F : Lit → Option Value} {fb ab : Nat} {f g : Fl}
/-- A chunk is laid. -/
theorem ChM.set (h : ChM w N c F) (hk : ∀ v (x : By), Row8 0 w v x → Row8 0 w' v x) {k : Nat} {v : Value} (hd : ∀ j, j ≠ k → d j = c j) (h0 : d k ≠ []) (hv : Row8 0 w' v (d k)) (hN : ∀ g, v.ownBlock = some g → N g) : ChM w' N d (setK F (.int .i64 ((k : Nat) : Int)) (some v)) := by
  have hne : ∀ {j : Nat}, j ≠ k → (Lit.int .i64 (j : Int)) ≠ (Lit.int .i64 (k : Int)) := fun hj e => hj (by injection e with _ e; omega)
  refine ⟨fun j hj => ?_, fun j hj => ?_, fun kl u hu hl => ?_⟩
  · by_cases e : j = k
    · subst e; exact ⟨v, setK_same _ _ _, hv, hN⟩
    · rw [hd j e] at hj ⊢
      obtain ⟨u, h1, h2, h3⟩ := h.hit j hj
      exact ⟨u, by rw [setK_other _ _ (hne e)]; exact h1, hk _ _ h2, h3⟩
  · by_cases e : j = k
    · subst e; exact absurd hj h0
    · rw [hd j e] at hj
      rw [setK_other _ _ (hne e)]
      exact h.miss j hj
  · by_cases e : kl = .int .i64 ((k : Nat) : Int)
    · exact ⟨k, e⟩
    · rw [setK_other _ _ e] at hu
      exact h.keys kl u hu hl
/-- The same, for the flow: what stands in its map's entry at k is v now. -/
theorem FlM.set (h : FlM w N fb ab f) {k : Nat} (hk : k < 8192) {v : Value} (h0 : g.c k ≠ []) (hg : g.hd = f.hd ∧ g.first = f.first ∧ g.en = f.en) (hd : ∀ j, j ≠ k → g.c j = f.c j) (hv : Row8 0 w v (g.c k)) (hN : ∀ b, v.ownBlock = some b → N b) :
    ∃ w', (Instr.mapUpdate 113 (.map (some ab)) (.int .i64 (k : Int)) v).run Try.prog w = .ok () w' ∧ FlM w' N fb ab g ∧ Upd (only ab) w w' := by
  obtain ⟨⟨vo, h1, h2, h3⟩, F, h4, h5⟩ := h
  have hle := cntC_le f.c 8192
  obtain ⟨w', hr, hm, hu, _⟩ := h4.store intKeyed Try.underlying113 (by omega) (int_key (k := k) (by omega)) v
  have hrow : ∀ u (x : By), Row8 0 w u x → Row8 0 w' u x := fun u x hx => own_keep hx (hu.same (I := fun b => u.ownBlock = some b) fun b hb hI => h4.ne_row hx (by rw [hI, show b = ab from hb])) fun _ e => e
  refine ⟨w', hr, ⟨⟨vo, by rw [hg.1, hg.2.1, hg.2.2]; exact h1.upd hu (h4.ne_blk h1), by rw [hg.1]; exact hrow _ _ h2, h3⟩, _, ?_, h5.set hrow hd h0 (hrow _ _ hv) hN⟩, hu⟩
  have hct := cntC_set (c := f.c) (d := g.c) hd h0 8192
  have hs : (if (F (.int .i64 (k : Int))).isSome = true then cntC f.c 8192 else cntC f.c 8192 + 1) = cntC g.c 8192 := by
    rw [hct]
    by_cases hc : f.c k = []
    · rw [h5.miss k hc]; simp [hk, hc]
    · obtain ⟨u, e, _⟩ := h5.hit k hc
      rw [e]; simp [hc]
  rw [hs] at hm
  exact hm.tight
end
/-- The world while a piece is laid. -/
structure LyS (w : World) (N : Nat → Prop) (fb ab : Nat) (h : Hd) (vo vp : Value) (p : By) (g : Fl) (wr : World) : Prop where
  fl : FlM wr (fun b => N b ∨ w.heap.size ≤ b) fb ab g
  hd : Blk wr w.heap.size 32 (hdC h vo)
  op : Row8 0 wr vo h.opts
  pay : Row8 0 wr vp p
  upd : Upd (fun b => b = fb ∨ b = ab) w wr
theorem LyS.put {w wr w3 w4 : World} {N : Nat → Prop} {fb ab : Nat} {h : Hd} {vo vp : Value} {p : By} {g g' : Fl} (s : LyS w N fb ab h vo vp p g wr) (hb : Below wr.heap.size wr w3) (hf : FlM w4 (fun b => N b ∨ w.heap.size ≤ b) fb ab g') (hu : Upd (only ab) w3 w4) : LyS w N fb ab h vo vp p g' w4 := by
  obtain ⟨F, hm, _⟩ := (s.fl.below hb).map
  have hrow : ∀ u (x : By), Row8 0 wr u x → Row8 0 w4 u x := fun u x hx => own_keep (hx.below hb) (hu.same (I := fun b => u.ownBlock = some b) fun b hb' hI => hm.ne_row (hx.below hb) (by rw [hI, show b = ab from hb'])) fun _ e => e
  have hh := s.hd.below hb s.hd.lt
  exact ⟨hf, hh.upd hu (hm.ne_blk hh), hrow _ _ s.op, hrow _ _ s.pay, (s.upd.trans_ (Upd.ofBelow hb _)).trans_ (hu.mono fun b e => .inl (.inr e))⟩
theorem blk_setCells_mid {g : Nat} {t : TypeId} : ∀ (l pre suf : List Value) (w : World), l.length ≤ suf.length → Blk w g t (pre ++ suf).toArray → Blk (w.setCells g pre.length l) g t (pre ++ l ++ suf.drop l.length).toArray
  | [], pre, suf, w, _, h => by simpa [World.setCells] using h
  | v :: r, pre, suf, w, hl, h => by
    match suf, hl with
    | x :: s, hl =>
      have h2 := h.set_ pre.length v
      rw [List.setIfInBounds_toArray, List.set_append_right _ _ (Nat.le_refl _), Nat.sub_self, List.set_cons_zero] at h2
      have h3 := blk_setCells_mid r (pre ++ [v]) s (w.setCell ⟨g, pre.length, none⟩ v) (by simpa using hl) (by simpa using h2)
      rw [List.length_append] at h3
      unfold World.setCells
      simpa using h3
section
variable {w w' : World} {N : Nat → Prop} {fb ab : Nat} {f g : Fl}
theorem FlM.congr (h : FlM w N fb ab f) (h1 : g.c = f.c) (h2 : g.hd = f.hd) (h3 : g.first = f.first) (h4 : g.en = f.en) : FlM w N fb ab g := by
  obtain ⟨⟨vo, a1, a2⟩, F, a3, a4⟩ := h
  exact ⟨⟨vo, by rw [h2, h3, h4]; exact a1, by rw [h2]; exact a2⟩, F, by rw [h1]; exact a3, by rw [h1]; exact a4⟩
/-- The flow's own block turns. -/
theorem FlM.own (h : FlM w N fb ab f) (hu : Upd (only fb) w w') {vo : Value} (hk : Blk w' fb 115 (flC ab g.hd vo g.first g.en)) (hv : Row8 0 w vo g.hd.opts) (hN : ∀ b, vo.ownBlock = some b → N b) (hc : g.c = f.c) : FlM w' N fb ab g := by
  obtain ⟨⟨vo1, a1, a2, _⟩, F, a3, a4⟩ := h
  have hrow : ∀ u (x : By), Row8 0 w u x → Row8 0 w' u x := fun u x hx => own_keep hx (hu.same (I := fun b => u.ownBlock = some b) fun b hb hI => own_blk_ne hx a1 (by decide) (by rw [hI, show b = fb from hb])) fun _ e => e
  exact ⟨⟨vo, hk, hrow _ _ hv, hN⟩, F, by rw [hc]; exact a3.upd hu (fun e => a3.ne_blk a1 (show ab = fb from e).symm), by rw [hc]; exact a4.keep fun v x hv hn => ⟨hrow v x hv, hn⟩⟩
theorem FlM.sethd (h : FlM w N fb ab f) (hh : Hd) {vo : Value} (hv : Row8 0 w vo hh.opts) (hN : ∀ b, vo.ownBlock = some b → N b) :
    (Instr.storeAt 32 (.pointer (some ⟨fb, 1, none⟩)) (.agg (hdC hh vo))).run Try.prog w = .ok () (w.setCells fb 1 (hdC hh vo).toList) ∧ FlM (w.setCells fb 1 (hdC hh vo).toList) N fb ab { f with hd := hh } ∧ Upd (only fb) w (w.setCells fb 1 (hdC hh vo).toList) := by
  obtain ⟨A, c, rfl, _⟩ := hv.form
  obtain ⟨vo1, a1, a2, _⟩ := h.blk
  have hu : Upd (only fb) w (w.setCells fb 1 (hdC hh (.slice A hh.opts.length c)).toList) := Upd.setCells _ _ _ (Upd.refl _ _) (.inl rfl)
  refine ⟨run_storeAt_mid w fb 1 _ _ (fun j hj => ?_) hd_info (by simp [hdC, Value.oneCell']), h.own hu ?_ hv hN rfl, hu⟩
  · have hj' : j < 11 := hj
    have hlt : 1 + j < (flC ab f.hd vo1 f.first f.en).size := by show 1 + j < 14; omega
    exact ⟨by rw [a1.cell, Array.getElem?_eq_getElem hlt]; rfl, a1.frozen _⟩
  · exact blk_setCells_mid (hdC hh (.slice A hh.opts.length c)).toList [.map (some ab)] _ w (by simp [hdC]) (show Blk w fb _ ([Value.map (some ab)] ++ [.int .u8 (f.hd.tos : Int), .int .u16 (f.hd.id : Int), .bool f.hd.evil, .bool f.hd.df, .bool f.hd.mf, .int .i64 f.hd.off, .int .u8 (f.hd.ttl : Int), .int .u8 (f.hd.proto : Int), .int .u32 (f.hd.src : Int), .int .u32 (f.hd.dst : Int), vo1, .bool f.first, .int .i64 f.en]).toArray from a1)
theorem FlM.setfirst (h : FlM w N fb ab f) : (Instr.storeAt 4 (.pointer (some ⟨fb, 12, none⟩)) (.bool true)).run Try.prog w = .ok () (w.setCell ⟨fb, 12, none⟩ (.bool true)) ∧ FlM (w.setCell ⟨fb, 12, none⟩ (.bool true)) N fb ab { f with first := true } ∧ Upd (only fb) w (w.setCell ⟨fb, 12, none⟩ (.bool true)) := by
  obtain ⟨vo1, a1, a2, a3⟩ := h.blk
  have hu := (Upd.refl (only fb) w).set_ 12 (.bool true)
  exact ⟨st_true (a1.cell 12) (a1.frozen 12), h.own hu (a1.set_ 12 (.bool true)) a2 a3 rfl, hu⟩
theorem FlM.seten (h : FlM w N fb ab f) (z : Int) : (Instr.storeAt 3 (.pointer (some ⟨fb, 13, none⟩)) (.int .i64 z)).run Try.prog w = .ok () (w.setCell ⟨fb, 13, none⟩ (.int .i64 z)) ∧ FlM (w.setCell ⟨fb, 13, none⟩ (.int .i64 z)) N fb ab { f with en := z } ∧ Upd (only fb) w (w.setCell ⟨fb, 13, none⟩ (.int .i64 z)) := by
  obtain ⟨vo1, a1, a2, a3⟩ := h.blk
  have hu := (Upd.refl (only fb) w).set_ 13 (.int .i64 z)
  exact ⟨st_int (a1.cell 13) (a1.frozen 13) z, h.own hu (a1.set_ 13 (.int .i64 z)) a2 a3 rfl, hu⟩
end
theorem ld_mapc {w : World} {a : Addr} {b : Nat} (hu : w.cell? a = some (.map (some b))) : (Instr.loadAt 113 (.pointer (some a))).run Try.prog w = .ok (.map (some b)) w := by simp [go_sem, hu]
theorem part_chunk {p : By} {j m r : Nat} (hr : r = min 8 (p.length - 8 * j)) (_ : m ≤ r) : partF p (8 * j + m) (8 * j + r) = (chunkF p j).drop m := by
  unfold partF chunkF
  rw [← List.drop_drop, List.drop_take, show 8 * j + r - 8 * j = r by omega]
  congr 1
  rcases Nat.le_total 8 (p.length - 8 * j) with h | h
  · rw [hr, Nat.min_eq_left h]
  · rw [hr, Nat.min_eq_right h, List.take_of_length_le (by simp), List.take_of_length_le (by simp; omega)]
set_option maxRecDepth 100000 in
set_option maxHeartbeats 8000000 in
attribute [-go_sem] Instr.storeAt Instr.loadAt in
theorem lay_any (N : Nat → Prop) (fb ab : Nat) (f : Fl) (h : Hd) (vo : Value) (A : Option Addr) (n q : Nat) (p : By) (w : World) (hf : FlM w N fb ab f) (ok : FlOk f) (hp : PieceOk h p) (hvo : Row8 0 w vo h.opts) (hvp : Row8 0 w (.slice A n q) p) :
    Calls Try.prog 83 #[.pointer (some ⟨fb, 0, none⟩), hdV h vo, .slice A n q] w fun e w' => e = .returned (.tuple #[]) ∧ FlM w' (fun b => N b ∨ w.heap.size ≤ b ∨ vo.ownBlock = some b) fb ab (layF f h p) ∧ Upd (fun b => b = fb ∨ b = ab) w w' := by
  obtain ⟨hn, _⟩ := hvp.reads
  obtain ⟨Ao, co, rfl, hco⟩ := hvo.form
  obtain ⟨_, _, _, ho0, _⟩ := may_opts hp.may
  obtain ⟨off, hoff⟩ : ∃ o : Nat, h.off = (o : Int) := ⟨h.off.toNat, by omega⟩
  obtain ⟨W, hW⟩ : ∃ W, W = w.alloc (.cells (hdC h (.slice Ao h.opts.length co)) 32) := ⟨_, rfl⟩
  have hb0 : Below w.heap.size w W := by rw [hW]; exact (Below.refl _ _).alloc (Nat.le_refl _) _
  have hk0 : Blk W w.heap.size 32 (hdC h (.slice Ao h.opts.length co)) := by rw [hW]; exact Blk.new _ _ _
  have hS0 : LyS w N fb ab h (.slice Ao h.opts.length co) (.slice A n q) p (layJ f h p 0) W := ⟨by rw [layJ0]; exact (hf.below hb0).mono fun b hb => .inl hb, hk0, hvo.below hb0, hvp.below hb0, Upd.ofBelow hb0 _⟩
  have hpos := hp.pos
  have hle := hp.le
  rw [hoff, Int.toNat_natCast] at hle
  have hcap : n ≤ q := by obtain ⟨A1, c1, e, h1⟩ := hvp.form; injection e with _ e2 e3; omega
  have HCAP := Lib.hid hcap
  have HN := Lib.hid hn
  have HS0 := Lib.hid hS0
  have HW := Lib.hid hW
  have HOFF := Lib.hid hoff
  have HPK := Lib.hid hp
  have HOK := Lib.hid ok
  unfold hdC at HW
  rw [← hn] at hpos hle
  clear hb0 hk0 hS0 hf hvo hvp hn hW ok hp ho0 hoff hcap
  unfold hdV
  go_enter Try.func83, Try.ntmps83
  go_upto_region 1 with (fail)
  rw [← HW.out]
  go_wp2_with fail
  go_loopw [6] (fun s6 wr => ∃ j : Nat, s6 = .int .i64 ((8 * j : Nat) : Int) ∧ 8 * j ≤ n + 7 ∧ LyS w N fb ab h (.slice Ao h.opts.length co) (.slice A n q) p (layJ f h p j) wr) (fun s6 _ => n + 8 - (intOf s6).toNat)
  case atStart => exact ⟨0, rfl, by omega, HS0.out⟩
  case round =>
    obtain ⟨j, rfl, hj, hS⟩ := hrel
    have HS := Lib.hid hS
    obtain ⟨i, hi⟩ : ∃ i, i = 8 * j := ⟨_, rfl⟩
    rw [← hi]
    have HI := Lib.hid hi
    clear hS hi
    by_cases hlt : i < n
    · skip
      -- ROUND --
      have hj8 : j ≤ 8191 := by have := HI.out; omega
      have hoj : off + j ≤ 8191 := by have := HI.out; omega
      obtain ⟨k, hk⟩ : ∃ k, k = off + j := ⟨_, rfl⟩
      have e1 : (i : Int) / 8 = (j : Int) := by have := HI.out; omega
      have e2 : (off : Int) + (j : Int) = (k : Int) := by omega
      rw [← hk] at hoj
      have HKO := Lib.hid hk
      have r5 := ld_int (HS.out.hd.cell 5)
      have r5' : (Instr.loadAt 3 (.pointer (some ⟨w.heap.size, 5, none⟩))).run Try.prog wr = .ok (.int .i64 (off : Int)) wr := by rw [← HOFF.out]; exact r5
      have r0 := ld_mapc HS.out.fl.cells.1
      obtain ⟨F, hm, hch⟩ := HS.out.fl.map
      obtain ⟨Ah, qh, hq, hrow, _⟩ := hch.look k
      have hlk := hm.look intKeyed Try.underlying113 (zero_by wr) (int_key (k := k) (by omega))
      rw [hq] at hlk
      have hck : (layJ f h p j).c k = f.c k := by
        have := layJ_at f h p j
        rw [HOFF.out, Int.toNat_natCast] at this
        rw [hk]
        exact this
      rw [hck] at hlk hrow
      have hm8 : (f.c k).length ≤ 8 := HOK.out.c8 k
      obtain ⟨x, hx⟩ : ∃ x, x = f.c k := ⟨_, rfl⟩
      rw [← hx] at hlk hrow hm8
      obtain ⟨m, hmx⟩ : ∃ m, m = x.length := ⟨_, rfl⟩
      rw [← hmx] at hlk hrow hm8
      have HX := Lib.hid hx
      have HMX := Lib.hid hmx
      have HROW := Lib.hid hrow
      have hsucc : ∀ g : Fl, g = layJ f h p (j + 1) → (∀ b, b ≠ k → g.c b = (layJ f h p j).c b) ∧ g.c k = extF x (chunkF p j) ∧ g.hd = (layJ f h p j).hd ∧ g.first = (layJ f h p j).first ∧ g.en = (layJ f h p j).en := fun g hg => by
        subst hg
        have e3 : k = h.off.toNat + j := by rw [HOFF.out, Int.toNat_natCast]; exact hk
        refine ⟨fun b hb => ?_, ?_, rfl, rfl, rfl⟩
        · rw [layJ_succ, if_neg (by rw [← e3]; exact hb)]
        · rw [layJ_succ, if_pos e3, hx]
      have HSU := Lib.hid hsucc
      obtain ⟨r, hr⟩ : ∃ r, r = min 8 (n - i) := ⟨_, rfl⟩
      have hcl : (chunkF p j).length = r := by rw [chunk_len, ← HN.out, hr, HI.out]
      have HCL := Lib.hid hcl
      have hr0 : 0 < r := by omega
      have hir : i + r ≤ n := by omega
      have HR := Lib.hid hr
      clear hr hcl hk hx hmx hm hch hq hrow hck hsucc r5
      by_cases h8 : (n : Int) - (i : Int) < 8
      · have hrn : r = n - i := by have := HR.out; omega
        have hmin : decide ((n : Int) < (i : Int) + 8) = true := decide_eq_true (by omega)
        have hmin2 : (n : Int) < (i : Int) + 8 := by omega
        by_cases hl : (m : Int) < (n : Int) - (i : Int)
        · have hmr : m ≤ r := by omega
          have hcut := fun wx => sl_lohi (w := wx) (A := A) (n := n) (cap := q) (i + m) n (by omega) (by have := HCAP.out; omega)
          have e6 : ((i + m : Nat) : Int) = (i : Int) + (m : Int) := by omega
          rw [e6] at hcut
          obtain ⟨Ap, hAp⟩ : ∃ a, a = if q = i + m then A else A.map (·.add (i + m)) := ⟨_, rfl⟩
          rw [← hAp] at hcut
          obtain ⟨qp, hqp⟩ : ∃ a, a = q - (i + m) := ⟨_, rfl⟩
          rw [← hqp] at hcut
          have HAP := Lib.hid hAp
          have HQP := Lib.hid hqp
          have HCUT := Lib.hid hcut
          have hpart : partF p (i + m) n = (chunkF p j).drop m := by
            rw [HI.out, show n = 8 * j + r by have := HI.out; have := HR.out; omega]
            exact part_chunk (by rw [HR.out, HN.out, HI.out]) hmr
          have HPART := Lib.hid hpart
          obtain ⟨i0, hi, hz0, hz1, hz2⟩ := info_parts info_u8
          have hmxl : m + (n - (i + m)) ≤ maxLen := by unfold maxLen; omega
          have hmbl : (m + (n - (i + m))) * 1 ≤ 140737488355328 := by omega
          go_upto_region 7 with (fail)
          clear e6 hAp hqp hcut hpart r0 hlk r5'
          refine wp_region_mix [(true, 6), (false, 1), (true, 11), (false, 2)] 2 (by kernel_rfl) (fun wx => Below wr.heap.size wr wx) (fun _ _ h k => h.trans (k.mono h.size)) (by kernel_rfl) (Below.refl _ _) (a' := ?_) (fun wz hz => ?_) fun wz hz => ?_
          rotate_left
          · have r0 := fun (d : Nat) (os : Array Obj) => ld_mapc (HS.out.fl.below (hz.trans ((below_regrown wz d os).mono hz.size))).cells.1
            have hc := HCUT.out
            simp only [pick_nil, pick_tt, pick_ft, List.take_succ_cons, List.take_zero, List.drop_succ_cons, List.drop_zero, List.append_nil, List.cons_append, List.nil_append]
            repeat (go_big_quiet_step (fail))
            refine wpQuiet_nil ?_
            rfl
          · simp only [pick_nil, pick_ff, pick_tf, List.take_succ_cons, List.take_zero, List.drop_succ_cons, List.drop_zero, List.append_nil, List.cons_append, List.nil_append]
            have HZ := Lib.hid hz
            clear hz
            refine wpMix_step HZ.out fun wa ha => ?_
            have HA := Lib.hid (HZ.out.trans (ha.mono HZ.out.size))
            clear ha
            have HCLN := Lib.hid (clone8_any Ah m qh (bytesV x) _ wa ((HROW.out.below HA.out).reads.2) (bytesV_one _) (by omega))
            go_wp2_with (go_at_call 59; refine HCLN.out.mono ?_; rintro e wb ⟨v1, rfl, h1, hb1⟩; have H1 := Lib.hid (own_base h1 HA.out.size); have HB := Lib.hid (HA.out.trans (hb1.mono HA.out.size)); clear h1 hb1)
            have hpr := (cut_lohi (a := i + m) (b := n) (cap := q) (by have := (HS.out.pay.below HB.out).reads.2; rw [HN.out] at this; exact this) (by omega) (by rw [← HN.out]; omega) (by rw [← HN.out]; exact HCAP.out)).len.2.2
            rw [part_len (by rw [← HN.out]; omega), ← HAP.out] at hpr
            refine wpMix_append HB.out rfl (.tmp 40) (.tmp 51) _ rfl rfl wr.heap.size 5 i0 _ 1 1 Try.underlying22 hi hz0 hz1 hz2 rfl (by decide) v1 m _ rfl H1.out _ _ _ _ _ rfl hpr (bytesV_one _) hmxl hmbl HB.out.size fun v2 w2 h2 hg2 _ => ?_
            have HB2 := Lib.hid (HB.out.grown hg2 HB.out.size fun _ hg => (own_lt H1.out hg).1)
            have H2 := Lib.hid h2
            clear h2 hg2 hpr
            refine wpMix_step HB2.out fun w3 hb3 => ?_
            have HB3 := Lib.hid (HB2.out.trans (hb3.mono HB2.out.size))
            have hrow3 : wr.heap.size ≤ w3.heap.size ∧ Row8 wr.heap.size w3 v2 (extF x (chunkF p j)) := by
              refine ⟨HB3.out.size, ?_⟩
              have h2 := own_below H2.out hb3
              unfold Row8
              rw [ext_len, HCL.out, ← HMX.out, show max m r = m + (n - (i + m)) by have := HR.out; omega]
              unfold extF
              rw [bytesV_app, ← HMX.out, ← HPART.out]
              exact h2
            obtain ⟨s1, s2, s3⟩ := HSU.out _ rfl
            obtain ⟨w4, hmu, hfl, hup⟩ := (HS.out.fl.below HB3.out).set (g := layJ f h p (j + 1)) (k := k) (by omega) (v := v2) (by rw [s2]; intro e0; have := congrArg List.length e0; rw [ext_len, HCL.out] at this; simp at this; omega) s3 s1 (by rw [s2]; exact own_base hrow3.2 (Nat.zero_le _)) fun b hb => .inr (Nat.le_trans HS.out.upd.size (own_lt hrow3.2 hb).1)
            have HL4 := Lib.hid (HS.out.put HB3.out hfl hup)
            clear hb3 hrow3 s1 s2 s3 hfl hup
            go_wp2_with fail
            refine wpMix_plain ?_
            go_wp2_with fail
            go_roundw
            case rel => exact ⟨j + 1, by rw [HI.out]; go_num, by have := HI.out; omega, HL4.out⟩
            case measure => simp [intOf]; omega
        · have hge : r ≤ m := by omega
          have hsame : layJ f h p (j + 1) = layJ f h p j := by
            obtain ⟨s1, s2, _⟩ := HSU.out _ rfl
            have e4 : (layJ f h p (j + 1)).c = (layJ f h p j).c := funext fun b => by
              by_cases hb : b = k
              · rw [hb, s2, ext_all (by rw [HCL.out, ← HMX.out]; omega)]
                have := layJ_at f h p j
                rw [HOFF.out, Int.toNat_natCast, ← HKO.out] at this
                rw [this, HX.out]
              · exact s1 b hb
            have e5 : layJ f h p (j + 1) = { layJ f h p j with c := (layJ f h p (j + 1)).c } := rfl
            rw [e5, e4]
          have HSAME := Lib.hid hsame
          clear hsame
          go_wp2_with fail
          go_roundw
          case rel => exact ⟨j + 1, by rw [HI.out]; go_num, by have := HI.out; omega, by rw [HSAME.out]; exact HS.out⟩
          case measure => simp [intOf]; omega
      · have hrn : r = 8 := by have := HR.out; omega
        have hmin2 : ¬ ((n : Int) < (i : Int) + 8) := by omega
        by_cases hl : m < 8
        · have hmr : m ≤ r := by omega
          have hcut := fun wx => sl_lohi (w := wx) (A := A) (n := n) (cap := q) (i + m) (i + 8) (by omega) (by have := HCAP.out; omega)
          have e6 : ((i + m : Nat) : Int) = (i : Int) + (m : Int) := by omega
          have e7 : ((i + 8 : Nat) : Int) = (i : Int) + 8 := by omega
          rw [e6] at hcut
          rw [e7] at hcut
          obtain ⟨Ap, hAp⟩ : ∃ a, a = if q = i + m then A else A.map (·.add (i + m)) := ⟨_, rfl⟩
          rw [← hAp] at hcut
          obtain ⟨qp, hqp⟩ : ∃ a, a = q - (i + m) := ⟨_, rfl⟩
          rw [← hqp] at hcut
          have HAP := Lib.hid hAp
          have HQP := Lib.hid hqp
          have HCUT := Lib.hid hcut
          have hpart : partF p (i + m) (i + 8) = (chunkF p j).drop m := by
            rw [HI.out, show 8 * j + 8 = 8 * j + r by have := HI.out; have := HR.out; omega]
            exact part_chunk (by rw [HR.out, HN.out, HI.out]) hmr
          have HPART := Lib.hid hpart
          obtain ⟨i0, hi, hz0, hz1, hz2⟩ := info_parts info_u8
          have hmxl : m + ((i + 8) - (i + m)) ≤ maxLen := by unfold maxLen; omega
          have hmbl : (m + ((i + 8) - (i + m))) * 1 ≤ 140737488355328 := by omega
          go_upto_region 7 with (fail)
          clear e6 e7 hAp hqp hcut hpart r0 hlk r5'
          refine wp_region_mix [(true, 6), (false, 1), (true, 11), (false, 2)] 2 (by kernel_rfl) (fun wx => Below wr.heap.size wr wx) (fun _ _ h k => h.trans (k.mono h.size)) (by kernel_rfl) (Below.refl _ _) (a' := ?_) (fun wz hz => ?_) fun wz hz => ?_
          rotate_left
          · have r0 := fun (d : Nat) (os : Array Obj) => ld_mapc (HS.out.fl.below (hz.trans ((below_regrown wz d os).mono hz.size))).cells.1
            have hc := HCUT.out
            simp only [pick_nil, pick_tt, pick_ft, List.take_succ_cons, List.take_zero, List.drop_succ_cons, List.drop_zero, List.append_nil, List.cons_append, List.nil_append]
            repeat (go_big_quiet_step (fail))
            refine wpQuiet_nil ?_
            rfl
          · simp only [pick_nil, pick_ff, pick_tf, List.take_succ_cons, List.take_zero, List.drop_succ_cons, List.drop_zero, List.append_nil, List.cons_append, List.nil_append]
            have HZ := Lib.hid hz
            clear hz
            refine wpMix_step HZ.out fun wa ha => ?_
            have HA := Lib.hid (HZ.out.trans (ha.mono HZ.out.size))
            clear ha
            have HCLN := Lib.hid (clone8_any Ah m qh (bytesV x) _ wa ((HROW.out.below HA.out).reads.2) (bytesV_one _) (by omega))
            go_wp2_with (go_at_call 59; refine HCLN.out.mono ?_; rintro e wb ⟨v1, rfl, h1, hb1⟩; have H1 := Lib.hid (own_base h1 HA.out.size); have HB := Lib.hid (HA.out.trans (hb1.mono HA.out.size)); clear h1 hb1)
            have hpr := (cut_lohi (a := i + m) (b := i + 8) (cap := q) (by have := (HS.out.pay.below HB.out).reads.2; rw [HN.out] at this; exact this) (by omega) (by rw [← HN.out]; omega) (by rw [← HN.out]; exact HCAP.out)).len.2.2
            rw [part_len (by rw [← HN.out]; omega), ← HAP.out] at hpr
            refine wpMix_append HB.out rfl (.tmp 40) (.tmp 51) _ rfl rfl wr.heap.size 5 i0 _ 1 1 Try.underlying22 hi hz0 hz1 hz2 rfl (by decide) v1 m _ rfl H1.out _ _ _ _ _ rfl hpr (bytesV_one _) hmxl hmbl HB.out.size fun v2 w2 h2 hg2 _ => ?_
            have HB2 := Lib.hid (HB.out.grown hg2 HB.out.size fun _ hg => (own_lt H1.out hg).1)
            have H2 := Lib.hid h2
            clear h2 hg2 hpr
            refine wpMix_step HB2.out fun w3 hb3 => ?_
            have HB3 := Lib.hid (HB2.out.trans (hb3.mono HB2.out.size))
            have hrow3 : wr.heap.size ≤ w3.heap.size ∧ Row8 wr.heap.size w3 v2 (extF x (chunkF p j)) := by
              refine ⟨HB3.out.size, ?_⟩
              have h2 := own_below H2.out hb3
              unfold Row8
              rw [ext_len, HCL.out, ← HMX.out, show max m r = m + ((i + 8) - (i + m)) by have := HR.out; omega]
              unfold extF
              rw [bytesV_app, ← HMX.out, ← HPART.out]
              exact h2
            obtain ⟨s1, s2, s3⟩ := HSU.out _ rfl
            obtain ⟨w4, hmu, hfl, hup⟩ := (HS.out.fl.below HB3.out).set (g := layJ f h p (j + 1)) (k := k) (by omega) (v := v2) (by rw [s2]; intro e0; have := congrArg List.length e0; rw [ext_len, HCL.out] at this; simp at this; omega) s3 s1 (by rw [s2]; exact own_base hrow3.2 (Nat.zero_le _)) fun b hb => .inr (Nat.le_trans HS.out.upd.size (own_lt hrow3.2 hb).1)
            have HL4 := Lib.hid (HS.out.put HB3.out hfl hup)
            clear hb3 hrow3 s1 s2 s3 hfl hup
            go_wp2_with fail
            refine wpMix_plain ?_
            go_wp2_with fail
            go_roundw
            case rel => exact ⟨j + 1, by rw [HI.out]; go_num, by have := HI.out; omega, HL4.out⟩
            case measure => simp [intOf]; omega
        · have hge : r ≤ m := by omega
          have hsame : layJ f h p (j + 1) = layJ f h p j := by
            obtain ⟨s1, s2, _⟩ := HSU.out _ rfl
            have e4 : (layJ f h p (j + 1)).c = (layJ f h p j).c := funext fun b => by
              by_cases hb : b = k
              · rw [hb, s2, ext_all (by rw [HCL.out, ← HMX.out]; omega)]
                have := layJ_at f h p j
                rw [HOFF.out, Int.toNat_natCast, ← HKO.out] at this
                rw [this, HX.out]
              · exact s1 b hb
            have e5 : layJ f h p (j + 1) = { layJ f h p j with c := (layJ f h p (j + 1)).c } := rfl
            rw [e5, e4]
          have HSAME := Lib.hid hsame
          clear hsame
          go_wp2_with fail
          go_roundw
          case rel => exact ⟨j + 1, by rw [HI.out]; go_num, by have := HI.out; omega, by rw [HSAME.out]; exact HS.out⟩
          case measure => simp [intOf]; omega
      -- ROUND END --
    · skip
      -- END --
      have hjn : p.length ≤ 8 * j := by rw [← HN.out, ← HI.out]; omega
      have hfl : FlM wr (fun b => N b ∨ w.heap.size ≤ b ∨ (Value.slice Ao h.opts.length co).ownBlock = some b) fb ab { f with c := (layF f h p).c } := (HS.out.fl.congr (g := { f with c := (layF f h p).c }) (layJ_end f h p hjn).symm rfl rfl rfl).mono fun b hb => by rcases hb with hb | hb; exact .inl hb; exact .inr (.inl hb)
      have HFL := Lib.hid hfl
      have hhd := HS.out.hd
      have r5 := ld_int (hhd.cell 5)
      have r5' : (Instr.loadAt 3 (.pointer (some ⟨w.heap.size, 5, none⟩))).run Try.prog wr = .ok (.int .i64 (off : Int)) wr := by rw [← HOFF.out]; exact r5
      have r12 := ld_bool hfl.cells.2.2
      have rl := hd_load hhd rfl
      have HHD := Lib.hid hhd
      have HUP := Lib.hid HS.out.upd
      have HOP := Lib.hid HS.out.op
      clear hjn hfl hhd r5
      by_cases h0 : off = 0
      · have b0 : ((off : Int) == 0) = true := by rw [beq_iff_eq]; omega
        have ho0 : h.off = 0 := by rw [HOFF.out]; omega
        have HO0 := Lib.hid ho0
        clear ho0
        cases hfs : f.first with
        | true =>
          have HFS := Lib.hid hfs
          rw [show ({ f with c := (layF f h p).c } : Fl).first = true from hfs] at r12
          clear hfs
          go_upto_region 10 with (fail)
          clear r12 rl r5'
          have r4 := ld_bool (HHD.out.cell 4)
          have r5 := ld_int (HHD.out.cell 5)
          have r5' : (Instr.loadAt 3 (.pointer (some ⟨w.heap.size, 5, none⟩))).run Try.prog wr = .ok (.int .i64 0) wr := by rw [← HO0.out]; exact r5
          have r13 := ld_int HFL.out.cells.2.1
          clear r5
          cases hmf : h.mf with
          | true =>
            rw [hmf] at r4
            go_wp2_with fail
            go_end0
            exact ⟨rfl, HFL.out.congr rfl (if_neg (fun x => by have := HFS.out.symm.trans x.2; cases this)) (show (f.first || decide (h.off = 0)) = f.first by rw [HFS.out]; rfl) (if_neg (fun x => by rw [hmf] at x; cases x.1)), HUP.out⟩
          | false =>
            rw [hmf] at r4
            by_cases hen : f.en < 0
            · have de : decide (f.en < 0) = true := decide_eq_true hen
              obtain ⟨st, fl3, up3⟩ := HFL.out.seten (n : Int)
              have FL3 := Lib.hid fl3
              have UP3 := Lib.hid (HUP.out.trans_ (up3.mono fun b e => .inl (.inl e)))
              clear fl3 up3
              go_wp2_with fail
              go_end0
              exact ⟨rfl, FL3.out.congr rfl (if_neg (fun x => by have := HFS.out.symm.trans x.2; cases this)) (show (f.first || decide (h.off = 0)) = f.first by rw [HFS.out]; rfl) ((if_pos ⟨hmf, hen⟩).trans (by rw [HO0.out, ← HN.out]; simp)), UP3.out⟩
            · have de : decide (f.en < 0) = false := decide_eq_false hen
              go_wp2_with fail
              go_end0
              exact ⟨rfl, HFL.out.congr rfl (if_neg (fun x => by have := HFS.out.symm.trans x.2; cases this)) (show (f.first || decide (h.off = 0)) = f.first by rw [HFS.out]; rfl) (if_neg (fun x => absurd x.2 (by omega))), HUP.out⟩
        | false =>
          have HFS := Lib.hid hfs
          rw [show ({ f with c := (layF f h p).c } : Fl).first = false from hfs] at r12
          clear hfs
          obtain ⟨st1, fl1, up1⟩ := HFL.out.sethd h (vo := .slice Ao h.opts.length co) HOP.out (fun b hb => .inr (.inr hb))
          obtain ⟨st2, fl2, up2⟩ := fl1.setfirst
          have hub := up1.trans_ up2
          have HFL2 := Lib.hid fl2
          have hne : w.heap.size ≠ fb := fun e => by have hb := HFL.out.blk; obtain ⟨vo1, a1, _⟩ := hb; have h2 := HHD.out; unfold Blk at a1 h2; rw [← e, h2] at a1; injection a1 with a1; injection a1 with _ a1; exact absurd a1 (by decide)
          have HHD2 := Lib.hid (HHD.out.upd hub hne)
          have HUP2 := Lib.hid (HUP.out.trans_ (hub.mono fun b e => .inl (.inl e)))
          obtain ⟨w1, hw1⟩ : ∃ w1, w1 = wr.setCells fb 1 (hdC h (.slice Ao h.opts.length co)).toList := ⟨_, rfl⟩
          rw [← hw1] at st1 st2 HFL2 HHD2 HUP2
          obtain ⟨w2, hw2⟩ : ∃ w2, w2 = w1.setCell ⟨fb, 12, none⟩ (.bool true) := ⟨_, rfl⟩
          rw [← hw2] at st2 HFL2 HHD2 HUP2
          clear hw1 hw2 fl1 fl2 up1 up2 hub hne
          unfold hdC at st1 rl
          go_upto_region 10 with (fail)
          clear r12 rl r5' st1 st2
          have r4 := ld_bool (HHD2.out.cell 4)
          have r5 := ld_int (HHD2.out.cell 5)
          have r5' : (Instr.loadAt 3 (.pointer (some ⟨w.heap.size, 5, none⟩))).run Try.prog w2 = .ok (.int .i64 0) w2 := by rw [← HO0.out]; exact r5
          have r13 := ld_int HFL2.out.cells.2.1
          clear r5
          cases hmf : h.mf with
          | true =>
            rw [hmf] at r4
            go_wp2_with fail
            go_end0
            exact ⟨rfl, HFL2.out.congr rfl (if_pos ⟨HO0.out, HFS.out⟩) (show (f.first || decide (h.off = 0)) = true by rw [HO0.out]; simp) (if_neg (fun x => by rw [hmf] at x; cases x.1)), HUP2.out⟩
          | false =>
            rw [hmf] at r4
            by_cases hen : f.en < 0
            · have de : decide (f.en < 0) = true := decide_eq_true hen
              obtain ⟨st, fl3, up3⟩ := HFL2.out.seten (n : Int)
              have FL3 := Lib.hid fl3
              have UP3 := Lib.hid (HUP2.out.trans_ (up3.mono fun b e => .inl (.inl e)))
              clear fl3 up3
              go_wp2_with fail
              go_end0
              exact ⟨rfl, FL3.out.congr rfl (if_pos ⟨HO0.out, HFS.out⟩) (show (f.first || decide (h.off = 0)) = true by rw [HO0.out]; simp) ((if_pos ⟨hmf, hen⟩).trans (by rw [HO0.out, ← HN.out]; simp)), UP3.out⟩
            · have de : decide (f.en < 0) = false := decide_eq_false hen
              go_wp2_with fail
              go_end0
              exact ⟨rfl, HFL2.out.congr rfl (if_pos ⟨HO0.out, HFS.out⟩) (show (f.first || decide (h.off = 0)) = true by rw [HO0.out]; simp) (if_neg (fun x => absurd x.2 (by omega))), HUP2.out⟩
      · have b0 : ((off : Int) == 0) = false := by rw [beq_eq_false_iff_ne]; omega
        have ho0 : ¬ h.off = 0 := by rw [HOFF.out]; omega
        have HO0 := Lib.hid ho0
        clear ho0
        go_upto_region 10 with (fail)
        clear r12 rl r5'
        have r4 := ld_bool (HHD.out.cell 4)
        have r5 := ld_int (HHD.out.cell 5)
        have r5' : (Instr.loadAt 3 (.pointer (some ⟨w.heap.size, 5, none⟩))).run Try.prog wr = .ok (.int .i64 (off : Int)) wr := by rw [← HOFF.out]; exact r5
        have r13 := ld_int HFL.out.cells.2.1
        clear r5
        cases hmf : h.mf with
        | true =>
          rw [hmf] at r4
          go_wp2_with fail
          go_end0
          exact ⟨rfl, HFL.out.congr rfl (if_neg (fun x => HO0.out x.1)) (show (f.first || decide (h.off = 0)) = f.first by rw [decide_eq_false HO0.out, Bool.or_false]) (if_neg (fun x => by rw [hmf] at x; cases x.1)), HUP.out⟩
        | false =>
          rw [hmf] at r4
          by_cases hen : f.en < 0
          · have de : decide (f.en < 0) = true := decide_eq_true hen
            obtain ⟨st, fl3, up3⟩ := HFL.out.seten (8 * (off : Int) + (n : Int))
            have FL3 := Lib.hid fl3
            have UP3 := Lib.hid (HUP.out.trans_ (up3.mono fun b e => .inl (.inl e)))
            clear fl3 up3
            go_wp2_with fail
            go_end0
            exact ⟨rfl, FL3.out.congr rfl (if_neg (fun x => HO0.out x.1)) (show (f.first || decide (h.off = 0)) = f.first by rw [decide_eq_false HO0.out, Bool.or_false]) ((if_pos ⟨hmf, hen⟩).trans (by rw [HOFF.out, ← HN.out]; simp)), UP3.out⟩
          · have de : decide (f.en < 0) = false := decide_eq_false hen
            go_wp2_with fail
            go_end0
            exact ⟨rfl, HFL.out.congr rfl (if_neg (fun x => HO0.out x.1)) (show (f.first || decide (h.off = 0)) = f.first by rw [decide_eq_false HO0.out, Bool.or_false]) (if_neg (fun x => absurd x.2 (by omega))), HUP.out⟩
end Go.Proofs.Ytihfihehiifdkaa
