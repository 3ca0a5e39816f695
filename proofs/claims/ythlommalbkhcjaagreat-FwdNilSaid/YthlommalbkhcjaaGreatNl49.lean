/- Layer 18: plain law of the chapter's rows. -/
import Derived.Test.YthlommalbkhcjaaGreatNl39
import Derived.Test.YthlommalbkhcjaaGreatNl48
import Derived.Test.YthlommalbkhcjaaGreatNl15
namespace Go.Proofs.YthlommalbkhcjaaGreat
open Go.RowKit Go.Sort Go.BigFrame
def sr1 : Rt := ⟨167772160, 8, true, true, 0, none, 0, 0, []⟩
def sr2 (A : Option Addr) : Rt := ⟨184549376, 8, false, true, 3, A, 1, 1, [(0, 3)]⟩
def sr3 (A : Option Addr) : Rt := ⟨201326592, 8, false, true, 3, A, 1, 1, [(1, 3)]⟩
def sT : TT := ((TT.nil.ins (bitsB 167772160 8) 1).ins (bitsB 184549376 8) 2).ins (bitsB 201326592 8) 3
theorem mk_simple (A B : Option Addr) : mkT vk 0 [sr1, sr2 A, sr3 B] .nil = some sT := by kernel_rfl
theorem sT_cov1 : sT.cov (bitsB 184549381 32) = [(bitsB 184549376 8, 2)] := by kernel_rfl
theorem sT_cov2 : sT.cov (bitsB 201326597 32) = [(bitsB 201326592 8, 3)] := by kernel_rfl
theorem sw2 (A B : Option Addr) : wkL [sr1, sr2 A, sr3 B] 2 = (3, List.replicate 256 0) := by kernel_rfl
theorem sw3 (A B : Option Addr) : wkL [sr1, sr2 A, sr3 B] 3 = (3, List.replicate 256 1) := by kernel_rfl
theorem sT_len : sT.list.length = 3 := by kernel_rfl
theorem rep_getD {n : Nat} (z : Int) {u : Nat} (h : u < n) : (List.replicate n z).getD u 0 = z := by
  simp [List.getD_eq_getElem?_getD, h]
theorem simple_pk (A B : Option Addr) : (∀ u, pkF (wkL [sr1, sr2 A, sr3 B]) sT 184549381 u = (3, 0)) ∧ ∀ u, pkF (wkL [sr1, sr2 A, sr3 B]) sT 201326597 u = (3, 1) := by
  constructor
  · intro u
    unfold pkF
    rw [sT_cov1, if_neg (by simp)]
    show ((wkL [sr1, sr2 A, sr3 B] 2).1, (wkL [sr1, sr2 A, sr3 B] 2).2.getD (u % 256) 0) = _
    rw [sw2, rep_getD _ (Nat.mod_lt _ (by decide))]
  · intro u
    unfold pkF
    rw [sT_cov2, if_neg (by simp)]
    show ((wkL [sr1, sr2 A, sr3 B] 3).1, (wkL [sr1, sr2 A, sr3 B] 3).2.getD (u % 256) 0) = _
    rw [sw3, rep_getD _ (Nat.mod_lt _ (by decide))]
theorem pk_pos (l : List Rt) (T : TT) : PkPos (pkF (wkL l) T) := fun a u _ => by
  unfold pkF
  split
  · exact Int.le_refl _
  · exact ((wkL_ok l _).at_port _).1
theorem ask_info : (Tryz.prog.info? 60).map (·.size) = some 4 := by kernel_rfl
def askV (Ar : Option Addr) (nr cr : Nat) (own : Int) (Am : Option Addr) (nm cm : Nat) (tok : Int) : Array Value := #[.slice Ar nr cr, .int .u32 own, .slice Am nm cm, .int .i64 tok]
def SmPost (w : World) (e : Ending) (w' : World) : Prop :=
  ∃ Ar Am A B, e = .returned (.agg (askV Ar 3 3 167772161 Am 2 2 5)) ∧ RtsM w' (fun k => w.heap.size ≤ k ∧ k < w'.heap.size) Ar 3 [sr1, sr2 A, sr3 B] ∧ Reads w' (fun k => w.heap.size ≤ k ∧ k < w'.heap.size) 1 Am 2 (izV [1500, 600]) ∧ Below w.heap.size w w'
theorem res_ask {w : World} {g : Nat} {cs : Array Value} {fn : Func} {p : Tmp} (hf : fn.results = #[.cell p 60]) (tmps : Array Value) (hp : tmps.getD p undef = .pointer (some ⟨g, 0, none⟩)) (h : Blk w g 60 cs) (hc : cs.size = 4) :
    (results fn tmps).run Tryz.prog w = .ok (.agg cs) w := by
  have hl := run_loadVar_mid (P := Tryz.prog) w g 0 60 cs.toList _ (blk_range h) Tryz.underlying60 rfl (by simpa [hc] using ask_info)
  have e1 : tmps[p]?.getD undef = .pointer (some ⟨g, 0, none⟩) := by simpa using hp
  simp only [results, hf]
  simp [e1, asAddr, hl]
theorem simple_mem {w w1 w2 w3 w4 : World} (h1 : w1 = w.alloc (.cells #[.int .i64 0, .int .i64 3] 110)) (h2 : w2 = w1.alloc (.cells #[.int .i64 1, .int .i64 3] 110))
    (h3 : w3 = w2.alloc (.cells #[.int .u32 167772160, .int .i64 8, .bool true, .bool true, .int .i64 0, .slice none 0 0, .int .u32 184549376, .int .i64 8, .bool false, .bool true, .int .i64 3, .slice (some ⟨w.heap.size, 0, none⟩) 1 1, .int .u32 201326592, .int .i64 8, .bool false, .bool true, .int .i64 3, .slice (some ⟨w.heap.size + 1, 0, none⟩) 1 1] 54))
    (h4 : w4 = w3.alloc (.cells #[.int .i64 1500, .int .i64 600] 3)) :
    RtsM w4 (fun k => w.heap.size ≤ k ∧ k < w4.heap.size) (some ⟨w.heap.size + 1 + 1, 0, none⟩) 3 [sr1, sr2 (some ⟨w.heap.size, 0, none⟩), sr3 (some ⟨w.heap.size + 1, 0, none⟩)] ∧ Reads w4 (fun k => w.heap.size ≤ k ∧ k < w4.heap.size) 1 (some ⟨w.heap.size + 1 + 1 + 1, 0, none⟩) 2 (izV [1500, 600]) ∧ Below w.heap.size w w4 := by
  have s1 : w1.heap.size = w.heap.size + 1 := by rw [h1]; simp
  have s2 : w2.heap.size = w1.heap.size + 1 := by rw [h2]; simp
  rw [← s1] at h3 ⊢
  rw [← s2]
  have s3 : w3.heap.size = w2.heap.size + 1 := by rw [h3]; simp
  rw [← s3]
  have s4 : w4.heap.size = w3.heap.size + 1 := by rw [h4]; simp
  have b1 : Below w.heap.size w w1 := by rw [h1]; exact (Below.refl _ _).alloc (Nat.le_refl _) _
  have b2 : Below w1.heap.size w1 w2 := by rw [h2]; exact (Below.refl _ _).alloc (Nat.le_refl _) _
  have b3 : Below w2.heap.size w2 w3 := by rw [h3]; exact (Below.refl _ _).alloc (Nat.le_refl _) _
  have b4 : Below w3.heap.size w3 w4 := by rw [h4]; exact (Below.refl _ _).alloc (Nat.le_refl _) _
  have b34 : Below w2.heap.size w2 w4 := b3.trans (b4.mono b3.size)
  have b24 : Below w1.heap.size w1 w4 := b2.trans (b34.mono b2.size)
  have r1 := reads_lit w 110 #[.int .i64 0, .int .i64 3] 1 2 (0, 0) rfl
  have r2 := reads_lit w1 110 #[.int .i64 1, .int .i64 3] 1 2 (0, 0) rfl
  have r3 := reads_lit w2 54 #[.int .u32 167772160, .int .i64 8, .bool true, .bool true, .int .i64 0, .slice none 0 0, .int .u32 184549376, .int .i64 8, .bool false, .bool true, .int .i64 3, .slice (some ⟨w.heap.size, 0, none⟩) 1 1, .int .u32 201326592, .int .i64 8, .bool false, .bool true, .int .i64 3, .slice (some ⟨w1.heap.size, 0, none⟩) 1 1] 3 6 (0, 0) rfl
  have r4 := reads_lit w3 3 #[.int .i64 1500, .int .i64 600] 2 1 (0, 0) rfl
  rw [← h1] at r1
  rw [← h2] at r2
  rw [← h3] at r3
  rw [← h4] at r4
  have q1 : Reads w4 (fun k => w.heap.size ≤ k ∧ k < w4.heap.size) 2 (some ⟨w.heap.size, 0, none⟩) 1 [.int .i64 0, .int .i64 3] :=
    (r1.keep (Same.ofBelow b24 fun k (e : k = w.heap.size) => by omega)).mono fun k (e : k = w.heap.size) => ⟨by omega, by omega⟩
  have q2 : Reads w4 (fun k => w.heap.size ≤ k ∧ k < w4.heap.size) 2 (some ⟨w1.heap.size, 0, none⟩) 1 [.int .i64 1, .int .i64 3] :=
    (r2.keep (Same.ofBelow b34 fun k (e : k = w1.heap.size) => by omega)).mono fun k (e : k = w1.heap.size) => ⟨by omega, by omega⟩
  refine ⟨⟨(r3.keep (Same.ofBelow b4 fun k (e : k = w2.heap.size) => by omega)).mono fun k (e : k = w2.heap.size) => ⟨by omega, by omega⟩, rfl, fun r hr => ?_⟩, r4.mono fun k (e : k = w3.heap.size) => ⟨by omega, by omega⟩, b1.trans (b24.mono b1.size)⟩
  rcases List.mem_cons.1 hr with rfl | hr
  · exact ⟨by decide, rfl, by decide, rfl, fun h => absurd h (by decide)⟩
  rcases List.mem_cons.1 hr with rfl | hr
  · exact ⟨show 184549376 < 2 ^ 32 by decide, rfl, show 1 ≤ 1000000 by decide, q1⟩
  rcases List.mem_cons.1 hr with rfl | hr
  · exact ⟨show 201326592 < 2 ^ 32 by decide, rfl, show 1 ≤ 1000000 by decide, q2⟩
  · simp at hr
set_option maxRecDepth 100000 in
set_option maxHeartbeats 4000000 in
attribute [-go_sem] Instr.storeAt Instr.loadAt in
theorem simple_any (w : World) : Calls Tryz.prog 36 #[] w (SmPost w) := by
  obtain ⟨W, hW⟩ : ∃ Z, Z = w.alloc (.cells #[.slice none 0 0, .int .u32 0, .slice none 0 0, .int .i64 0] 60) := ⟨_, rfl⟩
  have hbW : Below w.heap.size w W := by rw [hW]; exact (Below.refl _ _).alloc (Nat.le_refl _) _
  have hkW : Blk W w.heap.size 60 #[.slice none 0 0, .int .u32 0, .slice none 0 0, .int .i64 0] := by rw [hW]; exact Blk.new w _ _
  obtain ⟨w1, h1⟩ : ∃ Z, Z = W.alloc (.cells #[.int .i64 0, .int .i64 3] 110) := ⟨_, rfl⟩
  obtain ⟨w2, h2⟩ : ∃ Z, Z = w1.alloc (.cells #[.int .i64 1, .int .i64 3] 110) := ⟨_, rfl⟩
  obtain ⟨w3, h3⟩ : ∃ Z, Z = w2.alloc (.cells #[.int .u32 167772160, .int .i64 8, .bool true, .bool true, .int .i64 0, .slice none 0 0, .int .u32 184549376, .int .i64 8, .bool false, .bool true, .int .i64 3, .slice (some ⟨W.heap.size, 0, none⟩) 1 1, .int .u32 201326592, .int .i64 8, .bool false, .bool true, .int .i64 3, .slice (some ⟨W.heap.size + 1, 0, none⟩) 1 1] 54) := ⟨_, rfl⟩
  obtain ⟨w4, h4⟩ : ∃ Z, Z = w3.alloc (.cells #[.int .i64 1500, .int .i64 600] 3) := ⟨_, rfl⟩
  obtain ⟨m1, m2, m3⟩ := simple_mem h1 h2 h3 h4
  have hk4 := hkW.below m3 hkW.lt
  obtain ⟨cs, hcs⟩ : ∃ cs, cs = askV (some ⟨W.heap.size + 1 + 1, 0, none⟩) 3 3 167772161 (some ⟨W.heap.size + 1 + 1 + 1, 0, none⟩) 2 2 5 := ⟨_, rfl⟩
  have hc4 : cs.size = 4 := by rw [hcs]; rfl
  have hst : (Instr.storeAt 60 (.pointer (some ⟨w.heap.size, 0, none⟩)) (.agg cs)).run Tryz.prog w4 = .ok () (w4.setCells w.heap.size 0 cs.toList) := stc_store ask_info hk4 rfl hc4 (by rw [hcs]; simp [askV, Value.oneCell'])
  have hk5 : Blk (w4.setCells w.heap.size 0 cs.toList) w.heap.size 60 cs := blk_setCells hk4 (by rw [hc4]; rfl)
  have hup : Upd (fun k => k = w.heap.size) w4 (w4.setCells w.heap.size 0 cs.toList) := Upd.setCells _ _ _ (Upd.refl _ _) (.inl rfl)
  have hsz : W.heap.size = w.heap.size + 1 := by rw [hW]; simp
  have hsm := hup.same (I := fun k => W.heap.size ≤ k ∧ k < w4.heap.size) fun k (e : k = w.heap.size) hI => by omega
  have hfin : SmPost w (.returned (.agg cs)) (w4.setCells w.heap.size 0 cs.toList) := by
    refine ⟨some ⟨W.heap.size + 1 + 1, 0, none⟩, some ⟨W.heap.size + 1 + 1 + 1, 0, none⟩, _, _, by rw [hcs], (m1.keep hsm).mono fun k hk => ⟨by omega, Nat.lt_of_lt_of_le hk.2 hup.size⟩, (m2.keep hsm).mono fun k hk => ⟨by omega, Nat.lt_of_lt_of_le hk.2 hup.size⟩, ?_⟩
    exact (hbW.trans (m3.mono hbW.size)).trans (hup.below (fun k (e : k = w.heap.size) => by omega) (Nat.le_trans hbW.size m3.size))
  rw [h4, h3, h2, h1] at hst
  rw [hcs] at hst
  unfold askV at hst
  have HK := Lib.hid hk5
  have HF := Lib.hid hfin
  have HALL := Lib.hid (⟨h1, h2, h3, h4, hcs, hc4⟩ : _ ∧ _ ∧ _ ∧ _ ∧ _ ∧ _)
  obtain ⟨g, hg⟩ : ∃ g, g = w.heap.size := ⟨_, rfl⟩
  rw [← hg] at hst HK HF
  have HG := Lib.hid hg
  have HW := Lib.hid hW
  clear hk5 hfin hW h1 h2 h3 h4 hcs hup hsz hsm m1 m2 m3 hk4 hbW hkW hc4 hg
  go_enter Tryz.func36, Tryz.ntmps36
  go_upto_region 1 with (fail)
  rw [← HW.out, ← HG.out]
  go_wp2_with fail
  obtain ⟨h1, h2, h3, h4, hcs, hc4⟩ := HALL.out
  have hk := HK.out
  have hf := HF.out
  rw [h4, h3, h2, h1, hcs] at hk hf
  rw [hcs] at hc4
  refine bodyPost_ret_by (res_ask rfl _ rfl hk hc4) rfl ?_
  exact hf
end Go.Proofs.YthlommalbkhcjaaGreat
namespace Go.Proofs.YthlommalbkhcjaaGreat
open Go.RowKit Go.Sort Go.BigFrame
structure LdM (dc : Int → Array Value) (w wx : World) (fb bb : Nat) (T : TT) (tok : Int) : Prop where
  ex : ∃ (M : Nat → Prop) (tb : Nat) (lim : Int), FbM dc wx M fb tb lim T ∧ ¬ M bb ∧ fb ≠ bb
  bk : IsBk wx bb 64 1 tok 0
  bb : w.heap.size ≤ bb
  bl : Below w.heap.size w wx
def LdPost (dc : Int → Array Value) (w : World) (R : Option TT) (tok : Int) (e : Ending) (w' : World) : Prop := match R with
  | some T => ∃ fb bb, e = .returned (.tuple #[.pointer (some ⟨fb, 0, none⟩), .pointer (some ⟨bb, 0, none⟩), .bool true]) ∧ LdM dc w w' fb bb T tok
  | none => e = .returned (.tuple #[.pointer none, .pointer none, .bool false]) ∧ Below w.heap.size w w'
set_option maxRecDepth 100000 in
set_option maxHeartbeats 4000000 in
theorem laid18_any {dc : Int → Array Value} (hd : Dc dc) (vf : Nat → Int) (A : Option Addr) (n c : Nat) (l : List Rt) (own : Nat) (Am : Option Addr) (nm cm : Nat) (tok : Int) (w : World) (h : RtsM w (fun k => k < w.heap.size) A n l) (hn : n ≤ 1024) (hv : ∀ i r, l[i]? = some r → mayR r = true → dc (vf i) = wayC (wayR r)) (htk : 0 ≤ tok ∧ tok ≤ 64) :
    Calls Tryz.prog 27 #[.agg #[.slice A n c, .int .u32 (own : Int), .slice Am nm cm, .int .i64 tok]] w (LdPost dc w (mkT vf 0 l .nil) tok) := by
  obtain ⟨W, hW⟩ : ∃ Z, Z = w.alloc (.cells #[.slice A n c, .int .u32 (own : Int), .slice Am nm cm, .int .i64 tok] 60) := ⟨_, rfl⟩
  have hbW : Below w.heap.size w W := by rw [hW]; exact (Below.refl _ _).alloc (Nat.le_refl _) _
  have hkW : Blk W w.heap.size 60 #[.slice A n c, .int .u32 (own : Int), .slice Am nm cm, .int .i64 tok] := by rw [hW]; exact Blk.new w _ _
  have hMk := fmake_any hd vf A n c l W ((h.keep (Same.ofBelow hbW fun k hk => hk)).mono fun k hk => Nat.lt_of_lt_of_le hk hbW.size) hn hv
  obtain ⟨R, hR⟩ : ∃ R, R = mkT vf 0 l .nil := ⟨_, rfl⟩
  rw [← hR] at hMk ⊢
  obtain ⟨g, hg⟩ : ∃ g, g = w.heap.size := ⟨_, rfl⟩
  rw [← hg] at hkW
  have HMK := Lib.hid hMk
  have HW := Lib.hid hW
  have HG := Lib.hid hg
  have HBW := Lib.hid hbW
  have HKW := Lib.hid hkW
  have HTK := Lib.hid htk
  clear hMk hW hg hbW hkW htk h hn hv hR hd
  have q0 := (show W.cell? ⟨g, 0, none⟩ = some (.slice A n c) from HKW.out.cell 0)
  go_enter Tryz.func27, Tryz.ntmps27
  go_upto_region 1 with (fail)
  rw [← HW.out, ← HG.out]
  cases R with
  | none =>
    go_wp2_with fail
    refine HMK.out.mono ?_
    rintro e w1 ⟨rfl, hb1⟩
    have HB1 := Lib.hid (HBW.out.trans (hb1.mono HBW.out.size))
    clear hb1 q0
    go_wp2_with fail
    refine (newbk_yes 64 1 w1 (by decide) (by decide) (by decide) (by decide)).mono ?_
    rintro e w2 ⟨rfl, hw2⟩
    have HB2 := Lib.hid (show Below w.heap.size w w2 by rw [hw2]; exact HB1.out.alloc HB1.out.size _)
    clear hw2
    go_wp2_with fail
    go_ret3
    exact ⟨rfl, HB2.out⟩
  | some T =>
    go_wp2_with fail
    refine HMK.out.mono ?_
    rintro e w1 ⟨fb, rfl, hk1⟩
    have hb1 := hk1.below
    obtain ⟨M, tb, hf1, hM1, h31, h41⟩ := hk1
    have HF1 := Lib.hid hf1
    have HB1 := Lib.hid (HBW.out.trans (hb1.mono HBW.out.size))
    have HK1 := Lib.hid (HKW.out.below hb1 HKW.out.lt)
    clear hb1 q0 hf1 hM1 h31 h41
    go_wp2_with fail
    refine (newbk_yes 64 1 w1 (by decide) (by decide) (by decide) (by decide)).mono ?_
    rintro e w2 ⟨rfl, hw2⟩
    obtain ⟨bb, hbb⟩ : ∃ b, b = w1.heap.size := ⟨_, rfl⟩
    rw [← hbb]
    have hb2 : Below w1.heap.size w1 w2 := by rw [hw2]; exact (Below.refl _ _).alloc (Nat.le_refl _) _
    have HBK := Lib.hid (show IsBk w2 bb 64 1 64 0 by rw [hw2, hbb]; exact Blk.new w1 _ _)
    have HK2 := Lib.hid (HK1.out.below hb2 HK1.out.lt)
    have HF2 := Lib.hid (HF1.out.below hb2)
    have HNE := Lib.hid (show ¬ M bb ∧ fb ≠ bb ∧ g ≠ bb by
      refine ⟨fun hm => ?_, fun e => ?_, fun e => ?_⟩
      · have := HF1.out.t.lt bb hm; omega
      · have := HF1.out.f.lt; omega
      · have := HK1.out.lt; omega)
    have HB2 := Lib.hid (HB1.out.trans (hb2.mono HB1.out.size))
    have HLE := Lib.hid (show w.heap.size ≤ bb by rw [hbb]; exact HB1.out.size)
    clear hw2 hb2 hbb HF1 HK1
    have q3 := (show w2.cell? ⟨g, 3, none⟩ = some (.int .i64 tok) from HK2.out.cell 3)
    go_wp2_with fail
    go_loopw [9] (fun i wr => ∃ k : Int, tok ≤ k ∧ k ≤ 64 ∧ i = .int .i64 k ∧ IsBk wr bb 64 1 (64 + tok - k) 0 ∧ Upd (only bb) w2 wr) (fun i _ => (64 - intOf i).toNat)
    case atStart => exact ⟨tok, Int.le_refl _, HTK.out.2, rfl, by rw [show 64 + tok - tok = 64 by omega]; exact HBK.out, Upd.refl _ _⟩
    case round =>
      obtain ⟨k, hk1, hk2, rfl, hbk, hup⟩ := hrel
      have htk := HTK.out
      by_cases hlt : k < 64
      · have d1 : decide (k < 64) = true := decide_eq_true hlt
        have hT := btake_any bb 64 1 (64 + tok - k) 0 wr hbk ⟨by decide, by decide, by decide, by decide, by omega, by omega, by decide, by decide⟩
        have e1 : takeN (64 + tok - k) = 64 + tok - (k + 1) := by unfold takeN; rw [if_pos (by omega)]; omega
        rw [e1] at hT
        have HT := Lib.hid hT
        have HUP := Lib.hid hup
        have HK := Lib.hid (⟨hk1, hk2, hlt⟩ : tok ≤ k ∧ k ≤ 64 ∧ k < 64)
        have c0 : 0 ≤ k := by omega
        have c1 : k < 64 := hlt
        clear hT hup hbk e1 hlt hk1 hk2 htk
        go_wp2_with fail
        refine HT.out.mono ?_
        rintro e wy ⟨rfl, hb3, hu3⟩
        have HB3 := Lib.hid hb3
        have HU3 := Lib.hid (HUP.out.trans_ hu3)
        clear hb3 hu3
        go_wp2_with fail
        go_roundw
        case rel => exact ⟨k + 1, by have := HK.out; omega, by have := HK.out; omega, rfl, HB3.out, HU3.out⟩
        case measure => simp [intOf]; have := HK.out; omega
      · obtain rfl : k = 64 := by omega
        have HB3 := Lib.hid hbk
        have HU3 := Lib.hid hup
        clear hbk hup hlt hk1 hk2 htk
        go_wp2_with fail
        go_ret3
        refine ⟨fb, bb, rfl, ⟨M, tb, _, ⟨HF2.out.f.upd HU3.out HNE.out.2.1, HF2.out.t.keep ⟨HU3.out.size, fun j hm hj => HU3.out.block j hj fun (e : j = bb) => HNE.out.1 (e ▸ hm)⟩, HF2.out.ne⟩, HNE.out.1, HNE.out.2.1⟩, ?_, HLE.out, ?_⟩
        · have := HB3.out
          rwa [show 64 + tok - 64 = tok by omega] at this
        · exact below_upd HB2.out HU3.out (fun j (e : j = bb) => by rw [e]; exact HLE.out) HB2.out.size
end Go.Proofs.YthlommalbkhcjaaGreat
namespace Go.Proofs.YthlommalbkhcjaaGreat
def kh (t : Nat) : Hd := { hd0 with ttl := t, proto := 17, src := 184549381, dst := 201326597 }
theorem kh_ok {t : Nat} (h : t < 256) : (kh t).ok := ⟨by show 0 < 256; decide, by show 0 < 65536; decide, h, by show 17 < 256; decide, by show 184549381 < 2 ^ 32; decide, by show 201326597 < 2 ^ 32; decide⟩
theorem kh_fits (t : Nat) {p : By} (hp : p.length ≤ 65515) : fitsH (kh t) p = true := by
  unfold fitsH mayH kh hd0
  simp [goodF, steps, stepsF]
  omega
theorem kh_prs {t : Nat} (h : t < 256) {p : By} (hp : p.length ≤ 65515) : prsF (bytesF (kh t) p) = (kh t, p, 0) := by
  have := read_back (kh_ok h) (kh_fits t hp) []
  rwa [List.append_nil] at this
theorem kh_len (t : Nat) (p : By) : (bytesF (kh t) p).length = 20 + p.length := by rw [bytesF_len]; rfl
variable {pk : Nat → Nat → Int × Int}
theorem kn_judge {t : Nat} (h : t < 256) {p : By} (hp : p.length ≤ 65515) (hd : ∀ u, pk 201326597 u = (3, 1)) (tok : Int) :
    fwJudge pk [1500, 600] 167772161 tok (bytesF (kh t) p) = fwOn pk [1500, 600] 167772161 tok (kh t) 3 1 (bytesF (kh t) p) ft0 := by
  have hr := kh_prs h hp
  have hl := kh_len t p
  obtain ⟨x, hx⟩ : ∃ x, x = bytesF (kh t) p := ⟨_, rfl⟩
  rw [← hx] at hr hl ⊢
  have ht : x.take (20 + (kh t).opts.length + p.length) = x := List.take_of_length_le (by show x.length ≤ 20 + 0 + p.length; omega)
  unfold fwJudge
  rw [hr]
  simp only
  rw [ht, if_neg (by decide), if_neg (show ¬ oddF (kh t).src = true from by show ¬ oddF 184549381 = true; decide), if_neg (show ¬ oddF (kh t).dst = true from by show ¬ oddF 201326597 = true; decide), if_neg (show ¬ routedF (kh t).opts = true from by show ¬ routedF [] = true; decide)]
  have hw : fwWay pk ([1500, 600] : List Int).length x (kh t).dst = (3, 1) := by
    unfold fwWay
    show (if (pk 201326597 _).1 = 3 ∧ ((2 : Nat) : Int) ≤ (pk 201326597 _).2 then _ else pk 201326597 _) = _
    rw [hd]
    rfl
  rw [hw]
  rfl
theorem known_x (hs : ∀ u, pk 184549381 u = (3, 0)) (hd : ∀ u, pk 201326597 u = (3, 1)) {p : By} (hp : p.length = 7) :
    ∃ y, fwJudge pk [1500, 600] 167772161 5 (bytesF (kh 1) p) = (⟨0, 3, [], [(0, y)]⟩, 4) := by
  rw [kn_judge (by decide) (by omega) hd]
  have hr := kh_prs (t := 1) (by decide) (p := p) (by omega)
  obtain ⟨x, hx⟩ : ∃ x, x = bytesF (kh 1) p := ⟨_, rfl⟩
  rw [← hx] at hr ⊢
  have hm : emayF x = true := by
    unfold emayF
    rw [hr]
    simp only
    unfold emayH
    rfl
  have he : errF ((3 : Nat) : Int) x 167772161 0 = (bytesF (errH 167772161 184549381) (icB (errM 3 0 (quoteF x).1)), 0) := by
    unfold errF
    rw [if_neg (by decide), if_neg (by rw [hr]; simp), if_neg (by rw [hm]; decide), hr]
    rfl
  have hq := quote_len x
  have hf := err_fits 3 x 167772161 0
  rw [hr] at hf
  have hok := errH_ok (fr := 167772161) (dt := 184549381) (by decide) (by decide)
  have hy := read_back hok hf []
  have hyl := bytesF_len (errH 167772161 184549381) (icB (errM 3 0 (quoteF x).1))
  rw [List.append_nil] at hy
  rw [icB_len] at hyl
  have hyl2 : (icB (errM 3 0 (quoteF x).1)).length = 8 + (quoteF x).1.length := by rw [icB_len]; rfl
  obtain ⟨y, hy0⟩ : ∃ y, y = bytesF (errH 167772161 184549381) (icB (errM 3 0 (quoteF x).1)) := ⟨_, rfl⟩
  change prsF (bytesF (errH 167772161 184549381) (icB (errM 3 0 (quoteF x).1))) = _ at hy
  rw [← hy0] at hy hyl he
  have hyl : y.length = 20 + 0 + (8 + (quoteF x).1.length) := hyl
  refine ⟨y, ?_⟩
  unfold fwOn
  rw [if_pos (by decide)]
  unfold fwTell
  rw [if_neg (by rw [hm]; decide), if_neg (by decide), he]
  simp only
  have hw : fwWay pk ([1500, 600] : List Int).length y (prsF y).1.dst = (3, 0) := by
    unfold fwWay
    rw [hy]
    show (if (pk 184549381 _).1 = 3 ∧ ((2 : Nat) : Int) ≤ (pk 184549381 _).2 then _ else pk 184549381 _) = _
    rw [hs]
    rfl
  have hc : cutF y 1500 = ([y], 0) := by
    have hfit : fitsF y 1500 = (true, 0) := by
      unfold fitsF
      rw [if_neg (by decide), hy]
      simp only
      rw [if_neg (by decide), decide_eq_true]
      rw [hyl2]
      show ((20 + 0 + (8 + (quoteF x).1.length) : Nat) : Int) ≤ 1500
      omega
    unfold cutF
    rw [hfit, if_neg (by decide), if_pos rfl, hy]
    simp only
    rw [List.take_of_length_le (by rw [hyl2, hyl]; exact Nat.le_refl _)]
  have hsend : fwSend pk [1500, 600] y { ft0 with err := 3 } = ⟨0, 3, [], [(0, y)]⟩ := by
    unfold fwSend
    rw [hw, if_neg (by decide), if_pos rfl]
    unfold fwOut
    simp only [show ([1500, 600] : List Int).getD (Int.toNat 0) 0 = 1500 from rfl, hc]
    rfl
  rw [hsend]
  rfl
theorem kn_pcs (t : Nat) : pcsF (kh t) 1380 600 1380 0 = [(0, { kh t with mf := true }, 576), (576, { kh t with off := 72, mf := true }, 576), (1152, { kh t with off := 144 }, 228)] := by kernel_rfl
theorem known_y (hd : ∀ u, pk 201326597 u = (3, 1)) {p : By} (hp : p.length = 1380) :
    ∃ a b c, fwJudge pk [1500, 600] 167772161 4 (bytesF (kh 9) p) = (⟨0, 0, [], [(1, a), (1, b), (1, c)]⟩, 4) ∧ a.length = 596 := by
  rw [kn_judge (by decide) (by omega) hd]
  have hl := less_back (kh_ok (t := 9) (by decide)) (kh_fits 9 (p := p) (by omega))
  rw [if_neg (by decide)] at hl
  have h8 : lessH (kh 9) = kh 8 := rfl
  rw [h8] at hl
  have hr := kh_prs (t := 8) (by decide) (p := p) (by omega)
  obtain ⟨x, hx⟩ : ∃ x, x = bytesF (kh 8) p := ⟨_, rfl⟩
  rw [← hx] at hr hl
  have h66 : Int.toNat 600 = 600 := rfl
  have hf : fitsF x 600 = (false, 0) := by
    unfold fitsF
    rw [if_neg (by decide), hr]
    simp only
    rw [if_neg (by decide), hp, decide_eq_false]
    show ¬ ((20 + 0 + 1380 : Nat) : Int) ≤ 600
    omega
  have hc : cutF x 600 = ((pcsF (kh 8) 1380 600 1380 0).map (pbF p), 0) := by
    unfold cutF
    rw [hf, if_neg (by decide), if_neg (by decide), hr]
    simp only
    rw [hp]
    rw [h66, kn_pcs, if_neg (by decide), if_neg]
    simp [kh, hd0]
  rw [kn_pcs] at hc
  refine ⟨pbF p (0, { kh 8 with mf := true }, 576), pbF p (576, { kh 8 with off := 72, mf := true }, 576), pbF p (1152, { kh 8 with off := 144 }, 228), ?_, ?_⟩
  · unfold fwOn
    rw [if_neg (by decide), if_neg (by decide), hl, if_neg (by intro h; exact absurd h.2 (by decide))]
    unfold fwOut
    simp only [show ([1500, 600] : List Int).getD (Int.toNat 1) 0 = 600 from rfl, hc]
    rfl
  · unfold pbF
    rw [bytesF_len]
    simp only
    rw [show partF p 0 (0 + 576) = p.take 576 from by unfold partF; simp, List.length_take, hp]
    rfl
end Go.Proofs.YthlommalbkhcjaaGreat
