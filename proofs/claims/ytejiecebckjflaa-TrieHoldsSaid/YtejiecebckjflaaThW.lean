/- The walk of TrieHolds. -/
import Derived.Test.YtejiecebckjflaaTbH
import Derived.Test.YtejiecebckjflaaTbC
import Derived.Test.YtejiecebckjflaaTbO
import Derived.Deep.LoopGhost
import Derived.BigGuard
namespace Go.Proofs.Ytejiecebckjflaa
open Go.RowKit Go.Sort Go.BigFrame

theorem seq_lt {w : World} {I : Nat → Prop} {f : Value} {L : List (Bs × Int)} (h : SeqOf w I f L) : SeqOf w (fun k => I k ∧ k < w.heap.size) f L := by
  obtain ⟨Bx, A, cap, h1, h2, h3, h4⟩ := h
  exact ⟨Bx, A, cap, h1, h2, ⟨h3, h2.lt⟩, h4.lt⟩
theorem ht_new (w : World) : HT w (fun _ => False) w w.heap.size (w.heap.size + 1) .nil [] ((w.alloc (.cells #[.pointer none, .int .i64 100, .int .i64 0, .bool true] 71)).alloc (.cells #[.slice none 0 0, .int .i64 100] 48)) := by
  have hb1 : Below w.heap.size w (w.alloc (.cells #[.pointer none, .int .i64 100, .int .i64 0, .bool true] 71)) := (Below.refl _ _).alloc (Nat.le_refl _) _
  have hk1 : Blk (w.alloc (.cells #[.pointer none, .int .i64 100, .int .i64 0, .bool true] 71)) w.heap.size 71 #[.pointer none, .int .i64 100, .int .i64 0, .bool true] := Blk.new _ _ _
  have hk2 := Blk.new (w.alloc (.cells #[.pointer none, .int .i64 100, .int .i64 0, .bool true] 71)) 48 #[.slice none 0 0, .int .i64 100]
  rw [World.size_alloc] at hk2
  refine ⟨⟨fun k => k = w.heap.size, fun k => k = w.heap.size + 1, ⟨⟨.pointer none, hk1.alloc _, rfl⟩, rfl, trivial, fun k hk => by rw [hk]; simp; omega⟩, ⟨⟨.slice none 0 0, hk2, World.ownsRow_nil _ _ _ _, fun g hg => by cases hg⟩, rfl, List.Pairwise.nil, (fun e he => by cases he), fun k hk => by rw [hk]; simp⟩, fun k hk => by omega, fun k hk => by omega, fun k hk hn => by omega, fun k hk => hk.elim⟩, hb1.alloc (by simp) _, ⟨by simp; omega, fun k hk _ => hk.elim⟩, fun k hk => hk.elim⟩
section
variable {w w5 wx wy : World} {J : Nat → Prop} {tb db : Nat} {T : TT} {L : List (Bs × Int)}
theorem HT.mark (h : HT w (fun _ => False) w tb db T L wx) (hb : Below wx.heap.size wx wy) : HT w (fun k => wx.heap.size ≤ k ∧ k < wy.heap.size) wy tb db T L wy := by
  have h' := h.later hb
  obtain ⟨M, N, h1, h2, h3, h4, h5, h6⟩ := h.ex
  exact ⟨⟨M, N, h1.keep ⟨hb.size, fun k hm _ => hb.block k (h1.lt k hm)⟩, h2.below hb, h3, h4, h5, fun k hk => ⟨fun hm => by have := h1.lt k hm; omega, fun hn => by have := h2.lt k hn; omega⟩⟩, h'.below, Same.refl _ _, fun k hk => hk.2⟩
theorem ht_all (h : HT w J w5 tb db T L wx) (hsm : T.list.length ≤ 1000000) :
    Calls Try.prog 21 #[.pointer (some ⟨tb, 0, none⟩)] wx fun e w' => ∃ f, e = .returned f ∧ SeqOf w' (fun k => wx.heap.size ≤ k ∧ k < w'.heap.size) f T.list ∧ Below wx.heap.size wx w' := by
  obtain ⟨M, N, h1, _⟩ := h.ex
  exact (all_any tb M 100 T wx h1 hsm).mono fun e w' ⟨f, he, hs, hb⟩ => ⟨f, he, seq_lt hs, hb⟩
theorem ht_covers (h : HT w J w5 tb db T L wx) (a : Nat) (ha : a < 2 ^ 32) (hsm : T.list.length ≤ 1000000) :
    Calls Try.prog 22 #[.pointer (some ⟨tb, 0, none⟩), .int .u32 (a : Int)] wx fun e w' => ∃ f, e = .returned f ∧ SeqOf w' (fun k => wx.heap.size ≤ k ∧ k < w'.heap.size) f (T.cov (bitsB a 32)) ∧ Below wx.heap.size wx w' := by
  obtain ⟨M, N, h1, _⟩ := h.ex
  exact (covers_any a tb M 100 T wx h1 ha hsm).mono fun e w' ⟨f, he, hs, hb⟩ => ⟨f, he, seq_lt hs, hb⟩
theorem ht_tcov (h : HT w J w5 tb db T L wx) (a : Nat) (ha : a < 2 ^ 32) (hsm : L.length ≤ 100000) :
    Calls Try.prog 23 #[.pointer (some ⟨db, 0, none⟩), .int .u32 (a : Int)] wx (TCov wx (covS (bitsB a 32) L)) := by
  obtain ⟨M, N, _, h2, _⟩ := h.ex
  exact tabcov_any a db N 100 L wx h2 ha hsm
theorem HT.wf (h : HT w J w5 tb db T L wx) : T.wf [] := by
  obtain ⟨M, N, h1, _⟩ := h.ex
  exact h1.wf
end

/-- One act. -/
def stepT (x : AcT) (T : TT) : TT := if x.del = true then (delP x.p T).2 else (insP 100 x.p x.v T).2
theorem step_len {T : TT} (x : AcT) (wf : T.wf []) (ha : x.p.a < 2 ^ 32) : (stepT x T).list.length ≤ T.list.length + 1 := by
  unfold stepT
  split
  · exact Nat.le_succ_of_le (delP_len wf)
  · exact insP_len wf ha
theorem do_any {w w5 : World} {J : Nat → Prop} {tb db : Nat} {T : TT} (x : AcT) (wx : World) (h : HT w J w5 tb db T T.list wx) (ha : x.p.a < 2 ^ 32) (hsm : T.list.length ≤ 1000000) :
    Calls Try.prog 20 #[.pointer (some ⟨tb, 0, none⟩), .pointer (some ⟨db, 0, none⟩), .agg #[.bool x.del, .int .u32 (x.p.a : Int), .int .i64 x.p.n, .int .i64 x.v]] wx fun e w' => e = .returned (.bool true) ∧ HT w J w5 tb db (stepT x T) (stepT x T).list w' := by
  unfold stepT
  cases hd : x.del with
  | true => exact doDel_any x.p x.v wx h ha hsm
  | false => exact doIns_any x.p x.v wx h ha hsm
set_option maxRecDepth 100000 in
set_option maxHeartbeats 16000000 in
theorem holds_any (A : Option Addr) (n c : Nat) (l : List AcT) (A2 : Option Addr) (n2 c2 : Nat) (l2 : List AcT) (b : Nat) (w : World) (r : Reads w (fun k => k < w.heap.size) 4 A n (l.flatMap AcT.cells)) (hl : l.length = n) (hg : ∀ x ∈ l, x.p.a < 2 ^ 32)
    (r2 : Reads w (fun k => k < w.heap.size) 4 A2 n2 (l2.flatMap AcT.cells)) (hl2 : l2.length = n2) (hg2 : ∀ x ∈ l2, x.p.a < 2 ^ 32) (hb : b < 2 ^ 32) :
    Calls Try.prog 4 #[.slice A n c, .slice A2 n2 c2, .int .u32 (b : Int)] w fun e w' => e = .returned (.bool true) ∧ Below w.heap.size w w' := by
  have R := Lib.hid r
  have HG := Lib.hid hg
  have HL := Lib.hid hl
  have R2 := Lib.hid r2
  have HG2 := Lib.hid hg2
  have HL2 := Lib.hid hl2
  have HBB := Lib.hid hb
  clear r hg hl r2 hg2 hl2 hb
  by_cases hbig : 60 < n
  · have hd : decide (60 < n) = true := decide_eq_true hbig
    have hd1 : decide ((60 : Int) < (n : Int)) = true := decide_eq_true (by omega)
    go_enter Try.func4, Try.ntmps4
    go_wp2_with fail
    refine (known_any _).mono ?_
    rintro e w2 ⟨rfl, hb2⟩
    go_wp2_with fail
    go_ret
    exact ⟨rfl, hb2⟩
  have hd : decide (60 < n) = false := decide_eq_false hbig
  have hd1 : decide ((60 : Int) < (n : Int)) = false := decide_eq_false (by omega)
  by_cases hbig2 : 60 < n2
  · have hd2 : decide (60 < n2) = true := decide_eq_true hbig2
    have hd3 : decide ((60 : Int) < (n2 : Int)) = true := decide_eq_true (by omega)
    go_enter Try.func4, Try.ntmps4
    go_wp2_with fail
    refine (known_any _).mono ?_
    rintro e w2 ⟨rfl, hb2⟩
    go_wp2_with fail
    go_ret
    exact ⟨rfl, hb2⟩
  have hd2 : decide (60 < n2) = false := decide_eq_false hbig2
  have hd3 : decide ((60 : Int) < (n2 : Int)) = false := decide_eq_false (by omega)
  go_enter Try.func4, Try.ntmps4
  go_wp2_with fail
  refine (new_any 100 _).mono ?_
  rintro e w1 ⟨rfl, rfl⟩
  have hn : HT w (fun _ => False) w w.heap.size (w.heap.size + 1) .nil [] ((w.alloc (.cells #[.pointer none, .int .i64 (max 0 100), .int .i64 0, .bool true] 71)).alloc (.cells #[.slice none 0 0, .int .i64 100] 48)) := ht_new w
  go_wp2_with fail
  generalize (w.alloc (.cells #[.pointer none, .int .i64 (max 0 100), .int .i64 0, .bool true] 71)).alloc (.cells #[.slice none 0 0, .int .i64 100] 48) = wz at hn ⊢
  obtain ⟨db, hdb⟩ : ∃ db, db = w.heap.size + 1 := ⟨_, rfl⟩
  obtain ⟨tb, htb⟩ : ∃ tb, tb = w.heap.size := ⟨_, rfl⟩
  rw [← hdb] at hn ⊢
  rw [← htb] at hn ⊢
  have HN := Lib.hid (show HT w (fun _ => False) w tb db .nil [] wz from hn)
  clear hn hdb htb
  go_loopg [9] n (fun g s9 wr => ∃ (k : Nat) (T : TT), k + g = n ∧ s9 = .int .i64 (k : Int) ∧ HT w (fun _ => False) w tb db T T.list wr ∧ T.list.length ≤ k)
  case atStart => exact ⟨0, .nil, by omega, rfl, HN.out, Nat.le_refl _⟩
  case round =>
    obtain ⟨k, T, hk, rfl, hT0, hlen⟩ := hrel
    have HT0 := Lib.hid hT0
    have HLEN := Lib.hid hlen
    clear hT0 hlen
    by_cases hlt : k < n
    · skip
      obtain ⟨x, hak⟩ : ∃ x, l[k]? = some x := ⟨l[k]'(by rw [HL.out]; exact hlt), List.getElem?_eq_getElem _⟩
      obtain ⟨ad, rfl, _, hadl, hc⟩ := R.out.2 (by omega)
      obtain ⟨e0, e1, e2, e3⟩ := acs_get l k _ hak
      have hbl := HT0.out.below
      have hcc0 : wr.cell? (ad.add (k * 4)) = some (.bool x.del) := (hbl.cell (by rw [block_of_add]; exact hadl)).trans (hc _ _ e0)
      have hcc1 : wr.cell? ⟨(ad.add (k * 4)).block, (ad.add (k * 4)).off + 1, none⟩ = some (.int .u32 (x.p.a : Int)) := by
        rw [← add_after ad (k * 4) 1 (by omega)]
        exact (hbl.cell (by rw [block_of_add]; exact hadl)).trans (hc _ _ e1)
      have hcc2 : wr.cell? ⟨(ad.add (k * 4)).block, (ad.add (k * 4)).off + 2, none⟩ = some (.int .i64 x.p.n) := by
        rw [← add_after ad (k * 4) 2 (by omega)]
        exact (hbl.cell (by rw [block_of_add]; exact hadl)).trans (hc _ _ e2)
      have hcc3 : wr.cell? ⟨(ad.add (k * 4)).block, (ad.add (k * 4)).off + 3, none⟩ = some (.int .i64 x.v) := by
        rw [← add_after ad (k * 4) 3 (by omega)]
        exact (hbl.cell (by rw [block_of_add]; exact hadl)).trans (hc _ _ e3)
      have hxa := HG.out x (List.mem_of_getElem? hak)
      have hi0 : (0 : Int) ≤ k := by omega
      have hi1 : (k : Int) < n := by omega
      have hdk : decide (k < n) = true := decide_eq_true hlt
      have hdo := do_any x wr HT0.out hxa (by have := HLEN.out; omega)
      have hln := step_len x HT0.out.wf hxa
      have HDO := Lib.hid hdo
      have HLN := Lib.hid hln
      clear hak e0 e1 e2 e3 hbl hc hadl hdo hln hxa
      obtain ⟨dl, pxx, vv⟩ := x
      obtain ⟨pa, pn⟩ := pxx
      go_wp2_with fail
      refine HDO.out.mono ?_
      rintro e w2 ⟨rfl, h2⟩
      have H2 := Lib.hid h2
      clear h2 hcc0 hcc1 hcc2 hcc3
      go_wp2_with fail
      go_roundg (n - (k + 1))
      case measure => omega
      case rel => exact ⟨k + 1, _, by omega, by simp, H2.out, by have := HLEN.out; have := HLN.out; omega⟩
    · obtain rfl : k = n := by omega
      have hdk : decide (k < k) = false := by simp
      have hdk2 : decide ((k : Int) < (k : Int)) = false := by simp
      go_wp2_with fail
      have hsm6 : T.list.length ≤ 100000 := by have := HLEN.out; omega
      refine (ht_all HT0.out (by omega)).mono ?_
      rintro e wa ⟨f, rfl, hsf, hba⟩
      have HA := Lib.hid (HT0.out.later hba)
      have HSF := Lib.hid hsf
      have HBA := Lib.hid hba
      clear hsf hba
      go_wp2_with fail
      refine (ht_covers HA.out b HBB.out (by omega)).mono ?_
      rintro e wb ⟨g, rfl, hsg, hbb⟩
      have hB2 := HA.out.later hbb
      obtain ⟨M, N, tr2, tab2, _⟩ := hB2.ex
      obtain ⟨Al, capl, hkl, hcapl, hownl, hrdl, _⟩ := tab2.form
      obtain ⟨m, hm⟩ : ∃ m, m = T.list.length := ⟨_, rfl⟩
      rw [← hm] at hkl hrdl hsm6
      have t0 : wb.cell? ⟨db, 0, none⟩ = some (.slice Al m capl) := hkl.cell 0
      obtain ⟨z0, hin, hz0, hz1, hz2⟩ := info_parts info_entC
      have hmx : 0 + m ≤ maxLen := by unfold maxLen; omega
      have hmb : (0 + m) * 24 ≤ 140737488355328 := by omega
      have HB2 := Lib.hid hB2
      have HSG := Lib.hid hsg
      have HBB2 := Lib.hid hbb
      have HRL := Lib.hid hrdl
      have HM := Lib.hid hm
      clear hB2 tr2 tab2 hkl hcapl hownl hrdl hsg hbb hm
      go_wp2_with (at_builtin; refine wpList_append_any _ rfl (.const (.slice none 0 0)) (.tmp 51) 46 rfl wb.heap.size 91 z0 _ 3 24 Try.underlying46 hin hz0 hz1 hz2 rfl (Nat.succ_pos 2) (.slice none 0 0) 0 [] rfl (World.ownsRow_nil _ _ _ _) N Al m capl (T.list.flatMap entC) rfl HRL.out (ent_one _) hmx hmb (Nat.le_refl _) ?_; intro v4 w4 hown4 hg4 hat4)
      rw [Nat.zero_add, List.nil_append] at hown4
      obtain ⟨Aw, cw, rfl, _⟩ := own_form hown4
      have hb4 : Below wb.heap.size wb w4 := ⟨hg4.os, hg4.tape, hg4.output, hg4.size, fun i hi => hg4.block i hi (by simp [Value.ownBlock])⟩
      have HC := Lib.hid (HB2.out.later hb4)
      have HW := Lib.hid hown4
      have HB4 := Lib.hid hb4
      clear hown4 hg4 hat4 hb4
      go_wp2_with fail
      refine (ht_tcov HC.out b HBB.out (by rw [← HM.out]; omega)).mono ?_
      rintro e w5 ⟨Ac, cc, rfl, hownc, hbc⟩
      obtain ⟨C, hC⟩ : ∃ C, C = covS (bitsB b 32) T.list := ⟨_, rfl⟩
      rw [← hC] at hownc ⊢
      have hcov : T.cov (bitsB b 32) = C := by rw [hC, TT.cov_list HT0.out.wf]
      have hcl : C.length ≤ 100000 := by have := covS_len (bitsB b 32) T.list; rw [← hC, ← HM.out] at this; omega
      have b1 := HBA.out
      have b2 := HBB2.out
      have b3 := HB4.out
      have s1 := b1.size
      have s2 := b2.size
      have s3 := b3.size
      have s4 := hbc.size
      have b12 := b1.trans (b2.mono s1)
      have b123 := b12.trans (b3.mono (Nat.le_trans s1 s2))
      have b1234 := b123.trans (hbc.mono (Nat.le_trans (Nat.le_trans s1 s2) s3))
      have b234 := b2.trans ((b3.trans (hbc.mono s3)).mono s2)
      have b34 := b3.trans (hbc.mono s3)
      have SF := Lib.hid ((HSF.out.keep (Same.ofBelow b234 fun k hk => hk.2)).mono (J := fun k => wr.heap.size ≤ k ∧ k < w5.heap.size) fun k hk => ⟨hk.1, by omega⟩)
      have hsg2 := HSG.out
      rw [hcov] at hsg2
      have SG := Lib.hid ((hsg2.keep (Same.ofBelow b34 fun k hk => hk.2)).mono (J := fun k => wr.heap.size ≤ k ∧ k < w5.heap.size) fun k hk => ⟨by omega, by omega⟩)
      have RW := Lib.hid (Reads.of_own (I := fun k => wr.heap.size ≤ k ∧ k < w5.heap.size) (own_belowB HW.out hbc) fun g hg => by have := own_lt HW.out hg; exact ⟨by omega, by omega⟩)
      have RC := Lib.hid (Reads.of_own (I := fun k => wr.heap.size ≤ k ∧ k < w5.heap.size) hownc fun g hg => by have := own_lt hownc hg; exact ⟨by omega, by omega⟩)
      have HM5 := Lib.hid (HT0.out.mark b1234)
      obtain ⟨J, hJ⟩ : ∃ J : Nat → Prop, J = fun k => wr.heap.size ≤ k ∧ k < w5.heap.size := ⟨_, rfl⟩
      rw [← hJ] at SF SG RW RC HM5
      have HLJ := Lib.hid (show ∀ k, J k → k < w5.heap.size from fun k hk => by rw [hJ] at hk; exact hk.2)
      have HLT := Lib.hid (show T.list.length ≤ 60 by have := HLEN.out; omega)
      have HCL := Lib.hid hcl
      clear b1 b2 b3 s1 s2 s3 s4 b12 b123 b1234 b234 b34 hsg2 hownc hbc hJ hC hcov hcl HSF HSG HBA HBB2 HB4 HW HC HB2 HA HRL HLEN t0 hdk hdk2
      clear HT0 HN
      go_wp2_with fail
      go_loopg [14] n2 (fun g s14 wr => ∃ (k : Nat) (T : TT), k + g = n2 ∧ s14 = .int .i64 (k : Int) ∧ HT w J w5 tb db T T.list wr ∧ T.list.length ≤ k + 60)
      case atStart => exact ⟨0, T, by omega, rfl, HM5.out, by have := HLT.out; omega⟩
      case round =>
        obtain ⟨kk, T2, hkk, rfl, hT0, hlen⟩ := hrel
        have HT0 := Lib.hid hT0
        have HLEN := Lib.hid hlen
        clear hT0 hlen
        by_cases hlt : kk < n2
        · skip
          obtain ⟨x, hak⟩ : ∃ x, l2[kk]? = some x := ⟨l2[kk]'(by rw [HL2.out]; exact hlt), List.getElem?_eq_getElem _⟩
          obtain ⟨ad, rfl, _, hadl, hc⟩ := R2.out.2 (by omega)
          obtain ⟨e0, e1, e2, e3⟩ := acs_get l2 kk _ hak
          have hbl := HT0.out.below
          have hcc0 : wr.cell? (ad.add (kk * 4)) = some (.bool x.del) := (hbl.cell (by rw [block_of_add]; exact hadl)).trans (hc _ _ e0)
          have hcc1 : wr.cell? ⟨(ad.add (kk * 4)).block, (ad.add (kk * 4)).off + 1, none⟩ = some (.int .u32 (x.p.a : Int)) := by
            rw [← add_after ad (kk * 4) 1 (by omega)]
            exact (hbl.cell (by rw [block_of_add]; exact hadl)).trans (hc _ _ e1)
          have hcc2 : wr.cell? ⟨(ad.add (kk * 4)).block, (ad.add (kk * 4)).off + 2, none⟩ = some (.int .i64 x.p.n) := by
            rw [← add_after ad (kk * 4) 2 (by omega)]
            exact (hbl.cell (by rw [block_of_add]; exact hadl)).trans (hc _ _ e2)
          have hcc3 : wr.cell? ⟨(ad.add (kk * 4)).block, (ad.add (kk * 4)).off + 3, none⟩ = some (.int .i64 x.v) := by
            rw [← add_after ad (kk * 4) 3 (by omega)]
            exact (hbl.cell (by rw [block_of_add]; exact hadl)).trans (hc _ _ e3)
          have hxa := HG2.out x (List.mem_of_getElem? hak)
          have hi0 : (0 : Int) ≤ kk := by omega
          have hi1 : (kk : Int) < n2 := by omega
          have hdk : decide (kk < n2) = true := decide_eq_true hlt
          have hdo := do_any x wr HT0.out hxa (by have := HLEN.out; omega)
          have hln := step_len x HT0.out.wf hxa
          have HDO := Lib.hid hdo
          have HLN := Lib.hid hln
          clear hak e0 e1 e2 e3 hbl hc hadl hdo hln hxa
          obtain ⟨dl, pxx, vv⟩ := x
          obtain ⟨pa, pn⟩ := pxx
          go_wp2_with fail
          refine HDO.out.mono ?_
          rintro e w2 ⟨rfl, h2⟩
          have H2 := Lib.hid h2
          clear h2 hcc0 hcc1 hcc2 hcc3
          go_wp2_with fail
          go_roundg (n2 - (kk + 1))
          case measure => omega
          case rel => exact ⟨kk + 1, _, by omega, by simp, H2.out, by have := HLEN.out; have := HLN.out; omega⟩
        · obtain rfl : kk = n2 := by omega
          have hdk : decide (kk < kk) = false := by simp
          have hdk2 : decide ((kk : Int) < (kk : Int)) = false := by simp
          have sm := HT0.out.same
          have hJl : ∀ j, J j → j < wr.heap.size := fun j hj => Nat.lt_of_lt_of_le (HLJ.out j hj) sm.1
          have q1 := fun wx (hx : Below wr.heap.size wr wx) => once_any f wx Aw cw 0 T.list J (fun j hj => Nat.lt_of_lt_of_le (hJl j hj) hx.size) ((SF.out.keep sm).keep (Same.ofBelow hx hJl)) (by
            have h := ((RW.out.keep sm).keep (Same.ofBelow hx hJl)).mono (J := fun j => j < wx.heap.size) fun j hj => Nat.lt_of_lt_of_le (hJl j hj) hx.size
            rw [HM.out] at h
            exact h) (by have := HLT.out; omega)
          have q2 := fun wx (hx : Below wr.heap.size wr wx) => once_any g wx Ac cc 0 C J (fun j hj => Nat.lt_of_lt_of_le (hJl j hj) hx.size) ((SG.out.keep sm).keep (Same.ofBelow hx hJl)) (((RC.out.keep sm).keep (Same.ofBelow hx hJl)).mono (J := fun j => j < wx.heap.size) fun j hj => Nat.lt_of_lt_of_le (hJl j hj) hx.size) (by have := HCL.out; omega)
          rw [← HM.out] at q1
          have Q1 := Lib.hid q1
          have Q2 := Lib.hid q2
          clear q1 q2 sm hJl
          go_wp2_with fail
          refine (Q1.out _ (Below.refl _ _)).mono ?_
          rintro e x1 ⟨rfl, hb1⟩
          have B1 := Lib.hid hb1
          clear hb1
          go_wp2_with fail
          refine (Q2.out _ B1.out).mono ?_
          rintro e x2 ⟨rfl, hb2⟩
          have B2 := Lib.hid (B1.out.trans (hb2.mono B1.out.size))
          clear hb2
          go_wp2_with fail
          refine (known_any _).mono ?_
          rintro e x3 ⟨rfl, hb3⟩
          have B3 := Lib.hid (B2.out.trans (hb3.mono B2.out.size))
          clear hb3
          go_wp2_with fail
          go_ret
          exact ⟨rfl, HT0.out.below.trans (B3.out.mono HT0.out.below.size)⟩
end Go.Proofs.Ytejiecebckjflaa
