/- SplitMeans' walk. -/
import Derived.Test.YtfddkehnhkfjeaaIlF
import Derived.Test.YtfddkehnhkfjeaaSpI
import Derived.Test.YtfddkehnhkfjeaaSpV
namespace Go.Proofs.Ytfddkehnhkfjeaa
open Go.RowKit Go.Sort Go.BigFrame
def mfH (h : Hd) : Hd := { h with mf := true }
def otH (h : Hd) (at_ : Int) : Hd := { tos := 0, id := 0, evil := false, df := false, mf := decide (at_ = 0), off := at_, ttl := h.ttl, proto := h.proto, src := h.src, dst := h.dst, opts := [] }
theorem mfH_ok {h : Hd} (ok : h.ok) : (mfH h).ok := ok
theorem otH_ok {h : Hd} (ok : h.ok) (a : Int) : (otH h a).ok := ⟨(by show (0 : Nat) < 256; decide), (by show (0 : Nat) < 65536; decide), ok.2.2.1, ok.2.2.2.1, ok.2.2.2.2.1, ok.2.2.2.2.2⟩
theorem mfH_may (h : Hd) : mayH (mfH h) = mayH h := rfl
theorem otH_may {h : Hd} {a : Int} (h0 : 0 ≤ a) (h1 : a ≤ 8191) : mayH (otH h a) = true := by
  unfold mayH otH
  simp [h0, h1]
  rfl
theorem mfH_frag (h : Hd) : fragH (mfH h) = true := rfl
theorem otH_frag {h : Hd} {a : Int} (h0 : 0 ≤ a) : fragH (otH h a) = true := by
  unfold fragH otH
  by_cases e : a = 0
  · simp [e]
  · simp; omega
theorem fits_of {h : Hd} {p : By} (hm : mayH h = true) (hp : p.length ≤ 3000) : fitsH h p = true := by
  have := (may_of hm).l40
  unfold fitsH
  rw [hm, Bool.true_and, decide_eq_true_eq]
  omega
theorem hashB_frag {h : Hd} (hf : fragH h = true) (p : By) : hashB h p = putF h.src 4 ++ putF h.dst 4 ++ [UInt8.ofNat h.proto] := by
  unfold hashB hashP
  rw [if_neg (by rw [hf]; intro h; cases h.2.1), List.append_nil]
theorem HdZ.mf {w : World} {h : Hd} {v : Value} {wx : World} (hz : HdZ w w.heap.size (hdC h v) wx) : HdZ w w.heap.size (hdC (mfH h) v) (wx.setCell ⟨w.heap.size, 4, none⟩ (.bool true)) := by
  refine ⟨?_, hz.b.setCell (p := ⟨w.heap.size, 4, none⟩) (Nat.le_refl _) _⟩
  have := hz.k.set_ 4 (.bool true)
  have e : hdC (mfH h) v = (hdC h v).setIfInBounds 4 (.bool true) := by
    unfold hdC mfH
    simp
  rw [e]
  exact this
theorem st_bool {w : World} {g i : Nat} {u : Value} (hu : w.cell? ⟨g, i, none⟩ = some u) (hf : w.frozen? ⟨g, i, none⟩ = false) (b : Bool) : (Instr.storeAt 4 (.pointer (some ⟨g, i, none⟩)) (.bool b)).run Try.prog w = .ok () (w.setCell ⟨g, i, none⟩ (.bool b)) := by
  simp [go_sem, hu, hf]
def AllSt (w : World) (A5 : Option Addr) (l : List Nx) (n : Nat) (C : Array Value) (wr : World) : Prop := HdZ w w.heap.size C wr ∧ Reads wr (fun k => k < wr.heap.size) 1 A5 n (natsV (sharesF l))
theorem AllSt.later {w : World} {A5 : Option Addr} {l : List Nx} {n : Nat} {C : Array Value} {wr wx : World} (h : AllSt w A5 l n C wr) (hb : Below wr.heap.size wr wx) : AllSt w A5 l n C wx :=
  ⟨h.1.later hb, (h.2.keep (Same.ofBelow hb fun _ hk => hk)).mono fun _ hk => Nat.lt_of_lt_of_le hk hb.size⟩
theorem shareL_len (l : List Nx) : (sharesF l).length = l.length := by unfold sharesF; simp
theorem shareL_get {l : List Nx} {i : Nat} (hi : i < l.length) : (sharesF l)[i]? = some (shF l i) := by
  unfold sharesF
  rw [List.getElem?_map, List.getElem?_range hi]
  rfl
theorem ld_intM {w : World} {a : Addr} {z : Int} (hu : w.cell? a = some (.int .i64 z)) : (Instr.loadAt 3 (.pointer (some a))).run Try.prog w = .ok (.int .i64 z) w := by
  simp [go_sem, hu]
attribute [-go_sem] Instr.storeAt Instr.loadAt in
set_option maxRecDepth 100000 in
set_option maxHeartbeats 8000000 in
theorem smeans_any (A : Option Addr) (n c : Nat) (l : List Nx) (h : Hd) (v va vb : Value) (pa pb : By) (at_ : Int) (w : World) (hr : Reads w (fun k => k < w.heap.size) 2 A n (l.flatMap nxC)) (hn : l.length = n) (hv : Sl8 w (fun k => k < w.heap.size) v h.opts) (ha : Sl8 w (fun k => k < w.heap.size) va pa) (hb : Sl8 w (fun k => k < w.heap.size) vb pb) (hok : h.ok) :
    Calls Try.prog 14 #[.slice A n c, hdV h v, va, vb, .int .i64 at_] w fun e w' => e = .returned (.bool true) ∧ Below w.heap.size w w' := by
  have HK := Lib.hid (fun wx => known13_any wx)
  have HNM := Lib.hid (fun z wx => num13_any z wx)
  have HR := Lib.hid (show ∀ wx, Below w.heap.size w wx → Reads wx (fun k => k < w.heap.size) 2 A n (l.flatMap nxC) from fun wx hb => hr.keep (Same.ofBelow hb fun _ hk => hk))
  have HLN := Lib.hid hn
  have HV := Lib.hid (show ∀ wx, Below w.heap.size w wx → Sl8 wx (fun k => k < w.heap.size) v h.opts from fun wx hb => hv.keep (Same.ofBelow hb fun k hk => hk))
  have HPA := Lib.hid (show ∀ wx, Below w.heap.size w wx → Sl8 wx (fun k => k < w.heap.size) va pa from fun wx hb => ha.keep (Same.ofBelow hb fun k hk => hk))
  have HPB := Lib.hid (show ∀ wx, Below w.heap.size w wx → Sl8 wx (fun k => k < w.heap.size) vb pb from fun wx h2 => hb.keep (Same.ofBelow h2 fun k hk => hk))
  have HOK := Lib.hid hok
  obtain ⟨A1, c1, rfl, _, _⟩ := hv
  obtain ⟨Aa, ca, rfl, _, _⟩ := ha
  obtain ⟨Ab, cb, rfl, _, _⟩ := hb
  obtain ⟨n1, hn1⟩ : ∃ n, n = h.opts.length := ⟨_, rfl⟩
  obtain ⟨na, hna⟩ : ∃ n, n = pa.length := ⟨_, rfl⟩
  obtain ⟨nb, hnb⟩ : ∃ n, n = pb.length := ⟨_, rfl⟩
  rw [← hn1] at HV ⊢
  rw [← hna] at HPA ⊢
  rw [← hnb] at HPB ⊢
  have HN1 := Lib.hid hn1
  have HNA := Lib.hid hna
  have HNB := Lib.hid hnb
  obtain ⟨W, hW⟩ : ∃ W, W = w.alloc (.cells (hdC h (.slice A1 n1 c1)) 28) := ⟨_, rfl⟩
  have hbA : Below w.heap.size w (w.alloc (.cells (hdC h (.slice A1 n1 c1)) 28)) := (Below.refl _ _).alloc (Nat.le_refl _) _
  have HX := Lib.hid (show HdZ w w.heap.size (hdC h (.slice A1 n1 c1)) W from by
    rw [hW]
    exact ⟨Blk.new w 28 (hdC h (.slice A1 n1 c1)), hbA⟩)
  have HW := Lib.hid hW
  unfold hdC at HW
  clear hW hbA hn1 hna hnb hok hr hn
  unfold hdV
  go_enter Try.func14, Try.ntmps14
  go_upto_region 1 with (fail)
  rw [← HW.out]
  go_wp2_with fail
  refine (HK.out W).mono ?_
  rintro e w1 ⟨rfl, hb1⟩
  have HX1 := Lib.hid (HX.out.later hb1)
  have hl1 := ld8s (HX1.out.k.cell 10)
  have HB1 := Lib.hid HX1.out.b
  clear hb1
  by_cases hbig : 300 < n ∨ 300 < n1 ∨ 3000 < na ∨ 3000 < nb
  · by_cases b1 : 300 < n
    · have d1 : decide ((300 : Int) < (n : Int)) = true := decide_eq_true (by omega)
      clear hbig b1
      go_wp2_with fail
      go_ret
      exact ⟨rfl, HB1.out⟩
    have d1 : decide ((300 : Int) < (n : Int)) = false := decide_eq_false (by omega)
    by_cases b2 : 300 < n1
    · have d2 : decide ((300 : Int) < (n1 : Int)) = true := decide_eq_true (by omega)
      clear hbig b1 b2
      go_wp2_with fail
      go_ret
      exact ⟨rfl, HB1.out⟩
    have d2 : decide ((300 : Int) < (n1 : Int)) = false := decide_eq_false (by omega)
    by_cases b3 : 3000 < na
    · have d3 : decide ((3000 : Int) < (na : Int)) = true := decide_eq_true (by omega)
      clear hbig b1 b2 b3
      go_wp2_with fail
      go_ret
      exact ⟨rfl, HB1.out⟩
    have d3 : decide ((3000 : Int) < (na : Int)) = false := decide_eq_false (by omega)
    have d4 : decide ((3000 : Int) < (nb : Int)) = true := decide_eq_true (by omega)
    clear hbig b1 b2 b3
    go_wp2_with fail
    go_ret
    exact ⟨rfl, HB1.out⟩
  have d1 : decide ((300 : Int) < (n : Int)) = false := decide_eq_false (by omega)
  have d2 : decide ((300 : Int) < (n1 : Int)) = false := decide_eq_false (by omega)
  have d3 : decide ((3000 : Int) < (na : Int)) = false := decide_eq_false (by omega)
  have d4 : decide ((3000 : Int) < (nb : Int)) = false := decide_eq_false (by omega)
  have HS1 := Lib.hid (show h.opts.length ≤ 1000000 by have := HN1.out; omega)
  have HSN := Lib.hid (show n ≤ 300 by omega)
  have HSA := Lib.hid (show na ≤ 3000 by omega)
  have HSB := Lib.hid (show nb ≤ 3000 by omega)
  clear hbig
  cases hm : mayF l with
  | false =>
    have HSH := Lib.hid (shares_no A n c l _ w1 (HR.out w1 HB1.out) HLN.out (by have := HSN.out; omega) hm)
    clear hm
    go_wp2_with fail
    refine HSH.out.mono ?_
    rintro e w2 ⟨rfl, hb2⟩
    have HX2 := Lib.hid (HX1.out.later hb2)
    clear hb2 hl1 d1 d2 d3 d4
    go_wp2_with fail
    refine (HNM.out _ _).mono ?_
    rintro e w3 ⟨rfl, rfl⟩
    go_upto_region 19 with (fail)
    -- behind the shares
    obtain ⟨w11, hw11⟩ : ∃ x, x = w2.setCell ⟨w.heap.size, 4, none⟩ (.bool true) := ⟨_, rfl⟩
    have c7 := st_bool (HX2.out.k.cell 4) (HX2.out.k.frozen 4) true
    rw [← hw11] at c7
    have HX11 := Lib.hid (show HdZ w w.heap.size (hdC (mfH h) (.slice A1 n1 c1)) w11 from by rw [hw11]; exact HX2.out.mf)
    have hl11 := hd_load HX11.out.k rfl
    have HMY := Lib.hid (rmay_any (mfH h) (.slice A1 n1 c1) _ w11 (HV.out w11 HX11.out.b) HS1.out)
    clear hw11
    go_wp2_with fail
    refine HMY.out.mono ?_
    rintro e w12 ⟨rfl, hb12⟩
    have HX12 := Lib.hid (HX11.out.later hb12)
    have HB12 := Lib.hid HX12.out.b
    clear hb12 c7 hl11
    cases hmay : mayH h with
    | false =>
      have hm2 : mayH (mfH h) = false := hmay
      clear hmay
      rw [hm2]
      clear hm2
      go_wp2_with fail
      go_ret
      exact ⟨rfl, HB12.out⟩
    | true =>
    have hm2 : mayH (mfH h) = true := hmay
    have HM2 := Lib.hid hm2
    clear hmay
    rw [hm2]
    clear hm2
    by_cases a0 : at_ < 0
    · have d0 : decide (at_ < 0) = true := decide_eq_true a0
      clear a0
      go_wp2_with fail
      go_ret
      exact ⟨rfl, HB12.out⟩
    have d0 : decide (at_ < 0) = false := decide_eq_false a0
    by_cases a1 : 8191 < at_
    · have d1 : decide ((8191 : Int) < at_) = true := decide_eq_true a1
      clear a0 a1
      go_wp2_with fail
      go_ret
      exact ⟨rfl, HB12.out⟩
    have d1 : decide ((8191 : Int) < at_) = false := decide_eq_false a1
    have HMO := Lib.hid (otH_may (h := h) (a := at_) (by omega) (by omega))
    have HFO := Lib.hid (otH_frag (h := h) (a := at_) (by omega))
    have HF1 := Lib.hid (fits_of (p := pa) HM2.out (by have := HNA.out; have := HSA.out; omega))
    have HF2 := Lib.hid (fits_of (p := pb) HMO.out (by have := HNB.out; have := HSB.out; omega))
    clear a0 a1
    have q6 := ld_u8 (HX12.out.k.cell 6)
    have q7 := ld_u8 (HX12.out.k.cell 7)
    have q8 := ld_u32s (HX12.out.k.cell 8)
    have q9 := ld_u32s (HX12.out.k.cell 9)
    obtain ⟨w13, hst13, hb13, hb123, hk13⟩ := hd_var HB12.out HB12.out.size (otH h at_) none 0 0
    have HK13 := Lib.hid hk13
    have HX13 := Lib.hid (HX12.out.later hb123)
    unfold hdV at hst13
    have hl13 := hd_load HX13.out.k rfl
    have HRB := Lib.hid (rbytes_any (mfH h) (.slice A1 n1 c1) (.slice Aa na ca) pa _ w13 (HV.out w13 HX13.out.b) (HPA.out w13 HX13.out.b) (mfH_ok HOK.out) HF1.out)
    obtain ⟨mb, hmb⟩ : ∃ b, b = (otH h at_).mf := ⟨_, rfl⟩
    have e13 : (at_ == 0) = mb := by rw [hmb]; unfold otH; rfl
    rw [← hmb] at hst13
    clear hb13 hb123 hk13 hmb
    have hst : (Instr.storeAt 28 (.pointer (some ⟨w12.heap.size, 0, none⟩)) (.agg #[.int .u8 0, .int .u16 0, .bool false, .bool false, .bool mb, .int .i64 at_, .int .u8 ((mfH h).ttl : Int), .int .u8 ((mfH h).proto : Int), .int .u32 ((mfH h).src : Int), .int .u32 ((mfH h).dst : Int), .slice none 0 0])).run Try.prog (w12.alloc (.cells #[.int .u8 0, .int .u16 0, .bool false, .bool false, .bool false, .int .i64 0, .int .u8 0, .int .u8 0, .int .u32 0, .int .u32 0, .slice none 0 0] 28)) = .ok () w13 := hst13
    clear hst13
    go_wp2_with fail
    refine HRB.out.mono ?_
    rintro e w14 ⟨v14, rfl, h14, hb14⟩
    obtain ⟨A14, c14, rfl, hc14⟩ := h14.form
    have HX14 := Lib.hid (HX13.out.later hb14)
    have HK14 := Lib.hid (HK13.out.below hb14 HK13.out.lt)
    have HSZ := Lib.hid (show (bytesF (mfH h) pa).length ≤ 1000000 by have := (total_back (mfH_ok HOK.out) HF1.out).2.2; omega)
    have hrd := read_back (mfH_ok HOK.out) HF1.out []
    rw [List.append_nil] at hrd
    have hha := hash_any A14 (bytesF (mfH h) pa).length c14 (bytesF (mfH h) pa) _ w14 (row_reads h14) rfl hc14 HSZ.out
    rw [hrd] at hha
    obtain ⟨N, hN⟩ : ∃ N, N = hashF (putF h.src 4 ++ putF h.dst 4 ++ [UInt8.ofNat h.proto]) := ⟨_, rfl⟩
    rw [show hashR (mfH h, pa, 0) = N from by unfold hashR; rw [if_pos rfl, hashB_frag (mfH_frag h), hN]; rfl, show (if (mfH h, pa, 0).2.2 = 0 then (0 : Int) else 4) = 0 from if_pos rfl] at hha
    have HHA := Lib.hid hha
    have HN := Lib.hid hN
    clear h14 hb14 hc14 hrd hha hN hl13 hst q6 q7 q8 q9
    go_wp2_with fail
    refine HHA.out.mono ?_
    rintro e w15 ⟨rfl, hb15⟩
    have HX15 := Lib.hid (HX14.out.later hb15)
    have hk15 := HK14.out.below hb15 HK14.out.lt
    have hl15 := hd_load hk15 rfl
    have HRC := Lib.hid (rbytes_any (otH h at_) (.slice none 0 0) (.slice Ab nb cb) pb (fun k => k < w.heap.size) w15 ⟨none, 0, rfl, Nat.le_refl _, rfl, fun h => absurd h (Nat.lt_irrefl 0)⟩ (HPB.out w15 HX15.out.b) (otH_ok HOK.out at_) HF2.out)
    clear hb15 hk15
    go_wp2_with fail
    refine HRC.out.mono ?_
    rintro e w16 ⟨v16, rfl, h16, hb16⟩
    obtain ⟨A16, c16, rfl, hc16⟩ := h16.form
    have HX16 := Lib.hid (HX15.out.later hb16)
    have HSY := Lib.hid (show (bytesF (otH h at_) pb).length ≤ 1000000 by have := (total_back (otH_ok HOK.out at_) HF2.out).2.2; omega)
    have hrd := read_back (otH_ok HOK.out at_) HF2.out []
    rw [List.append_nil] at hrd
    have hhb := hash_any A16 (bytesF (otH h at_) pb).length c16 (bytesF (otH h at_) pb) _ w16 (row_reads h16) rfl hc16 HSY.out
    rw [hrd] at hhb
    rw [show hashR (otH h at_, pb, 0) = N from by unfold hashR; rw [if_pos rfl, hashB_frag HFO.out, HN.out]; rfl, show (if (otH h at_, pb, 0).2.2 = 0 then (0 : Int) else 4) = 0 from if_pos rfl] at hhb
    have HHB := Lib.hid hhb
    clear h16 hb16 hc16 hrd hhb hl15
    go_wp2_with fail
    refine HHB.out.mono ?_
    rintro e w17 ⟨rfl, hb17⟩
    have HB17 := Lib.hid (HX16.out.b.trans (hb17.mono HX16.out.b.size))
    have e17 : ((N : Int) == (N : Int)) = true := by rw [beq_iff_eq]
    clear hb17
    go_wp2_with fail
    refine (HNM.out _ _).mono ?_
    rintro e w18 ⟨rfl, rfl⟩
    go_wp2_with fail
    refine (HNM.out _ _).mono ?_
    rintro e w19 ⟨rfl, rfl⟩
    go_wp2_with fail
    go_ret
    exact ⟨rfl, HB17.out⟩
  | true =>
    have hsh := shares_yes A n c l _ w1 (HR.out w1 HB1.out) HLN.out hm
    unfold ShPost at hsh
    rw [HLN.out] at hsh
    have HSH := Lib.hid hsh
    have HM := Lib.hid hm
    have HN8 := Lib.hid (show n ≤ 8 by have := may_len hm; have := HLN.out; omega)
    clear hm hsh
    go_wp2_with fail
    refine HSH.out.mono ?_
    rintro e w2 ⟨v5, rfl, h5, hb2⟩
    obtain ⟨A5, c5, rfl, _⟩ := own_form h5
    have HS2 := Lib.hid (show AllSt w A5 l n (hdC h (.slice A1 n1 c1)) w2 from ⟨HX1.out.later hb2, (reads_own_nat h5).mono fun _ h => h.2⟩)
    clear h5 hb2 hl1 d1 d2 d3 d4
    go_wp2_with fail
    refine (HNM.out _ _).mono ?_
    rintro e w3 ⟨rfl, rfl⟩
    go_wp2_with fail
    go_loopw [13, 14] (fun s i wr => ∃ k : Nat, k ≤ n ∧ i = .int .i64 (k : Int) ∧ s = .int .i64 (sumTo (shF l) k : Int) ∧ AllSt w A5 l n (hdC h (.slice A1 n1 c1)) wr) (fun _ i _ => n - (intOf i).toNat)
    case atStart => exact ⟨0, Nat.zero_le _, rfl, rfl, HS2.out⟩
    case round =>
      obtain ⟨i, hi, rfl, rfl, hs⟩ := hrel
      have HS := Lib.hid hs
      clear hs
      by_cases hlt : i < n
      · have hd0 : decide ((i : Int) < (n : Int)) = true := decide_eq_true (by omega)
        have hd1 : decide (i < n) = true := decide_eq_true hlt
        obtain ⟨ad5, si, rfl, hsi, hci⟩ := HS.out.2.nat (by rw [shareL_len]; exact HLN.out) (D := wr.heap.size) (fun _ hj => hj) hlt
        rw [shareL_get (by rw [HLN.out]; exact hlt)] at hsi
        injection hsi with hsi
        have g0 := ld_intM (hci wr (Below.refl _ _))
        obtain ⟨t0, ht0⟩ : ∃ t, t = sumTo (shF l) i := ⟨_, rfl⟩
        have HT := Lib.hid (show sumTo (shF l) (i + 1) = t0 + si by rw [ht0, ← hsi]; rfl)
        have h256 : t0 + si ≤ 256 := by
          have h1 := sumTo_le (shF l) (m := i + 1) (n := l.length) (by rw [HLN.out]; exact hlt)
          have h2 := shares_sum HM.out
          have h3 : sumTo (shF l) (i + 1) = sumTo (shF l) i + shF l i := rfl
          rw [ht0, ← hsi]; omega
        rw [← ht0]
        have HSI := Lib.hid hsi
        have i0 : (0 : Int) ≤ i := by omega
        have i1 : (i : Int) < n := by omega
        have i2 : (n : Int) ≤ 8 := by have := HN8.out; omega
        have t1 : (t0 : Int) + si ≤ 256 := by omega
        have t2 : (0 : Int) ≤ t0 := by omega
        have t3 : (0 : Int) ≤ si := by omega
        clear hci hsi ht0 h256
        go_wp2_with fail
        clear g0
        obtain ⟨wo, rfl⟩ : ∃ wo : World, wo = wr := ⟨_, rfl⟩
        go_loopw [15] (fun v wr => ∃ k : Nat, k ≤ n ∧ v = .int .i64 (k : Int) ∧ AllSt w (some ad5) l n (hdC h (.slice A1 n1 c1)) wr) (fun v _ => n - (intOf v).toNat)
        case atStart => exact ⟨0, Nat.zero_le _, rfl, HS.out⟩
        case round =>
          obtain ⟨k, hk, rfl, hs⟩ := hrel
          have HSK := Lib.hid hs
          clear hs
          by_cases hkt : k < n
          · have kd0 : decide ((k : Int) < (n : Int)) = true := decide_eq_true (by omega)
            have kd1 : decide (k < n) = true := decide_eq_true hkt
            obtain ⟨ad, rfl, hcsi⟩ := nx_cells (HR.out wr HSK.out.1.b) HLN.out (D := wr.heap.size) (fun _ hj => Nat.lt_of_lt_of_le hj HSK.out.1.b.size) hlt
            obtain ⟨ad', e', hcsk⟩ := nx_cells (HR.out wr HSK.out.1.b) HLN.out (D := wr.heap.size) (fun _ hj => Nat.lt_of_lt_of_le hj HSK.out.1.b.size) hkt
            injection e' with e'
            subst e'
            obtain ⟨ad5', si', e', hsi, hci⟩ := HSK.out.2.nat (by rw [shareL_len]; exact HLN.out) (D := wr.heap.size) (fun _ hj => hj) hlt
            injection e' with e'
            subst e'
            rw [shareL_get (by rw [HLN.out]; exact hlt), HSI.out] at hsi
            injection hsi with hsi
            subst hsi
            obtain ⟨ad5', sk, e', hsk, hck⟩ := HSK.out.2.nat (by rw [shareL_len]; exact HLN.out) (D := wr.heap.size) (fun _ hj => hj) hkt
            injection e' with e'
            subst e'
            rw [shareL_get (by rw [HLN.out]; exact hkt)] at hsk
            injection hsk with hsk
            obtain ⟨di, hdi⟩ : ∃ d, d = (nxAt l i).2 := ⟨_, rfl⟩
            obtain ⟨dk, hdk⟩ : ∃ d, d = (nxAt l k).2 := ⟨_, rfl⟩
            rw [← hdi] at hcsi
            rw [← hdk] at hcsk
            have x1 := fun (dd : Nat) (os : Array Obj) => ld_intM (hcsi _ (below_regrown wr dd os)).2
            have x2 := fun (dd : Nat) (os : Array Obj) => ld_intM (hcsk _ (below_regrown wr dd os)).2
            have x3 := fun (dd : Nat) (os : Array Obj) => ld_intM (hci _ (below_regrown wr dd os))
            have x4 := fun (dd : Nat) (os : Array Obj) => ld_intM (hck _ (below_regrown wr dd os))
            have HNR := Lib.hid (show di < dk → sk ≤ si from fun e => by
              have := sh_near HM.out (i := i) (k := k) (by rw [HLN.out]; exact hlt) (by rw [HLN.out]; exact hkt) (by rw [← hdi, ← hdk]; exact e)
              rw [HSI.out, hsk] at this; exact this)
            have k0 : (0 : Int) ≤ k := by omega
            have k1 : (k : Int) < n := by omega
            clear hcsi hcsk hci hck hsk hdi hdk
            by_cases hdd : di < dk
            · have b1 : decide (di < dk) = true := decide_eq_true hdd
              have b2 : decide ((si : Int) < (sk : Int)) = false := decide_eq_false (by have := HNR.out hdd; omega)
              have b3 : decide (si < sk) = false := decide_eq_false (by have := HNR.out hdd; omega)
              clear hdd
              go_upto_region 15 with (fail)
              refine wp_region_quiet_below (by kernel_rfl) (by kernel_rfl) ?_
              repeat (go_big_quiet_step (fail))
              refine wpQuiet_nil ?_
              intro _ hw'
              obtain ⟨⟨dq, osq⟩, hw''⟩ := hw'
              subst hw''
              have HS5 := Lib.hid (HSK.out.later (below_regrown wr dq osq))
              clear x1 x2 x3 x4
              generalize grow (redrawn wr dq) osq = wq at HS5 ⊢
              go_wp2_with fail
              go_roundw
              case rel => exact ⟨k + 1, hkt, rfl, HS5.out⟩
              case measure => simp [intOf]; omega
            · have b1 : decide (di < dk) = false := decide_eq_false hdd
              clear hdd
              go_upto_region 15 with (fail)
              refine wp_region_quiet_below (by kernel_rfl) (by kernel_rfl) ?_
              repeat (go_big_quiet_step (fail))
              refine wpQuiet_nil ?_
              intro _ hw'
              obtain ⟨⟨dq, osq⟩, hw''⟩ := hw'
              subst hw''
              have HS5 := Lib.hid (HSK.out.later (below_regrown wr dq osq))
              clear x1 x2 x3 x4
              generalize grow (redrawn wr dq) osq = wq at HS5 ⊢
              go_wp2_with fail
              go_roundw
              case rel => exact ⟨k + 1, hkt, rfl, HS5.out⟩
              case measure => simp [intOf]; omega
          · obtain rfl : k = n := by omega
            have kd0 : decide ((k : Int) < (k : Int)) = false := decide_eq_false (by omega)
            have kd1 : decide (k < k) = false := decide_eq_false (by omega)
            clear hk hkt
            go_wp2_with fail
            go_roundw
            case rel => exact ⟨i + 1, hlt, rfl, by rw [HT.out]; congr 1, HSK.out⟩
            case measure => simp [intOf]; omega
      · obtain rfl : n = i := by omega
        have hd0 : decide ((n : Int) < (n : Int)) = false := decide_eq_false (by omega)
        have hd1 : decide (n < n) = false := decide_eq_false (by omega)
        have h256 : sumTo (shF l) n = 256 := by rw [← HLN.out]; exact shares_sum HM.out
        have HXR := Lib.hid HS.out.1
        rw [h256]
        have b1 : ((n : Int) != (n : Int)) = false := bne_self_eq_false _
        have b2 : (n != n) = false := bne_self_eq_false _
        clear hi hlt h256
        go_upto_region 19 with (fail)
        -- behind the shares
        obtain ⟨w11, hw11⟩ : ∃ x, x = wr.setCell ⟨w.heap.size, 4, none⟩ (.bool true) := ⟨_, rfl⟩
        have c7 := st_bool (HXR.out.k.cell 4) (HXR.out.k.frozen 4) true
        rw [← hw11] at c7
        have HX11 := Lib.hid (show HdZ w w.heap.size (hdC (mfH h) (.slice A1 n1 c1)) w11 from by rw [hw11]; exact HXR.out.mf)
        have hl11 := hd_load HX11.out.k rfl
        have HMY := Lib.hid (rmay_any (mfH h) (.slice A1 n1 c1) _ w11 (HV.out w11 HX11.out.b) HS1.out)
        clear hw11
        go_wp2_with fail
        refine HMY.out.mono ?_
        rintro e w12 ⟨rfl, hb12⟩
        have HX12 := Lib.hid (HX11.out.later hb12)
        have HB12 := Lib.hid HX12.out.b
        clear hb12 c7 hl11
        cases hmay : mayH h with
        | false =>
          have hm2 : mayH (mfH h) = false := hmay
          clear hmay
          rw [hm2]
          clear hm2
          go_wp2_with fail
          go_ret
          exact ⟨rfl, HB12.out⟩
        | true =>
        have hm2 : mayH (mfH h) = true := hmay
        have HM2 := Lib.hid hm2
        clear hmay
        rw [hm2]
        clear hm2
        by_cases a0 : at_ < 0
        · have d0 : decide (at_ < 0) = true := decide_eq_true a0
          clear a0
          go_wp2_with fail
          go_ret
          exact ⟨rfl, HB12.out⟩
        have d0 : decide (at_ < 0) = false := decide_eq_false a0
        by_cases a1 : 8191 < at_
        · have d1 : decide ((8191 : Int) < at_) = true := decide_eq_true a1
          clear a0 a1
          go_wp2_with fail
          go_ret
          exact ⟨rfl, HB12.out⟩
        have d1 : decide ((8191 : Int) < at_) = false := decide_eq_false a1
        have HMO := Lib.hid (otH_may (h := h) (a := at_) (by omega) (by omega))
        have HFO := Lib.hid (otH_frag (h := h) (a := at_) (by omega))
        have HF1 := Lib.hid (fits_of (p := pa) HM2.out (by have := HNA.out; have := HSA.out; omega))
        have HF2 := Lib.hid (fits_of (p := pb) HMO.out (by have := HNB.out; have := HSB.out; omega))
        clear a0 a1
        have q6 := ld_u8 (HX12.out.k.cell 6)
        have q7 := ld_u8 (HX12.out.k.cell 7)
        have q8 := ld_u32s (HX12.out.k.cell 8)
        have q9 := ld_u32s (HX12.out.k.cell 9)
        obtain ⟨w13, hst13, hb13, hb123, hk13⟩ := hd_var HB12.out HB12.out.size (otH h at_) none 0 0
        have HK13 := Lib.hid hk13
        have HX13 := Lib.hid (HX12.out.later hb123)
        unfold hdV at hst13
        have hl13 := hd_load HX13.out.k rfl
        have HRB := Lib.hid (rbytes_any (mfH h) (.slice A1 n1 c1) (.slice Aa na ca) pa _ w13 (HV.out w13 HX13.out.b) (HPA.out w13 HX13.out.b) (mfH_ok HOK.out) HF1.out)
        obtain ⟨mb, hmb⟩ : ∃ b, b = (otH h at_).mf := ⟨_, rfl⟩
        have e13 : (at_ == 0) = mb := by rw [hmb]; unfold otH; rfl
        rw [← hmb] at hst13
        clear hb13 hb123 hk13 hmb
        have hst : (Instr.storeAt 28 (.pointer (some ⟨w12.heap.size, 0, none⟩)) (.agg #[.int .u8 0, .int .u16 0, .bool false, .bool false, .bool mb, .int .i64 at_, .int .u8 ((mfH h).ttl : Int), .int .u8 ((mfH h).proto : Int), .int .u32 ((mfH h).src : Int), .int .u32 ((mfH h).dst : Int), .slice none 0 0])).run Try.prog (w12.alloc (.cells #[.int .u8 0, .int .u16 0, .bool false, .bool false, .bool false, .int .i64 0, .int .u8 0, .int .u8 0, .int .u32 0, .int .u32 0, .slice none 0 0] 28)) = .ok () w13 := hst13
        clear hst13
        go_wp2_with fail
        refine HRB.out.mono ?_
        rintro e w14 ⟨v14, rfl, h14, hb14⟩
        obtain ⟨A14, c14, rfl, hc14⟩ := h14.form
        have HX14 := Lib.hid (HX13.out.later hb14)
        have HK14 := Lib.hid (HK13.out.below hb14 HK13.out.lt)
        have HSZ := Lib.hid (show (bytesF (mfH h) pa).length ≤ 1000000 by have := (total_back (mfH_ok HOK.out) HF1.out).2.2; omega)
        have hrd := read_back (mfH_ok HOK.out) HF1.out []
        rw [List.append_nil] at hrd
        have hha := hash_any A14 (bytesF (mfH h) pa).length c14 (bytesF (mfH h) pa) _ w14 (row_reads h14) rfl hc14 HSZ.out
        rw [hrd] at hha
        obtain ⟨N, hN⟩ : ∃ N, N = hashF (putF h.src 4 ++ putF h.dst 4 ++ [UInt8.ofNat h.proto]) := ⟨_, rfl⟩
        rw [show hashR (mfH h, pa, 0) = N from by unfold hashR; rw [if_pos rfl, hashB_frag (mfH_frag h), hN]; rfl, show (if (mfH h, pa, 0).2.2 = 0 then (0 : Int) else 4) = 0 from if_pos rfl] at hha
        have HHA := Lib.hid hha
        have HN := Lib.hid hN
        clear h14 hb14 hc14 hrd hha hN hl13 hst q6 q7 q8 q9
        go_wp2_with fail
        refine HHA.out.mono ?_
        rintro e w15 ⟨rfl, hb15⟩
        have HX15 := Lib.hid (HX14.out.later hb15)
        have hk15 := HK14.out.below hb15 HK14.out.lt
        have hl15 := hd_load hk15 rfl
        have HRC := Lib.hid (rbytes_any (otH h at_) (.slice none 0 0) (.slice Ab nb cb) pb (fun k => k < w.heap.size) w15 ⟨none, 0, rfl, Nat.le_refl _, rfl, fun h => absurd h (Nat.lt_irrefl 0)⟩ (HPB.out w15 HX15.out.b) (otH_ok HOK.out at_) HF2.out)
        clear hb15 hk15
        go_wp2_with fail
        refine HRC.out.mono ?_
        rintro e w16 ⟨v16, rfl, h16, hb16⟩
        obtain ⟨A16, c16, rfl, hc16⟩ := h16.form
        have HX16 := Lib.hid (HX15.out.later hb16)
        have HSY := Lib.hid (show (bytesF (otH h at_) pb).length ≤ 1000000 by have := (total_back (otH_ok HOK.out at_) HF2.out).2.2; omega)
        have hrd := read_back (otH_ok HOK.out at_) HF2.out []
        rw [List.append_nil] at hrd
        have hhb := hash_any A16 (bytesF (otH h at_) pb).length c16 (bytesF (otH h at_) pb) _ w16 (row_reads h16) rfl hc16 HSY.out
        rw [hrd] at hhb
        rw [show hashR (otH h at_, pb, 0) = N from by unfold hashR; rw [if_pos rfl, hashB_frag HFO.out, HN.out]; rfl, show (if (otH h at_, pb, 0).2.2 = 0 then (0 : Int) else 4) = 0 from if_pos rfl] at hhb
        have HHB := Lib.hid hhb
        clear h16 hb16 hc16 hrd hhb hl15
        go_wp2_with fail
        refine HHB.out.mono ?_
        rintro e w17 ⟨rfl, hb17⟩
        have HB17 := Lib.hid (HX16.out.b.trans (hb17.mono HX16.out.b.size))
        have e17 : ((N : Int) == (N : Int)) = true := by rw [beq_iff_eq]
        clear hb17
        go_wp2_with fail
        refine (HNM.out _ _).mono ?_
        rintro e w18 ⟨rfl, rfl⟩
        go_wp2_with fail
        refine (HNM.out _ _).mono ?_
        rintro e w19 ⟨rfl, rfl⟩
        go_wp2_with fail
        go_ret
        exact ⟨rfl, HB17.out⟩
end Go.Proofs.Ytfddkehnhkfjeaa
