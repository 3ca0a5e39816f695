/- Frag: the iterator over the pieces (Pieces$3). -/
import Derived.Test.YtfddkehnhkfjeaaFrF
import Derived.Test.YtfddkehnhkfjeaaFrG
import Derived.Test.YtfddkehnhkfjeaaFrH
namespace Go.Proofs.Ytfddkehnhkfjeaa
open Go.RowKit Go.Sort Go.BigFrame
attribute [local go_sem] Oper.semAt_some

/-- The packet's parts, as the closures of Pieces have them: blocks of the header, the payload, the MTU, the closure. -/
structure P3 (w : World) (I : Nat → Prop) (bh bp bm bc : Nat) (h : Hd) (A1 : Option Addr) (n1 c1 : Nat) (Ap : Option Addr) (cp : Nat) (p : By) (m : Int) : Prop where
  lt : ∀ k, I k → k < w.heap.size
  kh : Blk w bh 28 (hdC h (.slice A1 n1 c1))
  jh : I bh
  kp : Blk w bp 22 #[.slice Ap p.length cp]
  jp : I bp
  km : Blk w bm 3 #[.int .i64 m]
  jm : I bm
  kc : Blk w bc 126 #[.func (.func 94) #[] #[.pointer (some ⟨bh, 0, none⟩), .pointer (some ⟨bp, 0, none⟩), .pointer (some ⟨bm, 0, none⟩)]]
  jc : I bc
  sv : Sl8 w I (.slice A1 n1 c1) h.opts
  sp : Sl8 w I (.slice Ap p.length cp) p
section
variable {w w2 : World} {I K : Nat → Prop} {bh bp bm bc : Nat} {h : Hd} {A1 : Option Addr} {n1 c1 : Nat} {Ap : Option Addr} {cp : Nat} {p : By} {m : Int}
theorem P3.keep (s : P3 w I bh bp bm bc h A1 n1 c1 Ap cp p m) (hs : Same I w w2) : P3 w2 I bh bp bm bc h A1 n1 c1 Ap cp p m :=
  ⟨fun k hk => Nat.lt_of_lt_of_le (s.lt k hk) hs.1, (hs.2 bh s.jh s.kh.lt).trans s.kh, s.jh, (hs.2 bp s.jp s.kp.lt).trans s.kp, s.jp, (hs.2 bm s.jm s.km.lt).trans s.km, s.jm, (hs.2 bc s.jc s.kc.lt).trans s.kc, s.jc, s.sv.keep hs, s.sp.keep hs⟩
theorem P3.mono (s : P3 w I bh bp bm bc h A1 n1 c1 Ap cp p m) (hs : ∀ k, I k → K k) (hl : ∀ k, K k → k < w.heap.size) : P3 w K bh bp bm bc h A1 n1 c1 Ap cp p m :=
  ⟨hl, s.kh, hs _ s.jh, s.kp, hs _ s.jp, s.km, hs _ s.jm, s.kc, hs _ s.jc, s.sv.mono hs, s.sp.mono hs⟩
end
/-- The payload's part of a piece. -/
theorem sl_mid (wx : World) (A : Option Addr) (n c a b : Nat) (ha : a ≤ b) (hb : b ≤ c) : (Instr.slice 22 (.slice A n c) (some (.int .i64 (a : Int))) (some (.int .i64 (b : Int))) (some (.int .i64 (b : Int)))).run Try.prog wx = .ok (.slice (if b = a then A else A.map (·.add a)) (b - a) (b - a)) wx := by
  rw [run_slice_lhm wx _ _ _ _ u8elem .i64 .i64 .i64 _ _ _ (by omega) (by omega) (by omega) (by omega), u8elem2, u8size]
  by_cases h0 : b = a
  · simp [Result.andThen, sliced, h0]
  · simp [Result.andThen, sliced, h0]
theorem cut_mid {w : World} {I : Nat → Prop} {A : Option Addr} {x : By} {a b : Nat} (h : Reads w I 1 A x.length (bytesV x)) (hab : a ≤ b) (hb : b ≤ x.length) : Sl8 w I (.slice (if b = a then A else A.map (·.add a)) (b - a) (b - a)) (partF x a b) := by
  have hl : (x.take b).length = b := by rw [List.length_take]; omega
  have h1 : Reads w I 1 A (x.take b).length (bytesV (x.take b)) := by
    rw [hl]
    exact reads_take h hb
  have h2 := cut_lo (k := a) (cap := b) h1 (by rw [hl]; exact hab) (by rw [hl]; omega)
  rw [hl] at h2
  exact h2
theorem ld_fn {w : World} {a : Addr} {f : Nat} {l : Array Value} (hu : w.cell? a = some (.func (.func f) #[] l)) : (Instr.loadAt 126 (.pointer (some a))).run Try.prog w = .ok (.func (.func f) #[] l) w := by
  simp [go_sem, hu]
attribute [-go_sem] Instr.storeAt Instr.loadAt in
set_option maxRecDepth 100000 in
set_option maxHeartbeats 4000000 in
theorem pcs_fits (w : World) (bh bp bm bc : Nat) (h : Hd) (A1 : Option Addr) (n1 c1 : Nat) (Ap : Option Addr) (cp : Nat) (p : By) (m : Int) (J0 : Nat → Prop) (s0 : P3 w J0 bh bp bm bc h A1 n1 c1 Ap cp p m) (ok : h.ok) (hmy : mayH h = true) (h68 : 68 ≤ m) (hm2 : m ≤ 65535) (hsm : p.length ≤ 1000000) (hoff : ∀ q ∈ pcsF h p.length m.toNat p.length 0, q.2.1.off ≤ 8191) :
    SeqFit Fence.wide 4 Try.prog 95 #[.pointer (some ⟨bp, 0, none⟩), .pointer (some ⟨bc, 0, none⟩)] pcV (Same J0) (fun ys => ys.length = (pcsF h p.length m.toNat p.length 0).length) (fun _ => True) (PcFit ((pcsF h p.length m.toNat p.length 0).map (pbF p)) w.heap.size) w := fun l J Jx W hW hJa _ h0 hY => by
  have S0 := Lib.hid (s0.keep (Same.ofBelow hW s0.lt))
  obtain ⟨L, hL⟩ : ∃ L, L = p.length := ⟨_, rfl⟩
  obtain ⟨m', hm'⟩ : ∃ m' : Nat, m' = m.toNat := ⟨_, rfl⟩
  have h68' : 68 ≤ m' := by omega
  have hmm : (m' : Int) = m := by omega
  rw [← hL] at hsm hoff
  rw [← hm'] at hoff
  rw [← hL, ← hm'] at hY ⊢
  have HY := Lib.hid hY
  have HJA := Lib.hid hJa
  have HH0 := Lib.hid h0
  have HWZ := Lib.hid hW.size
  have HL := Lib.hid hL
  have HM := Lib.hid hm'
  have HOF := Lib.hid hoff
  have HMY := Lib.hid hmy
  clear hY hJa h0 hW hL hm' hoff hmy s0
  refine callsIn_of_wp Try.func95 rfl trivial ?_ rfl
  simp only [Try.ntmps95, List.size_toArray, List.length_cons, List.length_nil, Nat.reduceAdd, Nat.reduceSub, Array.replicate_succ, Array.replicate_zero, List.push_toArray, List.append_toArray, List.nil_append, List.cons_append]
  gi_wp2
  gi_loopw [4] (fun i wr => ∃ (a : Nat) (pre : List Pc), i = .int .i64 (a : Int) ∧ a ≤ L ∧ J pre wr ∧ Same J0 W wr ∧ pcsF h L m' L a = (pcsF h L m' L 0).drop pre.length ∧ pre.length ≤ (pcsF h L m' L 0).length) (fun i _ => L - (intOf i).toNat)
  case atStart => exact ⟨0, [], rfl, Nat.zero_le _, HH0.out, Same.refl _ _, rfl, Nat.zero_le _⟩
  case round =>
    obtain ⟨a, pre, rfl, hal, hJs, hsame, hdrop, hple⟩ := hrel
    have sr := S0.out.keep hsame
    have hpc := ld8s (show wr.cell? ⟨bp, 0, none⟩ = some (.slice Ap L cp) by rw [HL.out]; exact sr.kp.cell 0)
    have hi0 : (0 : Int) ≤ a := by omega
    have HJ := Lib.hid hJs
    have HSM := Lib.hid hsame
    by_cases hlt : a < L
    · have hi1 : (a : Int) < L := by omega
      obtain ⟨hpos, hle, hm8, hsz⟩ := pc_pos HMY.out h68' hlt
      have hcons : pcsF h L m' L a = (a, pcF h L m' a) :: pcsF h L m' L (a + (pcF h L m' a).2) := by
        obtain ⟨L', hL'⟩ : ∃ L', L = L' + 1 := ⟨L - 1, by omega⟩
        have e := pcs_cons h L m' L' a hlt
        rw [← hL'] at e
        rw [e, pcs_fuel HMY.out h68' L' L (a + (pcF h L m' a).2) (by omega) (by omega)]
      have hget : (pcsF h L m' L 0)[pre.length]? = some (a, pcF h L m' a) := by
        have := congrArg (fun l => l[0]?) (hdrop.symm.trans hcons)
        simpa using this
      have ho8 : (pcF h L m' a).1.off ≤ 8191 := HOF.out _ (List.mem_of_getElem? hget)
      have hmg := pc_may HMY.out ho8
      have hge := pc_mf h L m' a hlt h68'
      have hPC := piece_any h A1 n1 c1 bh bp bm Ap L cp m a wr sr.kh (by rw [HL.out]; exact sr.kp) sr.km (sr.sv.mono sr.lt) HMY.out h68 hm2 hlt hsm
      unfold PgPost at hPC
      rw [← HM.out] at hPC
      obtain ⟨G, hG⟩ : ∃ G, G = pcF h L m' a := ⟨_, rfl⟩
      rw [← hG] at hPC hpos hle hm8 hsz hcons hget ho8 hmg hge
      obtain ⟨g, n⟩ := G
      simp only at hPC hpos hle hm8 hsz hcons hget ho8 hmg hge
      have hgo : g.ok := by rw [hge]; exact ok
      have hfit : fitsH g (partF p a (a + n)) = true := by
        unfold fitsH
        rw [hmg, part_len2 (by rw [← HL.out]; omega)]
        simp only [Bool.true_and, decide_eq_true_eq]
        omega
      have hpb : bytesF g (partF p a (a + n)) = pbF p (a, g, n) := rfl
      obtain ⟨x, hx⟩ : ∃ x, x = pbF p (a, g, n) := ⟨_, rfl⟩
      have hg40 : g.opts.length ≤ 1000000 := by omega
      have HPC := Lib.hid hPC
      have HGO := Lib.hid hgo
      have HFT := Lib.hid hfit
      have HPB := Lib.hid hpb
      have HX := Lib.hid hx
      have HCN := Lib.hid hcons
      have HGT := Lib.hid hget
      have HKC := ld_fn (sr.kc.cell 0)
      have SR := Lib.hid sr
      have HDR := Lib.hid hdrop
      have HPL := Lib.hid hple
      clear hPC hgo hfit hpb hx hcons hget hmg hge ho8 hm8 hsz hG sr hdrop hple hJs hsame
      gi_wp2_with fail
      refine ⟨trivial, ?_⟩
      refine (callsIn_wide.2 HPC.out).mono ?_
      rintro e w3 ⟨v3, rfl, hs3, hb3⟩
      obtain ⟨A3, c3, rfl, hc3, hr3⟩ := hs3
      obtain ⟨W5, hst, hb5, hb35, hk5⟩ := hd_var hb3 hb3.size g A3 g.opts.length c3
      have s5 := SR.out.keep (Same.ofBelow hb5 SR.out.lt)
      have hv5 : Sl8 W5 (fun k => k < w3.heap.size) (.slice A3 g.opts.length c3) g.opts := ⟨_, _, rfl, hc3, hr3.keep (Same.ofBelow hb35 fun k hk => hk)⟩
      have HV5 := Lib.hid hv5
      have HK5 := Lib.hid hk5
      have HB5 := Lib.hid hb5
      have HB35 := Lib.hid hb35.size
      have HS5 := Lib.hid s5
      have hpn : n ≤ cp ∧ a + n ≤ cp := by
        obtain ⟨_, hc, _⟩ := SR.out.sp.len
        rw [← HL.out] at hc
        omega
      have hsl := cut_mid (a := a) (b := a + n) (s5.sp.len.2.2) (by omega) (by rw [← HL.out]; omega)
      obtain ⟨pv, hpv⟩ : ∃ pv, pv = (if a + n = a then Ap else Ap.map (·.add a)) := ⟨_, rfl⟩
      have hsn := fun wx => sl_mid wx Ap L cp a (a + n) (by omega) hpn.2
      rw [← hpv] at hsl hsn
      rw [show a + n - a = n from by omega] at hsl hsn
      simp only [Int.natCast_add] at hsn
      have HSL := Lib.hid hsl
      clear hb3 hr3 hc3 hb5 hb35 hk5 s5 hv5 hpn hsl hpv HPC
      gi_wp2_with fail
      refine wpIn_wide.2 ?_
      clear hst
      refine wp_region_stages [(true, 10), (false, 1), (true, 5)] (by kernel_rfl) (by kernel_rfl) fun wz hz _ => ?_
      have kz := HK5.out.below hz HK5.out.lt
      have pz := (HS5.out.kp.below hz HS5.out.kp.lt).cell 0
      rw [← HL.out] at pz
      have ld := fun (d : Nat) (os : Array Obj) => hd_load (kz.below (below_regrown wz d os) kz.lt) rfl
      have k1 := cell_regrown pz
      have l1 := fun d os => ld8s (k1 d os)
      have HZ := Lib.hid hz
      clear kz pz k1 hz
      refine wpSt_q ?_
      simp only [List.take_succ_cons, List.take_zero, List.drop_succ_cons, List.drop_zero]
      repeat (go_big_quiet_step (fail))
      refine wpQuiet_nil ?_
      intro _ hw'
      obtain ⟨⟨dq, osq⟩, hw''⟩ := hw'
      subst hw''
      have hbq := below_regrown wz dq osq
      generalize grow (redrawn wz dq) osq = wq at hbq ⊢
      clear ld l1
      have hb5q := HZ.out.trans (hbq.mono HZ.out.size)
      have hBY := bytes_any g (.slice A3 g.opts.length c3) (.slice pv n n) (partF p a (a + n)) (fun k => k < W5.heap.size) wq ((HV5.out.keep (Same.ofBelow hb5q fun k hk => Nat.lt_of_lt_of_le hk HB35.out)).mono fun k hk => Nat.lt_of_lt_of_le hk HB35.out) ((HSL.out.keep (Same.ofBelow hb5q HS5.out.lt)).mono HS5.out.lt) HGO.out hg40 (by rw [part_len2 (by rw [← HL.out]; omega)]; omega)
      rw [if_pos HFT.out, if_pos HFT.out, HPB.out, ← HX.out] at hBY
      have HBY := Lib.hid hBY
      have HBQ := Lib.hid hb5q
      clear hBY hbq hsn hb5q
      refine wpSt_l ?_
      go_wp2_with (refine HBY.out.mono ?_; rintro e w6 ⟨v6, rfl, hr6, hb6⟩; obtain ⟨A6, c6, rfl, _⟩ := own_form hr6)
      have hb56 := HBQ.out.trans (hb6.mono HBQ.out.size)
      have hbr6 := HB5.out.trans (hb56.mono HB5.out.size)
      have H6 := Lib.hid (show Below wr.heap.size wr w6 ∧ Row8 wq.heap.size w6 (.slice A6 x.length c6) x from ⟨hbr6, hr6⟩)
      have HQZ := Lib.hid (show w.heap.size ≤ wq.heap.size from Nat.le_trans HWZ.out (Nat.le_trans HSM.out.1 (Nat.le_trans HB5.out.size HBQ.out.size)))
      clear hb56 hbr6 hr6 hb6 HBY
      refine wpSt_q ?_
      simp only [List.take_succ_cons, List.take_zero, List.drop_succ_cons, List.drop_zero]
      repeat (go_big_quiet_step (fail))
      refine wpQuiet_nil ?_
      intro _ hw'
      obtain ⟨⟨dr, osr⟩, hw''⟩ := hw'
      subst hw''
      have hbr := below_regrown w6 dr osr
      generalize grow (redrawn w6 dr) osr = w7 at hbr ⊢
      have hb7 := H6.out.1.trans (hbr.mono H6.out.1.size)
      have hr7 := H6.out.2.below hbr
      refine wpSt_end ?_
      have hJ7 := HJA.out _ _ _ _ HJ.out (grown_none hb7) (fun r hr => by cases hr)
      have hfit7 : PcFit ((pcsF h L m' L 0).map (pbF p)) w.heap.size pre (A6, c6, x) w7 := ⟨by rw [List.getElem?_map, HGT.out, HX.out]; rfl, own_base hr7 HQZ.out⟩
      have hyy := HY.out pre (A6, c6, x) w7 hJ7 hfit7
      unfold pcV at hyy
      simp only at hyy
      have hs7 : Same J0 W w7 := HSM.out.trans (Same.ofBelow hb7 SR.out.lt)
      have HS7 := Lib.hid hs7
      clear hb7 hr7 hbr hJ7 hfit7 hs7
      obtain ⟨fn, tmps, assign, body, hy, hR⟩ := hyy
      gi_wp2_with fail
      refine hR.mono ?_
      rintro e3 W3 (⟨rfl, hJ3, hk3⟩ | ⟨rfl, hJx3⟩)
      · gi_wp2
        go_roundw
        case rel =>
          refine ⟨a + n, pre ++ [(A6, c6, x)], by simp, by omega, hJ3, HS7.out.trans hk3, ?_, ?_⟩
          · have e := HDR.out.symm.trans HCN.out
            rw [List.length_append, List.length_singleton, ← List.drop_drop, e]
            rfl
          · have := (List.getElem?_eq_some_iff.1 HGT.out).1
            rw [List.length_append, List.length_singleton]
            omega
        case measure => simp [intOf]; omega
      · gi_wp2
        refine bodyPost_ret (results_none rfl _ _ _) rfl ?_
        exact ⟨⟨_, rfl⟩, .inr ⟨_, trivial, hJx3⟩⟩
    · obtain rfl : a = L := by omega
      have HPL := Lib.hid hple
      have HDR := Lib.hid hdrop
      clear hple hdrop
      gi_wp2
      go_end0
      refine ⟨⟨_, rfl⟩, .inl ⟨pre, ?_, HJ.out⟩⟩
      have e := HDR.out
      rw [pcs_end _ _ _ _ _ (Nat.le_refl _)] at e
      have e2 := congrArg List.length e
      rw [List.length_drop, List.length_nil] at e2
      have := HPL.out
      omega
end Go.Proofs.Ytfddkehnhkfjeaa
