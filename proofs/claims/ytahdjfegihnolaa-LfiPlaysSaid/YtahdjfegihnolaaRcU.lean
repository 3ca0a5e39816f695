/- Layer 12: the law's same; the document's core as a whole, beside the program's. -/
import Derived.Test.YtahdjfegihnolaaRcR
import Derived.Test.YtahdjfegihnolaaLwN
import Derived.Test.YtahdjfegihnolaaLwI
import Derived.Test.YtahdjfegihnolaaLwG
namespace Go.Proofs.Ytahdjfegihnolaa
open Go.RowKit Go.Sort
theorem eqIn_ar9 (f g : Nat → Int) (w : World) : (Op.equalIn 9999  41 (.agg (arA f)) (.agg (arA g))).run Try.prog w = .ok (eq8 f g) w := by
  obtain ⟨i, hi⟩ : ∃ i, Try.prog.info? 3 = some i := by
    have := (show (Try.prog.info? 3).map (fun i => (i.zero, i.size, i.bytes)) = some (some (.int .i64 0), 1, 8) by kernel_rfl)
    cases h : Try.prog.info? 3 with
    | none => rw [h] at this; cases this
    | some i => exact ⟨i, rfl⟩
  have hc : Try.prog.cellsOf 3 = 1 := by kernel_rfl
  rw [run_equalIn_array (P := Try.prog) w 9998 (arA f) (arA g) Try.underlying41 hi, hc]
  have key : ∀ is : List Nat, (∀ j ∈ is, j < 8) → (Op.eqItems 9998 3 1 (arA f) (arA g) is).run Try.prog w = .ok (is.all fun i => f i == g i) w := fun is => by
    induction is with
    | nil => intro _; simp [Op.eqItems]
    | cons j is ih =>
      intro h
      have hj := h j (by simp)
      have gf : ∀ f : Nat → Int, (arA f)[j * 1]? = some (.int .i64 (f j)) := fun f => by
        rw [Nat.mul_one]
        rcases lt8 hj with rfl | rfl | rfl | rfl | rfl | rfl | rfl | rfl <;> rfl
      have hp : (part 3 (arA f) (j * 1)).run Try.prog w = .ok (.int .i64 (f j)) w := run_part_plain (P := Try.prog) (w := w) (by kernel_rfl) (gf f)
      have hq : (part 3 (arA g) (j * 1)).run Try.prog w = .ok (.int .i64 (g j)) w := run_part_plain (P := Try.prog) (w := w) (by kernel_rfl) (gf g)
      unfold Op.eqItems
      simp only [Sem.run_bind, hp, hq, Result.andThen_ok]
      rw [run_equalIn_int (P := Try.prog) (w := w) 9997 3 .i64 .i64 (f j) (g j) Try.underlying3]
      simp only [Result.andThen_ok, List.all_cons]
      have ih2 := ih fun j hj => h j (by simp [hj])
      by_cases hb : f j = g j
      · simp [hb, ih2]
      · have hb2 : (f j == g j) = false := by rw [beq_eq_false_iff_ne]; exact hb
        clear hb
        simp [hb2]
  rw [key _ fun j hj => List.mem_range.1 hj]
  rfl
theorem eq8_self (f : Nat → Int) : eq8 f f = true := by unfold eq8; simp
set_option maxRecDepth 100000 in
theorem neq_vi (c : Pc) (x : Le) (w : World) : (binOp .neq 43 (.agg (viC c x)) (.agg (viC c x))).run Try.prog w = .ok (.bool false) w := by
  have h := eqIn_ar9 x.said x.said w
  rw [eq8_self] at h
  unfold arA at h
  unfold viC
  rw [run_neq_struct]
  go_simp
theorem neq_pfs (a : Nat) (m : Int) (w : World) : (binOp .neq 36 (.agg #[.int .u32 (a : Int), .int .i64 m]) (.agg #[.int .u32 (a : Int), .int .i64 m])).run Try.prog w = .ok (.bool false) w := by
  go_simp
theorem neq_nxs (a b : Int) (w : World) : (binOp .neq 61 (.agg #[.int .i64 a, .int .i64 b]) (.agg #[.int .i64 a, .int .i64 b])).run Try.prog w = .ok (.bool false) w := by
  go_simp
theorem neq_tls (q a n d : Int) (w : World) : (binOp .neq 56 (.agg #[.int .i64 q, .int .u32 a, .int .i64 n, .int .i64 d]) (.agg #[.int .i64 q, .int .u32 a, .int .i64 n, .int .i64 d])).run Try.prog w = .ok (.bool false) w := by
  go_simp
/-- What is told of an entry is copied into a variable of the call's own. -/
theorem vi_copy (W1 : World) (c : Pc) (x : Le) : ∃ W2, (Instr.storeAt 43 (.pointer (some ⟨W1.heap.size, 0, none⟩)) (.agg (viC c x))).run Try.prog (W1.alloc (.cells #[.int .u32 0, .int .i64 0, .bool false, .bool false, .bool false, .int .i64 0, .int .i64 0, .int .i64 0, .int .i64 0, .int .i64 0, .int .i64 0, .int .i64 0, .int .i64 0, .int .i64 0, .int .i64 0, .int .i64 0] 43)) = .ok () W2 ∧ Blk W2 W1.heap.size 43 (viC c x) ∧ Below W1.heap.size W1 W2 := by
  have hk : Blk (W1.alloc (.cells viZ 43)) W1.heap.size 43 viZ := Blk.new _ _ _
  have st := stc_store vi_info hk rfl (vs := viC c x) rfl (by simp [viC, Value.oneCell'])
  exact ⟨_, st, blk_setCells hk rfl, below_setCells (Nat.le_refl _) _ _ _ ((Below.refl _ _).alloc (Nat.le_refl _) _)⟩
theorem vi_load {w : World} {b : Nat} {c : Pc} {x : Le} (h : Blk w b 43 (viC c x)) : (Instr.loadAt 43 (.pointer (some ⟨b, 0, none⟩))).run Try.prog w = .ok (.agg (viC c x)) w := stc_load Try.underlying43 rfl vi_info h rfl
theorem vi_p {w : World} {b : Nat} {c : Pc} {x : Le} (h : Blk w b 43 (viC c x)) : (Instr.loadAt 36 (.pointer (some ⟨b, 0, none⟩))).run Try.prog w = .ok (.agg #[.int .u32 (x.p.1 : Int), .int .i64 x.p.2]) w := ld_pfo (h.cell 0) (h.cell 1)
/-- A successor in a row. -/
theorem flatN_get : ∀ (L : List Nx) (k : Nat) (a : Nx), L[k]? = some a → ∀ j, j < 2 → (flatN L)[k * 2 + j]? = (nxE a)[j]?
  | [], _, _, h, _, _ => by simp at h
  | q :: L, 0, a, h, j, hj => by
    obtain rfl : q = a := by simpa using h
    unfold flatN
    rw [List.flatMap_cons, Nat.zero_mul, Nat.zero_add, List.getElem?_append_left (by simp [nxE]; omega)]
  | q :: L, k + 1, a, h, j, hj => by
    have ih := flatN_get L k a (by simpa using h) j hj
    unfold flatN at ih ⊢
    rw [List.flatMap_cons, List.getElem?_append_right (by simp [nxE]; omega), ← ih]
    congr 1
    simp [nxE]
    omega
set_option maxRecDepth 100000 in
theorem nx_load {w : World} {B b n cp : Nat} {o : List Nx} (h : NxM w B (.slice (some ⟨b, 0, none⟩) n cp) o) {k : Nat} {t : Nx} (hk : o[k]? = some t) : (Instr.loadAt 61 (.pointer (some ⟨b, k * 2, none⟩))).run Try.prog w = .ok (.agg #[.int .i64 (t.1 : Int), .int .i64 t.2]) w := by
  have hlt : k < o.length := (List.getElem?_eq_some_iff.1 hk).1
  unfold NxM at h
  obtain ⟨A, q, e, _⟩ := own_form h
  injection e with e1 e2 e3
  subst e2
  have c0 := h.cellAt (k * 2 + 0) (by omega)
  have c1 := h.cellAt (k * 2 + 1) (by omega)
  rw [flatN_get o k t hk 0 (by omega)] at c0
  rw [flatN_get o k t hk 1 (by omega)] at c1
  simp [nxE] at c0 c1
  simp [go_sem, c0, c1]
set_option maxRecDepth 100000 in
set_option maxHeartbeats 2000000 in
attribute [-go_sem] Instr.storeAt Instr.loadAt in
theorem sametold_any {w : World} {B1 B2 n c1 c2 : Nat} {A1 A2 : Option Addr} {o : List Tl} (h1 : OutM w B1 (.slice A1 n c1) o) (h2 : OutM w B2 (.slice A2 n c2) o) (hn : n = o.length) (hm : n ≤ 1000000) :
    Calls Try.prog 22 #[.slice A1 n c1, .slice A2 n c2] w fun e w' => e = .returned (.bool true) ∧ Below w.heap.size w w' := by
  have H1 := Lib.hid h1
  have H2 := Lib.hid h2
  have HN := Lib.hid hn
  clear h1 h2 hn
  go_enter Try.func22, Try.ntmps22
  go_wp2_with fail
  go_loopw [5] (fun s5 wr => ∃ k : Nat, k ≤ n ∧ s5 = .int .i64 (k : Int) ∧ Below w.heap.size w wr) (fun s5 _ => n - (intOf s5).toNat)
  case atStart => exact ⟨0, Nat.zero_le _, rfl, Below.refl _ _⟩
  case round =>
    obtain ⟨k, hk, rfl, hB⟩ := hrel
    have HB := Lib.hid hB
    by_cases hlt : k < n
    · obtain ⟨t, ht⟩ : ∃ t, o[k]? = some t := ⟨_, List.getElem?_eq_getElem (by rw [← HN.out]; exact hlt)⟩
      obtain ⟨g1, d1, e1, _⟩ := own_form1 H1.out (by rw [← HN.out]; omega)
      injection e1 with e1 em e2
      obtain rfl := e1
      clear em e2
      obtain ⟨g2, d2, e3, _⟩ := own_form1 H2.out (by rw [← HN.out]; omega)
      injection e3 with e3 em e4
      obtain rfl := e3
      clear em e4
      have r1 := fun (q : Nat) => tl_all (w := wr.drewN q) (own_below H1.out (hB.trans ((below_drewN wr q).mono hB.size))) ht
      have r2 := fun (q : Nat) => tl_all (w := wr.drewN q) (own_below H2.out (hB.trans ((below_drewN wr q).mono hB.size))) ht
      have r3 := fun wx => neq_tls (t.1 : Int) (t.2.1.1 : Int) t.2.1.2 t.2.2 wx
      have k0 : (0 : Int) ≤ k := by omega
      have k1 : (k : Int) < n := by omega
      clear hB ht
      go_wp2_with fail
      go_quiet (fail)
      go_wp2_with fail
      go_roundw
      case rel => exact ⟨k + 1, by omega, by go_num, HB.out.trans ((below_drewN wr _).mono HB.out.size)⟩
      case measure => simp [intOf]; omega
    · obtain rfl : k = n := by omega
      clear hB
      go_wp2_with fail
      go_ret
      exact ⟨rfl, HB.out⟩
end Go.Proofs.Ytahdjfegihnolaa
namespace Go.Proofs.Ytahdjfegihnolaa
open Go.RowKit Go.Sort
/-- Are the first k passive? -/
def pasK (l : List Le) (k : Nat) : Bool := (l.take k).all fun x => !actF x
theorem pasK_succ {l : List Le} {k : Nat} {x : Le} (h : l[k]? = some x) : pasK l (k + 1) = (pasK l k && !actF x) := by
  unfold pasK
  rw [List.take_add_one, h, List.all_append]
  simp
theorem pasK_all (l : List Le) : pasK l l.length = pasF l := by unfold pasK pasF; rw [List.take_of_length_le (Nat.le_refl _)]
set_option maxRecDepth 100000 in
set_option maxHeartbeats 8000000 in
attribute [-go_sem] Instr.storeAt Instr.loadAt in
theorem same12_any {w0 w : World} {M : Nat → Prop} {cb mb : Nat} {S : Lc} (hc : Core w0 w M cb mb S) {D rb : Nat} {av ov : Value} (hr : RcM w D rb av ov S.room S.pc S.all) :
    Calls Try.prog 21 #[.pointer (some ⟨cb, 0, none⟩), .pointer (some ⟨rb, 0, none⟩)] w fun e w' => e = .returned (.bool true) ∧ Below w.heap.size w w' := by
  obtain ⟨A, cap, hav, _⟩ := hr.len_le
  subst hav
  have HRC := Lib.hid (core_routes hc)
  have HC0 := Lib.hid hc
  have HR0 := Lib.hid hr
  clear hc hr
  go_enter Try.func21, Try.ntmps21
  go_upto_region 2 with (go_at_call 13; refine HRC.out.mono ?_; rintro en w1 ⟨v, rfl, hrm, hb1⟩; obtain ⟨L, hL, hrl⟩ := hrm; obtain ⟨Ar, cr, rfl, _⟩ := own_form hrl.1; have HRL := Lib.hid hrl; have HL := Lib.hid hL; have HB1 := Lib.hid hb1; clear hb1 hL hrl)
  have HC := Lib.hid (HC0.out.later HB1.out)
  have HR := Lib.hid (HR0.out.below HB1.out)
  obtain ⟨q, hq⟩ : ∃ q, q = L.length := ⟨_, rfl⟩
  rw [← hq]
  have hrl := HRL.out
  rw [← hq] at hrl
  have HRL := Lib.hid hrl
  have hqs : q = S.all.length := by rw [hq, ← HL.out, List.length_map]
  have HQ := Lib.hid hq
  have HQS := Lib.hid hqs
  have hq9 : q ≤ 1024 := by rw [hqs]; exact HC.out.ok.len
  have l0 := ld_all (w := w1) (b := rb) (A := A) (n := q) (c := cap) (by rw [hqs]; exact HR.out.blk.cell 17)
  obtain ⟨r0, hr0⟩ : ∃ r, r = w.heap.size := ⟨_, rfl⟩
  rw [← hr0] at HRL
  clear hq hrl hqs hr0
  go_wp2_with fail
  clear l0
  go_loopw [6, 7] (fun s6 s7 wr => ∃ k : Nat, k ≤ q ∧ s7 = .int .i64 (k : Int) ∧ s6 = .bool (pasK S.all k) ∧ Below w1.heap.size w1 wr) (fun _ s7 _ => q - (intOf s7).toNat)
  case atStart => exact ⟨0, Nat.zero_le _, rfl, rfl, Below.refl _ _⟩
  case round =>
    obtain ⟨k, hk, rfl, rfl, hB⟩ := hrel
    obtain ⟨wo, rfl⟩ : ∃ wo : World, wo = wr := ⟨_, rfl⟩
    have HB := Lib.hid hB
    have k0 : (0 : Int) ≤ k := by omega
    by_cases hlt : k < q
    · obtain ⟨a, hak⟩ : ∃ a, L[k]? = some a := ⟨_, List.getElem?_eq_getElem (by rw [← HQ.out]; exact hlt)⟩
      obtain ⟨x, sv⟩ := a
      have hxk : S.all[k]? = some x := by rw [← HL.out, List.getElem?_map, hak]; rfl
      have hxm := List.mem_of_getElem? hxk
      obtain ⟨gr, cq, e8, _⟩ := own_form1 HRL.out.1 (by rw [← HQ.out]; omega)
      obtain ⟨rfl, rfl⟩ : Ar = some ⟨gr, 0, none⟩ ∧ cr = cq := by cases e8; exact ⟨rfl, rfl⟩
      have hs := (HC.out.ok.e x hxm).s
      have HV := Lib.hid (view_any (HR.out.below hB) hxk HC.out.ok.len hs HC.out.ok.pc.b)
      have HXK := Lib.hid hxk
      have HXM := Lib.hid hxm
      have HAK := Lib.hid hak
      have HS := Lib.hid hs
      have HPK := Lib.hid (pasK_succ hxk)
      have k1 : (k : Int) < q := by omega
      clear hB hxk hxm hak e8 hs
      go_upto_region 9 with (go_at_call 24; refine HV.out.mono ?_; rintro en w2 ⟨rfl, hb2⟩; have HB2 := Lib.hid (HB.out.trans (hb2.mono HB.out.size)); obtain ⟨w3, st, hk3, hb3⟩ := vi_copy w2 S.pc x; have HK3 := Lib.hid hk3; have HB3 := Lib.hid hb3; clear hb2 hk3 hb3)
      clear st
      obtain ⟨vb, hvb⟩ : ∃ v, v = w2.heap.size := ⟨_, rfl⟩
      rw [← hvb] at HK3 ⊢
      have HB13 := Lib.hid (show Below w1.heap.size w1 w3 from HB2.out.trans (HB3.out.mono HB2.out.size))
      have HEN := Lib.hid (show Calls Try.prog 14 #[.pointer (some ⟨cb, 0, none⟩), .agg #[.int .u32 (x.p.1 : Int), .int .i64 x.p.2]] w3 fun e w' => e = .returned (.tuple #[.agg (viC S.pc x), .bool true]) ∧ Below w3.heap.size w3 w' by
        have hc3 := HC.out.later HB13.out
        have hen := core_entry hc3 (may_ok (hc3.mayx x HXM.out))
        unfold EnF at hen
        rw [find_sorted hc3.ok.srt HXM.out] at hen
        exact hen)
      have lp := vi_p HK3.out
      clear hvb HV
      go_upto_region 10 with (go_at_call 14; refine HEN.out.mono ?_; rintro en w4 ⟨rfl, hb4⟩; have HB4 := Lib.hid (HB13.out.trans (hb4.mono HB13.out.size)); have HK4 := Lib.hid (HK3.out.below hb4 HK3.out.lt); obtain ⟨w5, st, hk5, hb5⟩ := vi_copy w4 S.pc x; have HK5 := Lib.hid hk5; have HB5 := Lib.hid hb5; clear hb4 hk5 hb5)
      clear st lp
      obtain ⟨eb, heb⟩ : ∃ v, v = w4.heap.size := ⟨_, rfl⟩
      rw [← heb] at HK5 ⊢
      have HKV5 := Lib.hid (HK4.out.below HB5.out HK4.out.lt)
      have HB15 := Lib.hid (show Below w1.heap.size w1 w5 from HB4.out.trans (HB5.out.mono HB4.out.size))
      have HNX := Lib.hid (next12_any (HR.out.below HB15.out) HXK.out HC.out.ok.len HS.out HC.out.ok.pc.b)
      clear heb
      go_upto_region 11 with (go_at_call 44; refine HNX.out.mono ?_; rintro en w6 ⟨v, rfl, hn6, hb6⟩; obtain ⟨An, cn, rfl, _⟩ := own_form hn6; have HN6 := Lib.hid hn6; have HB6 := Lib.hid hb6; clear hn6 hb6)
      obtain ⟨m, hm⟩ : ∃ m, m = (nextF S.pc x).length := ⟨_, rfl⟩
      have hn6 := HN6.out
      rw [← hm] at hn6 ⊢
      have HN6 := Lib.hid hn6
      have HMM := Lib.hid hm
      have hm9 : m ≤ 8 := by rw [hm]; exact nextK_len S.pc x 8
      have HB16 := Lib.hid (show Below w1.heap.size w1 w6 from HB15.out.trans (HB6.out.mono HB15.out.size))
      have HKE := Lib.hid (HK5.out.below HB6.out HK5.out.lt)
      have HKV := Lib.hid (HKV5.out.below HB6.out HKV5.out.lt)
      obtain ⟨nb, hnb⟩ : ∃ v, v = w5.heap.size := ⟨_, rfl⟩
      rw [← hnb] at HN6
      have la := ld_bC (w := w6) (b := vb) (o := 4) (z := actF x) (HKV.out.cell 4)
      obtain ⟨ac, hac⟩ : ∃ z, z = actF x := ⟨_, rfl⟩
      rw [← hac] at la HPK
      obtain ⟨pk, hpk⟩ : ∃ z, z = pasK S.all k := ⟨_, rfl⟩
      rw [← hpk] at HPK ⊢
      obtain ⟨An2, cn2, e9, hn7, _⟩ := rt_nx (HRL.out.below HB16.out) HAK.out
      dsimp only at e9 hn7
      have hpar : (pk && !ac) = pasK S.all (k + 1) := HPK.out.symm
      clear hn6 hm hnb hac hpk hn7
      have HPAR := Lib.hid hpar
      have hrq := fun (dd : Nat) => HRL.out.below (HB16.out.trans ((below_drewN w6 dd).mono HB16.out.size))
      have f1 := fun (dd : Nat) => vi_load (w := w6.drewN dd) (HKE.out.drewN dd)
      have f2 := fun (dd : Nat) => vi_load (w := w6.drewN dd) (HKV.out.drewN dd)
      have f3 := fun wx => neq_vi S.pc x wx
      have f4 := fun (dd : Nat) => rt_p (w := w6.drewN dd) (hrq dd) HAK.out
      have f5 := fun (dd : Nat) => vi_p (w := w6.drewN dd) (HKV.out.drewN dd)
      have f6 := fun wx => neq_pfs x.p.1 x.p.2 wx
      have f7 := fun (dd : Nat) => rt_own (w := w6.drewN dd) (hrq dd) HAK.out
      have f8 := fun (dd : Nat) => ld_bC (w := w6.drewN dd) (b := vb) (o := 2) (z := x.own) ((HKV.out.drewN dd).cell 2)
      have f9 := fun (dd : Nat) => rt_tk (w := w6.drewN dd) (hrq dd) HAK.out
      have f10 := fun (dd : Nat) => ld_bC (w := w6.drewN dd) (b := vb) (o := 3) (z := x.tk) ((HKV.out.drewN dd).cell 3)
      have f11 := fun (dd : Nat) => rt_d (w := w6.drewN dd) (hrq dd) HAK.out
      have f12 := fun (dd : Nat) => ld_iC (w := w6.drewN dd) (b := vb) (o := 5) (z := distF S.pc x) ((HKV.out.drewN dd).cell 5)
      have f13 := fun (dd : Nat) => (show (Instr.loadAt 46 (.pointer (some ⟨gr, k * 6 + 5, none⟩))).run Try.prog (w6.drewN dd) = .ok (.slice An2 m cn2) (w6.drewN dd) by
        rw [HMM.out]
        obtain ⟨An3, cn3, e10, _, hl3⟩ := rt_nx (w := w6.drewN dd) (hrq dd) HAK.out
        dsimp only at e10 hl3
        rw [e9] at e10
        injection e10 with e11 _ e12
        rw [e11, e12]
        exact hl3)
      have HNR := Lib.hid (show ∀ wz, Below w1.heap.size w1 wz → NxM wz r0 (.slice An2 m cn2) (nextF S.pc x) ∧ (Instr.loadAt 46 (.pointer (some ⟨gr, k * 6 + 5, none⟩))).run Try.prog wz = .ok (.slice An2 m cn2) wz from fun wz hz => by
        rw [HMM.out]
        obtain ⟨An3, cn3, e10, h3, hl3⟩ := rt_nx (HRL.out.below hz) HAK.out
        dsimp only at e10 h3 hl3
        rw [e9] at e10
        injection e10 with e11 _ e12
        rw [e11, e12]
        exact ⟨h3, hl3⟩)
      dsimp only at f4 f7 f9 f11
      obtain ⟨bo, hbo⟩ : ∃ z, z = x.own := ⟨_, rfl⟩
      obtain ⟨bt, hbt⟩ : ∃ z, z = x.tk := ⟨_, rfl⟩
      obtain ⟨ds, hds⟩ : ∃ z, z = distF S.pc x := ⟨_, rfl⟩
      rw [← hbo] at f7 f8
      rw [← hbt] at f9 f10
      rw [← hds] at f11 f12
      clear hpar e9 hrq hbo hbt hds
      cases pk
      all_goals
        go_upto_region 12 with (fail)
        go_quiet (fail)
        clear f1 f2 f3 f4 f5 f6 f7 f8 f9 f10 f11 f12 f13 la
        obtain ⟨w7, hw7⟩ : ∃ Z, Z = w6.drewN nq := ⟨_, rfl⟩
        rw [← hw7]
        have HB67 := Lib.hid (show Below w6.heap.size w6 w7 by rw [hw7]; exact below_drewN w6 nq)
        clear hw7
        go_wp2_with fail
        go_loopw [12] (fun s12 wr => ∃ j : Nat, j ≤ m ∧ s12 = .int .i64 (j : Int) ∧ Below w6.heap.size w6 wr) (fun s12 _ => m - (intOf s12).toNat)
        case atStart => exact ⟨0, Nat.zero_le _, rfl, HB67.out⟩
        case round =>
          obtain ⟨j, hj, rfl, hBj⟩ := hrel
          have HBj := Lib.hid hBj
          have j0 : (0 : Int) ≤ j := by omega
          by_cases hjm : j < m
          · obtain ⟨t, ht⟩ : ∃ t, (nextF S.pc x)[j]? = some t := ⟨_, List.getElem?_eq_getElem (by rw [← HMM.out]; exact hjm)⟩
            have hb1j := HB16.out.trans (hBj.mono HB16.out.size)
            obtain ⟨h3, _⟩ := HNR.out wr hb1j
            obtain ⟨g2, d2, e3, _⟩ := own_form1 h3 (by rw [← HMM.out]; omega)
            injection e3 with e3 em e4
            subst e3
            clear em e4
            obtain ⟨g4, d4, e5, _⟩ := own_form1 HN6.out (by rw [← HMM.out]; omega)
            injection e5 with e5 em e6
            subst e5
            clear em e6
            have g1 := fun (dd : Nat) => (HNR.out (wr.drewN dd) (hb1j.trans ((below_drewN wr dd).mono hb1j.size))).2
            have g2' := fun (dd : Nat) => nx_load (w := wr.drewN dd) (own_below h3 (below_drewN wr dd)) ht
            have g3 := fun (dd : Nat) => nx_load (w := wr.drewN dd) (own_below HN6.out (hBj.trans ((below_drewN wr dd).mono hBj.size))) ht
            have g5 := fun wx => neq_nxs (t.1 : Int) t.2 wx
            have j1 : (j : Int) < m := by omega
            clear hBj ht hb1j h3
            go_wp2_with fail
            go_quiet (fail)
            go_wp2_with fail
            go_roundw
            case rel => exact ⟨j + 1, by omega, by go_num, HBj.out.trans ((below_drewN wr _).mono HBj.out.size)⟩
            case measure => simp [intOf]; omega
          · obtain rfl : j = m := by omega
            clear hBj
            go_wp2_with fail
            go_roundw
            case rel => exact ⟨k + 1, by omega, by go_num, by rw [← HPAR.out]; rfl, HB16.out.trans (HBj.out.mono HB16.out.size)⟩
            case measure => simp [intOf]; omega
    · obtain rfl : k = q := by omega
      have hcw := HC.out.later hB
      have HPS := Lib.hid (core_passive hcw)
      have HUP := Lib.hid (fun po => core_up hcw po)
      have HRW := Lib.hid (HR.out.below hB).blk
      have hpk : pasK S.all k = pasF S.all := by rw [HQS.out]; exact pasK_all _
      rw [hpk]
      obtain ⟨pf, hpf⟩ : ∃ z, z = pasF S.all := ⟨_, rfl⟩
      rw [← hpf] at HPS ⊢
      clear hB hcw hpk hpf
      go_wp2_with fail
      go_loop [13] (fun s13 => ∃ z : Int, -1 ≤ z ∧ z ≤ 9 ∧ s13 = .int .i64 z) (fun s13 => (9 - intOf s13).toNat)
      case atStart => exact ⟨-1, by omega, by omega, rfl⟩
      case round =>
        obtain ⟨z, hz0, hz1, rfl⟩ := hrel
        have HU := Lib.hid (HUP.out z)
        by_cases h0 : z < 0
        · have hu : upsR S.pc z = (0, false) := by unfold upsR; rw [if_neg (by omega)]
          rw [hu] at HU
          have h9 : z < 9 := by omega
          clear hu
          go_wp2_with (go_at_call 15; refine HU.out.mono ?_; rintro en w' ⟨rfl, rfl⟩)
          go_round
          case rel => exact ⟨z + 1, by omega, by omega, rfl⟩
          case measure => simp [intOf]; omega
        · by_cases h9 : z < 9
          · by_cases h7 : 7 < z
            · have hu : upsR S.pc z = (0, false) := by unfold upsR; rw [if_neg (by omega)]
              rw [hu] at HU
              clear hu
              go_wp2_with (go_at_call 15; refine HU.out.mono ?_; rintro en w' ⟨rfl, rfl⟩)
              go_round
              case rel => exact ⟨z + 1, by omega, by omega, rfl⟩
              case measure => simp [intOf]; omega
            · obtain ⟨p, rfl⟩ : ∃ p : Nat, z = (p : Int) := ⟨z.toNat, by omega⟩
              have hp : p < 8 := by omega
              have hu : upsR S.pc (p : Int) = (S.pc.cost p, S.pc.up p) := by
                unfold upsR
                rw [show ((p : Int).toNat) = p from rfl]
                cases hh : S.pc.up p with
                | true => rw [if_pos ⟨by omega, by omega, rfl⟩]
                | false => rw [if_neg (by simp), HC.out.ok.pc.dn p hh]
              rw [hu] at HU
              have u1 := ld_bC (rcell_up HRW.out hp)
              have u2 := ld_iC (rcell_cost HRW.out hp)
              have hp0 : (0 : Int) ≤ p := by omega
              have hp8 : (p : Int) < 8 := by omega
              obtain ⟨u, hu9⟩ : ∃ u, u = S.pc.up p := ⟨_, rfl⟩
              obtain ⟨v, hv9⟩ : ∃ u, u = S.pc.cost p := ⟨_, rfl⟩
              rw [← hu9] at HU u1
              rw [← hv9] at HU u2
              clear hu hu9 hv9
              go_wp2_with (go_at_call 15; refine HU.out.mono ?_; rintro en w' ⟨rfl, rfl⟩)
              go_round
              case rel => exact ⟨(p : Int) + 1, by omega, by omega, rfl⟩
              case measure => simp [intOf]; omega
          · obtain rfl : z = 9 := by omega
            clear HU
            go_wp2_with (go_at_call 17; refine HPS.out.mono ?_; rintro en w9 ⟨rfl, hb9⟩; have HB9 := Lib.hid hb9; clear hb9)
            go_ret
            exact ⟨by simp, HB1.out.trans ((HB.out.trans (HB9.out.mono HB.out.size)).mono HB1.out.size)⟩
end Go.Proofs.Ytahdjfegihnolaa
namespace Go.Proofs.Ytahdjfegihnolaa
open Go.RowKit Go.Sort
/-- The document's core, made since w0; N: its blocks. -/
structure RCore (w0 wx : World) (N : Nat → Prop) (rb : Nat) (S : Lc) : Prop where
  ex : ∃ D av ov, D ≤ wx.heap.size ∧ RcM wx D rb av ov S.room S.pc S.all ∧ ∀ b, N b ↔ b = rb ∨ av.ownBlock = some b
  ok : LcOk S
  own : ∀ b, N b → w0.heap.size ≤ b
  bel : Below w0.heap.size w0 wx
section
variable {w0 wx wy : World} {M N : Nat → Prop} {cb mb rb : Nat} {S T : Lc}
theorem RCore.later (h : RCore w0 wx N rb S) (hb : Below wx.heap.size wx wy) : RCore w0 wy N rb S := by
  obtain ⟨D, av, ov, h0, h1, h2⟩ := h.ex
  exact ⟨⟨D, av, ov, Nat.le_trans h0 hb.size, h1.below hb, h2⟩, h.ok, h.own, h.bel.trans (hb.mono h.bel.size)⟩
theorem RCore.keep (h : RCore w0 wx N rb S) {U : Nat → Prop} (hu : Upd U wx wy) (hd : ∀ b, U b → ¬ N b) (hU : ∀ b, U b → w0.heap.size ≤ b) : RCore w0 wy N rb S := by
  obtain ⟨D, av, ov, h0, h1, h2⟩ := h.ex
  exact ⟨⟨D, av, ov, Nat.le_trans h0 hu.size, h1.same (hu.same fun b hb hm => hd b hb ((h2 b).2 hm)), h2⟩, h.ok, h.own, h.bel.trans (hu.below hU h.bel.size)⟩
theorem RCore.lt (h : RCore w0 wx N rb S) : ∀ b, N b → b < wx.heap.size := by
  obtain ⟨D, av, ov, h0, h1, h2⟩ := h.ex
  intro b hb
  rcases (h2 b).1 hb with rfl | hb
  · exact h1.lt.1
  · exact h1.lt.2 b hb
/-- No block is of both. -/
theorem RCore.apart (hr : RCore w0 wx N rb S) {w1 : World} (hc : Core w1 wx M cb mb T) : ∀ b, N b → ¬ M b := by
  obtain ⟨D, av, ov, h0, h1, h2⟩ := hr.ex
  intro b hb
  rcases (h2 b).1 hb with rfl | hb
  · exact hc.apart h1.blk (by decide) (by decide)
  · obtain ⟨cs, hk⟩ := own_blk h1.row hb
    exact hc.apart hk (by decide) (by decide)
theorem RCore.apartB (hr : RCore w0 wx N rb S) {k : Nat} {t : TypeId} {cs : Array Value} (hb : Blk wx k t cs) (h1 : t ≠ 77) (h2 : t ≠ 98) : ¬ N k := by
  obtain ⟨D, av, ov, g0, g1, g2⟩ := hr.ex
  intro hk
  rcases (g2 k).1 hk with rfl | hk
  · exact hb.ne_ g1.blk h1 rfl
  · obtain ⟨cs2, hk2⟩ := own_blk g1.row hk
    exact hb.ne_ hk2 h2 rfl
/-- A row of updates is as it was. -/
theorem RCore.out (hr : RCore w0 wx N rb S) {B : Nat} {v : Value} {o : List Tl} (ho : OutM wx B v o) (hu : Upd N wx wy) : OutM wy B v o :=
  own_keep ho (hu.same (I := fun k => v.ownBlock = some k) fun k h1 h2 => by
    obtain ⟨cs, hb⟩ := own_blkT ho h2
    exact hr.apartB hb (by decide) (by decide) h1) fun _ e => e
/-- What an event leaves of the document's core. -/
def DoneR (w0 wx : World) (N : Nat → Prop) (rb : Nat) (S : Lc) (e : Ev) (w' : World) (v : Value) : Prop :=
  ∃ N', OutM w' wx.heap.size v (doF S e).2.1 ∧ RCore w0 w' N' rb (doF S e).1 ∧ (∀ b, N' b → N b ∨ wx.heap.size ≤ b) ∧ Upd N wx w'
theorem rcore_do (h : RCore w0 wx N rb S) (e : Ev) (hp : e.p.1 < 2 ^ 32) :
    Calls Try.prog 19 #[.pointer (some ⟨rb, 0, none⟩), .agg #[.int .i64 e.kind, .int .i64 e.port, .int .i64 e.cost, .int .u32 (e.p.1 : Int), .int .i64 e.p.2, .int .i64 e.dist]] wx
      fun en w' => ∃ v, en = .returned (.tuple #[v, .int .i64 (((doF S e).2.2 : Nat) : Int)]) ∧ DoneR w0 wx N rb S e w' v := by
  obtain ⟨D, av, ov, h0, h1, h2⟩ := h.ex
  refine (do12_any h1 h.ok h0 e hp).mono ?_
  rintro en w' ⟨v, av', ov', rfl, ho, hc, hu, hown⟩
  have hu' : Upd N wx w' := hu.mono fun k hk => .inl ((h2 k).2 hk)
  have hN : ∀ b, (b = rb ∨ av'.ownBlock = some b) → N b ∨ wx.heap.size ≤ b := fun b hb => by
    rcases hb with hb | hb
    · exact .inl ((h2 b).2 (.inl hb))
    · rcases hown b hb with h | h
      · exact .inl ((h2 b).2 (.inr h))
      · exact .inr h
  refine ⟨v, rfl, fun b => b = rb ∨ av'.ownBlock = some b, ho, ⟨⟨D, av', ov', Nat.le_trans h0 hu.size, ?_, fun b => Iff.rfl⟩, do_ok h.ok e, fun b hb => ?_, h.bel.trans (hu'.below h.own h.bel.size)⟩, hN, hu'⟩
  · rw [do_room]; exact hc
  · rcases hN b hb with h3 | h3
    · exact h.own b h3
    · exact Nat.le_trans h.bel.size h3
/-- Both at the same state. -/
structure Both (w0 wx : World) (M N : Nat → Prop) (cb mb rb : Nat) (S : Lc) : Prop where
  c : Core w0 wx M cb mb S
  r : RCore w0 wx N rb S
theorem both_same (h : Both w0 wx M N cb mb rb S) : Calls Try.prog 21 #[.pointer (some ⟨cb, 0, none⟩), .pointer (some ⟨rb, 0, none⟩)] wx fun e w' => e = .returned (.bool true) ∧ Below wx.heap.size wx w' := by
  obtain ⟨D, av, ov, h0, h1, h2⟩ := h.r.ex
  exact same12_any h.c h1
theorem Both.later (h : Both w0 wx M N cb mb rb S) (hb : Below wx.heap.size wx wy) : Both w0 wy M N cb mb rb S := ⟨h.c.later hb, h.r.later hb⟩
/-- The program's core has done an event, then the document's. -/
theorem Core.doneR {w0 wx wy : World} {M N : Nat → Prop} {cb mb rb : Nat} {S T : Lc} {e : Ev} {v : Value} (h : Core w0 wx M cb mb S) (hr : RCore w0 wx N rb T) (hd : DoneR w0 wx N rb T e wy v) : Core w0 wy M cb mb S := by
  obtain ⟨N', h1, h2, h3, h4⟩ := hd
  exact h.keep h4 (fun b hb => hr.apart h b hb) hr.own
theorem RCore.doneC {w0 wx wy : World} {M N : Nat → Prop} {cb mb rb : Nat} {S T : Lc} {e : Ev} {v : Value} (h : RCore w0 wx N rb S) (hc : Core w0 wx M cb mb T) (hd : DoneC w0 wx M cb mb T e wy v) : RCore w0 wy N rb S := by
  obtain ⟨M', h1, h2, h3, h4⟩ := hd
  exact h.keep h4 (fun b hb hn => h.apart hc b hn hb) hc.own
/-- Another core of the program's goes on. -/
theorem Core.doneC {w0 wx wy : World} {M M2 : Nat → Prop} {cb mb cb2 mb2 : Nat} {S T : Lc} {e : Ev} {v : Value} (h : Core w0 wx M2 cb2 mb2 S) (hc : Core w0 wx M cb mb T) (hap : ∀ b, M b → ¬ M2 b) (hd : DoneC w0 wx M cb mb T e wy v) : Core w0 wy M2 cb2 mb2 S ∧ ∃ M', Core w0 wy M' cb mb (doF T e).1 ∧ ∀ b, M' b → ¬ M2 b := by
  obtain ⟨M', h1, h2, h3, h4⟩ := hd
  refine ⟨h.keep h4 hap hc.own, M', h2, fun b hb h9 => ?_⟩
  rcases h3 b hb with h | h5
  · exact hap b h h9
  · have := h.lt b h9
    omega
theorem mk_rcore {room : Int} {l : List Pf} {all : List Le} (hn : newF room l = some all) {w0 wx wy : World} (hb0 : Below w0.heap.size w0 wx) {rb : Nat} {av : Value} (h1 : RcM wy wx.heap.size rb av (.slice none 0 0) room pc0 all) (hb : Below wx.heap.size wx wy) (hrb : wx.heap.size ≤ rb) : RCore w0 wy (fun b => b = rb ∨ av.ownBlock = some b) rb ⟨room, pc0, all⟩ :=
  ⟨⟨wx.heap.size, av, _, hb.size, h1, fun b => Iff.rfl⟩, (newF_ok hn).1, fun b hb2 => by
    have := hb0.size
    rcases hb2 with rfl | hb2
    · omega
    · have := (own_lt h1.row hb2).1
      omega, hb0.trans (hb.mono hb0.size)⟩
end
/-- A core through events. -/
def runF (S : Lc) (l : List Ev) : Lc := l.foldl (fun S e => (doF S e).1) S
theorem runF_succ {S : Lc} {l : List Ev} {k : Nat} {e : Ev} (h : l[k]? = some e) : runF S (l.take (k + 1)) = (doF (runF S (l.take k)) e).1 := by
  unfold runF
  rw [foldl_take_succ _ _ _ h]
theorem takeR_outR (c : Pc) (room : Int) : ∀ (l : List Le) (n : Nat), (takeR c room n l).2.1.length ≤ 8 * (takeR c room n l).2.2
  | [], _ => Nat.le_refl _
  | x :: l, n => by
    unfold takeR
    by_cases h : x.tk = false ∧ (n : Int) < room
    · rw [if_pos h]
      have h1 := takeR_outR c room l (n + 1)
      have h2 := lookF_len c { x with tk := true }
      dsimp only
      rw [List.length_append]
      omega
    · rw [if_neg h]
      exact takeR_outR c room l n
theorem tidy_outR (c : Pc) (room : Int) : ∀ (m : Nat) (l : List Le), l.length + untk l ≤ m → (tidyW c room l).2.length ≤ 8 * untk l
  | m, l, hm => by
    have d1 := takeR_len c room (stayL l) (cntT (stayL l))
    have d3 : untk (stayL l) ≤ untk l := untk_filter l
    have d4 : (stayL l).length ≤ l.length := List.length_filter_le staysF l
    have d5 := takeR_outR c room (stayL l) (cntT (stayL l))
    rw [tidyW]
    split
    · exact Nat.zero_le _
    · rename_i hh
      match m with
      | 0 => omega
      | m + 1 =>
        have ih := tidy_outR c room m (takeR c room (cntT (stayL l)) (stayL l)).1 (by omega)
        dsimp only
        rw [List.length_append]
        omega
/-- What an event tells is not much. -/
theorem do_outR {S : Lc} (h : LcOk S) (e : Ev) : (doF S e).2.1.length ≤ 20000 := by
  unfold doF
  split
  · exact Nat.zero_le _
  · rename_i hw
    cases hs : stepE S e with
    | inr n => exact Nat.zero_le _
    | inl r =>
      obtain ⟨pc, l, o⟩ := r
      have hw' : wrongF S.pc e = 0 := by simpa using hw
      obtain ⟨s1, s2, s3, s4, s5⟩ := step_ok h hw' hs
      have h1 := step_len hs
      have h2 := tidy_outR pc S.room _ l (Nat.le_refl _)
      have h3 : untk l ≤ l.length := List.countP_le_length
      have h4 := h.len
      dsimp only
      rw [List.length_append]
      omega
end Go.Proofs.Ytahdjfegihnolaa
