/- Layer 12: LfiRoom, the walk. -/
import Derived.Test.YtahdjfegihnolaaLwF
import Derived.Test.YtahdjfegihnolaaRowE
namespace Go.Proofs.Ytahdjfegihnolaa
open Go.RowKit Go.Sort
theorem evC_get : ∀ (l : List Ev) (k : Nat) (e : Ev), l[k]? = some e → ∀ j, j < 6 → (l.flatMap evC)[k * 6 + j]? = (evC e)[j]?
  | [], _, _, h, _, _ => by simp at h
  | q :: l, 0, e, h, j, hj => by
    obtain rfl : q = e := by simpa using h
    rw [List.flatMap_cons, Nat.zero_mul, Nat.zero_add, List.getElem?_append_left (by simpa [evC] using hj)]
  | q :: l, k + 1, e, h, j, hj => by
    have ih := evC_get l k e (by simpa using h) j hj
    rw [List.flatMap_cons, List.getElem?_append_right (by simp [evC]; omega), ← ih]
    congr 1
    simp [evC]
    omega
set_option maxRecDepth 100000 in
theorem ld_evR {w w' : World} {A : Option Addr} {n : Nat} {l : List Ev} (hr : Reads w (fun k => k < w.heap.size) 6 A n (l.flatMap evC)) (hl : l.length = n) (hb : Below w.heap.size w w') {k : Nat} {e : Ev} (he : l[k]? = some e) :
    ∃ ad, A = some ad ∧ (Instr.loadAt 38 (.pointer (some (ad.add (k * 6))))).run Try.prog w' = .ok (.agg #[.int .i64 e.kind, .int .i64 e.port, .int .i64 e.cost, .int .u32 (e.p.1 : Int), .int .i64 e.p.2, .int .i64 e.dist]) w' := by
  have hk : k < n := by rw [← hl]; exact (List.getElem?_eq_some_iff.1 he).1
  obtain ⟨ad, rfl, hlt, _, hc⟩ := hr.2 (by omega)
  have h : ∀ j u, j < 6 → (evC e)[j]? = some u → w'.cell? (ad.add (k * 6 + j)) = some u := fun j u hj hu => (hb.cell (by rw [block_of_add]; exact hlt)).trans (hc _ _ (by rw [evC_get l k e he j hj]; exact hu))
  have h0 := h 0 _ (by omega) rfl
  have h1 := h 1 _ (by omega) rfl
  have h2 := h 2 _ (by omega) rfl
  have h3 := h 3 _ (by omega) rfl
  have h4 := h 4 _ (by omega) rfl
  have h5 := h 5 _ (by omega) rfl
  rw [Nat.add_zero] at h0
  rw [add_afterE ad (k * 6) _ (by omega)] at h1 h2 h3 h4 h5
  refine ⟨ad, rfl, ?_⟩
  simp [go_sem, h0, h1, h2, h3, h4, h5]
def cntK (l : List Le) (k : Nat) : Nat := cntT (l.take k)
def lefK (l : List Le) (k : Nat) : Bool := (l.take k).any fun x => !x.tk
theorem cntK_succ {l : List Le} {k : Nat} {x : Le} (h : l[k]? = some x) : cntK l (k + 1) = cntK l k + if (x.tk && !x.own) = true then 1 else 0 := by
  unfold cntK cntT
  rw [List.take_add_one, h, List.countP_append]
  simp [List.countP_cons]
theorem lefK_succ {l : List Le} {k : Nat} {x : Le} (h : l[k]? = some x) : lefK l (k + 1) = (lefK l k || !x.tk) := by
  unfold lefK
  rw [List.take_add_one, h, List.any_append]
  simp
theorem cntK_le (l : List Le) (k : Nat) : cntK l k ≤ k := by
  unfold cntK cntT
  have := List.countP_le_length (p := fun x : Le => x.tk && !x.own) (l := l.take k)
  simp at this
  omega
set_option maxRecDepth 100000 in
set_option maxHeartbeats 16000000 in
attribute [-go_sem] Instr.storeAt Instr.loadAt Instr.build in
theorem room_any (room : Int) (A : Option Addr) (n c : Nat) (lo : List Pf) (B : Option Addr) (m d : Nat) (le : List Ev) (w : World) (r : Reads w (fun k => k < w.heap.size) 2 A n (flatP lo)) (hl : lo.length = n) (hp : ∀ p ∈ lo, p.1 < 2 ^ 32)
    (r2 : Reads w (fun k => k < w.heap.size) 6 B m (le.flatMap evC)) (hl2 : le.length = m) (hp2 : ∀ e ∈ le, e.p.1 < 2 ^ 32) :
    Calls Try.prog 3 #[.int .i64 room, .slice A n c, .slice B m d] w fun e w' => e = .returned (.bool true) ∧ Below w.heap.size w w' := by
  have HN := Lib.hid (core_new room A n c lo w r hl hp)
  have HR2 := Lib.hid r2
  have HL2 := Lib.hid hl2
  have HP2 := Lib.hid hp2
  clear r hl hp r2 hl2 hp2
  by_cases hbig : 150 < m
  · have hd : decide (150 < (m : Int)) = true := decide_eq_true (by omega)
    go_enter Try.func3, Try.ntmps3
    go_wp2_with (go_at_call 10; refine (known12_any _).mono ?_; rintro e w' ⟨rfl, hb⟩)
    go_ret
    exact ⟨rfl, hb⟩
  by_cases hbig2 : 8 < n
  · have hd : decide (150 < (m : Int)) = false := decide_eq_false (by omega)
    have hd2 : decide (8 < (n : Int)) = true := decide_eq_true (by omega)
    go_enter Try.func3, Try.ntmps3
    go_wp2_with (go_at_call 10; refine (known12_any _).mono ?_; rintro e w' ⟨rfl, hb⟩)
    go_ret
    exact ⟨rfl, hb⟩
  have hd : decide (150 < (m : Int)) = false := decide_eq_false (by omega)
  have hd2 : decide (8 < (n : Int)) = false := decide_eq_false (by omega)
  have hn := HN.out
  unfold MadeC at hn
  cases hnf : newF room lo with
  | none =>
    rw [hnf] at hn
    have HN' := Lib.hid hn
    clear hn hnf
    go_enter Try.func3, Try.ntmps3
    go_wp2_with (first
      | (go_at_call 11; refine HN'.out.mono ?_; rintro e w1 ⟨rfl, hb1⟩; have HB1 := Lib.hid hb1; clear hb1)
      | (go_at_call 10; refine (known12_any _).mono ?_; rintro e w' ⟨rfl, hb⟩))
    go_ret
    exact ⟨rfl, HB1.out.trans (hb.mono HB1.out.size)⟩
  | some all =>
    rw [hnf] at hn
    have HN' := Lib.hid hn
    clear hn hnf
    go_enter Try.func3, Try.ntmps3
    go_upto_region 6 with (go_at_call 11; refine HN'.out.mono ?_; rintro e w1 ⟨cb, mb, M, rfl, hc⟩; have HC := Lib.hid hc; clear hc)
    go_wp2_with fail
    go_loopw [9] (fun s9 wr => ∃ (k : Nat) (M : Nat → Prop) (S : Lc), k ≤ m ∧ s9 = .int .i64 (k : Int) ∧ Core w wr M cb mb S ∧ S.room = room) (fun s9 _ => m - (intOf s9).toNat)
    case atStart => exact ⟨0, M, _, Nat.zero_le _, rfl, HC.out, rfl⟩
    case round =>
      clear HC
      obtain ⟨k, M1, S, hk, rfl, hC, hro⟩ := hrel
      have HC := Lib.hid hC
      have HRO := Lib.hid hro
      by_cases hlt : k < m
      · obtain ⟨e, hek⟩ : ∃ e, le[k]? = some e := ⟨_, List.getElem?_eq_getElem (by rw [HL2.out]; exact hlt)⟩
        obtain ⟨ad, rfl, lv⟩ := ld_evR HR2.out HL2.out hC.bel hek
        have HDO := Lib.hid (core_do hC e (HP2.out e (List.mem_of_getElem? hek)))
        have k0 : (0 : Int) ≤ k := by omega
        have k1 : (k : Int) < m := by omega
        clear hC hro hek
        go_upto_region 10 with (go_at_call 12; refine HDO.out.mono ?_; rintro en w3 ⟨v, rfl, M3, _, hc3, _, _⟩; have HC3 := Lib.hid hc3; clear hc3)
        clear lv
        obtain ⟨T, hT⟩ : ∃ T, T = (doF S e).1 := ⟨_, rfl⟩
        have HRT := Lib.hid (show T.room = room by rw [hT, do_room]; exact HRO.out)
        have hc3 := HC3.out
        rw [← hT] at hc3
        have HC4 := Lib.hid hc3
        have HRC := Lib.hid (core_routes hc3)
        clear hT hc3 HC3 HRO HC HDO
        go_upto_region 12 with (go_at_call 13; refine HRC.out.mono ?_; rintro en w4 ⟨v4, rfl, hr4, hb4⟩; obtain ⟨L, hL, hrl⟩ := hr4; obtain ⟨Ar, cr, rfl, _⟩ := own_form hrl.1; have HRL := Lib.hid hrl; have HL4 := Lib.hid hL; have HC5 := Lib.hid (HC4.out.later hb4); clear hb4 hL hrl)
        obtain ⟨q, hq⟩ : ∃ q, q = L.length := ⟨_, rfl⟩
        rw [← hq]
        have hrl := HRL.out
        rw [← hq] at hrl
        have HR6 := Lib.hid hrl
        have HQ := Lib.hid hq
        have hq9 : q ≤ 1024 := by
          have h1 := congrArg List.length HL4.out
          rw [List.length_map, ← hq] at h1
          have := HC5.out.ok.len
          omega
        have HRO := Lib.hid (room_law HC5.out.ok)
        clear hq hrl HRL
        obtain ⟨r0, hr0⟩ : ∃ r, r = w3.heap.size := ⟨_, rfl⟩
        rw [← hr0] at HR6
        clear hr0
        go_wp2_with fail
        go_loopw [10, 11, 13] (fun s10 s11 s13 wz => ∃ j : Nat, j ≤ q ∧ s13 = .int .i64 (j : Int) ∧ s10 = .int .i64 ((cntK T.all j : Nat) : Int) ∧ s11 = .bool (lefK T.all j) ∧ Core w wz M3 cb mb T ∧ RtL wz r0 (.slice Ar q cr) T.pc L) (fun _ _ s13 _ => q - (intOf s13).toNat)
        case atStart => exact ⟨0, Nat.zero_le _, rfl, rfl, rfl, HC5.out, HR6.out⟩
        case round =>
          clear HC4 HC5 HR6
          obtain ⟨j, hj, rfl, rfl, rfl, hC, hR⟩ := hrel
          have HC := Lib.hid hC
          have HR := Lib.hid hR
          by_cases hlj : j < q
          · obtain ⟨a, haj⟩ : ∃ a, L[j]? = some a := ⟨_, List.getElem?_eq_getElem (by rw [← HQ.out]; exact hlj)⟩
            obtain ⟨x, sv⟩ := a
            have hxj : T.all[j]? = some x := by rw [← HL4.out, List.getElem?_map, haj]; rfl
            have hxm := List.mem_of_getElem? hxj
            obtain ⟨gr, cq, e8, _⟩ := own_form1 hR.1 (by rw [← HQ.out]; omega)
            obtain ⟨rfl, rfl⟩ : Ar = some ⟨gr, 0, none⟩ ∧ cr = cq := by cases e8; exact ⟨rfl, rfl⟩
            have lp := rt_p hR haj
            have hen := core_entry hC (may_ok (hC.mayx x hxm))
            unfold EnF at hen
            rw [find_sorted hC.ok.srt hxm] at hen
            dsimp only at hen
            have HEN := Lib.hid hen
            have HXM := Lib.hid hxm
            have HAJ := Lib.hid haj
            have HCN := Lib.hid (cntK_succ hxj)
            have HLN := Lib.hid (lefK_succ hxj)
            have hcl := cntK_le T.all j
            have j0 : (0 : Int) ≤ j := by omega
            have j1 : (j : Int) < q := by omega
            clear hC hR e8 hen hxm haj hxj
            go_upto_region 16 with (go_at_call 14; refine HEN.out.mono ?_; rintro en w5 ⟨rfl, hb5⟩; have HB5 := Lib.hid hb5; have st := stc_store vi_info (Blk.new w5 43 viZ) rfl (vs := viC T.pc x) rfl (by simp [viC, Value.oneCell']); obtain ⟨V, hV⟩ : ∃ Z, Z = (w5.alloc (.cells viZ 43)).setCells w5.heap.size 0 (viC T.pc x).toList := ⟨_, rfl⟩; rw [← hV] at st; unfold viZ at st; have HV := Lib.hid hV; clear hb5 hV)
            clear st lp
            obtain ⟨eb, heb⟩ : ∃ b, b = w5.heap.size := ⟨_, rfl⟩
            rw [← heb] at HV ⊢
            have hb5v : Below w5.heap.size w5 V := by
              rw [HV.out, ← heb]
              exact below_setCells (Nat.le_refl _) _ _ _ ((Below.refl _ _).alloc (by rw [heb]; exact Nat.le_refl _) _)
            have hbv : Below wr.heap.size wr V := HB5.out.trans (hb5v.mono HB5.out.size)
            have hkv : Blk V eb 43 (viC T.pc x) := by
              rw [HV.out, heb]
              exact blk_setCells (Blk.new w5 43 viZ) rfl
            have HCV := Lib.hid (HC.out.later hbv)
            have HRV := Lib.hid (HR.out.below hbv)
            have l2 := rt_tk HRV.out HAJ.out
            have l1 := rt_own HRV.out HAJ.out
            dsimp only at l1 l2
            cases ht : x.tk with
            | true =>
              cases ho : x.own with
              | true =>
                rw [ho] at l1
                rw [ht] at l2
                have HC1 := Lib.hid (show cntK T.all (j + 1) = cntK T.all j by rw [HCN.out, ht, ho]; simp)
                have HL1 := Lib.hid (show lefK T.all (j + 1) = lefK T.all j by rw [HLN.out, ht]; simp)
                clear hb5v hbv hkv ht ho heb
                go_wp2_with fail
                go_roundw
                case rel => exact ⟨j + 1, by omega, by go_num, by rw [HC1.out], by rw [HL1.out], HCV.out, HRV.out⟩
                case measure => simp [intOf]; omega
              | false =>
                rw [ho] at l1
                rw [ht] at l2
                have HC1 := Lib.hid (show cntK T.all (j + 1) = cntK T.all j + 1 by rw [HCN.out, ht, ho]; simp)
                have HL1 := Lib.hid (show lefK T.all (j + 1) = lefK T.all j by rw [HLN.out, ht]; simp)
                clear hb5v hbv hkv ht ho heb
                go_wp2_with fail
                go_roundw
                case rel => exact ⟨j + 1, by omega, by go_num, by rw [HC1.out]; go_num, by rw [HL1.out], HCV.out, HRV.out⟩
                case measure => simp [intOf]; omega
            | false =>
              rw [ht] at l2
              obtain ⟨u1, u2, u3⟩ := HRO.out.2.1 x HXM.out ht
              obtain ⟨An, qn, _, _, l3⟩ := rt_nx HRV.out HAJ.out
              dsimp only at l3
              rw [u1] at l3
              have l4 := ld_iC (w := V) (b := eb) (o := 6) (z := 255) (by rw [hkv.cell, ← u2]; rfl)
              have l5 := ld_iC (w := V) (b := eb) (o := 5) (z := 255) (by rw [hkv.cell, ← u3]; rfl)
              have HC1 := Lib.hid (show cntK T.all (j + 1) = cntK T.all j by rw [HCN.out, ht]; simp)
              have HL1 := Lib.hid (show lefK T.all (j + 1) = true by rw [HLN.out, ht]; simp)
              clear hb5v hbv hkv ht heb u1 u2 u3
              go_wp2_with fail
              go_roundw
              case rel => exact ⟨j + 1, by omega, by go_num, by rw [HC1.out], by rw [HL1.out], HCV.out, HRV.out⟩
              case measure => simp [intOf]; omega
          · obtain rfl : j = q := by omega
            have hlen : T.all.length = j := by rw [← HL4.out, List.length_map, HQ.out]
            have e1 : cntK T.all j = cntT T.all := by unfold cntK; rw [List.take_of_length_le (by omega)]
            have e2 : lefK T.all j = T.all.any fun x => !x.tk := by unfold lefK; rw [List.take_of_length_le (by omega)]
            obtain ⟨r1, r2, r3⟩ := HRO.out
            have h1 : ¬ room < ((cntK T.all j : Nat) : Int) := by rw [e1, ← HRT.out]; omega
            have HCC := Lib.hid hC
            cases hl : lefK T.all j with
            | true =>
              have h2 : ¬ ((cntK T.all j : Nat) : Int) < room := by
                rw [e1, ← HRT.out]
                rw [e2, List.any_eq_true] at hl
                obtain ⟨x, hx, ht⟩ := hl
                have := r3 ⟨x, hx, by simpa using ht⟩
                omega
              obtain ⟨cn, hcn⟩ : ∃ z : Int, z = ((cntK T.all j : Nat) : Int) := ⟨_, rfl⟩
              rw [← hcn] at h1 h2 ⊢
              have h1d : decide (cn > room) = false := decide_eq_false (by omega)
              clear e1 e2 hl hlen r1 r2 r3 hC hR hcn
              go_wp2_with fail
              go_roundw
              case rel => exact ⟨k + 1, M3, T, by omega, by go_num, HCC.out, HRT.out⟩
              case measure => simp [intOf]; omega
            | false =>
              obtain ⟨cn, hcn⟩ : ∃ z : Int, z = ((cntK T.all j : Nat) : Int) := ⟨_, rfl⟩
              rw [← hcn] at h1 ⊢
              clear e1 e2 hl hlen r1 r2 r3 hC hR hcn
              go_wp2_with fail
              go_roundw
              case rel => exact ⟨k + 1, M3, T, by omega, by go_num, HCC.out, HRT.out⟩
              case measure => simp [intOf]; omega
      · obtain rfl : k = m := by omega
        clear hC hro
        go_wp2_with (go_at_call 10; refine (known12_any _).mono ?_; rintro e w' ⟨rfl, hb⟩)
        go_ret
        exact ⟨rfl, HC.out.bel.trans (hb.mono HC.out.bel.size)⟩
end Go.Proofs.Ytahdjfegihnolaa
