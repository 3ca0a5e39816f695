/- Layer 12: next, Routes. -/
import Derived.Test.YtahdjfegihnolaaLzF
import Derived.Test.YtahdjfegihnolaaStC
import Derived.Test.YtahdjfegihnolaaLzM
namespace Go.Proofs.Ytahdjfegihnolaa
open Go.RowKit Go.Sort
abbrev Nx := Nat × Int
def nxE (t : Nx) : List Value := [.int .i64 (t.1 : Int), .int .i64 t.2]
def flatN (o : List Nx) : List Value := o.flatMap nxE
theorem flatN_snoc (o : List Nx) (t : Nx) : flatN (o ++ [t]) = flatN o ++ nxE t := by unfold flatN; rw [List.flatMap_append]; simp
theorem info_nx : (Try.prog.info? 61).map (fun i => (i.zero, i.size, i.bytes)) = some (some (.agg #[.int .i64 0, .int .i64 0]), 2, 16) := by kernel_rfl
/-- A row of successors. -/
def NxM (w : World) (B : Nat) (v : Value) (o : List Nx) : Prop := w.ownsRow B 61 2 v o.length (flatN o)
theorem nx_one (t : Nx) : ∀ u ∈ nxE t, u.oneCell' = true := by
  intro u hu
  simp only [nxE, List.mem_cons, List.not_mem_nil, or_false] at hu
  rcases hu with rfl | rfl <;> rfl
def nextB (c : Pc) (x : Le) (p : Nat) : Bool := x.tk && !x.own && c.up p && decide (x.said p < x.feas) && decide (x.said p + c.cost p < 255)
def nextK (c : Pc) (x : Le) (k : Nat) : List Nx := ((List.range k).filter (nextB c x)).map fun p => (p, x.said p + c.cost p)
theorem nextK_succ (c : Pc) (x : Le) (k : Nat) : nextK c x (k + 1) = nextK c x k ++ (if nextB c x k = true then [(k, x.said k + c.cost k)] else []) := by
  unfold nextK
  rw [List.range_succ, List.filter_append, List.map_append]
  congr 1
  by_cases h : nextB c x k = true
  · simp [h]
  · simp [h]
theorem nextK_len (c : Pc) (x : Le) (k : Nat) : (nextK c x k).length ≤ k := by
  unfold nextK
  rw [List.length_map]
  exact Nat.le_trans (List.length_filter_le _ _) (by rw [List.length_range]; exact Nat.le_refl _)
set_option maxRecDepth 100000 in
set_option maxHeartbeats 4000000 in
attribute [-go_sem] Instr.storeAt Instr.loadAt in
theorem next_any {w : World} {cb mb b : Nat} {ov : Value} {room : Int} {c : Pc} {x : Le} (h : Blk w cb 81 (coC room c mb ov)) (hx : Blk w b 87 (enC x)) (hs : ∀ q, 0 ≤ x.said q ∧ x.said q ≤ 255) (hc : ∀ q, 0 ≤ c.cost q ∧ c.cost q ≤ 50) (W0 : World) (_hW : Below W0.heap.size W0 w) :
    Calls Try.prog 33 #[.pointer (some ⟨cb, 0, none⟩), .pointer (some ⟨b, 0, none⟩)] w fun e w' => ∃ v, e = .returned v ∧ NxM w' w.heap.size v (nextF c x) ∧ Below w.heap.size w w' := by
  have l1 := ld_said hx
  have H := Lib.hid h
  have HX := Lib.hid hx
  have HS := Lib.hid hs
  have HC := Lib.hid hc
  obtain ⟨i0, hi, hz0, hz1, hz2⟩ := info_parts info_nx
  have hi' := Lib.hid hi
  clear h hx hs hc hi
  have hfin : nextF c x = nextK c x 8 := rfl
  rw [hfin]
  clear hfin
  go_enter Try.func33, Try.ntmps33
  go_wp2_with fail
  clear l1
  go_loopw [5, 13] (fun s5 s13 wr => ∃ k : Nat, k ≤ 8 ∧ s13 = .int .i64 (k : Int) ∧ NxM wr w.heap.size s5 (nextK c x k) ∧ Below w.heap.size w wr) (fun _ s13 _ => 8 - (intOf s13).toNat)
  case atStart => exact ⟨0, by omega, rfl, World.ownsRow_nil _ _ _ _, Below.refl _ _⟩
  case round =>
    obtain ⟨k, hk, rfl, hV, hB⟩ := hrel
    have HV := Lib.hid hV
    have HB := Lib.hid hB
    have hR := HX.out.below hB HX.out.lt
    have hH := H.out.below hB H.out.lt
    clear hV hB
    by_cases hlt : k < 8
    · have HE := Lib.hid (nextK_succ c x k)
      have i1 := fun wx => ix_ar x.said hlt wx
      have u1 := ld_bC (cell_up hH hlt)
      have u2 := ld_iC (cell_cost hH hlt)
      have t0 := ld_bC (w := wr) (b := b) (o := 0) (z := x.own) (hR.cell 0)
      have t1 := ld_bC (w := wr) (b := b) (o := 1) (z := x.tk) (hR.cell 1)
      have t2 := ld_iC (w := wr) (b := b) (o := 11) (z := x.feas) (hR.cell 11)
      obtain ⟨s0, s1⟩ := HS.out k
      obtain ⟨d0, d1⟩ := HC.out k
      have k0 : (0 : Int) ≤ k := by omega
      have k1 : (k : Int) < 8 := by omega
      have hln := nextK_len c x k
      have hmx : (nextK c x k).length + 1 ≤ maxLen := by unfold maxLen; omega
      have hmb : ((nextK c x k).length + 1) * 16 ≤ 140737488355328 := by omega
      unfold nextB at HE
      clear hR hH hln
      obtain ⟨o, ho⟩ : ∃ o, o = x.own := ⟨_, rfl⟩
      obtain ⟨t, ht⟩ : ∃ o, o = x.tk := ⟨_, rfl⟩
      obtain ⟨u, hu⟩ : ∃ o, o = c.up k := ⟨_, rfl⟩
      obtain ⟨z, hz⟩ : ∃ o, o = x.said k := ⟨_, rfl⟩
      obtain ⟨f, hf⟩ : ∃ o, o = x.feas := ⟨_, rfl⟩
      obtain ⟨d, hd⟩ : ∃ o, o = c.cost k := ⟨_, rfl⟩
      rw [← ho] at t0 HE
      rw [← ht] at t1 HE
      rw [← hu] at u1 HE
      rw [← hz] at s0 s1 HE i1
      rw [← hf] at t2 HE
      rw [← hd] at d0 d1 u2 HE
      clear ho ht hu hz hf hd
      have hno : (∀ H2 : (t && !o && u && decide (z < f) && decide (z + d < 255)) = false, nextK c x (k + 1) = nextK c x k) := fun H2 => by rw [HE.out, H2]; simp
      cases t with
      | false =>
        have HN := Lib.hid (hno (by simp))
        clear hno hmx hmb hz0 hz1 hz2
        go_wp2_with fail
        go_roundw
        case rel => exact ⟨k + 1, by omega, by go_num, by rw [HN.out]; exact HV.out, HB.out⟩
        case measure => simp [intOf]; omega
      | true =>
        cases o with
        | true =>
          have HN := Lib.hid (hno (by simp))
          clear hno hmx hmb hz0 hz1 hz2
          go_wp2_with fail
          go_roundw
          case rel => exact ⟨k + 1, by omega, by go_num, by rw [HN.out]; exact HV.out, HB.out⟩
          case measure => simp [intOf]; omega
        | false =>
          cases u with
          | false =>
            have HN := Lib.hid (hno (by simp))
            clear hno hmx hmb hz0 hz1 hz2
            go_wp2_with fail
            go_roundw
            case rel => exact ⟨k + 1, by omega, by go_num, by rw [HN.out]; exact HV.out, HB.out⟩
            case measure => simp [intOf]; omega
          | true =>
            by_cases h1 : z < f
            · have b1 : decide (z < f) = true := decide_eq_true h1
              by_cases h2 : z + d < 255
              · have b2 : decide (z + d < 255) = true := decide_eq_true h2
                have HN := Lib.hid (show nextK c x (k + 1) = nextK c x k ++ [(k, z + d)] from by rw [HE.out]; simp [h1, h2])
                have hi := hi'.out
                clear hno h1 h2
                go_wp2_with (at_builtin; refine wpList_pushN wr rfl (.tmp 56) (.tmp 60) _ 61 rfl rfl i0 _ 2 16 Try.underlying46 hi hz0 hz1 hz2 rfl (by decide) w.heap.size _ _ _ (nxE (k, z + d)) rfl (nx_one _) rfl HV.out rfl hmx hmb HB.out.size ?_; intro v2 w2 h2 hg2 hat2)
                have hb2 := HB.out.grown hg2 HB.out.size fun g hg => (own_lt HV.out hg).1
                have h2' : NxM w2 w.heap.size v2 (nextK c x (k + 1)) := by
                  unfold NxM
                  rw [HN.out, List.length_append, flatN_snoc]
                  exact h2
                have H2 := Lib.hid h2'
                have HB2 := Lib.hid hb2
                clear h2 hg2 hat2 hb2 h2' hi hz0 hz1 hz2 hmx hmb
                go_wp2_with fail
                go_roundw
                case rel => exact ⟨k + 1, by omega, by go_num, H2.out, HB2.out⟩
                case measure => simp [intOf]; omega
              · have b2 : decide (z + d < 255) = false := decide_eq_false h2
                have HN := Lib.hid (hno (by simp [h2]))
                clear hno hmx hmb hz0 hz1 hz2 h1 h2
                go_wp2_with fail
                go_roundw
                case rel => exact ⟨k + 1, by omega, by go_num, by rw [HN.out]; exact HV.out, HB.out⟩
                case measure => simp [intOf]; omega
            · have b1 : decide (z < f) = false := decide_eq_false h1
              have HN := Lib.hid (hno (by simp [h1]))
              clear hno hmx hmb hz0 hz1 hz2 h1
              go_wp2_with fail
              go_roundw
              case rel => exact ⟨k + 1, by omega, by go_num, by rw [HN.out]; exact HV.out, HB.out⟩
              case measure => simp [intOf]; omega
    · obtain rfl : k = 8 := by omega
      go_wp2_with fail
      go_ret
      exact ⟨_, rfl, HV.out, HB.out⟩
end Go.Proofs.Ytahdjfegihnolaa
namespace Go.Proofs.Ytahdjfegihnolaa
open Go.RowKit Go.Sort
abbrev Rx := Le × Value
def rtE (c : Pc) (a : Rx) : List Value := [.int .u32 (a.1.p.1 : Int), .int .i64 a.1.p.2, .bool a.1.own, .bool a.1.tk, .int .i64 (distF c a.1), a.2]
def flatR (c : Pc) (o : List Rx) : List Value := o.flatMap (rtE c)
theorem flatR_snoc (c : Pc) (o : List Rx) (t : Rx) : flatR c (o ++ [t]) = flatR c o ++ rtE c t := by unfold flatR; rw [List.flatMap_append]; simp
theorem info_rt : (Try.prog.info? 48).map (fun i => (i.zero, i.size, i.bytes)) = some (some (.agg #[.int .u32 0, .int .i64 0, .bool false, .bool false, .int .i64 0, .slice none 0 0]), 6, 56) := by kernel_rfl
theorem bd_rt (w : World) (a n : Int) (o t : Bool) (d : Int) (A : Option Addr) (m q : Nat) : (Instr.build 48 #[(0, .agg #[.int .u32 a, .int .i64 n]), (1, .bool o), (2, .bool t), (3, .int .i64 d), (4, .slice A m q)]).run Try.prog w = .ok (.agg #[.int .u32 a, .int .i64 n, .bool o, .bool t, .int .i64 d, .slice A m q]) w := by kernel_rfl
/-- A row of routes; each has its successors' row. -/
def RtL (w : World) (B : Nat) (v : Value) (c : Pc) (L : List Rx) : Prop := w.ownsRow B 48 6 v L.length (flatR c L) ∧ ∀ a ∈ L, NxM w B a.2 (nextF c a.1)
def RtM (w : World) (B : Nat) (v : Value) (c : Pc) (l : List Le) : Prop := ∃ L : List Rx, L.map (·.1) = l ∧ RtL w B v c L
theorem RtL.below {w w' : World} {B : Nat} {v : Value} {c : Pc} {L : List Rx} (h : RtL w B v c L) (hb : Below w.heap.size w w') : RtL w' B v c L := ⟨own_below h.1 hb, fun a ha => own_below (h.2 a ha) hb⟩
theorem RtL.grown {w w' : World} {B : Nat} {v : Value} {c : Pc} {L : List Rx} (h : RtL w B v c L) (hg : w.grownBy w' v.ownBlock) : ∀ a ∈ L, NxM w' B a.2 (nextF c a.1) := fun a ha => by
  refine own_keep (h.2 a ha) (I := fun k => a.2.ownBlock = some k) ⟨hg.size, fun k hk hl => hg.block k hl fun e => ?_⟩ fun _ e => e
  obtain ⟨c1, h1⟩ := own_blk (h.2 a ha) hk
  obtain ⟨c2, h2⟩ := own_blk h.1 e.symm
  exact h1.ne_ h2 (by decide) rfl
theorem nx_keep {w w' : World} {B : Nat} {v : Value} {o : List Nx} {row : Option Nat} (h : NxM w B v o) (hg : w.grownBy w' row) (hr : ∀ k, row = some k → ∃ cs, Blk w k 48 cs) : NxM w' B v o := by
  refine own_keep h (I := fun k => v.ownBlock = some k) ⟨hg.size, fun k hk hl => hg.block k hl fun e => ?_⟩ fun _ e => e
  obtain ⟨c1, h1⟩ := own_blk h hk
  obtain ⟨c2, h2⟩ := hr k e.symm
  exact h1.ne_ h2 (by decide) rfl
def RtC (cb pb gb : Nat) (C : Array Value) (p : Pf) (E : Array Value) (a : World) : Prop := Blk a cb 81 C ∧ Blk a pb 36 (pfC p) ∧ Blk a gb 87 E
theorem RtC.below {cb pb gb : Nat} {C : Array Value} {p : Pf} {E : Array Value} {a b : World} (h : RtC cb pb gb C p E a) (hb : Below a.heap.size a b) : RtC cb pb gb C p E b := ⟨h.1.below hb h.1.lt, h.2.1.below hb h.2.1.lt, h.2.2.below hb h.2.2.lt⟩
set_option maxRecDepth 100000 in
set_option maxHeartbeats 4000000 in
attribute [-go_sem] Instr.storeAt Instr.loadAt in
theorem routes_any {w : World} {cb mb : Nat} {ov : Value} {room : Int} {c : Pc} {G : List GE} (h : CoM w cb mb ov room c G) (hs : ∀ g ∈ G, ∀ q, 0 ≤ g.x.said q ∧ g.x.said q ≤ 255) (hc : ∀ q, 0 ≤ c.cost q ∧ c.cost q ≤ 50) :
    Calls Try.prog 13 #[.pointer (some ⟨cb, 0, none⟩)] w fun e w' => ∃ v, e = .returned v ∧ RtM w' w.heap.size v c (G.map (·.x)) ∧ Below w.heap.size w w' := by
  have HKW := Lib.hid h.keysW
  have HTH := Lib.hid (cthere_any h.blk)
  have H := Lib.hid h
  have HS := Lib.hid hs
  have HC := Lib.hid hc
  have hG := h.len
  obtain ⟨i0, hi, hz0, hz1, hz2⟩ := info_parts info_rt
  have HI := Lib.hid hi
  clear h hs hc hi
  go_enter Try.func13, Try.ntmps13
  go_wp2_with (first
    | (go_at_call 27; refine HTH.out.mono ?_; rintro e w' ⟨rfl, rfl⟩)
    | (go_at_call 31; refine HKW.out.mono ?_; rintro e w1 ⟨v, rfl, hr, hb⟩; obtain ⟨A, cp, rfl, _⟩ := own_form hr; have HR := Lib.hid hr; have HB1 := Lib.hid hb; clear hr hb))
  obtain ⟨n, hn⟩ : ∃ n, n = G.length := ⟨_, rfl⟩
  rw [← hn] at hG
  have HN := Lib.hid hn
  have hr := HR.out
  rw [← hn] at hr ⊢
  have HR2 := Lib.hid hr
  have HPL := Lib.hid (show (G.map (·.x.p)).length = n by rw [List.length_map, hn])
  clear hn hr HR
  go_loopw [3, 5, 6, 13] (fun s3 _ _ s13 wr => ∃ (k : Nat) (L : List Rx), k ≤ n ∧ s13 = .int .i64 (k : Int) ∧ L.map (·.1) = (G.take k).map (·.x) ∧ RtL wr w.heap.size s3 c L ∧ wr.ownsRow w.heap.size 36 2 (.slice A n cp) n (flatP (G.map (·.x.p))) ∧ Below w.heap.size w wr) (fun _ _ _ s13 _ => n - (intOf s13).toNat)
  case atStart => exact ⟨0, [], Nat.zero_le _, rfl, rfl, ⟨World.ownsRow_nil _ _ _ _, fun a ha => by cases ha⟩, HR2.out, HB1.out⟩
  case round =>
    obtain ⟨k, L, hk, rfl, hL, hM, hRr, hB⟩ := hrel
    have HM := Lib.hid hM
    have HRr := Lib.hid hRr
    have HB := Lib.hid hB
    have HL := Lib.hid hL
    by_cases hlt : k < n
    · obtain ⟨g, hg⟩ : ∃ g, G[k]? = some g := ⟨_, List.getElem?_eq_getElem (by rw [← HN.out]; exact hlt)⟩
      have hgm := List.mem_of_getElem? hg
      have hLn : L.length = k := by
        have := congrArg List.length hL
        rw [List.length_map, List.length_map, List.length_take, ← HN.out] at this
        omega
      obtain ⟨gr, cq, e8, _⟩ := own_form1 hRr (by omega)
      obtain ⟨rfl, rfl⟩ : A = some ⟨gr, 0, none⟩ ∧ cp = cq := by cases e8; exact ⟨rfl, rfl⟩
      have lp := ld_pfrow hRr HPL.out (k := k) (p := g.x.p) (by rw [List.getElem?_map, hg]; rfl)
      obtain ⟨W2, hW2⟩ : ∃ Z, Z = wr.alloc (.cells #[.int .u32 (g.x.p.1 : Int), .int .i64 g.x.p.2] 36) := ⟨_, rfl⟩
      have hb2 : Below wr.heap.size wr W2 := by rw [hW2]; exact (Below.refl _ _).alloc (Nat.le_refl _) _
      have sp := st_pf_new wr (g.x.p.1 : Int) g.x.p.2
      rw [← hW2] at sp
      have hbw2 : Below w.heap.size w W2 := hB.trans (hb2.mono hB.size)
      have hkp : Blk W2 wr.heap.size 36 (pfC g.x.p) := by rw [hW2]; exact Blk.new _ _ _
      have hmW := H.out.below hbw2
      have hrc : RtC cb wr.heap.size g.b (coC room c mb ov) g.x.p (enC g.x) W2 := ⟨hmW.blk, hkp, hmW.en g hgm⟩
      have HRC := Lib.hid hrc
      have HRL := Lib.hid (hM.below hb2)
      have HR3 := Lib.hid (own_below hRr hb2)
      have HBW := Lib.hid hbw2
      have HMW := Lib.hid hmW
      have HGM := Lib.hid hgm
      have HGK := Lib.hid hg
      have HLN := Lib.hid hLn
      have k0 : (0 : Int) ≤ k := by omega
      have k1 : (k : Int) < n := by omega
      clear hM hRr hgm hg hW2 hb2 e8 hbw2 hkp hmW hrc hB hL hLn
      obtain ⟨A1, c1, rfl, hAc⟩ := own_form HRL.out.1
      clear hAc
      go_upto_region 7 with (fail)
      clear lp sp
      obtain ⟨F, hF⟩ := HMW.out.map
      have HCB := Lib.hid (show cb ≠ wr.heap.size ∧ g.b ≠ wr.heap.size from ⟨Nat.ne_of_lt (Nat.lt_of_lt_of_le H.out.blk.lt HB.out.size), Nat.ne_of_lt (Nat.lt_of_lt_of_le (H.out.en g HGM.out).lt HB.out.size)⟩)
      have l1 := fun (dd : Nat) (os : Array Obj) => ld_mC (w := grow (redrawn W2 dd) os) ((HRC.out.below (below_regrown W2 dd os)).1.cell 17)
      have l2 := fun (dd : Nat) (os : Array Obj) => ld_pf (HRC.out.below (below_regrown W2 dd os)).2.1
      have l3 := fun (dd : Nat) (os : Array Obj) => hF.look (below_regrown W2 dd os) HGM.out (may_ok (HMW.out.may g HGM.out))
      unfold ptrE at l3
      clear hF
      refine wp_region_quiet_below (by kernel_rfl) (by kernel_rfl) ?_
      repeat (go_big_quiet_step (fail))
      refine wpQuiet_nil ?_
      intro _ hw'
      obtain ⟨⟨dq, osq⟩, hw''⟩ := hw'
      subst hw''
      have HBQ := Lib.hid (below_regrown W2 dq osq)
      generalize grow (redrawn W2 dq) osq = wq at HBQ ⊢
      clear l1 l2 l3
      go_upto_region 8 with (fail)
      have HRCq := Lib.hid (HRC.out.below HBQ.out)
      refine wp_region_mix [(true, 15), (false, 5)] 3 (by kernel_rfl) (RtC cb wr.heap.size g.b (coC room c mb ov) g.x.p (enC g.x)) (fun _ _ h k => h.below k) (by kernel_rfl) HRCq.out (a' := ?_) (fun wz hz => ?_) fun wz hz => ?_
      rotate_left
      · have m1 := fun (dd : Nat) (os : Array Obj) => ld_pf (hz.below (below_regrown wz dd os)).2.1
        have m2 := fun (dd : Nat) (os : Array Obj) => ld_bC (b := g.b) (o := 0) (z := g.x.own) ((hz.below (below_regrown wz dd os)).2.2.cell 0)
        have m3 := fun (dd : Nat) (os : Array Obj) => ld_bC (b := g.b) (o := 1) (z := g.x.tk) ((hz.below (below_regrown wz dd os)).2.2.cell 1)
        have m4 := fun (dd : Nat) (os : Array Obj) => Calls.regrown_of (calls_below (distance_any (hz.below (below_regrown wz dd os)).1 (hz.below (below_regrown wz dd os)).2.2 (HS.out g HGM.out) HC.out))
        clear hz
        simp only [pick_nil, pick_tt, pick_ft, List.take_succ_cons, List.take_zero, List.drop_succ_cons, List.drop_zero, List.append_nil]
        repeat (go_big_quiet_step (with_reducible exact m4 _ _))
        refine wpQuiet_nil ?_
        rfl
      simp only [pick_nil, pick_ff, pick_tf, List.take_succ_cons, List.take_zero, List.drop_succ_cons, List.drop_zero, List.append_nil]
      have HZ := Lib.hid (HBQ.out.trans (hz.mono HBQ.out.size))
      clear hz
      refine wpMix_step (HRC.out.below HZ.out) fun wa ha => ?_
      have HA := Lib.hid (HZ.out.trans (ha.mono HZ.out.size))
      have HRCa := Lib.hid (HRC.out.below HA.out)
      have hnx := next_any HRCa.out.1 HRCa.out.2.2 (HS.out g HGM.out) HC.out wa (Below.refl _ _)
      have HNX := Lib.hid hnx
      clear ha hnx
      go_wp2_with (go_at_call 33; refine HNX.out.mono ?_; rintro e wb ⟨v9, rfl, hv9, hb9⟩; obtain ⟨A9, c9, rfl, _⟩ := own_form hv9; have HV9 := Lib.hid hv9; have HB9 := Lib.hid (HA.out.trans (hb9.mono HA.out.size)); clear hv9 hb9)
      refine wpMix_step (HRC.out.below HB9.out) fun wc hc => ?_
      have HCc := Lib.hid (HB9.out.trans (hc.mono HB9.out.size))
      have HVc := Lib.hid (own_below HV9.out hc)
      have bd := bd_rt wc (g.x.p.1 : Int) g.x.p.2 g.x.own g.x.tk (distF c g.x) A9 (nextF c g.x).length c9
      clear hc
      go_wp2_with fail
      clear bd
      have hmx : L.length + 1 ≤ maxLen := by unfold maxLen; rw [HLN.out]; omega
      have hmb : (L.length + 1) * 56 ≤ 140737488355328 := by rw [HLN.out]; omega
      have hrow := (HRL.out.below HCc.out).1
      refine wpMix_push (fun _ _ h k => h.below k) (HRC.out.below HCc.out) 48 (rtE c (g.x, .slice A9 (nextF c g.x).length c9)) rfl (fun w' => by go_simp; rfl) rfl (.tmp 23) (.tmp 40) _ rfl rfl w.heap.size i0 _ 6 56 Try.underlying39 HI.out hz0 hz1 hz2 rfl (by decide) (.slice A1 L.length c1) L.length _ (fun _ => rfl) (fun _ => rfl) hrow rfl (by simp [rtE, Value.oneCell']) hmx hmb (Nat.le_trans HBW.out.size HCc.out.size) fun gq v2 w2 h2 hg2 h3 => ?_
      refine wpMix_plain ?_
      have hb2 : Below w.heap.size w w2 := (HBW.out.trans (HCc.out.mono HBW.out.size)).grown hg2 (Nat.le_trans HBW.out.size HCc.out.size) fun j hj => (own_lt hrow hj).1
      have hL2 : RtL w2 w.heap.size v2 c (L ++ [(g.x, .slice A9 (nextF c g.x).length c9)]) := by
        refine ⟨?_, fun a ha => ?_⟩
        · rw [flatR_snoc, List.length_append]
          exact h2
        · rcases List.mem_append.1 ha with ha | ha
          · exact (HRL.out.below HCc.out).grown hg2 a ha
          · rw [List.mem_singleton.1 ha]
            exact nx_keep (own_base HVc.out (Nat.le_trans HBW.out.size HA.out.size)) hg2 fun k hk => own_blk hrow hk
      have hP2 : w2.ownsRow w.heap.size 36 2 (.slice (some ⟨gr, 0, none⟩) n cp) n (flatP (G.map (·.x.p))) := by
        refine own_keep (own_below HR3.out HCc.out) (I := fun k => (Value.slice (some ⟨gr, 0, none⟩) n cp).ownBlock = some k) ⟨hg2.size, fun k hk hl => hg2.block k hl fun e => ?_⟩ fun _ e => e
        obtain ⟨x1, y1⟩ := own_blk (own_below HR3.out HCc.out) hk
        obtain ⟨x2, y2⟩ := own_blk hrow e.symm
        exact y1.ne_ y2 (by decide) rfl
      obtain ⟨A2, c2, rfl, _⟩ := own_form h2
      have HB2 := Lib.hid hb2
      have HL2 := Lib.hid hL2
      have HP2 := Lib.hid hP2
      clear hb2 hL2 hP2 hrow h2 hg2 h3 hz0 hz1 hz2 hmx hmb
      go_wp2_with fail
      go_roundw
      case rel =>
        refine ⟨k + 1, _, hlt, by go_num, ?_, HL2.out, HP2.out, HB2.out⟩
        rw [List.map_append, HL.out, List.take_add_one, HGK.out, List.map_append]
        rfl
      case measure => simp [intOf]; omega
    · obtain rfl : k = n := by omega
      clear hM hRr hB hL
      go_wp2_with fail
      go_ret
      refine ⟨_, rfl, ⟨L, ?_, HM.out⟩, HB.out⟩
      rw [HL.out, List.take_of_length_le (by rw [HN.out]; exact Nat.le_refl _)]
end Go.Proofs.Ytahdjfegihnolaa
