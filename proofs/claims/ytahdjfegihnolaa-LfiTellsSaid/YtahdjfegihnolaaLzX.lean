/- Layer 12: next. -/
import Derived.Test.YtahdjfegihnolaaLzF
import Derived.Test.YtahdjfegihnolaaPsN
namespace Go.Proofs.Ytahdjfegihnolaa
open Go.RowKit Go.Sort
abbrev Nx := Nat × Int
def nxE (t : Nx) : List Value := [.int .i64 (t.1 : Int), .int .i64 t.2]
def flatN (o : List Nx) : List Value := o.flatMap nxE
theorem flatN_snoc (o : List Nx) (t : Nx) : flatN (o ++ [t]) = flatN o ++ nxE t := by unfold flatN; rw [List.flatMap_append]; simp
theorem info_nx : (Try.prog.info? 61).map (fun i => (i.zero, i.size, i.bytes)) = some (some (.agg #[.int .i64 0, .int .i64 0]), 2, 16) := by kernel_rfl
/-- A row of successors. -/
def NxM (w : World) (B : Nat) (v : Value) (o : List Nx) : Prop := w.ownsRow B 61 2 v o.length (flatN o)
theorem nx_one (t : Nx) : ∀ u ∈ nxE t, u.oneCell' = true := by
  intro u hu
  simp only [nxE, List.mem_cons, List.not_mem_nil, or_false] at hu
  rcases hu with rfl | rfl <;> rfl
def nextB (c : Pc) (x : Le) (p : Nat) : Bool := x.tk && !x.own && c.up p && decide (x.said p < x.feas) && decide (x.said p + c.cost p < 255)
def nextK (c : Pc) (x : Le) (k : Nat) : List Nx := ((List.range k).filter (nextB c x)).map fun p => (p, x.said p + c.cost p)
theorem nextK_succ (c : Pc) (x : Le) (k : Nat) : nextK c x (k + 1) = nextK c x k ++ (if nextB c x k = true then [(k, x.said k + c.cost k)] else []) := by
  unfold nextK
  rw [List.range_succ, List.filter_append, List.map_append]
  congr 1
  by_cases h : nextB c x k = true
  · simp [h]
  · simp [h]
theorem nextK_len (c : Pc) (x : Le) (k : Nat) : (nextK c x k).length ≤ k := by
  unfold nextK
  rw [List.length_map]
  exact Nat.le_trans (List.length_filter_le _ _) (by rw [List.length_range]; exact Nat.le_refl _)
set_option maxRecDepth 100000 in
set_option maxHeartbeats 4000000 in
attribute [-go_sem] Instr.storeAt Instr.loadAt in
theorem next_any {w : World} {cb mb b : Nat} {ov : Value} {room : Int} {c : Pc} {x : Le} (h : Blk w cb 81 (coC room c mb ov)) (hx : Blk w b 87 (enC x)) (hs : ∀ q, 0 ≤ x.said q ∧ x.said q ≤ 255) (hc : ∀ q, 0 ≤ c.cost q ∧ c.cost q ≤ 50) (W0 : World) (_hW : Below W0.heap.size W0 w) :
    Calls Try.prog 33 #[.pointer (some ⟨cb, 0, none⟩), .pointer (some ⟨b, 0, none⟩)] w fun e w' => ∃ v, e = .returned v ∧ NxM w' w.heap.size v (nextF c x) ∧ Below w.heap.size w w' := by
  have l1 := ld_said hx
  have H := Lib.hid h
  have HX := Lib.hid hx
  have HS := Lib.hid hs
  have HC := Lib.hid hc
  obtain ⟨i0, hi, hz0, hz1, hz2⟩ := info_parts info_nx
  have hi' := Lib.hid hi
  clear h hx hs hc hi
  have hfin : nextF c x = nextK c x 8 := rfl
  rw [hfin]
  clear hfin
  go_enter Try.func33, Try.ntmps33
  go_wp2_with fail
  clear l1
  go_loopw [5, 13] (fun s5 s13 wr => ∃ k : Nat, k ≤ 8 ∧ s13 = .int .i64 (k : Int) ∧ NxM wr w.heap.size s5 (nextK c x k) ∧ Below w.heap.size w wr) (fun _ s13 _ => 8 - (intOf s13).toNat)
  case atStart => exact ⟨0, by omega, rfl, World.ownsRow_nil _ _ _ _, Below.refl _ _⟩
  case round =>
    obtain ⟨k, hk, rfl, hV, hB⟩ := hrel
    have HV := Lib.hid hV
    have HB := Lib.hid hB
    have hR := HX.out.below hB HX.out.lt
    have hH := H.out.below hB H.out.lt
    clear hV hB
    by_cases hlt : k < 8
    · have HE := Lib.hid (nextK_succ c x k)
      have i1 := fun wx => ix_ar x.said hlt wx
      have u1 := ld_bC (cell_up hH hlt)
      have u2 := ld_iC (cell_cost hH hlt)
      have t0 := ld_bC (w := wr) (b := b) (o := 0) (z := x.own) (hR.cell 0)
      have t1 := ld_bC (w := wr) (b := b) (o := 1) (z := x.tk) (hR.cell 1)
      have t2 := ld_iC (w := wr) (b := b) (o := 11) (z := x.feas) (hR.cell 11)
      obtain ⟨s0, s1⟩ := HS.out k
      obtain ⟨d0, d1⟩ := HC.out k
      have k0 : (0 : Int) ≤ k := by omega
      have k1 : (k : Int) < 8 := by omega
      have hln := nextK_len c x k
      have hmx : (nextK c x k).length + 1 ≤ maxLen := by unfold maxLen; omega
      have hmb : ((nextK c x k).length + 1) * 16 ≤ 140737488355328 := by omega
      unfold nextB at HE
      clear hR hH hln
      obtain ⟨o, ho⟩ : ∃ o, o = x.own := ⟨_, rfl⟩
      obtain ⟨t, ht⟩ : ∃ o, o = x.tk := ⟨_, rfl⟩
      obtain ⟨u, hu⟩ : ∃ o, o = c.up k := ⟨_, rfl⟩
      obtain ⟨z, hz⟩ : ∃ o, o = x.said k := ⟨_, rfl⟩
      obtain ⟨f, hf⟩ : ∃ o, o = x.feas := ⟨_, rfl⟩
      obtain ⟨d, hd⟩ : ∃ o, o = c.cost k := ⟨_, rfl⟩
      rw [← ho] at t0 HE
      rw [← ht] at t1 HE
      rw [← hu] at u1 HE
      rw [← hz] at s0 s1 HE i1
      rw [← hf] at t2 HE
      rw [← hd] at d0 d1 u2 HE
      clear ho ht hu hz hf hd
      have hno : (∀ H2 : (t && !o && u && decide (z < f) && decide (z + d < 255)) = false, nextK c x (k + 1) = nextK c x k) := fun H2 => by rw [HE.out, H2]; simp
      cases t with
      | false =>
        have HN := Lib.hid (hno (by simp))
        clear hno hmx hmb hz0 hz1 hz2
        go_wp2_with fail
        go_roundw
        case rel => exact ⟨k + 1, by omega, by go_num, by rw [HN.out]; exact HV.out, HB.out⟩
        case measure => simp [intOf]; omega
      | true =>
        cases o with
        | true =>
          have HN := Lib.hid (hno (by simp))
          clear hno hmx hmb hz0 hz1 hz2
          go_wp2_with fail
          go_roundw
          case rel => exact ⟨k + 1, by omega, by go_num, by rw [HN.out]; exact HV.out, HB.out⟩
          case measure => simp [intOf]; omega
        | false =>
          cases u with
          | false =>
            have HN := Lib.hid (hno (by simp))
            clear hno hmx hmb hz0 hz1 hz2
            go_wp2_with fail
            go_roundw
            case rel => exact ⟨k + 1, by omega, by go_num, by rw [HN.out]; exact HV.out, HB.out⟩
            case measure => simp [intOf]; omega
          | true =>
            by_cases h1 : z < f
            · have b1 : decide (z < f) = true := decide_eq_true h1
              by_cases h2 : z + d < 255
              · have b2 : decide (z + d < 255) = true := decide_eq_true h2
                have HN := Lib.hid (show nextK c x (k + 1) = nextK c x k ++ [(k, z + d)] from by rw [HE.out]; simp [h1, h2])
                have hi := hi'.out
                clear hno h1 h2
                go_wp2_with (at_builtin; refine wpList_pushN wr rfl (.tmp 56) (.tmp 60) _ 61 rfl rfl i0 _ 2 16 Try.underlying46 hi hz0 hz1 hz2 rfl (by decide) w.heap.size _ _ _ (nxE (k, z + d)) rfl (nx_one _) rfl HV.out rfl hmx hmb HB.out.size ?_; intro v2 w2 h2 hg2 hat2)
                have hb2 := HB.out.grown hg2 HB.out.size fun g hg => (own_lt HV.out hg).1
                have h2' : NxM w2 w.heap.size v2 (nextK c x (k + 1)) := by
                  unfold NxM
                  rw [HN.out, List.length_append, flatN_snoc]
                  exact h2
                have H2 := Lib.hid h2'
                have HB2 := Lib.hid hb2
                clear h2 hg2 hat2 hb2 h2' hi hz0 hz1 hz2 hmx hmb
                go_wp2_with fail
                go_roundw
                case rel => exact ⟨k + 1, by omega, by go_num, H2.out, HB2.out⟩
                case measure => simp [intOf]; omega
              · have b2 : decide (z + d < 255) = false := decide_eq_false h2
                have HN := Lib.hid (hno (by simp [h2]))
                clear hno hmx hmb hz0 hz1 hz2 h1 h2
                go_wp2_with fail
                go_roundw
                case rel => exact ⟨k + 1, by omega, by go_num, by rw [HN.out]; exact HV.out, HB.out⟩
                case measure => simp [intOf]; omega
            · have b1 : decide (z < f) = false := decide_eq_false h1
              have HN := Lib.hid (hno (by simp [h1]))
              clear hno hmx hmb hz0 hz1 hz2 h1
              go_wp2_with fail
              go_roundw
              case rel => exact ⟨k + 1, by omega, by go_num, by rw [HN.out]; exact HV.out, HB.out⟩
              case measure => simp [intOf]; omega
    · obtain rfl : k = 8 := by omega
      go_wp2_with fail
      go_ret
      exact ⟨_, rfl, HV.out, HB.out⟩
end Go.Proofs.Ytahdjfegihnolaa
