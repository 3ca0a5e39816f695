/- Layer 12: the document's add. -/
import Derived.Test.YtahdjfegihnolaaRcF
import Derived.Test.YtahdjfegihnolaaStC
namespace Go.Proofs.Ytahdjfegihnolaa
open Go.RowKit Go.Sort
theorem reC_one (x : Le) : ∀ u ∈ reC x, u.oneCell' = true := by
  intro u hu
  unfold reC at hu
  simp only [List.mem_cons, List.not_mem_nil, or_false] at hu
  rcases hu with rfl | rfl | rfl | rfl | rfl | rfl | rfl | rfl | rfl | rfl | rfl | rfl | rfl | rfl | rfl | rfl | rfl | rfl | rfl | rfl | rfl | rfl <;> rfl
theorem flatE_one (L : List Le) : ∀ u ∈ flatE L, u.oneCell' = true := by
  intro u hu
  unfold flatE at hu
  obtain ⟨x, _, h⟩ := List.mem_flatMap.1 hu
  exact reC_one x u h
theorem bs_re (x : Le) (w : World) : (Instr.buildSlice 75 1 #[(0, .agg (reA x))]).run Try.prog w = .ok (.slice (some ⟨w.heap.size, 0, none⟩) 1 1) (w.alloc (.cells (reA x) 98)) := by kernel_rfl
def reZ : Le := ⟨(0, 0), false, false, fun _ => 0, 0, 0, fun _ => 0⟩
theorem info_re : (Try.prog.info? 98).map (fun i => (i.zero, i.size, i.bytes)) = some (some (.agg (reA reZ)), 22, 168) := by kernel_rfl
theorem reelem : (Try.prog).underlying 75 = some (.slice ((Try.prog).elem 75)) := by simp [Program.elem, Try.underlying75]
theorem reelem2 : (Try.prog).elem 75 = 98 := by simp [Program.elem, Try.underlying75]
theorem resize (w : World) : (Go.sizeOf 98).run Try.prog w = .ok 22 w := by
  have := info_re
  cases h : Try.prog.info? 98 with
  | none => rw [h] at this; cases this
  | some i =>
    rw [h] at this
    simp at this
    simp [Go.sizeOf, typeInfo, h, this.2.1]
theorem sre_lo (A : Option Addr) (n cap : Nat) (w : World) (k : Nat) (hk : k ≤ n) : (Instr.slice 75 (.slice A n cap) (some (.int .i64 (k : Int))) none none).run Try.prog w = .ok (.slice (if cap = k then A else A.map (·.add (k * 22))) (n - k) (cap - k)) w := by
  rw [run_slice_l w _ _ _ _ reelem .i64 _ (by omega) (by omega), reelem2, resize]
  by_cases h0 : cap = k
  · simp [Result.andThen, sliced, h0]
  · simp [Result.andThen, sliced, h0]
theorem st_all {w : World} {g : Nat} {u : Value} (hu : w.cell? ⟨g, 17, none⟩ = some u) (hf : w.frozen? ⟨g, 17, none⟩ = false) (A : Option Addr) (n c : Nat) : (Instr.storeAt 75 (.pointer (some ⟨g, 17, none⟩)) (.slice A n c)).run Try.prog w = .ok () (w.setCell ⟨g, 17, none⟩ (.slice A n c)) := by simp [go_sem, hu, hf]
theorem flatE_drop : ∀ (L : List Le) (k : Nat), (flatE L).drop (k * 22) = flatE (L.drop k)
  | [], k => by simp [flatE]
  | x :: L, 0 => by simp
  | x :: L, k + 1 => by
    have := flatE_drop L k
    unfold flatE at this ⊢
    rw [List.flatMap_cons, List.drop_succ_cons, ← this, List.drop_append, reC_len, List.drop_of_length_le (by rw [reC_len]; omega)]
    simp
    congr 1
    omega
theorem insE_at (e : Le) : ∀ {L : List Le} {k : Nat}, k ≤ L.length → (∀ j y, j < k → L[j]? = some y → lessP y.p e.p) → (∀ y, L[k]? = some y → ¬ lessP y.p e.p) → insE e L = L.take k ++ e :: L.drop k
  | [], k, hk, _, _ => by
    obtain rfl : k = 0 := by simpa using hk
    rfl
  | a :: L, 0, _, _, h2 => by
    have := h2 a rfl
    unfold insE
    rw [if_neg this]
    rfl
  | a :: L, k + 1, hk, h1, h2 => by
    have h := h1 0 a (by omega) rfl
    unfold insE
    rw [if_pos h, insE_at e (L := L) (k := k) (by simpa using hk) (fun j y hj hy => h1 (j + 1) y (by omega) (by simpa using hy)) (fun y hy => h2 y (by simpa using hy))]
    rfl
theorem take_snoc {α : Type} {L : List α} {k : Nat} {x : α} (h : L[k]? = some x) : L.take (k + 1) = L.take k ++ [x] := by rw [List.take_add_one, h]; rfl
theorem flatE_take {L : List Le} {k : Nat} {x : Le} (h : L[k]? = some x) : flatE (L.take (k + 1)) = flatE (L.take k) ++ reC x := by rw [take_snoc h, flatE_snoc]
/-- What is left of a row from an entry on. -/
theorem RcM.readsFrom {w : World} {D rb n cap : Nat} {A : Option Addr} {ov : Value} {room : Int} {c : Pc} {L : List Le} (h : RcM w D rb (.slice A n cap) ov room c L) (hn : n = L.length) (hc : n ≤ cap) {k : Nat} (hk : k ≤ n) : Reads w (fun _ => True) 22 (if cap = k then A else A.map (·.add (k * 22))) (n - k) (flatE (L.drop k)) := by
  have hr := Reads.of_own (I := fun _ => True) (show w.ownsRow D 98 22 (.slice A n cap) n (flatE L) by have := h.row; rw [← hn] at this; exact this) fun _ _ => trivial
  rw [← flatE_drop]
  exact hr.cut hk hc
theorem RcM.cutFrom {w : World} {D rb n cap : Nat} {A : Option Addr} {ov : Value} {room : Int} {c : Pc} {L : List Le} (h : RcM w D rb (.slice A n cap) ov room c L) (hn : n = L.length) (hc : n ≤ cap) {k : Nat} (hk : k ≤ n) :
    ∃ A2, (∀ wx, (Instr.slice 75 (.slice A n cap) (some (.int .i64 (k : Int))) none none).run Try.prog wx = .ok (.slice A2 (n - k) (cap - k)) wx) ∧ Reads w (fun _ => True) 22 A2 (n - k) (flatE (L.drop k)) :=
  ⟨_, fun wx => sre_lo A n cap wx k hk, h.readsFrom hn hc hk⟩
def AddPost (w : World) (D rb : Nat) (ov : Value) (room : Int) (c : Pc) (L : List Le) (e : Ending) (w' : World) : Prop := e = .returned (.tuple #[]) ∧ ∃ av, RcM w' D rb av ov room c L ∧ Upd (only rb) w w' ∧ ∀ j, av.ownBlock = some j → w.heap.size ≤ j
set_option maxRecDepth 100000 in
set_option maxHeartbeats 4000000 in
attribute [-go_sem] Instr.storeAt Instr.loadAt Instr.buildSlice in
theorem add12_any {w : World} {rb D : Nat} {av ov : Value} {room : Int} {c : Pc} {L : List Le} (h : RcM w D rb av ov room c L) (hl : L.length ≤ 1024) (hD : D ≤ w.heap.size) (x : Le) :
    Calls Try.prog 37 #[.pointer (some ⟨rb, 0, none⟩), .agg (reA x)] w (AddPost w D rb ov room c (insE x L)) := by
  obtain ⟨W1, hW1⟩ : ∃ Z, Z = w.alloc (.cells (reA x) 98) := ⟨_, rfl⟩
  have hb1 : Below w.heap.size w W1 := by rw [hW1]; exact (Below.refl _ _).alloc (Nat.le_refl _) _
  have hk1 : Blk W1 w.heap.size 98 (reA x) := by rw [hW1]; exact Blk.new _ _ _
  obtain ⟨A, cap, rfl, hcap⟩ := h.len_le
  obtain ⟨i0, hi, hz0, hz1, hz2⟩ := info_parts info_re
  have HW1 := Lib.hid hW1
  have HB1 := Lib.hid hb1
  have HK1 := Lib.hid hk1
  have H1 := Lib.hid (h.below hb1)
  have HH := Lib.hid h
  have HDD := Lib.hid hD
  obtain ⟨n, hn⟩ : ∃ n, n = L.length := ⟨_, rfl⟩
  rw [← hn] at hl hcap
  have HN := Lib.hid hn
  have HCAP := Lib.hid hcap
  have bs := fun (y : Le) (wx : World) => bs_re y wx
  have HBS := Lib.hid bs
  clear h hW1 hb1 hk1 hn hcap hD bs
  go_enter Try.func37, Try.ntmps37
  go_wp2_with fail
  rw [← HW1.out]
  go_loopw [4, 5] (fun s4 s5 wr => ∃ (k : Nat) (v : Value), k ≤ n ∧ s5 = .int .i64 (k : Int) ∧ s4 = v ∧ wr.ownsRow W1.heap.size 98 22 v k (flatE (L.take k)) ∧ Below W1.heap.size W1 wr ∧ ∀ j y, j < k → L[j]? = some y → lessP y.p x.p) (fun _ s5 _ => n - (intOf s5).toNat)
  case atStart => exact ⟨0, _, Nat.zero_le _, rfl, rfl, World.ownsRow_nil _ _ _ _, Below.refl _ _, fun j y hj => absurd hj (Nat.not_lt_zero _)⟩
  case round =>
    obtain ⟨k, v, hk, rfl, rfl, hV, hB, hno⟩ := hrel
    have HV := Lib.hid hV
    have HB := Lib.hid hB
    have HNO := Lib.hid hno
    have hr := H1.out.below hB
    have HR := Lib.hid hr
    have HKX := Lib.hid (HK1.out.below hB HK1.out.lt)
    have l1 := fun (dd : Nat) (os : Array Obj) => ld_all (w := grow (redrawn wr dd) os) (b := rb) (A := A) (n := n) (c := cap) (by rw [HN.out]; exact (hr.below (below_regrown wr dd os)).blk.cell 17)
    have hi0 : (0 : Int) ≤ k := by omega
    clear hV hB hno
    by_cases hgo : k < n ∧ ∃ y, L[k]? = some y ∧ lessP y.p x.p
    · obtain ⟨hlt, y, hy, hless⟩ := hgo
      obtain ⟨g, c2, e1, _⟩ := hr.at_ (by rw [← HN.out]; omega)
      injection e1 with e1 _ e2
      subst e1
      subst e2
      have l2 := fun (dd : Nat) (os : Array Obj) => RcM.ld_p (hr.below (below_regrown wr dd os)) hy
      have l3 := fun (dd : Nat) (os : Array Obj) => ld_epf (HKX.out.below (below_regrown wr dd os) HKX.out.lt)
      have cl := fun (dd : Nat) (os : Array Obj) => Calls.regrown_of (less_any y.p.1 x.p.1 y.p.2 x.p.2 (grow (redrawn wr dd) os))
      rw [show decide (lessP (y.p.1, y.p.2) (x.p.1, x.p.2)) = true from decide_eq_true hless] at cl
      have hi1 : (k : Int) < n := by omega
      have HY := Lib.hid hy
      have HLS := Lib.hid hless
      clear hy hless hr
      go_wp2_with fail
      refine wp_region_quiet_below (by kernel_rfl) (by kernel_rfl) ?_
      repeat (go_big_quiet_step (with_reducible exact cl _ _))
      refine wpQuiet_nil ?_
      intro _ hw'
      obtain ⟨⟨dq, osq⟩, hw''⟩ := hw'
      subst hw''
      have hbq := below_regrown wr dq osq
      generalize grow (redrawn wr dq) osq = wq at hbq
      have hrq := HR.out.below hbq
      have l0 := ld_all (w := wq) (b := rb) (A := some ⟨g, 0, none⟩) (n := n) (c := cap) (by rw [HN.out]; exact hrq.blk.cell 17)
      have le := RcM.ld hrq HY.out
      have bsx := HBS.out y wq
      have hvq := own_below HV.out hbq
      have HVQ := Lib.hid hvq
      have HBQ := Lib.hid (HB.out.trans (hbq.mono HB.out.size))
      have hmx : k + 1 ≤ maxLen := by unfold maxLen; omega
      have hmb : (k + 1) * 168 ≤ 140737488355328 := by omega
      have hbs : W1.heap.size ≤ wq.heap.size := HBQ.out.size
      clear l1 l2 l3 cl hbq hrq hvq
      go_wp2_with (at_builtin; refine wpList_pushN wq rfl (.tmp 28) (.tmp 36) _ 98 rfl rfl i0 _ 22 168 Try.underlying75 hi hz0 hz1 hz2 rfl (by decide) W1.heap.size _ _ _ (reC y) rfl (reC_one y) rfl HVQ.out rfl hmx hmb hbs ?_; intro v2 w2 h2 hg2 hat2; have H2 := Lib.hid h2; have HG2 := Lib.hid hg2; clear h2 hg2 hat2)
      go_roundw
      case rel => exact ⟨k + 1, v2, by omega, by go_num, rfl, by rw [flatE_take HY.out]; exact H2.out, HBQ.out.grown HG2.out HBQ.out.size fun g hg => (own_lt HVQ.out hg).1, fun j z hj hz => by
        rcases Nat.lt_or_ge j k with h1 | h1
        · exact HNO.out j z h1 hz
        · obtain rfl : j = k := by omega
          rw [HY.out] at hz
          injection hz with hz
          rw [← hz]; exact HLS.out⟩
      case measure => simp [intOf]; omega
    · have HINS := Lib.hid (show insE x L = L.take k ++ x :: L.drop k from insE_at x (by rw [← HN.out]; exact hk) HNO.out fun y hy hls => hgo ⟨by rw [HN.out]; exact (List.getElem?_eq_some_iff.1 hy).1, y, hy, hls⟩)
      by_cases hlt : k < n
      obtain ⟨y, hy⟩ : ∃ y, L[k]? = some y := ⟨_, List.getElem?_eq_getElem (by rw [← HN.out]; exact hlt)⟩
      have hnl : ¬ lessP y.p x.p := fun hls => hgo ⟨hlt, y, hy, hls⟩
      obtain ⟨g, c2, e1, _⟩ := hr.at_ (by rw [← HN.out]; omega)
      injection e1 with e1 _ e2
      subst e1
      subst e2
      have l2 := fun (dd : Nat) (os : Array Obj) => RcM.ld_p (hr.below (below_regrown wr dd os)) hy
      have l3 := fun (dd : Nat) (os : Array Obj) => ld_epf (HKX.out.below (below_regrown wr dd os) HKX.out.lt)
      have cl := fun (dd : Nat) (os : Array Obj) => Calls.regrown_of (less_any y.p.1 x.p.1 y.p.2 x.p.2 (grow (redrawn wr dd) os))
      rw [show decide (lessP (y.p.1, y.p.2) (x.p.1, x.p.2)) = false from decide_eq_false hnl] at cl
      have hi1 : (k : Int) < n := by omega
      clear hy hr hgo hnl
      go_wp2_with fail
      refine wp_region_quiet_below (by kernel_rfl) (by kernel_rfl) ?_
      repeat (go_big_quiet_step (with_reducible exact cl _ _))
      refine wpQuiet_nil ?_
      clear l2 l3 cl
      rotate_left
      have d0 : decide ((k : Int) < (n : Int)) = false := decide_eq_false (by omega)
      have d1 : decide (k < n) = false := decide_eq_false hlt
      clear hr hgo
      go_wp2_with fail
      refine wp_region_quiet_below (by kernel_rfl) (by kernel_rfl) ?_
      repeat (go_big_quiet_step (fail))
      refine wpQuiet_nil ?_
      all_goals
        intro _ hw'
        obtain ⟨⟨dq, osq⟩, hw''⟩ := hw'
        subst hw''
        have hbq := below_regrown wr dq osq
        generalize grow (redrawn wr dq) osq = wq at hbq
        have hrq := HR.out.below hbq
        have le := ld_ent (HKX.out.below hbq HKX.out.lt)
        have bsx := HBS.out x wq
        have hvq := own_below HV.out hbq
        have HVQ := Lib.hid hvq
        have HBQ := Lib.hid (HB.out.trans (hbq.mono HB.out.size))
        have HRQ := Lib.hid hrq
        have hmx : k + 1 ≤ maxLen := by unfold maxLen; omega
        have hmb : (k + 1) * 168 ≤ 140737488355328 := by omega
        have hbs : W1.heap.size ≤ wq.heap.size := HBQ.out.size
        clear l1 hbq hrq hvq
        go_upto_region 7 with (at_builtin; refine wpList_pushN wq rfl (.tmp 38) (.tmp 40) _ 98 rfl rfl i0 _ 22 168 Try.underlying75 hi hz0 hz1 hz2 rfl (by decide) W1.heap.size _ _ _ (reC x) rfl (reC_one x) rfl HVQ.out rfl hmx hmb hbs ?_; intro v2 w2 h2 hg2 hat2; have H2 := Lib.hid h2; have HG2 := Lib.hid hg2; clear h2 hg2 hat2)
        have HB2 := Lib.hid (HBQ.out.grown HG2.out HBQ.out.size fun g hg => (own_lt HVQ.out hg).1)
        have hr2 := H1.out.below HB2.out
        have l2 := ld_all (w := w2) (b := rb) (n := n) (c := cap) (by rw [HN.out]; exact hr2.blk.cell 17)
        obtain ⟨A2, sl, hrd⟩ := RcM.cutFrom (n := n) (cap := cap) (by rw [HN.out]; exact hr2) HN.out HCAP.out hk
        have hmx2 : k + 1 + (n - k) ≤ maxLen := by unfold maxLen; omega
        have hmb2 : (k + 1 + (n - k)) * 168 ≤ 140737488355328 := by omega
        have hbs2 : W1.heap.size ≤ w2.heap.size := HB2.out.size
        have h2 := H2.out
        clear hr2 le bsx
        go_wp2_with (at_builtin; refine wpList_append_any w2 rfl (.tmp 43) (.tmp 49) _ rfl W1.heap.size 98 i0 _ 22 168 Try.underlying75 hi hz0 hz1 hz2 rfl (by decide) _ (k + 1) _ rfl h2 _ A2 (n - k) (cap - k) _ rfl hrd (flatE_one _) hmx2 hmb2 hbs2 ?_; intro v3 w3 h3 hg3 _; have HB3 := Lib.hid (HB2.out.grown hg3 HB2.out.size fun g hg => (own_lt h2 hg).1); obtain ⟨A3, c3, rfl, _⟩ := own_form h3; have hr3 := H1.out.below HB3.out; have s3 := st_all (hr3.blk.cell 17) (hr3.blk.frozen 17) A3 (k + 1 + (n - k)) c3; have HR3 := Lib.hid hr3; have H3 := Lib.hid h3; clear h3 hg3 hr3 h2 hrd)
        refine bodyPost_ret (results_none rfl _ _ _) rfl ?_
        have e3 : k + 1 + (n - k) = (insE x L).length := by rw [HINS.out, List.length_append, List.length_cons, List.length_take, List.length_drop, ← HN.out]; omega
        have h3 : w3.ownsRow W1.heap.size 98 22 (.slice A3 (k + 1 + (n - k)) c3) (insE x L).length (flatE (insE x L)) := by
          have := H3.out
          rw [← e3, HINS.out, flatE_append, show flatE (x :: L.drop k) = reC x ++ flatE (L.drop k) by unfold flatE; rw [List.flatMap_cons], ← List.append_assoc]
          exact this
        have hne := own_blk_ne h3 HR3.out.blk (by decide)
        have hu3 := upd_set w3 rb 17 (.slice A3 (k + 1 + (n - k)) c3)
        refine ⟨rfl, .slice A3 (k + 1 + (n - k)) c3, ⟨HR3.out.blk.set_ 17 _, ?_⟩, ?_, fun j hj => ?_⟩
        · exact own_base (ownsRow_setCell_other (a := ⟨rb, 17, none⟩) h3 hne _) (by have := HDD.out; have := HB1.out.size; omega)
        · exact ((Upd.ofBelow HB1.out _).trans_ (Upd.ofBelow HB3.out _)).trans_ hu3
        · have := (own_lt h3 hj).1
          have := HB1.out.size
          omega
end Go.Proofs.Ytahdjfegihnolaa
