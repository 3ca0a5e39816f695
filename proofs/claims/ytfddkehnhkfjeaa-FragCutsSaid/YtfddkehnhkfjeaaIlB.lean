/- IpParses' walk. -/
import Derived.Test.YtfddkehnhkfjeaaIlA
import Derived.Test.YtfddkehnhkfjeaaIrD
namespace Go.Proofs.Ytfddkehnhkfjeaa
open Go.RowKit
theorem part_le (x : By) (a b : Nat) : (partF x a b).length ≤ x.length := by unfold partF; rw [List.length_drop, List.length_take]; omega
theorem prs_len (x : By) : (prsF x).2.1.length ≤ x.length ∧ (prsF x).1.opts.length ≤ x.length := by
  unfold prsF
  split
  · exact ⟨part_le _ _ _, by unfold hdF; exact part_le _ _ _⟩
  · exact ⟨Nat.zero_le _, Nat.zero_le _⟩
/-- A header's variable, new, with what stands there. -/
theorem hd_var {B : Nat} {w w1 : World} (hb : Below B w w1) (hB : B ≤ w1.heap.size) (h : Hd) (A : Option Addr) (n c : Nat) : ∃ w2, (Instr.storeAt 28 (.pointer (some ⟨w1.heap.size, 0, none⟩)) (hdV h (.slice A n c))).run Try.prog (w1.alloc (.cells #[.int .u8 0, .int .u16 0, .bool false, .bool false, .bool false, .int .i64 0, .int .u8 0, .int .u8 0, .int .u32 0, .int .u32 0, .slice none 0 0] 28)) = .ok () w2 ∧ Below B w w2 ∧ Below w1.heap.size w1 w2 ∧ Blk w2 w1.heap.size 28 (hdC h (.slice A n c)) :=
  ⟨_, hd_store (vs := hdC h (.slice A n c)) (Blk.new w1 _ _) rfl rfl (by simp [hdC, Value.oneCell']), below_setCells hB _ 0 _ (hb.alloc hB _), below_setCells (Nat.le_refl _) _ 0 _ ((Below.refl _ _).alloc (Nat.le_refl _) _), blk_setCells (Blk.new w1 _ _) rfl⟩
theorem st8 {w : World} {g i : Nat} {u : Value} (hu : w.cell? ⟨g, i, none⟩ = some u) (hf : w.frozen? ⟨g, i, none⟩ = false) (b : Int) : (Instr.storeAt 5 (.pointer (some ⟨g, i, none⟩)) (.int .u8 b)).run Try.prog w = .ok () (w.setCell ⟨g, i, none⟩ (.int .u8 b)) := by
  simp [go_sem, hu, hf]
theorem ld8s {w : World} {g i : Nat} {A : Option Addr} {n c : Nat} (hu : w.cell? ⟨g, i, none⟩ = some (.slice A n c)) : (Instr.loadAt 22 (.pointer (some ⟨g, i, none⟩))).run Try.prog w = .ok (.slice A n c) w := by
  simp [go_sem, hu]
/-- What stays while bytes of p's and of the options' rows are set. -/
structure ParS (w : World) (B gh : Nat) (hC : Array Value) (vp vo vw : Value) (m no : Nat) (x7 : By) (wr : World) : Prop where
  p : ∃ y, y.length = m ∧ Row8 B wr vp y
  o : ∃ z, z.length = no ∧ Row8 B wr vo z
  h : Blk wr gh 28 hC
  own : Row8 w.heap.size wr vw x7
  b : Below w.heap.size w wr
section
variable {w wr : World} {B gh : Nat} {hC : Array Value} {vp vo vw : Value} {m no : Nat} {x7 : By}
theorem ParS.setP (h : ParS w B gh hC vp vo vw m no x7 wr) (hw : ∀ g, vw.ownBlock = some g → g < B) (hpo : ∀ j, vp.ownBlock = some j → vo.ownBlock ≠ some j) (hph : ∀ g, vp.ownBlock = some g → g < gh) (hB : w.heap.size ≤ B) {i : Nat} (hi : i < m) :
    ∃ g cap, vp = .slice (some ⟨g, 0, none⟩) m cap ∧ m ≤ cap ∧ (∃ u, wr.cell? ⟨g, i, none⟩ = some u) ∧ wr.frozen? ⟨g, i, none⟩ = false ∧ ParS w B gh hC vp vo vw m no x7 (wr.setCell ⟨g, i, none⟩ (.int .u8 9)) := by
  obtain ⟨y, hy, hp⟩ := h.p
  obtain ⟨g, cap, e, hcap, hg, cur, hk, hcur⟩ := hp.blk (by omega)
  subst e
  rw [hy] at hp hcap ⊢
  have hu : (bytesV y)[i]? = some (.int .u8 ((y[i]'(by omega)).toNat : Int)) := by
    have : i < y.length := by omega
    simp [bytesV, this]
  refine ⟨g, cap, rfl, hcap, ⟨_, (hk.cell i).trans (hcur _ _ hu)⟩, hk.frozen i, ?_, ?_, ?_, ?_, ?_⟩
  · exact ⟨y.set i 9, by rw [List.length_set]; exact hy, Row8.set (b := 9) hp⟩
  · obtain ⟨z, hz, ho⟩ := h.o
    exact ⟨z, hz, ownsRow_setCell_other ho (hpo g rfl) _⟩
  · exact h.h.far (p := ⟨g, i, none⟩) (Nat.ne_of_gt (hph g rfl)) _
  · exact ownsRow_setCell_other h.own (fun e => by have := hw _ e; simp only at this; omega) _
  · exact h.b.setCell (p := ⟨g, i, none⟩) (Nat.le_trans hB hg) _
theorem ParS.setO (h : ParS w B gh hC vp vo vw m no x7 wr) (hw : ∀ g, vw.ownBlock = some g → g < B) (hpo : ∀ j, vp.ownBlock = some j → vo.ownBlock ≠ some j) (hph : ∀ g, vo.ownBlock = some g → g < gh) (hB : w.heap.size ≤ B) {i : Nat} (hi : i < no) :
    ∃ g cap, vo = .slice (some ⟨g, 0, none⟩) no cap ∧ no ≤ cap ∧ (∃ u, wr.cell? ⟨g, i, none⟩ = some u) ∧ wr.frozen? ⟨g, i, none⟩ = false ∧ ParS w B gh hC vp vo vw m no x7 (wr.setCell ⟨g, i, none⟩ (.int .u8 9)) := by
  obtain ⟨y, hy, hp⟩ := h.o
  obtain ⟨g, cap, e, hcap, hg, cur, hk, hcur⟩ := hp.blk (by omega)
  subst e
  rw [hy] at hp hcap ⊢
  have hu : (bytesV y)[i]? = some (.int .u8 ((y[i]'(by omega)).toNat : Int)) := by
    have : i < y.length := by omega
    simp [bytesV, this]
  refine ⟨g, cap, rfl, hcap, ⟨_, (hk.cell i).trans (hcur _ _ hu)⟩, hk.frozen i, ?_, ?_, ?_, ?_, ?_⟩
  · obtain ⟨z, hz, ho⟩ := h.p
    exact ⟨z, hz, ownsRow_setCell_other (a := ⟨g, i, none⟩) ho (fun e => hpo _ e rfl) _⟩
  · exact ⟨y.set i 9, by rw [List.length_set]; exact hy, Row8.set (b := 9) hp⟩
  · exact h.h.far (p := ⟨g, i, none⟩) (Nat.ne_of_gt (hph g rfl)) _
  · exact ownsRow_setCell_other h.own (fun e => by have := hw _ e; simp only at this; omega) _
  · exact h.b.setCell (p := ⟨g, i, none⟩) (Nat.le_trans hB hg) _
theorem ParS.later {w2 : World} (h : ParS w B gh hC vp vo vw m no x7 wr) (hb : Below wr.heap.size wr w2) : ParS w B gh hC vp vo vw m no x7 w2 := by
  obtain ⟨y, hy, hp⟩ := h.p
  obtain ⟨z, hz, ho⟩ := h.o
  exact ⟨⟨y, hy, hp.below hb⟩, ⟨z, hz, ho.below hb⟩, h.h.below hb h.h.lt, h.own.below hb, h.b.trans (hb.mono h.b.size)⟩
end
attribute [-go_sem] Instr.storeAt Instr.loadAt in
set_option maxRecDepth 20000 in
set_option maxHeartbeats 1600000 in
theorem ipparses_any (A : Option Addr) (n c : Nat) (x : By) (w : World) (h : Reads w (fun k => k < w.heap.size) 1 A n (bytesV x)) (hn : x.length = n) (hc : n ≤ c) :
    Calls Try.prog 3 #[.slice A n c] w fun e w' => e = .returned (.bool true) ∧ Below w.heap.size w w' := by
  have HN := Lib.hid hn
  have HC := Lib.hid hc
  have HK := Lib.hid (fun wx => known_any wx)
  have HH := Lib.hid h
  obtain ⟨R, hR⟩ : ∃ R, R = prsF x := ⟨_, rfl⟩
  have HR := Lib.hid hR
  clear h hn hc hR
  go_enter Try.func3, Try.ntmps3
  by_cases hbig : 70000 < n
  · have hg : decide ((70000 : Int) < (n : Int)) = true := decide_eq_true (by omega)
    go_wp2_with fail
    refine (HK.out _).mono ?_
    rintro e w1 ⟨rfl, hb⟩
    have HB := Lib.hid hb
    clear hb
    go_wp2_with fail
    go_ret
    exact ⟨rfl, HB.out⟩
  have hg : decide ((70000 : Int) < (n : Int)) = false := decide_eq_false (by omega)
  have HS := Lib.hid (show n ≤ 70000 by omega)
  clear hbig
  have hx63 : ([] : By).length + n ≤ 140737488355328 := by have := HS.out; simp only [List.length_nil]; omega
  have hx64 : x.length + 1 ≤ 140737488355328 := by have := HN.out; have := HS.out; omega
  go_wp2_with (first
    | (at_builtin; refine wpList_app8 w rfl (.const (.slice none 0 0)) (.tmp 16) rfl rfl w.heap.size _ [] rfl (Row8.nil _ _) (fun k => k < w.heap.size) A n c x rfl HN.out HH.out hx63 (Nat.le_refl _) ?_; intro v1 w1 h1 hg1 hz1; clear hz1; have HB1 := Lib.hid ((Below.refl w.heap.size w).grown hg1 (Nat.le_refl _) fun g hg => by cases hg); obtain ⟨A1, c1, rfl, hcc⟩ := h1.form; clear hcc; have HV := Lib.hid (show Row8 w.heap.size w1 (.slice A1 ([] ++ x).length c1) x from h1); clear h1 hg1)
    | (at_builtin; refine wpList_push8 w1 rfl (.tmp 17) (.tmp 18) rfl rfl w.heap.size _ x 7 7 rfl rfl HV.out rfl hx64 HB1.out.size ?_; intro v2 w2 h2 hg2 hz2; clear hz2; have HB2 := Lib.hid (HB1.out.grown hg2 HB1.out.size fun g hg => (HV.out.lt hg).1); obtain ⟨A2, c2, rfl, hc2⟩ := h2.form; have HW := Lib.hid h2; have HC2 := Lib.hid hc2; have hlen2 : (x ++ [7] : By).length = n + 1 := (by rw [List.length_append, HN.out]; rfl); rw [hlen2] at HW HC2; rw [hlen2]; have hsl := sl_hi A2 (n + 1) c2 w2 n (by have := HC2.out; omega); clear hlen2 h2 hg2 hc2))
  have hx2 : ((x ++ [7] : By).take n) = x := by rw [List.take_append_of_le_length (by rw [HN.out]; exact Nat.le_refl _), ← HN.out, List.take_length]
  have hr2 : Reads w2 (fun k => w.heap.size ≤ k ∧ k < w2.heap.size) 1 A2 n (bytesV x) := by
    have := (HW.out.reads).2
    have hl : (x ++ [7] : By).length = n + 1 := by rw [List.length_append, HN.out]; rfl
    rw [← hl] at this
    have := reads_take (k := n) this (by rw [hl]; omega)
    rwa [hx2] at this
  refine (parse_any A2 n c2 x _ w2 hr2 HN.out (by have := HC2.out; omega) (by have := HS.out; omega)).mono ?_
  rw [← HR.out]
  rintro e w3 ⟨vo, vp, rfl, ho3, hp3, hdj, hb3⟩
  obtain ⟨Ao, co, rfl, _⟩ := ho3.form
  obtain ⟨Ap, cp, rfl, hcp⟩ := hp3.form
  have hwb := HB2.out.trans (hb3.mono HB2.out.size)
  obtain ⟨w4, hst4, hb4, hb34, hk4⟩ := hd_var hwb hwb.size R.1 Ao R.1.opts.length co
  have hw24 := hb3.trans (hb34.mono hb3.size)
  have hps : ParS w w2.heap.size w3.heap.size (hdC R.1 (.slice Ao R.1.opts.length co)) (.slice Ap R.2.1.length cp) (.slice Ao R.1.opts.length co) (.slice A2 (n + 1) c2) R.2.1.length R.1.opts.length (x ++ [7]) w4 := ⟨⟨_, rfl, hp3.below hb34⟩, ⟨_, rfl, ho3.below hb34⟩, hk4, HW.out.below hw24, hb4⟩
  have HPS := Lib.hid hps
  have HOG := Lib.hid (fun g (hg : (Value.slice Ao R.1.opts.length co).ownBlock = some g) => (ho3.lt hg).2)
  have HPG := Lib.hid (fun g (hg : (Value.slice Ap R.2.1.length cp).ownBlock = some g) => (hp3.lt hg).2)
  have HDJ := Lib.hid (show ∀ j, (Value.slice Ap R.2.1.length cp).ownBlock = some j → (Value.slice Ao R.1.opts.length co).ownBlock ≠ some j from fun j e e2 => hdj j e2 e)
  have HWG := Lib.hid (fun g (hg : (Value.slice A2 (n + 1) c2).ownBlock = some g) => (HW.out.lt hg).2)
  have HP4 := Lib.hid (hp3.below hb34)
  have HO4 := Lib.hid (ho3.below hb34)
  have HCP := Lib.hid hcp
  have hrp := rparse_any A n c x (fun k => k < w.heap.size) w4 (HH.out.keep (Same.ofBelow hb4 fun k hk => hk)) HN.out HC.out (by have := HS.out; omega)
  rw [← HR.out] at hrp
  have HRP := Lib.hid hrp
  clear hx2 hr2 ho3 hp3 hdj hb3 hwb hb4 hb34 hk4 hw24 hps hcp hrp
  go_wp2_with fail
  refine HRP.out.mono ?_
  rintro e w5 ⟨vo2, vp2, rfl, ho5, hp5, hb5⟩
  obtain ⟨Ao2, co2, rfl, _, hro5⟩ := ho5
  obtain ⟨Ap2, cp2, rfl, _, hrp5⟩ := hp5
  have hwb := HPS.out.b.trans (hb5.mono HPS.out.b.size)
  obtain ⟨w6, hst6, hb6, hb56, hk6⟩ := hd_var hwb hwb.size R.1 Ao2 R.1.opts.length co2
  have hb46 := hb5.trans (hb56.mono hb5.size)
  have HPS6 := Lib.hid (HPS.out.later hb46)
  have hp6 := HP4.out.below hb46
  have ho6 := HO4.out.below hb46
  have hl4 := hd_load HPS6.out.h rfl
  have hl6 := hd_load hk6 rfl
  have hq6 : Reads w6 (fun k => k < w.heap.size ∧ k < w4.heap.size) 1 Ap2 R.2.1.length (bytesV R.2.1) := hrp5.keep (Same.ofBelow hb56 fun k hk => Nat.lt_of_lt_of_le hk.2 hb5.size)
  have hro6 : Reads w6 (fun k => k < w.heap.size ∧ k < w4.heap.size) 1 Ao2 R.1.opts.length (bytesV R.1.opts) := hro5.keep (Same.ofBelow hb56 fun k hk => Nat.lt_of_lt_of_le hk.2 hb5.size)
  have hsm := rsame_any R.1 R.1 (.slice Ao R.1.opts.length co) (.slice Ao2 R.1.opts.length co2) _ _ w6 ho6.sl ⟨Ao2, co2, rfl, by assumption, hro6⟩
  rw [(sameH_iff R.1 R.1).2 rfl] at hsm
  have HSM := Lib.hid hsm
  have HP6 := Lib.hid hp6
  have HQ6 := Lib.hid hq6
  have HW46 := Lib.hid hb46.size
  clear hb46 hp6 ho6 hq6 hro6 hsm hb5 hb56 hb6 hwb hk6 hro5 hrp5 hst4 hsl
  go_wp2_with fail
  refine HSM.out.mono ?_
  rintro e w7 ⟨rfl, hb7⟩
  have HPS7 := Lib.hid (HPS6.out.later hb7)
  have s1 := run_str w7 _ Ap R.2.1 cp (row_reads (HP6.out.below hb7))
  have s2 := run_str w7 _ Ap2 R.2.1 cp2 (HQ6.out.keep (Same.ofBelow hb7 fun k hk => Nat.lt_of_lt_of_le hk.2 HW46.out))
  obtain ⟨m, hm⟩ : ∃ m, m = R.2.1.length := ⟨_, rfl⟩
  obtain ⟨no, hno⟩ : ∃ m, m = R.1.opts.length := ⟨_, rfl⟩
  have e61 : ((R.2.2 : Int) != (R.2.2 : Int)) = false := by rw [bne_eq_false_iff_eq]
  clear hb7 hl4 hl6
  go_wp2_with fail
  obtain ⟨gh, hgh⟩ : ∃ g, g = w3.heap.size := ⟨_, rfl⟩
  obtain ⟨hC, hhC⟩ : ∃ C, C = hdC R.1 (.slice Ao R.1.opts.length co) := ⟨_, rfl⟩
  have HC10 := Lib.hid (show hC[10]? = some (.slice Ao no co) by rw [hhC, hno]; rfl)
  rw [← hgh, ← hhC, ← hm, ← hno] at HPS7
  rw [← hgh, ← hno] at HOG
  rw [← hgh, ← hm] at HPG
  rw [← hm, ← hno] at HDJ
  rw [← hm] at HCP
  rw [← hgh, ← hm]
  have HM := Lib.hid (show m ≤ 70000 by have := (prs_len x).1; rw [hm, HR.out]; have := HN.out; have := HS.out; omega)
  have HNO := Lib.hid (show no ≤ 70000 by have := (prs_len x).2; rw [hno, HR.out]; have := HN.out; have := HS.out; omega)
  clear hm hno hgh hhC s1 s2 HP6 HQ6 HSM HRP HP4 HO4 HPS6 HPS
  go_loopw [10] (fun v wr => ∃ i : Nat, i ≤ m ∧ v = .int .i64 (i : Int) ∧ ParS w w2.heap.size gh hC (.slice Ap m cp) (.slice Ao no co) (.slice A2 (n + 1) c2) m no (x ++ [7]) wr) (fun v _ => m - (intOf v).toNat)
  case atStart => exact ⟨0, Nat.zero_le _, rfl, HPS7.out⟩
  case round =>
    obtain ⟨i, hi, rfl, hps⟩ := hrel
    by_cases hlt : i < m
    · have hd0 : decide ((i : Int) < (m : Int)) = true := decide_eq_true (by omega)
      have hd1 : decide (i < m) = true := decide_eq_true hlt
      obtain ⟨g, cap, e, hcap, ⟨u, hu⟩, hf, hps2⟩ := hps.setP (fun g hg => HWG.out g hg) (fun j hj => HDJ.out j hj) (fun g hg => HPG.out g hg) HB2.out.size hlt
      injection e with e1 e2 e3
      subst e1 e3
      have HPW := Lib.hid hps2
      have hi0 : (0 : Int) ≤ i := by omega
      have hi1 : (i : Int) < m := by omega
      have hi2 : (i : Int) < 70000 := by have := HM.out; omega
      have hst := st8 hu hf 9
      clear hps hps2
      go_wp2_with fail
      go_roundw
      case rel => exact ⟨i + 1, hlt, rfl, HPW.out⟩
      case measure => simp [intOf]; omega
    · obtain rfl : i = m := by omega
      have hd0 : decide ((i : Int) < (i : Int)) = false := decide_eq_false (by omega)
      have hd1 : decide (i < i) = false := decide_eq_false (by omega)
      have HPS := Lib.hid hps
      clear hps hd0 hd1 hi HPS7
      go_wp2_with fail
      go_loopw [11] (fun v wr => ∃ k : Nat, k ≤ no ∧ v = .int .i64 (k : Int) ∧ ParS w w2.heap.size gh hC (.slice Ap i cp) (.slice Ao no co) (.slice A2 (n + 1) c2) i no (x ++ [7]) wr) (fun v _ => no - (intOf v).toNat)
      case atStart => exact ⟨0, Nat.zero_le _, rfl, HPS.out⟩
      case round =>
        obtain ⟨k, hk, rfl, hps⟩ := hrel
        have c10 := ld8s ((hps.h.cell 10).trans HC10.out)
        by_cases hlt : k < no
        · have hd0 : decide ((k : Int) < (no : Int)) = true := decide_eq_true (by omega)
          have hd1 : decide (k < no) = true := decide_eq_true hlt
          obtain ⟨g, cap, e, hcap, ⟨u, hu⟩, hf, hps2⟩ := hps.setO (fun g hg => HWG.out g hg) (fun j hj => HDJ.out j hj) (fun g hg => HOG.out g hg) HB2.out.size hlt
          injection e with e1 e2 e3
          subst e1 e3
          have HPW := Lib.hid hps2
          have hi0 : (0 : Int) ≤ k := by omega
          have hi1 : (k : Int) < no := by omega
          have hi2 : (k : Int) < 70000 := by have := HNO.out; omega
          have hst := st8 hu hf 9
          clear hps hps2
          go_wp2_with fail
          go_roundw
          case rel => exact ⟨k + 1, hlt, rfl, HPW.out⟩
          case measure => simp [intOf]; omega
        · obtain rfl : k = no := by omega
          have hd0 : decide ((k : Int) < (k : Int)) = false := decide_eq_false (by omega)
          have hd1 : decide (k < k) = false := decide_eq_false (by omega)
          have hl : (x ++ [7] : By).length = n + 1 := by rw [List.length_append, HN.out]; rfl
          have s5 := run_str wr _ A2 (x ++ [7]) c2 (by rw [hl]; exact row_reads hps.own)
          rw [hl] at s5
          have s6 := run_str wr _ A x c (by rw [HN.out]; exact HH.out.keep (Same.ofBelow hps.b fun k hk => hk))
          rw [HN.out] at s6
          have s7 : (⟨x.toArray⟩ : ByteArray) ++ ⟨#[7]⟩ = ⟨(x ++ [7]).toArray⟩ := bytes_cat x [7]
          have HB9 := Lib.hid hps.b
          clear hps hk hl HPS
          go_wp2_with fail
          refine (HK.out _).mono ?_
          rintro e w9 ⟨rfl, hb9⟩
          have HB10 := Lib.hid (HB9.out.trans (hb9.mono HB9.out.size))
          clear hb9
          go_wp2_with fail
          go_ret
          exact ⟨rfl, HB10.out⟩
end Go.Proofs.Ytfddkehnhkfjeaa
