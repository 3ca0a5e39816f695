/- guidepostref03.Parts. -/
import Derived.Test.YtihfihehiifdkaaHdP
import Derived.Test.YtihfihehiifdkaaRgA
namespace Go.Proofs.Ytihfihehiifdkaa
open Go.RowKit Go.Sort
/-! ### The plain law -/
/-- The parts of these steps, from i on: where each stands, how many bytes it has. -/
def partsAt : Nat → List (UInt8 × By) → List (Nat × Nat)
  | _, [] => []
  | i, s :: r => (i, s.2.length) :: partsAt (i + s.2.length) r
theorem partsAt_len : ∀ (L : List (UInt8 × By)) (i : Nat), (partsAt i L).length = L.length
  | [], _ => rfl
  | s :: r, i => by simp [partsAt, partsAt_len r]
theorem partsAt_snoc : ∀ (L : List (UInt8 × By)) (i : Nat) (s : UInt8 × By), partsAt i (L ++ [s]) = partsAt i L ++ [(i + (flatF L).length, s.2.length)]
  | [], i, s => by simp [partsAt, flatF]
  | t :: r, i, s => by
    show (i, t.2.length) :: partsAt (i + t.2.length) (r ++ [s]) = _
    rw [partsAt_snoc r]
    simp [partsAt, flatF, Nat.add_assoc]
def partC (p : Nat × Nat) : List Value := [.int .i64 (p.1 : Int), .int .i64 (p.2 : Int)]
def PartR (B : Nat) (W : World) (v : Value) (L : List (Nat × Nat)) : Prop := W.ownsRow B 131 2 v L.length (L.flatMap partC)
def partsF (x : By) : List (Nat × Nat) := if goodF x = true then partsAt 0 (steps x) else []
/-- Up to i the steps are L, all right. -/
structure StepAt (x : By) (i : Nat) (L : List (UInt8 × By)) : Prop where
  le : i ≤ x.length
  pre : steps x = L ++ steps (x.drop i)
  flat : flatF L = x.take i
  good : ∀ s ∈ L, s.2 ≠ []
theorem StepAt.zero (x : By) : StepAt x 0 [] := ⟨Nat.zero_le _, rfl, rfl, fun _ h => by cases h⟩
theorem StepAt.len {x : By} {i : Nat} {L : List (UInt8 × By)} (h : StepAt x i L) : (flatF L).length = i := by
  rw [h.flat, List.length_take]
  have := h.le
  omega
theorem goodL {L : List (UInt8 × By)} (h : ∀ s ∈ L, s.2 ≠ []) : (L.all fun s => !s.2.isEmpty) = true := List.all_eq_true.2 fun s hs => by
  have := h s hs
  cases hx : s.2 with
  | nil => exact absurd hx this
  | cons _ _ => rfl
theorem StepAt.done {x : By} {i : Nat} {L : List (UInt8 × By)} (h : StepAt x i L) (he : steps (x.drop i) = []) : goodF x = true ∧ partsF x = partsAt 0 L := by
  have h1 : steps x = L := by rw [h.pre, he, List.append_nil]
  have h2 : goodF x = true := by unfold goodF; rw [h1]; exact goodL h.good
  exact ⟨h2, by unfold partsF; rw [if_pos h2, h1]⟩
theorem StepAt.end_ {x : By} {L : List (UInt8 × By)} (h : StepAt x x.length L) : goodF x = true ∧ partsF x = partsAt 0 L := h.done (by rw [List.drop_length]; rfl)
theorem StepAt.zero_ {x : By} {i : Nat} {L : List (UInt8 × By)} (h : StepAt x i L) (hi : i < x.length) (h0 : x[i] = 0) : goodF x = true ∧ partsF x = partsAt 0 L := h.done (by
  rw [List.drop_eq_getElem_cons hi, h0]; exact steps_zero _)
theorem StepAt.bad {x : By} {i : Nat} {L : List (UInt8 × By)} (h : StepAt x i L) (hi : i < x.length) (h0 : x[i] ≠ 0) (hn : stepN (x.drop i) = 0) : goodF x = false ∧ partsF x = [] := by
  have h1 : steps (x.drop i) = [(x[i], [])] := by
    rw [List.drop_eq_getElem_cons hi] at hn ⊢
    exact steps_bad h0 hn
  have h2 : goodF x = false := by
    unfold goodF
    rw [h.pre, h1]
    simp
  exact ⟨h2, by unfold partsF; rw [if_neg (by rw [h2]; decide)]⟩
theorem StepAt.next {x : By} {i m : Nat} {L : List (UInt8 × By)} (h : StepAt x i L) (hi : i < x.length) (h0 : x[i] ≠ 0) (hn : stepN (x.drop i) = m) (hm : m ≠ 0) :
    i + m ≤ x.length ∧ StepAt x (i + m) (L ++ [(x[i], (x.drop i).take m)]) ∧ partsAt 0 (L ++ [(x[i], (x.drop i).take m)]) = partsAt 0 L ++ [(i, m)] := by
  have hle := stepN_le (x.drop i)
  rw [hn, List.length_drop] at hle
  have hl : ((x.drop i).take m).length = m := by rw [List.length_take, List.length_drop]; omega
  refine ⟨by omega, ⟨by omega, ?_, ?_, fun s hs => ?_⟩, ?_⟩
  · have h1 : steps (x.drop i) = (x[i], (x.drop i).take m) :: steps (x.drop (i + m)) := by
      have e := List.drop_eq_getElem_cons hi
      have h2 := steps_good (k := x[i]) (r := x.drop (i + 1)) h0 (by rw [← e, hn]; exact hm)
      rw [← e, hn, List.drop_drop] at h2
      exact h2
    rw [h.pre, h1]
    simp
  · have : flatF (L ++ [(x[i], (x.drop i).take m)]) = flatF L ++ (x.drop i).take m := by simp [flatF]
    rw [this, h.flat, List.take_add]
  · rcases List.mem_append.1 hs with hs | hs
    · exact h.good s hs
    · rw [List.mem_singleton.1 hs]
      intro e
      rw [show (x.drop i).take m = [] from e] at hl
      exact hm (by simpa using hl.symm)
  · rw [partsAt_snoc, h.len, Nat.zero_add, hl]
theorem stepN_at {x : By} {i : Nat} (hi : i < x.length) : stepN (x.drop i) = if x[i] = 1 then 1 else if i + 1 < x.length ∧ 2 ≤ (x.getD (i + 1) 0).toNat ∧ i + (x.getD (i + 1) 0).toNat ≤ x.length then (x.getD (i + 1) 0).toNat else 0 := by
  rw [List.drop_eq_getElem_cons hi]
  unfold stepN
  simp only
  split
  · rfl
  · by_cases h1 : i + 1 < x.length
    · rw [List.drop_eq_getElem_cons h1]
      simp only [List.length_cons, List.length_drop]
      rw [List.getD_eq_getElem?_getD, List.getElem?_eq_getElem h1]
      simp only [Option.getD_some]
      by_cases h2 : 2 ≤ x[i + 1].toNat ∧ x[i + 1].toNat ≤ x.length - (i + 1 + 1) + 1 + 1
      · rw [if_pos h2, if_pos ⟨h1, h2.1, by omega⟩]
      · rw [if_neg h2, if_neg (by omega)]
    · rw [List.drop_eq_nil_of_le (by omega), if_neg (by omega)]

/-! ### Rows of structs: append one -/
section
variable {P : Program} {ops : Array Oper} {rest : List Oper} {o : Oper} {a : Act} {Q : Exit → Act → World → Prop}
theorem reads_litN (w : World) (e : TypeId) (us : List Value) (size : Nat) (h : us.length = size) : Reads (w.alloc (.cells us.toArray e)) (fun _ => True) size (some ⟨w.heap.size, 0, none⟩) 1 us := by
  refine ⟨by omega, fun _ => ⟨⟨w.heap.size, 0, none⟩, rfl, trivial, by simp, fun j u hu => ?_⟩⟩
  have hk : Blk (w.alloc (.cells us.toArray e)) w.heap.size e us.toArray := Blk.new _ _ _
  rw [add_off, Nat.zero_add, hk.cell]
  simpa using hu
/-- append(v, u), u of some cells: it stands in a block that has just been made. -/
theorem wpList_pushN (w : World) (hgd : o.guard = none) (s y : Operand) (t e : TypeId) (ho : o.op = .call { callee := .builtin .append, args := #[s, y], argTypes := #[t, t] }) (hty : o.type = t)
    (i : TypeInfo) (z : Value) (size bytes : Nat) (ht : P.underlying t = some (.slice e)) (hi : P.info? e = some i) (hz : i.zero = some z) (hsize : i.size = size) (hby : i.bytes = bytes) (hzs : z.cells.size = size) (hs0 : 0 < size)
    (B : Nat) (v : Value) (n : Nat) (xs : List Value) (us : List Value) (hul : us.length = size) (hu : ∀ u ∈ us, u.oneCell' = true) (hs : a.eval s = v) (hown : w.ownsRow B e size v n xs) (hy : a.eval y = .slice (some ⟨w.heap.size, 0, none⟩) 1 1)
    (h63 : n + 1 ≤ maxLen) (hbytes : (n + 1) * bytes ≤ 140737488355328) (hB : B ≤ w.heap.size)
    (h : ∀ v' w', w'.ownsRow B e size v' (n + 1) (xs ++ us) → w.grownBy w' v.ownBlock → (v'.ownBlock = v.ownBlock ∨ ∃ g, v'.ownBlock = some g ∧ w.heap.size ≤ g) → wpList P ops Q rest (a.put o.dst v') w') : wpList P ops Q (o :: rest) a (w.alloc (.cells us.toArray e)) := by
  subst hty
  refine wpList_append_any (w.alloc (.cells us.toArray e)) hgd s y o.type ho B e i z size bytes ht hi hz hsize hby hzs hs0 v n xs hs (hown.alloc _) (fun _ => True) _ 1 1 us hy (reads_litN w e us size hul) hu h63 hbytes (by simp; omega) fun v2 w2 h1 h2 h3 => h v2 w2 h1 ?_ ?_
  · exact ⟨h2.os, h2.tape, h2.output, Nat.le_trans (by simp) h2.size, fun k hk hne => (h2.block k (by simp; omega) hne).trans (Below.heap_alloc w _ k hk)⟩
  · rcases h3 with h3 | h3
    · exact .inl h3
    · exact .inr ⟨_, h3, by simp⟩
end
theorem info_part : (Try.prog.info? 131).map (fun i => (i.zero, i.size, i.bytes)) = some (some (.agg #[.int .i64 0, .int .i64 0]), 2, 16) := by kernel_rfl
theorem one_part (p : Nat × Nat) : ∀ u ∈ partC p, u.oneCell' = true := by
  intro u hu
  simp only [partC, List.mem_cons, List.not_mem_nil, or_false] at hu
  rcases hu with rfl | rfl <;> rfl
def PartsPost (w : World) (x : By) (e : Ending) (w' : World) : Prop := ∃ v, e = .returned (.tuple #[v, .bool (goodF x)]) ∧ PartR w.heap.size w' v (partsF x) ∧ Below w.heap.size w w'
set_option maxRecDepth 20000 in
set_option maxHeartbeats 2000000 in
theorem parts_any (A : Option Addr) (n c : Nat) (x : By) (I : Nat → Prop) (w : World) (h : Reads w I 1 A n (bytesV x)) (hn : x.length = n) (hsm : n ≤ 1000000) :
    Calls Try.prog 62 #[.slice A n c] w (PartsPost w x) := by
  have HR := Lib.hid h.lt
  have HL := Lib.hid hn
  obtain ⟨i0, hi, hz0, hz1, hz2⟩ := info_parts info_part
  clear h hn
  go_enter Try.func62, Try.ntmps62
  go_wp2_with fail
  go_loopw [4, 5] (fun v i wr => ∃ (k : Nat) (L : List (UInt8 × By)), k ≤ n ∧ i = .int .i64 (k : Int) ∧ L.length ≤ k ∧ StepAt x k L ∧ PartR w.heap.size wr v (partsAt 0 L) ∧ Below w.heap.size w wr) (fun _ i _ => n - (intOf i).toNat)
  case atStart => exact ⟨0, [], Nat.zero_le _, rfl, Nat.le_refl _, StepAt.zero x, World.ownsRow_nil _ _ _ _, Below.refl _ _⟩
  case round =>
    obtain ⟨k, L, hk, rfl, hLk, hs, hv, hb⟩ := hrel
    have HS := Lib.hid hs
    have HV := Lib.hid hv
    have HB := Lib.hid hb
    have hrd := HR.out.keep (Same.ofBelow hb fun k hk => hk.2)
    clear hv hb hs
    by_cases hlt : k < n
    · have hkx : k < x.length := by rw [HL.out]; exact hlt
      obtain ⟨ad, rfl, _, hc0⟩ := byte_at hrd hkx
      obtain ⟨b0, hbe⟩ : ∃ b0, b0 = x[k].toNat := ⟨_, rfl⟩
      have hb0 : b0 < 256 := by rw [hbe]; exact x[k].toNat_lt
      have hN := stepN_at hkx
      rw [← hbe] at hc0
      have hi0 : (0 : Int) ≤ k := by omega
      have hi1 : (k : Int) < n := by omega
      have hd0 : decide ((k : Int) < (n : Int)) = true := decide_eq_true (by omega)
      have hd1 : decide (k < n) = true := decide_eq_true hlt
      by_cases h0 : b0 = 0
      · obtain ⟨hg, hp⟩ := HS.out.zero_ hkx (by apply UInt8.toNat_inj.1; rw [← hbe, h0]; rfl)
        have HG := Lib.hid hg
        have HP := Lib.hid hp
        subst h0
        clear hN hg hp hbe hrd
        go_wp2_with fail
        go_ret2
        exact ⟨_, by rw [HG.out]; rfl, by rw [HP.out]; exact HV.out, HB.out⟩
      · have hx0 : x[k] ≠ 0 := fun e => h0 (by rw [hbe, e]; rfl)
        have h00 : ((b0 : Int) == 0) = false := by rw [beq_eq_false_iff_ne]; omega
        by_cases h1 : b0 = 1
        · rw [if_pos (by apply UInt8.toNat_inj.1; rw [← hbe, h1]; rfl)] at hN
          obtain ⟨hle, hst, hpa⟩ := HS.out.next hkx hx0 hN (by decide)
          have HST := Lib.hid hst
          have HPA := Lib.hid hpa
          have hle' : k + 1 ≤ n := by omega
          subst h1
          have hmx : (partsAt 0 L).length + 1 ≤ maxLen := by unfold maxLen; rw [partsAt_len]; omega
          have hmb : ((partsAt 0 L).length + 1) * 16 ≤ 140737488355328 := by rw [partsAt_len]; omega
          clear hN hbe hrd hx0 hpa hst hle
          go_wp2_with (at_builtin; refine wpList_pushN wr rfl (.tmp 54) (.tmp 58) _ 131 rfl rfl i0 _ 2 16 Try.underlying93 hi hz0 hz1 hz2 rfl (by decide) w.heap.size u4 _ _ (partC (k, 1)) rfl (one_part _) rfl HV.out rfl hmx hmb HB.out.size ?_; intro v2 w2 h2 hg2 hat2)
          have hb2 := HB.out.grown hg2 HB.out.size fun g hg => (own_lt HV.out hg).1
          have h2' : PartR w.heap.size w2 v2 (partsAt 0 (L ++ [(x[k], (x.drop k).take 1)])) := by
            unfold PartR
            rw [HPA.out, List.length_append, List.flatMap_append]
            exact h2
          have H2 := Lib.hid h2'
          have HB2 := Lib.hid hb2
          clear h2 hg2 hat2 hb2 h2'
          go_wp2_with fail
          go_roundw
          case rel => exact ⟨k + 1, _, by omega, rfl, by rw [List.length_append]; simp; omega, HST.out, H2.out, HB2.out⟩
          case measure => simp [intOf]; omega
        · rw [if_neg (fun e => h1 (by rw [hbe, e]; rfl))] at hN
          have h11 : ((b0 : Int) != 1) = true := by rw [bne_iff_ne]; omega
          by_cases h2 : k + 1 < n
          · have hk1 : k + 1 < x.length := by rw [HL.out]; exact h2
            obtain ⟨ad', he, _, hc1⟩ := byte_at hrd hk1
            injection he with he
            subst he
            obtain ⟨b1, hbe1⟩ : ∃ b1, b1 = x[k + 1].toNat := ⟨_, rfl⟩
            have hb1 : b1 < 256 := by rw [hbe1]; exact x[k + 1].toNat_lt
            have hg1 : (x.getD (k + 1) 0).toNat = b1 := by rw [hbe1, List.getD_eq_getElem?_getD, List.getElem?_eq_getElem hk1]; rfl
            rw [← hbe1, add_pos _ _ (by omega)] at hc1
            rw [hg1, HL.out] at hN
            have hc2 : wr.cell? ⟨ad.block, ad.off + (k + 1), none⟩ = some (.int .u8 (b1 : Int)) := hc1
            have hd2 : decide ((n : Int) ≤ (k : Int) + 1) = false := decide_eq_false (by omega)
            have hd3 : decide (n ≤ k + 1) = false := decide_eq_false (by omega)
            have hi2 : (0 : Int) ≤ (k : Int) + 1 := by omega
            have hi3 : (k : Int) + 1 < n := by omega
            by_cases h3 : b1 < 2
            · rw [if_neg (by omega)] at hN
              obtain ⟨hg, hp⟩ := HS.out.bad hkx hx0 hN
              have HG := Lib.hid hg
              have HP := Lib.hid hp
              have hd4 : decide ((b1 : Int) < 2) = true := decide_eq_true (by omega)
              clear hN hg hp hbe hrd hbe1 hg1 hc1
              go_wp2_with fail
              go_ret2
              exact ⟨_, by rw [HG.out]; rfl, by rw [HP.out]; exact World.ownsRow_nil _ _ _ _, HB.out⟩
            · have hd4 : decide ((b1 : Int) < 2) = false := decide_eq_false (by omega)
              by_cases h4 : k + b1 ≤ n
              · rw [if_pos ⟨h2, by omega, h4⟩] at hN
                have hd5 : decide ((n : Int) < (k : Int) + (b1 : Int)) = false := decide_eq_false (by omega)
                have hd6 : decide (n < k + b1) = false := decide_eq_false (by omega)
                obtain ⟨hle, hst, hpa⟩ := HS.out.next hkx hx0 hN (by omega)
                have HST := Lib.hid hst
                have HPA := Lib.hid hpa
                clear hbe1 hg1 hc1
                have hmx : (partsAt 0 L).length + 1 ≤ maxLen := by unfold maxLen; rw [partsAt_len]; omega
                have hmb : ((partsAt 0 L).length + 1) * 16 ≤ 140737488355328 := by rw [partsAt_len]; omega
                clear hN hbe hrd hx0 hpa hst hle
                go_wp2_with (at_builtin; refine wpList_pushN wr rfl (.tmp 54) (.tmp 58) _ 131 rfl rfl i0 _ 2 16 Try.underlying93 hi hz0 hz1 hz2 rfl (by decide) w.heap.size u4 _ _ (partC (k, b1)) rfl (one_part _) rfl HV.out rfl hmx hmb HB.out.size ?_; intro v2 w2 h2 hg2 hat2)
                have hb2 := HB.out.grown hg2 HB.out.size fun g hg => (own_lt HV.out hg).1
                have h2' : PartR w.heap.size w2 v2 (partsAt 0 (L ++ [(x[k], (x.drop k).take b1)])) := by
                  unfold PartR
                  rw [HPA.out, List.length_append, List.flatMap_append]
                  exact h2
                have H2 := Lib.hid h2'
                have HB2 := Lib.hid hb2
                clear h2 hg2 hat2 hb2 h2'
                go_wp2_with fail
                go_roundw
                case rel => exact ⟨k + b1, _, by omega, rfl, by rw [List.length_append]; simp; omega, HST.out, H2.out, HB2.out⟩
                case measure => simp [intOf]; omega
              · rw [if_neg (by omega)] at hN
                obtain ⟨hg, hp⟩ := HS.out.bad hkx hx0 hN
                have HG := Lib.hid hg
                have HP := Lib.hid hp
                have hd5 : decide ((n : Int) < (k : Int) + (b1 : Int)) = true := decide_eq_true (by omega)
                have hd6 : decide (n < k + b1) = true := decide_eq_true (by omega)
                clear hN hg hp hbe hrd hbe1 hg1 hc1
                go_wp2_with fail
                go_ret2
                exact ⟨_, by rw [HG.out]; rfl, by rw [HP.out]; exact World.ownsRow_nil _ _ _ _, HB.out⟩
          · rw [if_neg (by rw [HL.out]; omega)] at hN
            obtain ⟨hg, hp⟩ := HS.out.bad hkx hx0 hN
            have HG := Lib.hid hg
            have HP := Lib.hid hp
            have hd2 : decide ((n : Int) ≤ (k : Int) + 1) = true := decide_eq_true (by omega)
            have hd3 : decide (n ≤ k + 1) = true := decide_eq_true (by omega)
            clear hN hg hp hbe hrd
            go_wp2_with fail
            go_ret2
            exact ⟨_, by rw [HG.out]; rfl, by rw [HP.out]; exact World.ownsRow_nil _ _ _ _, HB.out⟩
    · obtain rfl : k = n := by omega
      have hp := HS.out
      have e : x.length = k := HL.out
      subst e
      obtain ⟨hg, hp⟩ := hp.end_
      have HG := Lib.hid hg
      have HP := Lib.hid hp
      clear hg hp hrd
      go_wp2_with fail
      go_ret2
      exact ⟨_, by rw [HG.out]; rfl, by rw [HP.out]; exact HV.out, HB.out⟩
end Go.Proofs.Ytihfihehiifdkaa
