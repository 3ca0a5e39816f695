/- The document's table: Insert, its region of appends. -/
import Derived.Test.YtejiecebckjflaaTbT
import Derived.Test.YtejiecebckjflaaRgI
import Derived.Test.YtejiecebckjflaaTqF
import Derived.Test.YtejiecebckjflaaTrU
import Derived.Deep.QuietTactic
import Derived.BigQuiet
namespace Go.Proofs.Ytejiecebckjflaa
open Go.RowKit Go.Sort Go.BigFrame
attribute [local go_sem] comesV_value comesV_skip comesV_enter

def TabYes (w : World) (N : Nat → Prop) (wb : Nat) (lim : Int) (L2 : List (Bs × Int)) (w' : World) : Prop := ∃ N2, IsTab w' N2 wb lim L2 ∧ Upd N w w' ∧ ∀ k, N2 k → N k ∨ w.heap.size ≤ k
theorem tabYes_below {w w' : World} {N : Nat → Prop} {wb : Nat} {lim : Int} {L : List (Bs × Int)} (h : IsTab w N wb lim L) (hb : Below w.heap.size w w') : TabYes w N wb lim L w' := ⟨N, h.below hb, Upd.ofBelow hb _, fun _ hk => .inl hk⟩
theorem Reads.take {w : World} {I : Nat → Prop} {size n k : Nat} {A : Option Addr} {xs : List Value} (h : Reads w I size A n xs) (hk : k ≤ n) : Reads w I size A k (xs.take (k * size)) := by
  refine ⟨?_, fun hn => ?_⟩
  · rw [List.length_take, h.1]
    have := Nat.mul_le_mul_right size hk
    omega
  · obtain ⟨ad, e, hi, hb, hc⟩ := h.2 (by omega)
    exact ⟨ad, e, hi, hb, fun j u hu => hc j u (by
      rw [List.getElem?_take] at hu
      split at hu
      · exact hu
      · cases hu)⟩
theorem sl_take (A : Option Addr) (n cap k : Nat) (wx : World) (hk : k ≤ cap) : (Instr.slice 46 (.slice A n cap) none (some (.int .i64 (k : Int))) none).run Try.prog wx = .ok (.slice A k cap) wx := by
  have ht' : (Try.prog).underlying 46 = some (.slice ((Try.prog).elem 46)) := by simp [Program.elem, Try.underlying46]
  have he : (Try.prog).elem 46 = 91 := by simp [Program.elem, Try.underlying46]
  have hz : (Go.sizeOf 91).run Try.prog wx = .ok 3 wx := by go_simp
  rw [run_slice_h wx _ _ _ _ ht' .i64 _ (by omega) (by omega), he, hz]
  cases A <;> simp [Result.andThen, sliced, Addr.add]
theorem sl_drop (A : Option Addr) (n cap k : Nat) (wx : World) (hk : k ≤ n) : (Instr.slice 46 (.slice A n cap) (some (.int .i64 (k : Int))) none none).run Try.prog wx = .ok (.slice (if cap = k then A else A.map (·.add (k * 3))) (n - k) (cap - k)) wx := by
  have ht' : (Try.prog).underlying 46 = some (.slice ((Try.prog).elem 46)) := by simp [Program.elem, Try.underlying46]
  have he : (Try.prog).elem 46 = 91 := by simp [Program.elem, Try.underlying46]
  have hz : (Go.sizeOf 91).run Try.prog wx = .ok 3 wx := by go_simp
  rw [run_slice_l wx _ _ _ _ ht' .i64 _ (by omega) (by omega), he, hz]
  by_cases h0 : cap = k
  · simp [Result.andThen, sliced, h0]
  · simp [Result.andThen, sliced, h0]
theorem info_entR : (Try.prog.info? 91).map (fun i => (i.zero, i.size, i.bytes)) = some (some (.agg #[.int .u32 0, .int .i64 0, .int .i64 0]), 3, 24) := by kernel_rfl

/-- What the operations of Insert's region leave. -/
def InsΦ (B wb : Nat) (A : Option Addr) (n cap k a : Nat) (pn v : Int) (xs : List Value) : Nat → Value → World → Prop
  | 0, u, _ => u = .pointer (some ⟨wb, 0, none⟩)
  | 1, u, _ => u = .pointer (some ⟨wb, 0, none⟩)
  | 2, u, _ => u = .pointer (some ⟨wb, 0, none⟩)
  | 3, u, _ => u = .pointer (some ⟨wb, 0, none⟩)
  | 4, u, _ => u = .slice A n cap
  | 5, u, _ => u = .int .i64 (k : Int)
  | 6, u, _ => u = .slice A k cap
  | 7, u, w => w.ownsRow B 91 3 u k (xs.take (k * 3))
  | 8, u, _ => u = pxV a pn
  | 9, u, _ => u = .int .i64 v
  | 10, u, _ => u = .agg #[.int .u32 (a : Int), .int .i64 pn, .int .i64 v]
  | 11, u, w => ∃ H, u = .slice (some ⟨H, 0, none⟩) 1 1 ∧ Reads w (fun i => B ≤ i) 3 (some ⟨H, 0, none⟩) 1 [.int .u32 (a : Int), .int .i64 pn, .int .i64 v]
  | 12, u, w => w.ownsRow B 91 3 u (k + 1) (xs.take (k * 3) ++ [.int .u32 (a : Int), .int .i64 pn, .int .i64 v])
  | 13, u, _ => u = .pointer (some ⟨wb, 0, none⟩)
  | 14, u, _ => u = .pointer (some ⟨wb, 0, none⟩)
  | 15, u, _ => u = .pointer (some ⟨wb, 0, none⟩)
  | 16, u, _ => u = .slice A n cap
  | 17, u, _ => u = .int .i64 (k : Int)
  | 18, u, _ => u = .slice (if cap = k then A else A.map (·.add (k * 3))) (n - k) (cap - k)
  | 19, u, w => w.ownsRow B 91 3 u (k + 1 + (n - k)) (xs.take (k * 3) ++ [.int .u32 (a : Int), .int .i64 pn, .int .i64 v] ++ xs.drop (k * 3))
  | 20, u, _ => u = .pointer (some ⟨wb, 0, none⟩)
  | 21, u, _ => u = .pointer (some ⟨wb, 0, none⟩)
  | _, _, _ => True
def insDead (i j : Nat) : Bool := (i == 12 || i == 19) && (j == 7 || j == 11) || (i == 19 && j == 12)
theorem own_belowB {w w2 : World} {base : Nat} {e : TypeId} {size n : Nat} {v : Value} {xs : List Value} (h : w.ownsRow base e size v n xs) (hb : Below w.heap.size w w2) : w2.ownsRow base e size v n xs := own_later h hb rfl
theorem InsΦ.keep {B wb : Nat} {A : Option Addr} {n cap k a : Nat} {pn v : Int} {xs : List Value} {wx wy : World} (hb : Below wx.heap.size wx wy) : ∀ j u, InsΦ B wb A n cap k a pn v xs j u wx → InsΦ B wb A n cap k a pn v xs j u wy := by
  intro j u h
  unfold InsΦ at h ⊢
  split at h
  all_goals first
    | exact h
    | exact own_belowB h hb
    | (obtain ⟨H, h1, h2⟩ := h; exact ⟨H, h1, (h2.lt.keep (Same.ofBelow hb fun k hk => hk.2)).mono fun _ hk => hk.1⟩)
theorem own_ge {w : World} {base : Nat} {e : TypeId} {size n g : Nat} {v : Value} {xs : List Value} (h : w.ownsRow base e size v n xs) (hg : v.ownBlock = some g) : base ≤ g := by
  rcases h.2 with ⟨rfl, _⟩ | ⟨g2, c, cur, rfl, h2, _⟩
  · cases hg
  · injection hg with hg
    rw [← hg]; exact h2
theorem flat_take (L : List (Bs × Int)) : ∀ k, (L.flatMap entC).take (k * 3) = (L.take k).flatMap entC := by
  induction L with
  | nil => intro k; simp
  | cons e r ih =>
    intro k
    cases k with
    | zero => simp
    | succ k =>
      rw [List.flatMap_cons, List.take_succ_cons, List.flatMap_cons, ← ih k]
      show List.take ((k + 1) * 3) ([_, _, _] ++ _) = _
      rw [show (k + 1) * 3 = k * 3 + 1 + 1 + 1 by omega]
      rfl
theorem flat_drop (L : List (Bs × Int)) : ∀ k, (L.flatMap entC).drop (k * 3) = (L.drop k).flatMap entC := by
  induction L with
  | nil => intro k; simp
  | cons e r ih =>
    intro k
    cases k with
    | zero => simp
    | succ k =>
      rw [List.flatMap_cons, List.drop_succ_cons, ← ih k]
      show List.drop ((k + 1) * 3) ([_, _, _] ++ _) = _
      rw [show (k + 1) * 3 = k * 3 + 1 + 1 + 1 by omega]
      rfl
/-- The table behind a store of its new row. -/
theorem tab_in {w wx : World} {N : Nat → Prop} {wb : Nat} {lim : Int} {L L2 : List (Bs × Int)} {A2 : Option Addr} {c2 m B : Nat} {u : Value} (h : IsTab w N wb lim L) (hu : Upd N w wx) (hk : Blk wx wb 48 #[u, .int .i64 lim]) (hB : w.heap.size ≤ B)
    (ho : wx.ownsRow B 91 3 (.slice A2 m c2) m (L2.flatMap entC)) (hm : m = L2.length) (hs : SortedB L2) (h32 : ∀ e ∈ L2, e.1.length ≤ 32) : TabYes w N wb lim L2 (wx.setCell ⟨wb, 0, none⟩ (.slice A2 m c2)) := by
  subst hm
  have hwb := h.lt wb h.nb
  have hu2 : Upd (only wb) wx (wx.setCell ⟨wb, 0, none⟩ (.slice A2 L2.length c2)) := (Upd.refl _ _).set_ 0 _
  have hsz := hu2.size
  have ho2 : (wx.setCell ⟨wb, 0, none⟩ (.slice A2 L2.length c2)).ownsRow B 91 3 (.slice A2 L2.length c2) L2.length (L2.flatMap entC) := own_keep ho (hu2.same (I := fun g => g ≠ wb) fun k hk hn => hn hk) fun g hg e => by
    have := own_ge ho hg
    omega
  refine ⟨fun k => k = wb ∨ (Value.slice A2 L2.length c2).ownBlock = some k, ⟨⟨.slice A2 L2.length c2, hk.set_ 0 _, own_base ho2 (Nat.zero_le _), fun g hg => ⟨.inr hg, fun e => by
    have := own_ge ho hg
    omega⟩⟩, .inl rfl, hs, h32, fun k hk => ?_⟩, ?_, fun k hk => ?_⟩
  · rcases hk with rfl | hk
    · have := hu.size; omega
    · exact (own_lt ho2 hk).2
  · exact hu.setCell (.inl h.nb) _
  · rcases hk with rfl | hk
    · exact .inl h.nb
    · exact .inr (Nat.le_trans hB (own_ge ho hk))
theorem ins_flat {L : List (Bs × Int)} {x : Px} {v : Int} (ha : x.a < 2 ^ 32) (hm : x.may = true) (h32 : ∀ e ∈ L, e.1.length ≤ 32) (hin : inP x L = false) :
    (L.flatMap entC).take (atP x L * 3) ++ [.int .u32 (x.a : Int), .int .i64 x.n, .int .i64 v] ++ (L.flatMap entC).drop (atP x L * 3) = (insS (pB x) v L).flatMap entC ∧ atP x L + 1 + (L.length - atP x L) = (insS (pB x) v L).length := by
  obtain ⟨p1, p2, p3⟩ := pB_may ha hm
  have hle := atP_le x L
  rw [insS_eq, ← inP_may ha hm h32, hin, if_neg (by decide), ← atP_may ha hm h32, flat_take, flat_drop]
  constructor
  · simp [entC, p2, p3]
  · simp [List.length_take, List.length_drop]
    omega
theorem ins_short {L : List (Bs × Int)} {x : Px} {v : Int} (ha : x.a < 2 ^ 32) (hm : x.may = true) (h32 : ∀ e ∈ L, e.1.length ≤ 32) : ∀ e ∈ insS (pB x) v L, e.1.length ≤ 32 := fun e he => by
  rcases insS_mem he with rfl | he
  · exact (pB_may ha hm).1
  · exact h32 e he
theorem InsΦ.bare {B wb : Nat} {A : Option Addr} {n cap k a : Nat} {pn v : Int} {xs : List Value} {w wy : World} {u : Value} : ∀ j, ¬ (j = 7 ∨ j = 11 ∨ j = 12 ∨ j = 19) → InsΦ B wb A n cap k a pn v xs j u w → InsΦ B wb A n cap k a pn v xs j u wy := by
  intro j hj h
  unfold InsΦ at h ⊢
  split at h
  all_goals first
    | exact h
    | (exfalso; omega)
theorem Reads.drop {w : World} {I : Nat → Prop} {size n k cap : Nat} {A : Option Addr} {xs : List Value} (h : Reads w I size A n xs) (hk : k ≤ n) (hc : n ≤ cap) : Reads w I size (if cap = k then A else A.map (·.add (k * size))) (n - k) (xs.drop (k * size)) := by
  refine ⟨by rw [List.length_drop, h.1, Nat.sub_mul], fun hn => ?_⟩
  obtain ⟨ad, e, hi, hb, hc2⟩ := h.2 (by omega)
  rw [if_neg (by omega), e]
  refine ⟨ad.add (k * size), rfl, ?_, ?_, fun j u hu => ?_⟩
  · rw [block_of_add]; exact hi
  · rw [block_of_add]; exact hb
  · rw [List.getElem?_drop] at hu
    have := hc2 _ _ hu
    rwa [Addr.add_add]
theorem insRow {P : Program} {ρ : Operand → Value} {o : Oper} (w : World) (s x : Operand) (t : TypeId) (ho : o.op = .call { callee := .builtin .append, args := #[s, x], argTypes := #[t, t] })
    (base : Nat) (e : TypeId) (i : TypeInfo) (z : Value) (size bytes : Nat) (ht : P.underlying t = some (.slice e)) (hi : P.info? e = some i) (hz : i.zero = some z) (hsize : i.size = size) (hby : i.bytes = bytes) (hzs : z.cells.size = size) (hsz : 0 < size)
    {v : Value} {n : Nat} {xs : List Value} (hs : ρ s = v) (hown : w.ownsRow base e size v n xs) {I : Nat → Prop} {A : Option Addr} {m c : Nat} {news : List Value} (hx : ρ x = .slice A m c) (hr : Reads w I size A m news) (h1 : ∀ u ∈ news, u.oneCell' = true)
    (h63 : n + m ≤ maxLen) (hbytes : (n + m) * bytes ≤ 140737488355328) (hbase : base ≤ w.heap.size) {K : Value → World → Prop} (hK : ∀ v2 w2, w2.ownsRow base e size v2 (n + m) (xs ++ news) → w.grownBy w2 v.ownBlock → (v2.ownBlock = v.ownBlock ∨ v2.ownBlock = some w.heap.size) → K v2 w2) :
    comesV P K ((execOp ρ o).run P w) := by
  obtain ⟨v2, w2, e1, e2, e3, e4⟩ := run_append_any (P := P) w base t o.type e i z size bytes ht hi hz hsize hby hzs hsz v n xs hown I A m c news hr h1 h63 hbytes hbase
  unfold execOp
  simp only [ho, resolve, invoke, builtin, Sem.run_bind, Sem.run_pure, Result.andThen_ok, List.map_toArray, List.map_cons, List.map_nil, hs, hx, e1]
  exact hK v2 w2 e2 e3 e4
-- GEN --

theorem ifv {c : Bool} {X Y : Prop} (hc : c = true) (h : X) : if c = true then X else Y := by rw [if_pos hc]; exact h
set_option maxRecDepth 100000 in
set_option maxHeartbeats 4000000 in
theorem insert_new (x : Px) (v : Int) (wb : Nat) (N : Nat → Prop) (lim : Int) (L : List (Bs × Int)) (w : World) (h : IsTab w N wb lim L) (hsm : L.length ≤ 1000000) (ha : x.a < 2 ^ 32) (hm : x.may = true) (hin : inP x L = false) (hlim : (L.length : Int) < lim) :
    Calls Try.prog 42 #[.pointer (some ⟨wb, 0, none⟩), pxV x.a x.n, .int .i64 v] w fun e w' => e = .returned (.int .i64 0) ∧ TabYes w N wb lim (insS (pB x) v L) w' := by
  have HH := Lib.hid h
  have hb0 : Below w.heap.size w (w.alloc (.cells #[.int .u32 (x.a : Int), .int .i64 x.n] 31)) := (Below.refl _ _).alloc (Nat.le_refl _) _
  have hk0 : Blk (w.alloc (.cells #[.int .u32 (x.a : Int), .int .i64 x.n] 31)) w.heap.size 31 #[.int .u32 (x.a : Int), .int .i64 x.n] := Blk.new _ _ _
  have HB0 := Lib.hid hb0
  have HK0 := Lib.hid hk0
  have hmp := fun wx => mayp_any x wx ha
  rw [hm] at hmp
  have HMP := Lib.hid hmp
  have HAT := Lib.hid (fun (wx : World) (hx : Below w.heap.size w wx) => at_any x wb N lim L wx (h.below hx) hsm)
  have HIN := Lib.hid hin
  have HM := Lib.hid hm
  clear hb0 hk0 hmp h hin hm
  go_enter Try.func42, Try.ntmps42
  go_wp2_with fail
  refine (HMP.out _).mono ?_
  rintro e w2 ⟨rfl, hb2⟩
  have hbx2 := HK0.out.below hb2 HK0.out.lt
  have HB2 := Lib.hid (HB0.out.trans (hb2.mono HB0.out.size))
  have y0 : w2.cell? ⟨w.heap.size, 0, none⟩ = some (.int .u32 (x.a : Int)) := hbx2.cell 0
  have y1 : w2.cell? ⟨w.heap.size, 1, none⟩ = some (.int .i64 x.n) := hbx2.cell 1
  clear hb2
  go_wp2_with fail
  refine (HAT.out _ HB2.out).mono ?_
  rintro e w3 ⟨rfl, hb3⟩
  have hbx3 := hbx2.below hb3 hbx2.lt
  have HB3 := Lib.hid (HB2.out.trans (hb3.mono HB2.out.size))
  have HX3 := Lib.hid hbx3
  have h3 := HH.out.below HB3.out
  obtain ⟨A, cap, hkw, hcap, hown, hrd, hnb⟩ := h3.form
  obtain ⟨k, hk⟩ : ∃ k, k = atP x L := ⟨_, rfl⟩
  have hkl := atP_le x L
  rw [HIN.out, ← hk]
  rw [← hk] at hkl
  obtain ⟨n, hn⟩ : ∃ n, n = L.length := ⟨_, rfl⟩
  rw [← hn] at hkw hcap hown hrd hkl hlim hsm
  have t0 : w3.cell? ⟨wb, 0, none⟩ = some (.slice A n cap) := hkw.cell 0
  have t1 : w3.cell? ⟨wb, 1, none⟩ = some (.int .i64 lim) := hkw.cell 1
  have d1 : decide (lim ≤ (n : Int)) = false := decide_eq_false (by omega)
  have HKK := Lib.hid hk
  have HNN := Lib.hid hn
  have HRD := Lib.hid hrd
  have HKW := Lib.hid hkw
  clear hb3 hbx3 hbx2 y0 y1 hk hn hrd hkw hown hnb
  go_wp2_with fail
  go_quiet (fail)
  go_wp2_with fail
  have T0 : (w3.drewN nq).cell? ⟨wb, 0, none⟩ = some (.slice A n cap) := t0
  have X0 : (w3.drewN nq).cell? ⟨w.heap.size, 0, none⟩ = some (.int .u32 (x.a : Int)) := HX3.out.cell 0
  have X1 : (w3.drewN nq).cell? ⟨w.heap.size, 1, none⟩ = some (.int .i64 x.n) := HX3.out.cell 1
  have RD : Reads (w3.drewN nq) (fun i => i < (w3.drewN nq).heap.size) 3 A n (L.flatMap entC) := (HRD.out.lt.mono fun _ h => h.2).keep (Same.ofHeap _ rfl)
  have B3 : Below w.heap.size w (w3.drewN nq) := below_drewT HB3.out nq
  have I3 : IsTab (w3.drewN nq) N wb lim L := h3.keep (Same.ofHeap _ rfl)
  have K3 : Blk (w3.drewN nq) wb 48 #[.slice A n cap, .int .i64 lim] := HKW.out
  generalize w3.drewN nq = wq at T0 X0 X1 RD B3 I3 K3 ⊢
  clear t0 t1 h3
  obtain ⟨i0, hin, hz0, hz1, hz2⟩ := info_parts info_entR
  have one1 : ∀ u ∈ (L.flatMap entC).take (k * 3), u.oneCell' = true := fun u hu => ent_one L u (List.mem_of_mem_take hu)
  have one2 : ∀ u ∈ (L.flatMap entC).drop (k * 3), u.oneCell' = true := fun u hu => ent_one L u (List.mem_of_mem_drop hu)
  have one3 : ∀ u ∈ [Value.int .u32 (x.a : Int), .int .i64 x.n, .int .i64 v], u.oneCell' = true := by simp [Value.oneCell']
  have wbl : wb < wq.heap.size := K3.lt
  have bxl : w.heap.size < wq.heap.size := World.block_lt_of_cell? wq _ X0
  refine wp_region_rel (by kernel_rfl) (fun p q => Below wq.heap.size p q) (InsΦ wq.heap.size wb A n cap k x.a x.n v (L.flatMap entC)) 22 (fun val w9 => TabYes w N wb lim (insS (pB x) v L) w9) insDead (by kernel_rfl) (fun p => Below.refl _ p) (fun h k => h.trans k) (obl_of ?_) ?_ ?_
  · refine ⟨fun _ => ?_, fun _ => ?_, fun _ => ?_, fun _ => ?_, fun _ => ?_, fun _ => ?_, fun _ => ?_, fun _ => ?_, fun _ => ?_, fun _ => ?_, fun _ => ?_, fun _ => ?_, fun _ => ?_, fun _ => ?_, fun _ => ?_, fun _ => ?_, fun _ => ?_, fun _ => ?_, fun _ => ?_, fun _ => ?_, fun _ => ?_, fun _ => ?_, fun h => absurd rfl h, trivial⟩

    · -- 0
      intro val wx hg hd hb hs K hK
      generalize hρ : rhoV _ _ val = ρ
      have cc : ∀ u, ρ (.const u) = u := fun u => by rw [← hρ]; rfl
      have r0 : ρ (.tmp 0) = .pointer (some ⟨wb, 0, none⟩) := by rw [← hρ]; rfl
      clear hρ hd hb hs
      refine ifv rfl ?_
      go_simp
      exact hK _ _ (Below.refl _ _) rfl fun _ _ _ _ h => h
    · -- 1
      intro val wx hg hd hb hs K hK
      generalize hρ : rhoV _ _ val = ρ
      have cc : ∀ u, ρ (.const u) = u := fun u => by rw [← hρ]; rfl
      have r0 : ρ (.tmp 0) = .pointer (some ⟨wb, 0, none⟩) := by rw [← hρ]; rfl
      clear hρ hd hb hs
      refine ifv rfl ?_
      go_simp
      exact hK _ _ (Below.refl _ _) rfl fun _ _ _ _ h => h
    · -- 2
      intro val wx hg hd hb hs K hK
      generalize hρ : rhoV _ _ val = ρ
      have cc : ∀ u, ρ (.const u) = u := fun u => by rw [← hρ]; rfl
      have r19 : ρ (.tmp 19) = .pointer (some ⟨wb, 0, none⟩) := by rw [← hρ]; exact hd 1 rfl rfl
      clear hρ hd hb hs
      refine ifv rfl ?_
      go_simp
      exact hK _ _ (Below.refl _ _) rfl fun _ _ _ _ h => h
    · -- 3
      intro val wx hg hd hb hs K hK
      generalize hρ : rhoV _ _ val = ρ
      have cc : ∀ u, ρ (.const u) = u := fun u => by rw [← hρ]; rfl
      have r20 : ρ (.tmp 20) = .pointer (some ⟨wb, 0, none⟩) := by rw [← hρ]; exact hd 2 rfl rfl
      clear hρ hd hb hs
      refine ifv rfl ?_
      go_simp
      exact hK _ _ (Below.refl _ _) rfl fun _ _ _ _ h => h
    · -- 4
      intro val wx hg hd hb hs K hK
      generalize hρ : rhoV _ _ val = ρ
      have cc : ∀ u, ρ (.const u) = u := fun u => by rw [← hρ]; rfl
      have r21 : ρ (.tmp 21) = .pointer (some ⟨wb, 0, none⟩) := by rw [← hρ]; exact hd 3 rfl rfl
      have g0 : wx.cell? ⟨wb, 0, none⟩ = some (.slice A n cap) := (hg.cell (p := ⟨wb, 0, none⟩) wbl).trans T0
      clear hρ hd hb hs
      refine ifv rfl ?_
      go_simp
      exact hK _ _ (Below.refl _ _) rfl fun _ _ _ _ h => h
    · -- 5
      intro val wx hg hd hb hs K hK
      generalize hρ : rhoV _ _ val = ρ
      have cc : ∀ u, ρ (.const u) = u := fun u => by rw [← hρ]; rfl
      have r0 : ρ (.tmp 7) = .int .i64 (k : Int) := by rw [← hρ]; rfl
      clear hρ hd hb hs
      refine ifv rfl ?_
      go_simp
      exact hK _ _ (Below.refl _ _) rfl fun _ _ _ _ h => h
    · -- 6
      intro val wx hg hd hb hs K hK
      generalize hρ : rhoV _ _ val = ρ
      have cc : ∀ u, ρ (.const u) = u := fun u => by rw [← hρ]; rfl
      have r22 : ρ (.tmp 22) = .slice A n cap := by rw [← hρ]; exact hd 4 rfl rfl
      have r23 : ρ (.tmp 23) = .int .i64 (k : Int) := by rw [← hρ]; exact hd 5 rfl rfl
      have hsl := sl_take A n cap k wx (by omega)
      clear hρ hd hb hs
      refine ifv rfl ?_
      go_simp
      exact hK _ _ (Below.refl _ _) rfl fun _ _ _ _ h => h
    · -- 7
      intro val wx hg hd hb hs K hK
      generalize hρ : rhoV _ _ val = ρ
      have cc : ∀ u, ρ (.const u) = u := fun u => by rw [← hρ]; rfl
      have r24 : ρ (.tmp 24) = .slice A k cap := by rw [← hρ]; exact hd 6 rfl rfl
      have rd := (RD.take hkl).keep (w2 := wx) (Same.ofBelow (w := wq) ⟨hg.os, hg.tape, hg.output, hg.size, hg.block⟩ fun k hk => hk)
      clear hρ hd hb hs
      refine ifv rfl ?_
      refine insRow wx (.const (.slice none 0 0)) (.tmp 24) 46 (by rfl) wq.heap.size 91 i0 _ 3 24 Try.underlying46 hin hz0 hz1 hz2 rfl (by decide) (cc _) (World.ownsRow_nil _ _ _ _) r24 rd one1 (by unfold maxLen; omega) (by omega) hg.size ?_
      intro v2 w2 h2 h3 h4
      have hbl : Below wx.heap.size wx w2 := ⟨h3.os, h3.tape, h3.output, h3.size, fun g hg => h3.block g hg (by simp [Value.ownBlock])⟩
      exact hK _ _ (hbl.mono hg.size) (by simpa [InsΦ, normV] using h2) fun j _ _ _ h => InsΦ.keep hbl j _ h
    · -- 8
      intro val wx hg hd hb hs K hK
      generalize hρ : rhoV _ _ val = ρ
      have cc : ∀ u, ρ (.const u) = u := fun u => by rw [← hρ]; rfl
      have r0 : ρ (.tmp 4) = .pointer (some ⟨w.heap.size, 0, none⟩) := by rw [← hρ]; rfl
      have g0 : wx.cell? ⟨w.heap.size, 0, none⟩ = some (.int .u32 (x.a : Int)) := (hg.cell (p := ⟨w.heap.size, 0, none⟩) bxl).trans X0
      have g1 : wx.cell? ⟨w.heap.size, 1, none⟩ = some (.int .i64 x.n) := (hg.cell (p := ⟨w.heap.size, 1, none⟩) bxl).trans X1
      clear hρ hd hb hs
      refine ifv rfl ?_
      go_simp
      exact hK _ _ (Below.refl _ _) rfl fun _ _ _ _ h => h
    · -- 9
      intro val wx hg hd hb hs K hK
      generalize hρ : rhoV _ _ val = ρ
      have cc : ∀ u, ρ (.const u) = u := fun u => by rw [← hρ]; rfl
      have r0 : ρ (.tmp 2) = .int .i64 v := by rw [← hρ]; rfl
      clear hρ hd hb hs
      refine ifv rfl ?_
      go_simp
      exact hK _ _ (Below.refl _ _) rfl fun _ _ _ _ h => h
    · -- 10
      intro val wx hg hd hb hs K hK
      generalize hρ : rhoV _ _ val = ρ
      have cc : ∀ u, ρ (.const u) = u := fun u => by rw [← hρ]; rfl
      have r26 : ρ (.tmp 26) = pxV x.a x.n := by rw [← hρ]; exact hd 8 rfl rfl
      have r27 : ρ (.tmp 27) = .int .i64 v := by rw [← hρ]; exact hd 9 rfl rfl
      clear hρ hd hb hs
      refine ifv rfl ?_
      go_simp
      exact hK _ _ (Below.refl _ _) rfl fun _ _ _ _ h => h
    · -- 11
      intro val wx hg hd hb hs K hK
      generalize hρ : rhoV _ _ val = ρ
      have cc : ∀ u, ρ (.const u) = u := fun u => by rw [← hρ]; rfl
      have r28 : ρ (.tmp 28) = .agg #[.int .u32 (x.a : Int), .int .i64 x.n, .int .i64 v] := by rw [← hρ]; exact hd 10 rfl rfl
      clear hρ hd hb hs
      refine ifv rfl ?_
      go_simp
      refine hK _ _ ((Below.refl _ _).alloc hg.size _) ⟨wx.heap.size, rfl, (reads_lit wx 91 #[.int .u32 (x.a : Int), .int .i64 x.n, .int .i64 v] 1 3 (0, 0) rfl).mono fun i hi => ?_⟩ fun j _ _ _ h => InsΦ.keep ((Below.refl _ _).alloc (Nat.le_refl _) _) j _ h
      rw [hi]; exact hg.size
    · -- 12
      intro val wx hg hd hb hs K hK
      generalize hρ : rhoV _ _ val = ρ
      have cc : ∀ u, ρ (.const u) = u := fun u => by rw [← hρ]; rfl
      have r25 : ρ (.tmp 25) = val 7 := by rw [← hρ]; rfl
      have p7 : wx.ownsRow wq.heap.size 91 3 (val 7) k ((L.flatMap entC).take (k * 3)) := hd 7 rfl rfl
      obtain ⟨H, p11, q11⟩ : ∃ H, val 11 = .slice (some ⟨H, 0, none⟩) 1 1 ∧ Reads wx (fun i => wq.heap.size ≤ i) 3 (some ⟨H, 0, none⟩) 1 [.int .u32 (x.a : Int), .int .i64 x.n, .int .i64 v] := hd 11 rfl rfl
      have r29 : ρ (.tmp 29) = .slice (some ⟨H, 0, none⟩) 1 1 := by rw [← p11, ← hρ]; rfl
      clear hρ hd hb hs
      refine ifv rfl ?_
      refine insRow wx (.tmp 25) (.tmp 29) 46 (by rfl) wq.heap.size 91 i0 _ 3 24 Try.underlying46 hin hz0 hz1 hz2 rfl (by decide) r25 p7 r29 q11 one3 (by unfold maxLen; omega) (by omega) hg.size ?_
      intro v2 w2 h2 h3 h4
      refine hK _ _ ⟨h3.os, h3.tape, h3.output, h3.size, fun g hg2 => h3.block g (Nat.lt_of_lt_of_le hg2 hg.size) fun e => Nat.lt_irrefl _ (Nat.lt_of_lt_of_le hg2 (own_ge p7 e.symm))⟩ (by simpa [InsΦ, normV] using h2) fun j hne hdj hbj hj => InsΦ.bare (w := wx) _ ?_ hj
      rintro (rfl | rfl | rfl | rfl)
      · cases hdj
      · cases hdj
      · exact hne rfl
      · cases hbj _ rfl
    · -- 13
      intro val wx hg hd hb hs K hK
      generalize hρ : rhoV _ _ val = ρ
      have cc : ∀ u, ρ (.const u) = u := fun u => by rw [← hρ]; rfl
      have r0 : ρ (.tmp 0) = .pointer (some ⟨wb, 0, none⟩) := by rw [← hρ]; rfl
      clear hρ hd hb hs
      refine ifv rfl ?_
      go_simp
      exact hK _ _ (Below.refl _ _) rfl fun _ _ _ _ h => h
    · -- 14
      intro val wx hg hd hb hs K hK
      generalize hρ : rhoV _ _ val = ρ
      have cc : ∀ u, ρ (.const u) = u := fun u => by rw [← hρ]; rfl
      have r31 : ρ (.tmp 31) = .pointer (some ⟨wb, 0, none⟩) := by rw [← hρ]; exact hd 13 rfl rfl
      clear hρ hd hb hs
      refine ifv rfl ?_
      go_simp
      exact hK _ _ (Below.refl _ _) rfl fun _ _ _ _ h => h
    · -- 15
      intro val wx hg hd hb hs K hK
      generalize hρ : rhoV _ _ val = ρ
      have cc : ∀ u, ρ (.const u) = u := fun u => by rw [← hρ]; rfl
      have r32 : ρ (.tmp 32) = .pointer (some ⟨wb, 0, none⟩) := by rw [← hρ]; exact hd 14 rfl rfl
      clear hρ hd hb hs
      refine ifv rfl ?_
      go_simp
      exact hK _ _ (Below.refl _ _) rfl fun _ _ _ _ h => h
    · -- 16
      intro val wx hg hd hb hs K hK
      generalize hρ : rhoV _ _ val = ρ
      have cc : ∀ u, ρ (.const u) = u := fun u => by rw [← hρ]; rfl
      have r33 : ρ (.tmp 33) = .pointer (some ⟨wb, 0, none⟩) := by rw [← hρ]; exact hd 15 rfl rfl
      have g0 : wx.cell? ⟨wb, 0, none⟩ = some (.slice A n cap) := (hg.cell (p := ⟨wb, 0, none⟩) wbl).trans T0
      clear hρ hd hb hs
      refine ifv rfl ?_
      go_simp
      exact hK _ _ (Below.refl _ _) rfl fun _ _ _ _ h => h
    · -- 17
      intro val wx hg hd hb hs K hK
      generalize hρ : rhoV _ _ val = ρ
      have cc : ∀ u, ρ (.const u) = u := fun u => by rw [← hρ]; rfl
      have r0 : ρ (.tmp 7) = .int .i64 (k : Int) := by rw [← hρ]; rfl
      clear hρ hd hb hs
      refine ifv rfl ?_
      go_simp
      exact hK _ _ (Below.refl _ _) rfl fun _ _ _ _ h => h
    · -- 18
      intro val wx hg hd hb hs K hK
      generalize hρ : rhoV _ _ val = ρ
      have cc : ∀ u, ρ (.const u) = u := fun u => by rw [← hρ]; rfl
      have r34 : ρ (.tmp 34) = .slice A n cap := by rw [← hρ]; exact hd 16 rfl rfl
      have r35 : ρ (.tmp 35) = .int .i64 (k : Int) := by rw [← hρ]; exact hd 17 rfl rfl
      have hsl := sl_drop A n cap k wx hkl
      clear hρ hd hb hs
      refine ifv rfl ?_
      go_simp
      exact hK _ _ (Below.refl _ _) rfl fun _ _ _ _ h => h
    · -- 19
      intro val wx hg hd hb hs K hK
      generalize hρ : rhoV _ _ val = ρ
      have cc : ∀ u, ρ (.const u) = u := fun u => by rw [← hρ]; rfl
      have r30 : ρ (.tmp 30) = val 12 := by rw [← hρ]; rfl
      have p12 : wx.ownsRow wq.heap.size 91 3 (val 12) (k + 1) ((L.flatMap entC).take (k * 3) ++ [.int .u32 (x.a : Int), .int .i64 x.n, .int .i64 v]) := hd 12 rfl rfl
      have r36 : ρ (.tmp 36) = .slice (if cap = k then A else A.map (·.add (k * 3))) (n - k) (cap - k) := by rw [← hρ]; exact hd 18 rfl rfl
      have rd := (RD.drop hkl hcap).keep (w2 := wx) (Same.ofBelow (w := wq) ⟨hg.os, hg.tape, hg.output, hg.size, hg.block⟩ fun k hk => hk)
      clear hρ hd hb hs
      refine ifv rfl ?_
      refine insRow wx (.tmp 30) (.tmp 36) 46 (by rfl) wq.heap.size 91 i0 _ 3 24 Try.underlying46 hin hz0 hz1 hz2 rfl (by decide) r30 p12 r36 rd one2 (by unfold maxLen; omega) (by omega) hg.size ?_
      intro v2 w2 h2 h3 h4
      refine hK _ _ ⟨h3.os, h3.tape, h3.output, h3.size, fun g hg2 => h3.block g (Nat.lt_of_lt_of_le hg2 hg.size) fun e => Nat.lt_irrefl _ (Nat.lt_of_lt_of_le hg2 (own_ge p12 e.symm))⟩ (by simpa [InsΦ, normV] using h2) fun j hne hdj hbj hj => ?_
      refine InsΦ.bare (w := wx) _ ?_ hj
      rintro (rfl | rfl | rfl | rfl)
      · cases hdj
      · cases hdj
      · cases hdj
      · exact hne rfl
    · -- 20
      intro val wx hg hd hb hs K hK
      generalize hρ : rhoV _ _ val = ρ
      have cc : ∀ u, ρ (.const u) = u := fun u => by rw [← hρ]; rfl
      have r18 : ρ (.tmp 18) = .pointer (some ⟨wb, 0, none⟩) := by rw [← hρ]; exact hd 0 rfl rfl
      clear hρ hd hb hs
      refine ifv rfl ?_
      go_simp
      exact hK _ _ (Below.refl _ _) rfl fun _ _ _ _ h => h
    · -- 21
      intro val wx hg hd hb hs K hK
      generalize hρ : rhoV _ _ val = ρ
      have cc : ∀ u, ρ (.const u) = u := fun u => by rw [← hρ]; rfl
      have r38 : ρ (.tmp 38) = .pointer (some ⟨wb, 0, none⟩) := by rw [← hρ]; exact hd 20 rfl rfl
      clear hρ hd hb hs
      refine ifv rfl ?_
      go_simp
      exact hK _ _ (Below.refl _ _) rfl fun _ _ _ _ h => h
  · intro o ho
    injection ho with ho
    subst ho
    intro val wx hg hd hs K hK
    have p19 : wx.ownsRow wq.heap.size 91 3 (val 19) (k + 1 + (n - k)) ((L.flatMap entC).take (k * 3) ++ [.int .u32 (x.a : Int), .int .i64 x.n, .int .i64 v] ++ (L.flatMap entC).drop (k * 3)) := hd 19 (by decide) (by decide) fun i _ _ => by simp [insDead]
    generalize hρ : rhoV _ _ val = ρ
    have r39 : ρ (.tmp 39) = .pointer (some ⟨wb, 0, none⟩) := by rw [← hρ]; exact hd 21 (by decide) (by decide) fun i _ _ => by simp [insDead]
    have r37 : ρ (.tmp 37) = val 19 := by rw [← hρ]; rfl
    have K5 : Blk wx wb 48 #[.slice A n cap, .int .i64 lim] := K3.below (w := wq) ⟨hg.os, hg.tape, hg.output, hg.size, hg.block⟩ wbl
    obtain ⟨A2, c2, e2, hc2⟩ := own_form p19
    rw [e2] at r37 p19
    have g0 : wx.cell? ⟨wb, 0, none⟩ = some (.slice A n cap) := K5.cell 0
    have g1 : wx.frozen? ⟨wb, 0, none⟩ = false := K5.frozen 0
    clear hρ hd hs
    refine ifv rfl ?_
    go_simp
    obtain ⟨i1, i2⟩ := ins_flat (v := v) ha HM.out I3.short HIN.out
    rw [← HKK.out] at i1 i2
    rw [← HNN.out] at i2
    rw [i1] at p19
    have hgq : Below wq.heap.size wq wx := ⟨hg.os, hg.tape, hg.output, hg.size, hg.block⟩
    exact hK _ _ (tab_in HH.out (Upd.ofBelow (B3.trans (hgq.mono B3.size)) _) K5 B3.size p19 i2 (insS_sorted I3.sorted) (ins_short ha HM.out I3.short))
  · intro val w9 h9
    rw [if_pos (by decide)] at h9
    simp only [putAll]
    clear RD T0 X0 X1
    go_wp2_with fail
    go_ret
    exact ⟨rfl, h9⟩
end Go.Proofs.Ytejiecebckjflaa
