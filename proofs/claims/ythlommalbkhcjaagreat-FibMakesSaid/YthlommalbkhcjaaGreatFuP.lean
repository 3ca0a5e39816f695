/- guidepostref14.Much; fib.All; FibLongest's plain law. -/
import Derived.Test.YthlommalbkhcjaaGreatFuM
import Derived.Test.YthlommalbkhcjaaGreatRowF
namespace Go.Proofs.YthlommalbkhcjaaGreat
open Go.RowKit Go.Sort
variable {dc : Int → Array Value}
def MuchPost (l : List Rt) (n : Nat) (w : World) (e : Ending) (w' : World) : Prop := ∃ b : Bool, e = .returned (.bool b) ∧ (b = false → n ≤ 2000 ∧ ∀ r ∈ l, r.n ≤ 9000) ∧ w = w'
theorem rt_cell5 {w : World} {J : Nat → Prop} {A : Option Addr} {n : Nat} {l : List Rt} (hr : Reads w J 6 A n (l.flatMap rtC)) {k : Nat} (hk : k < n) {r : Rt} (hrk : l[k]? = some r) :
    ∃ ad, A = some ad ∧ w.cell? ⟨(ad.add (k * 6)).block, (ad.add (k * 6)).off + 5, none⟩ = some (.slice r.A r.n r.c) := by
  obtain ⟨ad, e, hj, hadl, hc⟩ := hr.2 (by omega)
  refine ⟨ad, e, ?_⟩
  have e5 : ad.add (k * 6 + 5) = ⟨(ad.add (k * 6)).block, (ad.add (k * 6)).off + 5, none⟩ := by rw [← add_of_add]; rfl
  rw [← e5]
  exact hc _ _ (by rw [rtC_get hrk (by decide)]; rfl)
theorem take_all {l : List Rt} {k z y : Nat} {r : Rt} (hr : l[k]? = some r) (h : ∀ x ∈ l.take k, x.n ≤ z) (hz : z ≤ y) (hy : r.n ≤ y) : ∀ x ∈ l.take (k + 1), x.n ≤ y := by
  obtain ⟨h1, h2⟩ := List.getElem?_eq_some_iff.1 hr
  intro x hx
  rw [List.take_succ_eq_append_getElem h1, h2] at hx
  rcases List.mem_append.1 hx with hx | hx
  · exact Nat.le_trans (h x hx) hz
  · obtain rfl : x = r := by simpa using hx
    exact hy
set_option maxRecDepth 20000 in
theorem much14_any (A : Option Addr) (n c : Nat) (l : List Rt) (w : World) (hr : Reads w (fun k => k < w.heap.size) 6 A n (l.flatMap rtC)) (hl : l.length = n) :
    Calls Tryz.prog 9 #[.slice A n c] w (MuchPost l n w) := by
  have HR := Lib.hid hr
  have HL := Lib.hid hl
  clear hr hl
  go_enter Tryz.func9, Tryz.ntmps9
  go_wp2_with fail
  go_loop [3, 4] (fun s i => ∃ (k z : Nat), k ≤ n ∧ k ≤ 2001 ∧ i = .int .i64 (k : Int) ∧ s = .int .i64 (z : Int) ∧ z ≤ 9000 ∧ (∀ r ∈ l.take k, r.n ≤ z)) (fun _ i => n - (intOf i).toNat)
  case atStart => exact ⟨0, 0, Nat.zero_le _, Nat.zero_le _, rfl, rfl, Nat.zero_le _, by simp⟩
  case round =>
    obtain ⟨k, z, hk, hk2, rfl, rfl, hz, hall⟩ := hrel
    have HA := Lib.hid hall
    clear hall
    by_cases hlt : k < n
    · have hd0 : decide ((k : Int) < (n : Int)) = true := decide_eq_true (by omega)
      have hd1 : decide (k < n) = true := decide_eq_true hlt
      by_cases h2 : k ≤ 2000
      · have hd2 : decide ((k : Int) ≤ 2000) = true := decide_eq_true (by omega)
        obtain ⟨r, hrk⟩ : ∃ r, l[k]? = some r := ⟨_, List.getElem?_eq_getElem (by rw [HL.out]; exact hlt)⟩
        obtain ⟨ad, rfl, hc5⟩ := rt_cell5 HR.out hlt hrk
        have HRK := Lib.hid hrk
        have i0 : (0 : Int) ≤ k := by omega
        have i1 : (k : Int) < n := by omega
        have j0 : (0 : Int) ≤ z := by omega
        have j1 : (z : Int) ≤ 9000 := by omega
        clear hrk
        by_cases h3 : r.n ≤ 9000
        · have m1 : (r.n : Int) ≤ 9000 := by omega
          have m2 : (0 : Int) ≤ r.n := by omega
          have hm : (if (9001 : Int) < (r.n : Int) then (9001 : Int) else (r.n : Int)) = (r.n : Int) := if_neg (by omega)
          by_cases h4 : z + r.n ≤ 9000
          · have hd4 : decide ((9000 : Int) < (z : Int) + (r.n : Int)) = false := decide_eq_false (by omega)
            go_wp2_with fail
            go_round
            case rel => exact ⟨k + 1, z + r.n, by omega, by omega, by go_num, by go_num, h4, take_all HRK.out HA.out (by omega) (by omega)⟩
            case measure => simp [intOf]; omega
          · have hd4 : decide ((9000 : Int) < (z : Int) + (r.n : Int)) = true := decide_eq_true (by omega)
            go_wp2_with fail
            go_ret
            exact ⟨true, rfl, fun h => (by cases h), rfl⟩
        · obtain ⟨q, hq⟩ : ∃ q : Int, q = 9001 := ⟨_, rfl⟩
          have hm : min (r.n : Int) 9001 = q := by omega
          have q0 : 0 ≤ q := by omega
          have q1 : q ≤ 9001 := by omega
          have hd4 : decide ((9000 : Int) < (z : Int) + q) = true := decide_eq_true (by omega)
          clear hq h3
          go_wp2_with fail
          go_ret
          exact ⟨true, rfl, fun h => (by cases h), rfl⟩
      · have hd2 : decide ((k : Int) ≤ 2000) = false := decide_eq_false (by omega)
        have hd3 : decide ((2000 : Int) < (n : Int)) = true := decide_eq_true (by omega)
        clear h2
        go_wp2_with fail
        go_ret
        exact ⟨true, rfl, fun h => (by cases h), rfl⟩
    · obtain rfl : k = n := by omega
      have hd0 : decide ((k : Int) < (k : Int)) = false := decide_eq_false (by omega)
      have hd1 : decide (k < k) = false := decide_eq_false (by omega)
      have HALL := Lib.hid (show ∀ r ∈ l, r.n ≤ 9000 from fun r hr => by have := HA.out r (by rw [List.take_of_length_le (by rw [HL.out]; exact Nat.le_refl _)]; exact hr); omega)
      clear hlt
      by_cases h2 : k ≤ 2000
      · have hd3 : decide ((2000 : Int) < (k : Int)) = false := decide_eq_false (by omega)
        go_wp2_with fail
        go_ret
        exact ⟨false, rfl, fun _ => ⟨h2, HALL.out⟩, rfl⟩
      · have hd3 : decide ((2000 : Int) < (k : Int)) = true := decide_eq_true (by omega)
        clear h2
        go_wp2_with fail
        go_ret
        exact ⟨true, rfl, fun h => (by cases h), rfl⟩
/-- All, of a table of the call's own. -/
def FAllPost (dc : Int → Array Value) (w wx : World) (fb : Nat) (T : TT) (lim : Int) (e : Ending) (w' : World) : Prop := ∃ f, e = .returned f ∧ SeqOf dc w' (fun k => wx.heap.size ≤ k) f T.list ∧ Below wx.heap.size wx w' ∧ KF dc w w' fb T lim
set_option maxRecDepth 20000 in
theorem fall_any (hd : Dc dc) {w wx : World} {fb : Nat} {T : TT} {lim : Int} (h : KF dc w wx fb T lim) (hsm : T.list.length ≤ 1000000) :
    Calls Tryz.prog 61 #[.pointer (some ⟨fb, 0, none⟩)] wx (FAllPost dc w wx fb T lim) := by
  have h0 := h
  obtain ⟨M, tb, h1, h2, h3, h4⟩ := h
  have HK := Lib.hid h0
  have HT := Lib.hid (fthere_any h1.f)
  have HA := Lib.hid (all_any hd tb M lim T wx h1.t hsm)
  have hc : wx.cell? ⟨fb, 0, none⟩ = some (.pointer (some ⟨tb, 0, none⟩)) := h1.f.cell 0
  clear h0 h1 h2 h3 h4 hd hsm
  go_enter Tryz.func61, Tryz.ntmps61
  go_wp2_with (first
    | (go_at_call 54; refine HT.out.mono ?_; rintro e w' ⟨rfl, rfl⟩)
    | (go_at_call 117; refine HA.out.mono ?_; rintro e w2 ⟨f, rfl, hs, hb⟩; have HS := Lib.hid hs; have HB := Lib.hid hb; clear hs hb))
  go_ret
  exact ⟨f, rfl, HS.out, HB.out, HK.out.later HB.out⟩
end Go.Proofs.YthlommalbkhcjaaGreat
namespace Go.Proofs.YthlommalbkhcjaaGreat
open Go.RowKit Go.Sort
variable {dc : Int → Array Value}
theorem lastE_mem {L : List (Bs × Int)} (h : L ≠ []) : lastE L ∈ L := by
  unfold lastE
  rw [List.getLast?_eq_some_getLast h]
  exact List.getLast_mem h
theorem covS_mem {A : Bs} {L : List (Bs × Int)} {e : Bs × Int} : e ∈ covS A L ↔ e ∈ L ∧ e.1 <+: A := by
  unfold covS
  rw [List.mem_filter]
  simp
theorem sorted_key {L : List (Bs × Int)} (hs : SortedB L) {e f : Bs × Int} (he : e ∈ L) (hf : f ∈ L) (h : e.1 = f.1) : e = f := by
  induction L with
  | nil => simp at he
  | cons x r ih =>
    obtain ⟨h1, h2⟩ := List.pairwise_cons.1 hs
    rcases List.mem_cons.1 he with he2 | he2 <;> rcases List.mem_cons.1 hf with hf2 | hf2
    · rw [he2, hf2]
    · have := h1 _ hf2
      rw [← he2, h, ltB_irrefl] at this; cases this
    · have := h1 _ he2
      rw [← hf2, h, ltB_irrefl] at this; cases this
    · exact ih h2 he2 hf2
/-- What has the address and stands last is the longest. -/
theorem lastE_long {A : Bs} {L : List (Bs × Int)} (hs : SortedB L) {x : Bs × Int} (hx : x ∈ covS A L) : x.1.length ≤ (lastE (covS A L)).1.length := by
  have hne : covS A L ≠ [] := fun e => by rw [e] at hx; simp at hx
  have hl := lastE_mem hne
  have hsc : SortedB (covS A L) := List.Pairwise.filter _ hs
  by_cases he : x = lastE (covS A L)
  · rw [he]; exact Nat.le_refl _
  · obtain ⟨p1, hp⟩ := covS_mem.1 hx
    obtain ⟨q1, hq⟩ := covS_mem.1 hl
    have hlt : ltB x.1 (lastE (covS A L)).1 = true := by
      obtain ⟨E, hE⟩ : ∃ E, E = covS A L := ⟨_, rfl⟩
      rw [← hE] at hx hl hsc he hne ⊢
      obtain ⟨F, y, rfl⟩ : ∃ F y, E = F ++ [y] := ⟨E.dropLast, E.getLast hne, (List.dropLast_concat_getLast hne).symm⟩
      have hy : lastE (F ++ [y]) = y := by simp [lastE]
      rw [hy] at he ⊢
      rcases List.mem_append.1 hx with h | h
      · exact (List.pairwise_append.1 hsc).2.2 _ h _ (by simp)
      · exact absurd (by simpa using h) he
    rcases List.prefix_or_prefix_of_prefix hp hq with h | h
    · exact h.length_le
    · exact absurd hlt (by
        by_cases e : (lastE (covS A L)).1 = x.1
        · rw [e, ltB_irrefl]; simp
        · rw [ltB_asymm (ltB_pre h e)]; simp)
/-- Was the entry that was looked up among these? -/
def fnd (E pre : List (Bs × Int)) : Bool := pre.any fun e => decide (e.1 = (lastE E).1)
theorem fnd_snoc (E pre : List (Bs × Int)) (x : Bs × Int) : fnd E (pre ++ [x]) = (fnd E pre || decide (x.1 = (lastE E).1)) := by
  unfold fnd
  rw [List.any_append]
  simp
theorem lg_same {A : Bs} {L E : List (Bs × Int)} (hs : SortedB L) (hE : E = covS A L) {x : Bs × Int} (hx : x ∈ L) (h : x.1 = (lastE E).1) : x = lastE E ∧ E ≠ [] := by
  have hne : E ≠ [] := fun e => by
    rw [e] at h
    have : x ∈ covS A L := covS_mem.2 ⟨hx, by rw [h]; exact List.nil_prefix⟩
    rw [← hE, e] at this
    simp at this
  refine ⟨sorted_key hs hx ?_ h, hne⟩
  have := lastE_mem hne
  rw [hE] at this ⊢
  exact (covS_mem.1 this).1
theorem fnd_all {A : Bs} {L E : List (Bs × Int)} (hs : SortedB L) (hE : E = covS A L) : fnd E L = !E.isEmpty := by
  unfold fnd
  by_cases hne : E = []
  · rw [hne]
    show L.any _ = false
    rw [List.any_eq_false]
    intro x hx h
    exact (lg_same hs hE hx (by rw [hne]; simpa using h)).2 hne
  · have hl := lastE_mem hne
    have h2 : (!E.isEmpty) = true := by cases E <;> simp_all
    rw [h2, List.any_eq_true]
    exact ⟨lastE E, (covS_mem.1 (by rw [← hE]; exact hl)).1, by simp⟩
theorem px_dec {p q : Bs} (hp : p.length ≤ 32) : decide (padB p = padB q ∧ (p.length : Int) = (q.length : Int)) = decide (p = q) := by
  rw [decide_eq_decide]
  constructor
  · rintro ⟨h1, h2⟩
    exact pad_inj hp (by omega) h1
  · rintro rfl
    exact ⟨rfl, rfl⟩
/-- Has, of an entry's prefix. -/
theorem has_e (p : Bs) (hp : p.length ≤ 32) (b : Nat) (hb : b < 2 ^ 32) (w : World) : Calls Tryz.prog 56 #[pxV (padB p) p.length, .int .u32 (b : Int)] w fun e w' => e = .returned (.bool (decide (p <+: bitsB b 32))) ∧ Below w.heap.size w w' := by
  have h := has_any ⟨padB p, p.length⟩ b w (padB_lt p hp) hb
  rw [hasP_iff (x := ⟨padB p, p.length⟩) (padB_lt p hp) hb (bits_may hp)] at h
  have e : pB ⟨padB p, p.length⟩ = p := by
    unfold pB
    simp only [Int.toNat_natCast]
    exact bits_pad p hp
  rw [e] at h
  exact h
theorem setCells_sz (b : Nat) : ∀ (vs : List Value) (o : Nat) (w : World), (w.setCells b o vs).heap.size = w.heap.size
  | [], _, _ => rfl
  | v :: r, o, w => by
    unfold World.setCells
    rw [setCells_sz b r]
    simp [World.setCell]
theorem ld_adr {w : World} {b : Nat} {a : Nat} (h : w.cell? ⟨b, 0, none⟩ = some (.int .u32 (a : Int))) : (Instr.loadAt 35 (.pointer (some ⟨b, 0, none⟩))).run Tryz.prog w = .ok (.int .u32 (a : Int)) w := by simp [go_sem, h]
theorem res_bt {w : World} {g : Nat} {z : Bool} {fn : Func} {p : Tmp} (hf : fn.results = #[.cell p 4]) (tmps : Array Value) (hp : tmps.getD p undef = .pointer (some ⟨g, 0, none⟩)) (h : Blk w g 4 #[.bool z]) : (results fn tmps).run Tryz.prog w = .ok (.bool z) w := by
  have c3 : w.cell? ⟨g, 0, none⟩ = some (.bool z) := h.cell 0
  have h3 : (loadVar 4 ⟨g, 0, none⟩).run Tryz.prog w = .ok (.bool z) w := by simp [go_sem, c3]
  have e1 : tmps[p]?.getD undef = .pointer (some ⟨g, 0, none⟩) := by simpa using hp
  simp only [results, hf]
  simp [e1, asAddr, h3]
/-- The blocks that FibLongest holds. -/
structure LgB (z P a : Nat) (pa pn : Int) (cs : Array Value) (bi bf : Bool) (W : World) : Prop where
  bz : Blk W z 35 #[.int .u32 (a : Int)]
  br : Blk W (z + 1) 4 #[.bool false]
  bp : Blk W P 37 #[.int .u32 pa, .int .i64 pn]
  bv : Blk W (P + 1) 41 cs
  bi : Blk W (P + 1 + 1) 4 #[.bool bi]
  bf : Blk W (P + 1 + 1 + 1) 4 #[.bool bf]
  lt : z + 1 < P
section
variable {z P a : Nat} {pa pn : Int} {cs : Array Value} {bi bf : Bool} {W W' : World}
theorem LgB.later (h : LgB z P a pa pn cs bi bf W) (hb : Below W.heap.size W W') : LgB z P a pa pn cs bi bf W' := ⟨h.bz.below hb h.bz.lt, h.br.below hb h.br.lt, h.bp.below hb h.bp.lt, h.bv.below hb h.bv.lt, h.bi.below hb h.bi.lt, h.bf.below hb h.bf.lt, h.lt⟩
theorem LgB.own {row : Option Nat} (h : LgB z P a pa pn cs bi bf W) (hg : W.grownBy W' row) (hr : ∀ r, row = some r → ∃ o : Obj, W.heap[r]? = some o ∧ o.isCells = false) : LgB z P a pa pn cs bi bf W' := ⟨blk_own h.bz hg hr, blk_own h.br hg hr, blk_own h.bp hg hr, blk_own h.bv hg hr, blk_own h.bi hg hr, blk_own h.bf hg hr, h.lt⟩
theorem LgB.setF (h : LgB z P a pa pn cs bi bf W) (b : Bool) : LgB z P a pa pn cs bi b (W.setCell ⟨P + 1 + 1 + 1, 0, none⟩ (.bool b)) := by
  have := h.lt
  exact ⟨h.bz.far (p := ⟨P + 1 + 1 + 1, 0, none⟩) (by show z ≠ P + 1 + 1 + 1; omega) _, h.br.far (p := ⟨P + 1 + 1 + 1, 0, none⟩) (by show z + 1 ≠ P + 1 + 1 + 1; omega) _, h.bp.far (p := ⟨P + 1 + 1 + 1, 0, none⟩) (by show P ≠ P + 1 + 1 + 1; omega) _, h.bv.far (p := ⟨P + 1 + 1 + 1, 0, none⟩) (by show P + 1 ≠ P + 1 + 1 + 1; omega) _, h.bi.far (p := ⟨P + 1 + 1 + 1, 0, none⟩) (by show P + 1 + 1 ≠ P + 1 + 1 + 1; omega) _, h.bf.set_ 0 (.bool b), h.lt⟩
end
/-- Lookup's three results are put into variables of the call's own, with one besides. -/
theorem box_pwb (w : World) (a n : Int) (X : Array Value) (b : Bool) (h1 : X.size = 257) (h2 : X.all (·.oneCell') = true) : ∃ w1 w2 w3,
    (Instr.storeAt 37 (.pointer (some ⟨w.heap.size, 0, none⟩)) (.agg #[.int .u32 a, .int .i64 n])).run Tryz.prog (((w.alloc (.cells #[.int .u32 0, .int .i64 0] 37)).alloc (.cells wy0 41)).alloc (.cells #[.bool false] 4)) = .ok () w1 ∧
    (Instr.storeAt 41 (.pointer (some ⟨w.heap.size + 1, 0, none⟩)) (.agg X)).run Tryz.prog w1 = .ok () w2 ∧
    (Instr.storeAt 4 (.pointer (some ⟨w.heap.size + 1 + 1, 0, none⟩)) (.bool b)).run Tryz.prog w2 = .ok () w3 ∧
    Blk w3 w.heap.size 37 #[.int .u32 a, .int .i64 n] ∧ Blk w3 (w.heap.size + 1) 41 X ∧ Blk w3 (w.heap.size + 1 + 1) 4 #[.bool b] ∧ Below w.heap.size w w3 ∧ w3.heap.size = w.heap.size + 1 + 1 + 1 := by
  obtain ⟨W8, hW8⟩ : ∃ Z, Z = ((w.alloc (.cells #[.int .u32 0, .int .i64 0] 37)).alloc (.cells wy0 41)).alloc (.cells #[.bool false] 4) := ⟨_, rfl⟩
  have hz1 : (w.alloc (.cells #[.int .u32 0, .int .i64 0] 37)).heap.size = w.heap.size + 1 := by simp
  have hz2 : ((w.alloc (.cells #[.int .u32 0, .int .i64 0] 37)).alloc (.cells wy0 41)).heap.size = w.heap.size + 1 + 1 := by simp
  have hz3 : W8.heap.size = w.heap.size + 1 + 1 + 1 := by rw [hW8]; simp
  have hb8 : Below w.heap.size w W8 := by rw [hW8]; exact (((Below.refl _ _).alloc (Nat.le_refl _) _).alloc (by simp) _).alloc (by simp; omega) _
  have hp8 : Blk W8 w.heap.size 37 #[.int .u32 0, .int .i64 0] := by rw [hW8]; exact ((Blk.new w _ _).alloc _).alloc _
  have hv8 : Blk W8 (w.heap.size + 1) 41 wy0 := by
    rw [hW8]
    have := (Blk.new (w.alloc (.cells #[.int .u32 0, .int .i64 0] 37)) 41 wy0).alloc (.cells #[.bool false] 4)
    rwa [hz1] at this
  have hi8 : Blk W8 (w.heap.size + 1 + 1) 4 #[.bool false] := by
    rw [hW8]
    have := Blk.new ((w.alloc (.cells #[.int .u32 0, .int .i64 0] 37)).alloc (.cells wy0 41)) 4 #[.bool false]
    rwa [hz2] at this
  rw [← hW8]
  clear hW8 hz1 hz2
  have hv9 : Blk (W8.setCells w.heap.size 0 [.int .u32 a, .int .i64 n]) (w.heap.size + 1) 41 wy0 := blk_far_setCells (by omega) _ _ _ hv8
  have hp9 : Blk (W8.setCells w.heap.size 0 [.int .u32 a, .int .i64 n]) w.heap.size 37 #[.int .u32 a, .int .i64 n] := blk_setCells hp8 rfl
  have hi9 : Blk (W8.setCells w.heap.size 0 [.int .u32 a, .int .i64 n]) (w.heap.size + 1 + 1) 4 #[.bool false] := blk_far_setCells (by omega) _ _ _ hi8
  have hb9 := below_setCells (Nat.le_refl w.heap.size) [Value.int .u32 a, .int .i64 n] 0 _ hb8
  have hz9 : (W8.setCells w.heap.size 0 [.int .u32 a, .int .i64 n]).heap.size = w.heap.size + 1 + 1 + 1 := by rw [setCells_sz]; exact hz3
  have st1 : (Instr.storeAt 37 (.pointer (some ⟨w.heap.size, 0, none⟩)) (.agg #[.int .u32 a, .int .i64 n])).run Tryz.prog W8 = .ok () (W8.setCells w.heap.size 0 [.int .u32 a, .int .i64 n]) := stc_store px_info hp8 rfl (vs := #[.int .u32 a, .int .i64 n]) rfl (by simp [Value.oneCell'])
  generalize W8.setCells w.heap.size 0 [.int .u32 a, .int .i64 n] = w1 at hv9 hp9 hi9 hb9 hz9 st1
  have st2 := st_wyB hv9 wy0_size h1 h2
  have hp10 : Blk (w1.setCells (w.heap.size + 1) 0 X.toList) w.heap.size 37 #[.int .u32 a, .int .i64 n] := blk_far_setCells (by omega) _ _ _ hp9
  have hi10 : Blk (w1.setCells (w.heap.size + 1) 0 X.toList) (w.heap.size + 1 + 1) 4 #[.bool false] := blk_far_setCells (by omega) _ _ _ hi9
  have hv10 : Blk (w1.setCells (w.heap.size + 1) 0 X.toList) (w.heap.size + 1) 41 X := blk_setCells hv9 (by rw [h1, wy0_size])
  have hb10 := below_setCells (Nat.le_succ w.heap.size) X.toList 0 _ hb9
  have hz10 : (w1.setCells (w.heap.size + 1) 0 X.toList).heap.size = w.heap.size + 1 + 1 + 1 := by rw [setCells_sz]; exact hz9
  generalize w1.setCells (w.heap.size + 1) 0 X.toList = w2 at hp10 hi10 hv10 hb10 hz10 st2
  refine ⟨w1, w2, w2.setCell ⟨w.heap.size + 1 + 1, 0, none⟩ (.bool b), st1, st2, st_btN (hi10.cell 0) (hi10.frozen 0) b, hp10.far (p := ⟨w.heap.size + 1 + 1, 0, none⟩) (by show w.heap.size ≠ w.heap.size + 1 + 1; omega) _, hv10.far (p := ⟨w.heap.size + 1 + 1, 0, none⟩) (by show w.heap.size + 1 ≠ w.heap.size + 1 + 1; omega) _, hi10.set_ 0 (.bool b), hb10.setCell (p := ⟨w.heap.size + 1 + 1, 0, none⟩) (by show w.heap.size ≤ w.heap.size + 1 + 1; omega) _, by simpa [World.setCell] using hz10⟩
end Go.Proofs.YthlommalbkhcjaaGreat
