/- Icmp: Same of both, right, IcmpMeans. -/
import Derived.Test.YtihfihehiifdkaaIcT
import Derived.Test.YtihfihehiifdkaaIpU
import Derived.Test.YtihfihehiifdkaaIcW
import Derived.Stop.BytesEq
namespace Go.Proofs.Ytihfihehiifdkaa
open Go.RowKit Go.Sort Go.BigFrame
def rstL (m : Ic) : By := [m.r0, m.r1, m.r2, m.r3]
def rstC (m : Ic) : Array Value := #[.int .u8 (m.r0.toNat : Int), .int .u8 (m.r1.toNat : Int), .int .u8 (m.r2.toNat : Int), .int .u8 (m.r3.toNat : Int)]
/-- Are two messages the same? -/
def sameI (m o : Ic) : Bool := m.ty == o.ty && (m.co == o.co && (rstL m == rstL o && m.body == o.body))
theorem u8_beq (a b : UInt8) : ((a.toNat : Int) == (b.toNat : Int)) = (a == b) := by
  rw [Bool.eq_iff_iff]
  simp only [beq_iff_eq, ← UInt8.toNat_inj]
  omega
theorem rst_eq (m o : Ic) (w : World) : (Op.equalIn 10000 43 (.agg (rstC m)) (.agg (rstC o))).run Try.prog w = .ok (rstL m == rstL o) w :=
  run_equalIn_bytes w 9998 43 5 4 Try.underlying43 Try.underlying5 (fun _ => by kernel_rfl) (rstL m) (rstL o) rfl rfl
theorem sameI_iff (m o : Ic) : sameI m o = true ↔ m = o := by
  unfold sameI rstL
  cases m
  cases o
  simp
  intro _ _
  exact ⟨fun ⟨⟨a, b, c, d⟩, e⟩ => ⟨a, b, c, d, e⟩, fun ⟨a, b, c, d, e⟩ => ⟨⟨a, b, c, d⟩, e⟩⟩
attribute [-go_sem] Instr.storeAt Instr.loadAt in
set_option maxRecDepth 100000 in
set_option maxHeartbeats 4000000 in
theorem isame_any (m o : Ic) (A : Option Addr) (n c : Nat) (A2 : Option Addr) (n2 c2 : Nat) (I J : Nat → Prop) (w : World) (h : Reads w I 1 A n (bytesV m.body)) (h2 : Reads w J 1 A2 n2 (bytesV o.body)) (hn : m.body.length = n) (hn2 : o.body.length = n2) (hsm : n ≤ 1000000) :
    Calls Try.prog 27 #[icV m (.slice A n c), icV o (.slice A2 n2 c2)] w fun e w' => e = .returned (.bool (sameI m o)) ∧ Below w.heap.size w w' := by
  obtain ⟨W, hW⟩ : ∃ W, W = (w.alloc (.cells (icC m (.slice A n c)) 45)).alloc (.cells (icC o (.slice A2 n2 c2)) 45) := ⟨_, rfl⟩
  have hb0 : Below w.heap.size w W := by rw [hW]; exact ((Below.refl _ _).alloc (Nat.le_refl _) _).alloc (by simp) _
  have hk1 : Blk W w.heap.size 45 (icC m (.slice A n c)) := by rw [hW]; exact (Blk.new _ _ _).alloc _
  have hk2 : Blk W (w.heap.size + 1) 45 (icC o (.slice A2 n2 c2)) := by
    rw [hW]
    have := Blk.new (w.alloc (.cells (icC m (.slice A n c)) 45)) 45 (icC o (.slice A2 n2 c2))
    simpa using this
  have hr1 : Reads W (fun k => I k ∧ k < w.heap.size) 1 A n (bytesV m.body) := h.lt.keep (Same.ofBelow hb0 fun k hk => hk.2)
  have hr2 : Reads W (fun k => J k ∧ k < w.heap.size) 1 A2 n2 (bytesV o.body) := h2.lt.keep (Same.ofBelow hb0 fun k hk => hk.2)
  have y0 : W.cell? ⟨w.heap.size, 0, none⟩ = some (.int .u8 (m.ty.toNat : Int)) := hk1.cell 0
  have y1 : W.cell? ⟨w.heap.size, 1, none⟩ = some (.int .u8 (m.co.toNat : Int)) := hk1.cell 1
  have z0 : W.cell? ⟨w.heap.size + 1, 0, none⟩ = some (.int .u8 (o.ty.toNat : Int)) := hk2.cell 0
  have z1 : W.cell? ⟨w.heap.size + 1, 1, none⟩ = some (.int .u8 (o.co.toNat : Int)) := hk2.cell 1
  have l0 := ld_u8s y0
  have l1 := ld_u8s y1
  have l2 := ld_u8s z0
  have l3 := ld_u8s z1
  have l4 : (Instr.loadAt 43 (.pointer (some ⟨w.heap.size, 2, none⟩))).run Try.prog W = .ok (.agg (rstC m)) W := ld_arr4 (hk1.cell 2) (hk1.cell 3) (hk1.cell 4) (hk1.cell 5)
  have l5 : (Instr.loadAt 43 (.pointer (some ⟨w.heap.size + 1, 2, none⟩))).run Try.prog W = .ok (.agg (rstC o)) W := ld_arr4 (hk2.cell 2) (hk2.cell 3) (hk2.cell 4) (hk2.cell 5)
  have l6 := ld8s (hk1.cell 6)
  have l7 := ld8s (hk2.cell 6)
  have q := rst_eq m o
  obtain ⟨a0, ha0⟩ : ∃ z : Int, z = (m.ty.toNat : Int) := ⟨_, rfl⟩
  obtain ⟨a1, ha1⟩ : ∃ z : Int, z = (m.co.toNat : Int) := ⟨_, rfl⟩
  obtain ⟨b0, hb1⟩ : ∃ z : Int, z = (o.ty.toNat : Int) := ⟨_, rfl⟩
  obtain ⟨b1, hb2⟩ : ∃ z : Int, z = (o.co.toNat : Int) := ⟨_, rfl⟩
  obtain ⟨t0, ht0⟩ : ∃ t, t = (m.ty == o.ty) := ⟨_, rfl⟩
  obtain ⟨t1, ht1⟩ : ∃ t, t = (m.co == o.co) := ⟨_, rfl⟩
  obtain ⟨t2, ht2⟩ : ∃ t, t = (rstL m == rstL o) := ⟨_, rfl⟩
  obtain ⟨t3, ht3⟩ : ∃ t, t = (m.body == o.body) := ⟨_, rfl⟩
  have e0 : (a0 == b0) = t0 := by rw [ha0, hb1, ht0]; exact u8_beq _ _
  have e1 : (a1 == b1) = t1 := by rw [ha1, hb2, ht1]; exact u8_beq _ _
  have hs : sameI m o = (t0 && (t1 && (t2 && t3))) := by rw [ht0, ht1, ht2, ht3]; rfl
  rw [hs]
  rw [← ha0] at l0
  rw [← ha1] at l1
  rw [← hb1] at l2
  rw [← hb2] at l3
  rw [← ht2] at q
  obtain ⟨ra, hra⟩ : ∃ r, r = rstC m := ⟨_, rfl⟩
  obtain ⟨rb, hrb⟩ : ∃ r, r = rstC o := ⟨_, rfl⟩
  rw [← hra] at l4
  rw [← hrb] at l5
  rw [← hra, ← hrb] at q
  have heq := equal_any A n c m.body A2 n2 c2 o.body _ _ W hr1 hr2 hn hn2 hsm
  rw [← ht3] at heq
  have HEQ := Lib.hid heq
  clear heq
  have HB0 := Lib.hid hb0
  have HW := Lib.hid hW
  unfold icC at HW
  clear hb0 hW hk1 hk2 hr1 hr2 y0 y1 z0 z1 ha0 ha1 hb1 hb2 ht0 ht1 ht2 ht3 hs hra hrb h h2 hn hn2
  unfold icV icC
  go_enter Try.func27, Try.ntmps27
  go_upto_region 1 with (fail)
  rw [← HW.out]
  cases t0 with
  | false =>
    go_wp2_with fail
    go_ret
    exact ⟨rfl, HB0.out⟩
  | true =>
    cases t1 with
    | false =>
      go_wp2_with fail
      go_ret
      exact ⟨rfl, HB0.out⟩
    | true =>
      cases t2 with
      | false =>
        go_wp2_with fail
        go_ret
        exact ⟨rfl, HB0.out⟩
      | true =>
        go_wp2_with (go_at_call 73; refine HEQ.out.mono ?_; rintro e w1 ⟨rfl, hb⟩; have HB := Lib.hid (HB0.out.trans (hb.mono HB0.out.size)); clear hb)
        go_ret
        exact ⟨rfl, HB.out⟩
attribute [-go_sem] Instr.storeAt Instr.loadAt in
set_option maxRecDepth 100000 in
set_option maxHeartbeats 4000000 in
theorem rsame4_any (m o : Ic) (A : Option Addr) (n c : Nat) (A2 : Option Addr) (n2 c2 : Nat) (I J : Nat → Prop) (w : World) (h : Reads w I 1 A n (bytesV m.body)) (h2 : Reads w J 1 A2 n2 (bytesV o.body)) (hn : m.body.length = n) (hn2 : o.body.length = n2) :
    Calls Try.prog 24 #[icV m (.slice A n c), icV o (.slice A2 n2 c2)] w fun e w' => e = .returned (.bool (sameI m o)) ∧ Below w.heap.size w w' := by
  obtain ⟨W, hW⟩ : ∃ W, W = (w.alloc (.cells (icC m (.slice A n c)) 45)).alloc (.cells (icC o (.slice A2 n2 c2)) 45) := ⟨_, rfl⟩
  have hb0 : Below w.heap.size w W := by rw [hW]; exact ((Below.refl _ _).alloc (Nat.le_refl _) _).alloc (by simp) _
  have hk1 : Blk W w.heap.size 45 (icC m (.slice A n c)) := by rw [hW]; exact (Blk.new _ _ _).alloc _
  have hk2 : Blk W (w.heap.size + 1) 45 (icC o (.slice A2 n2 c2)) := by
    rw [hW]
    have := Blk.new (w.alloc (.cells (icC m (.slice A n c)) 45)) 45 (icC o (.slice A2 n2 c2))
    simpa using this
  have hr1 : Reads W (fun k => I k ∧ k < w.heap.size) 1 A n (bytesV m.body) := h.lt.keep (Same.ofBelow hb0 fun k hk => hk.2)
  have hr2 : Reads W (fun k => J k ∧ k < w.heap.size) 1 A2 n2 (bytesV o.body) := h2.lt.keep (Same.ofBelow hb0 fun k hk => hk.2)
  have y0 : W.cell? ⟨w.heap.size, 0, none⟩ = some (.int .u8 (m.ty.toNat : Int)) := hk1.cell 0
  have y1 : W.cell? ⟨w.heap.size, 1, none⟩ = some (.int .u8 (m.co.toNat : Int)) := hk1.cell 1
  have z0 : W.cell? ⟨w.heap.size + 1, 0, none⟩ = some (.int .u8 (o.ty.toNat : Int)) := hk2.cell 0
  have z1 : W.cell? ⟨w.heap.size + 1, 1, none⟩ = some (.int .u8 (o.co.toNat : Int)) := hk2.cell 1
  have l0 := ld_u8s y0
  have l1 := ld_u8s y1
  have l2 := ld_u8s z0
  have l3 := ld_u8s z1
  have l4 : (Instr.loadAt 43 (.pointer (some ⟨w.heap.size, 2, none⟩))).run Try.prog W = .ok (.agg (rstC m)) W := ld_arr4 (hk1.cell 2) (hk1.cell 3) (hk1.cell 4) (hk1.cell 5)
  have l5 : (Instr.loadAt 43 (.pointer (some ⟨w.heap.size + 1, 2, none⟩))).run Try.prog W = .ok (.agg (rstC o)) W := ld_arr4 (hk2.cell 2) (hk2.cell 3) (hk2.cell 4) (hk2.cell 5)
  have l6 := ld8s (hk1.cell 6)
  have l7 := ld8s (hk2.cell 6)
  have q := rst_eq m o
  obtain ⟨a0, ha0⟩ : ∃ z : Int, z = (m.ty.toNat : Int) := ⟨_, rfl⟩
  obtain ⟨a1, ha1⟩ : ∃ z : Int, z = (m.co.toNat : Int) := ⟨_, rfl⟩
  obtain ⟨b0, hb1⟩ : ∃ z : Int, z = (o.ty.toNat : Int) := ⟨_, rfl⟩
  obtain ⟨b1, hb2⟩ : ∃ z : Int, z = (o.co.toNat : Int) := ⟨_, rfl⟩
  obtain ⟨t0, ht0⟩ : ∃ t, t = (m.ty == o.ty) := ⟨_, rfl⟩
  obtain ⟨t1, ht1⟩ : ∃ t, t = (m.co == o.co) := ⟨_, rfl⟩
  obtain ⟨t2, ht2⟩ : ∃ t, t = (rstL m == rstL o) := ⟨_, rfl⟩
  obtain ⟨t3, ht3⟩ : ∃ t, t = (m.body == o.body) := ⟨_, rfl⟩
  have e0 : (a0 == b0) = t0 := by rw [ha0, hb1, ht0]; exact u8_beq _ _
  have e1 : (a1 == b1) = t1 := by rw [ha1, hb2, ht1]; exact u8_beq _ _
  have hs : sameI m o = (t0 && (t1 && (t2 && t3))) := by rw [ht0, ht1, ht2, ht3]; rfl
  rw [hs]
  rw [← ha0] at l0
  rw [← ha1] at l1
  rw [← hb1] at l2
  rw [← hb2] at l3
  rw [← ht2] at q
  obtain ⟨ra, hra⟩ : ∃ r, r = rstC m := ⟨_, rfl⟩
  obtain ⟨rb, hrb⟩ : ∃ r, r = rstC o := ⟨_, rfl⟩
  rw [← hra] at l4
  rw [← hrb] at l5
  rw [← hra, ← hrb] at q
  have s1 := run_str W _ A m.body c (by rw [hn]; exact hr1)
  have s2 := run_str W _ A2 o.body c2 (by rw [hn2]; exact hr2)
  rw [hn] at s1
  rw [hn2] at s2
  have e3 := bytes_beq m.body o.body
  rw [← ht3] at e3
  obtain ⟨u1, hu1⟩ : ∃ u : ByteArray, u = ⟨m.body.toArray⟩ := ⟨_, rfl⟩
  obtain ⟨u2, hu2⟩ : ∃ u : ByteArray, u = ⟨o.body.toArray⟩ := ⟨_, rfl⟩
  rw [← hu1] at s1 e3
  rw [← hu2] at s2 e3
  have e4 : (u1.toList == u2.toList) = t3 := by rw [← e3]; simp [beq_toListBytes]
  clear hu1 hu2
  have HB0 := Lib.hid hb0
  have HW := Lib.hid hW
  unfold icC at HW
  clear hb0 hW hk1 hk2 hr1 hr2 y0 y1 z0 z1 ha0 ha1 hb1 hb2 ht0 ht1 ht2 ht3 hs hra hrb h h2 hn hn2
  unfold icV icC
  go_enter Try.func24, Try.ntmps24
  go_upto_region 1 with (fail)
  rw [← HW.out]
  cases t0 with
  | false =>
    go_wp2_with fail
    go_ret
    exact ⟨rfl, HB0.out⟩
  | true =>
    cases t1 with
    | false =>
      go_wp2_with fail
      go_ret
      exact ⟨rfl, HB0.out⟩
    | true =>
      cases t2 with
      | false =>
        go_wp2_with fail
        go_ret
        exact ⟨rfl, HB0.out⟩
      | true =>
        go_wp2_with fail
        go_ret
        exact ⟨rfl, HB0.out⟩
end Go.Proofs.Ytihfihehiifdkaa
namespace Go.Proofs.Ytihfihehiifdkaa
open Go.RowKit Go.Sort Go.BigFrame
/-- Is a packet a message from one to another? -/
def rightF (x : By) (fr dt : Nat) : Bool := decide ((prsF x).2.2 = 0) && (decide ((prsF x).1.proto = 1) && (decide ((prsF x).1.ttl = 64) && (decide ((prsF x).1.src = fr) && (decide ((prsF x).1.dst = dt) && decide ((icOf (prsF x).2.1).2 = 0)))))
theorem nat_beq (a b : Nat) : ((a : Int) == (b : Int)) = decide (a = b) := by
  rw [Bool.eq_iff_iff]
  simp only [beq_iff_eq, decide_eq_true_eq]
  omega
/-- What is there while law04.right answers. -/
structure RgS (w : World) (gh gi : Nat) (H K : Array Value) (v : Value) (x : By) (a : World) : Prop where
  hd : Blk a gh 32 H
  ic : Blk a gi 45 K
  row : Row8 (w.heap.size + 1) a v x
  b : Below w.heap.size w a
  res : ∃ cs, Blk a w.heap.size 45 cs ∧ cs.size = 7
theorem RgS.on {w : World} {gh gi : Nat} {H K : Array Value} {v : Value} {x : By} {a b : World} (s : RgS w gh gi H K v x a) (hb : Below a.heap.size a b) : RgS w gh gi H K v x b :=
  ⟨s.hd.below hb s.hd.lt, s.ic.below hb s.ic.lt, s.row.below hb, s.b.trans (hb.mono s.b.size), by obtain ⟨cs, h, e⟩ := s.res; exact ⟨cs, h.below hb h.lt, e⟩⟩
theorem RgS.set {w : World} {gh gi : Nat} {H K : Array Value} {v : Value} {x : By} {a : World} (s : RgS w gh gi H K v x a) (h1 : w.heap.size < gh) (h2 : w.heap.size < gi) {vs : Array Value} (hv : vs.size = 7) : RgS w gh gi H K v x (a.setCells w.heap.size 0 vs.toList) ∧ Blk (a.setCells w.heap.size 0 vs.toList) w.heap.size 45 vs := by
  obtain ⟨cs, h, e⟩ := s.res
  have hu := Upd.setCells (F := fun k => k = w.heap.size) vs.toList 0 _ (Upd.refl (fun k => k = w.heap.size) a) (.inl rfl)
  have hk := blk_setCells (vs := vs) h (by rw [hv, e])
  refine ⟨⟨(hu.block _ s.hd.lt (fun (e : gh = _) => by omega)).trans s.hd, (hu.block _ s.ic.lt (fun (e : gi = _) => by omega)).trans s.ic, ?_, below_setCells (Nat.le_refl _) _ 0 _ s.b, vs, hk, hv⟩, hk⟩
  exact own_keep s.row (hu.same (I := fun k => w.heap.size < k) fun k (hk : k = _) hi => by omega) fun g hg => by have := (own_lt s.row hg).1; omega
set_option maxRecDepth 100000 in
set_option maxHeartbeats 8000000 in
attribute [-go_sem] Instr.storeAt Instr.loadAt in
theorem right_any (A : Option Addr) (n c : Nat) (x : By) (fr dt : Nat) (I : Nat → Prop) (w : World) (h : Reads w I 1 A n (bytesV x)) (hn : x.length = n) (hc : n ≤ c) (hsm : n ≤ 1000000) :
    Calls Try.prog 35 #[.slice A n c, .int .u32 (fr : Int), .int .u32 (dt : Int)] w fun e w' => ∃ v, e = .returned (.tuple #[icV (icOf (prsF x).2.1).1 v, .bool (rightF x fr dt)]) ∧ Row8 w.heap.size w' v (icOf (prsF x).2.1).1.body ∧ Below w.heap.size w w' := by
  obtain ⟨W, hW⟩ : ∃ W, W = w.alloc (.cells #[.int .u8 0, .int .u8 0, .int .u8 0, .int .u8 0, .int .u8 0, .int .u8 0, .slice none 0 0] 45) := ⟨_, rfl⟩
  have hb0 : Below w.heap.size w W := by rw [hW]; exact (Below.refl _ _).alloc (Nat.le_refl _) _
  have hk0 : Blk W w.heap.size 45 #[.int .u8 0, .int .u8 0, .int .u8 0, .int .u8 0, .int .u8 0, .int .u8 0, .slice none 0 0] := by rw [hW]; exact Blk.new _ _ _
  have hr0 := (h.lt).keep (Same.ofBelow hb0 fun k hk => hk.2)
  have hpa := parse_any A n c x _ W hr0 hn hc hsm
  have hpl := prs_len x
  obtain ⟨E, hE⟩ : ∃ E, E = rightF x fr dt := ⟨_, rfl⟩
  rw [← hE]
  unfold rightF at hE
  obtain ⟨R, hR⟩ : ∃ R, R = prsF x := ⟨_, rfl⟩
  rw [← hR] at hpa hE hpl ⊢
  obtain ⟨g, y, f⟩ := R
  simp only at hE hpl ⊢
  obtain ⟨O, hO⟩ : ∃ O, O = icOf y := ⟨_, rfl⟩
  rw [← hO] at hE ⊢
  have HPA := Lib.hid hpa
  have HO := Lib.hid hO
  obtain ⟨q, hq⟩ : ∃ q, q = y.length := ⟨_, rfl⟩
  have HQ := Lib.hid hq
  have hqs : q ≤ 1000000 := by omega
  obtain ⟨M, er⟩ := O
  obtain ⟨pr, hpr⟩ : ∃ z : Int, z = (g.proto : Int) := ⟨_, rfl⟩
  obtain ⟨tt, htt⟩ : ∃ z : Int, z = (g.ttl : Int) := ⟨_, rfl⟩
  obtain ⟨sr, hsr⟩ : ∃ z : Int, z = (g.src : Int) := ⟨_, rfl⟩
  obtain ⟨ds, hds⟩ : ∃ z : Int, z = (g.dst : Int) := ⟨_, rfl⟩
  obtain ⟨u0, hu0⟩ : ∃ b, b = decide (f = 0) := ⟨_, rfl⟩
  obtain ⟨u1, hu1⟩ : ∃ b, b = decide (g.proto = 1) := ⟨_, rfl⟩
  obtain ⟨u2, hu2⟩ : ∃ b, b = decide (g.ttl = 64) := ⟨_, rfl⟩
  obtain ⟨u3, hu3⟩ : ∃ b, b = decide (g.src = fr) := ⟨_, rfl⟩
  obtain ⟨u4, hu4⟩ : ∃ b, b = decide (g.dst = dt) := ⟨_, rfl⟩
  obtain ⟨u5, hu5⟩ : ∃ b, b = decide (er = 0) := ⟨_, rfl⟩
  simp only at hE
  rw [← hu0, ← hu1, ← hu2, ← hu3, ← hu4, ← hu5] at hE
  have f0 : ((f : Int) == 0) = u0 := by rw [hu0]; exact nat_beq f 0
  have f1 : (pr == 1) = u1 := by rw [hu1, hpr]; exact nat_beq g.proto 1
  have f2 : (tt == 64) = u2 := by rw [hu2, htt]; exact nat_beq g.ttl 64
  have f3 : (sr == (fr : Int)) = u3 := by rw [hu3, hsr]; exact nat_beq g.src fr
  have f4 : (ds == (dt : Int)) = u4 := by rw [hu4, hds]; exact nat_beq g.dst dt
  have f5 : ((er : Int) == 0) = u5 := by rw [hu5]; exact nat_beq er 0
  have HE := Lib.hid hE
  have HW := Lib.hid hW
  have HB0 := Lib.hid hb0
  have HK0 := Lib.hid hk0
  have HPR := Lib.hid hpr
  have HTT := Lib.hid htt
  have HSR := Lib.hid hsr
  have HDS := Lib.hid hds
  clear hpa hpl hE hR hO hq hpr htt hsr hds hu0 hu1 hu2 hu3 hu4 hu5 hW hb0 hk0 hr0 h hn hc hsm
  go_enter Try.func35, Try.ntmps35
  go_upto_region 1 with (fail)
  rw [← HW.out]
  go_upto_region 2 with
    (go_at_call 34
     refine HPA.out.mono ?_
     rintro e w1 ⟨vo, vq, rfl, ho, hq, _, hb⟩
     obtain ⟨Ao, co, rfl, _⟩ := ho.form
     obtain ⟨Aq, cq, rfl, hcq⟩ := hq.form
     have hrq := hq.reads.2
     rw [show (g, y, f).2.1.length = q from HQ.out.symm] at hcq hrq ⊢
     have hb1 := HB0.out.trans (hb.mono HB0.out.size)
     have HL0 := Lib.hid (Nat.lt_of_lt_of_le HK0.out.lt hb.size)
     obtain ⟨w2, hst, hb2, hb12, hk2⟩ := hd_var hb1 hb1.size g Ao g.opts.length co
     have HB2 := Lib.hid hb2
     have HH2 := Lib.hid hk2
     have HK2 := Lib.hid ((HK0.out.below hb HK0.out.lt).below hb12 (Nat.lt_of_lt_of_le HK0.out.lt hb.size))
     have hof := icof_any Aq q cq y _ w2 (hrq.keep (Same.ofBelow hb12 fun k hk => hk.2)) HQ.out.symm hcq hqs
     rw [← HO.out] at hof
     have HOF := Lib.hid hof
     clear ho hq hb hb1 hb2 hb12 hk2 hrq hcq hof)
  clear hst
  obtain ⟨gh, hgh⟩ : ∃ z, z = w1.heap.size := ⟨_, rfl⟩
  have HL1 := Lib.hid (show w.heap.size < gh by rw [hgh]; exact HL0.out)
  rw [← hgh] at HH2 ⊢
  clear hgh
  go_upto_region 3 with
    (go_at_call 22
     refine HOF.out.mono ?_
     rintro e w3 ⟨v3, rfl, h3, hb3⟩
     obtain ⟨A3, c3, rfl, _⟩ := h3.form
     have hb23 := HB2.out.trans (hb3.mono HB2.out.size)
     have HL3 := Lib.hid (Nat.lt_of_lt_of_le HK2.out.lt hb3.size)
     obtain ⟨w4, hst, hb4, hb34, hk4⟩ := ic_var hb23 hb23.size M A3 M.body.length c3
     have HB4 := Lib.hid hb4
     have HH4 := Lib.hid ((HH2.out.below hb3 HH2.out.lt).below hb34 (Nat.lt_of_lt_of_le HH2.out.lt hb3.size))
     have HK4 := Lib.hid ((HK2.out.below hb3 HK2.out.lt).below hb34 (Nat.lt_of_lt_of_le HK2.out.lt hb3.size))
     have HI4 := Lib.hid hk4
     have hr4 : Row8 (w.heap.size + 1) w3 (.slice A3 M.body.length c3) M.body := own_base h3 (show w.heap.size + 1 ≤ w2.heap.size from HK2.out.lt)
     have HR4 := Lib.hid (Row8.below hr4 hb34)
     unfold icV
     clear h3 hb3 hb23 hb4 hb34 hk4 hr4)
  clear hst
  obtain ⟨gi, hgi⟩ : ∃ z, z = w3.heap.size := ⟨_, rfl⟩
  have hlt2 : w.heap.size < gi := by rw [hgi]; exact HL3.out
  rw [← hgi] at HI4 ⊢
  clear hgi
  have S0 := Lib.hid (⟨HH4.out, HI4.out, HR4.out, HB4.out, _, HK4.out, rfl⟩ : RgS w gh gi (hdC g (.slice Ao g.opts.length co)) (icC M (.slice A3 M.body.length c3)) (.slice A3 M.body.length c3) M.body w4)
  have HL2 := Lib.hid hlt2
  clear hlt2
  have HCC := Lib.hid (fun (a b : World) (ha : RgS w gh gi (hdC g (.slice Ao g.opts.length co)) (icC M (.slice A3 M.body.length c3)) (.slice A3 M.body.length c3) M.body a) (hb : Below a.heap.size a b) => ha.on hb)
  cases u0 with
  | false =>
    have hfin := HE.out
    refine wp_region_mix [(true, 30), (false, 2)] 1 (by kernel_rfl) (fun a => RgS w gh gi (hdC g (.slice Ao g.opts.length co)) (icC M (.slice A3 M.body.length c3)) (.slice A3 M.body.length c3) M.body a) HCC.out (by kernel_rfl) S0.out (a' := ?_) (fun wz hz => ?_) fun wz hz => ?_
    rotate_left
    · have g1 := fun (d : Nat) (os : Array Obj) => ld_u8s (z := pr) (by rw [HPR.out]; exact (hz.on (below_regrown wz d os)).hd.cell 7)
      have g2 := fun (d : Nat) (os : Array Obj) => ld_u8s (z := tt) (by rw [HTT.out]; exact (hz.on (below_regrown wz d os)).hd.cell 6)
      have g3 := fun (d : Nat) (os : Array Obj) => ld_u32s (z := sr) (by rw [HSR.out]; exact (hz.on (below_regrown wz d os)).hd.cell 8)
      have g4 := fun (d : Nat) (os : Array Obj) => ld_u32s (z := ds) (by rw [HDS.out]; exact (hz.on (below_regrown wz d os)).hd.cell 9)
      have g5 := fun (d : Nat) (os : Array Obj) => ic_load (hz.on (below_regrown wz d os)).ic rfl
      have k3 := fun (v : Int) (d : Nat) (os : Array Obj) => Calls.regrown_of ((num4_any v (grow (redrawn wz d) os)).mono fun _ _ ⟨h1, h2⟩ => ⟨h1, h2 ▸ Below.refl _ _⟩)
      clear hz
      simp only [pick_nil, pick_tt, pick_ft, List.take_succ_cons, List.take_zero, List.drop_succ_cons, List.drop_zero, List.append_nil]
      repeat (go_big_quiet_step (first | with_reducible exact k3 _ _ _))
      refine wpQuiet_nil ?_
      rfl
    · simp only [pick_nil, pick_ff, pick_tf, List.take_succ_cons, List.take_zero, List.drop_succ_cons, List.drop_zero, List.append_nil]
      have T0 := Lib.hid (HCC.out _ _ S0.out hz)
      clear hz
      refine wpMix_step T0.out fun wa ha => ?_
      have T1 := Lib.hid (HCC.out _ _ T0.out ha)
      clear ha
      obtain ⟨cs, kr, ks⟩ := T1.out.res
      have hst := ic_store (vs := icC M (.slice A3 M.body.length c3)) kr ks rfl (by simp [icC, Value.oneCell'])
      obtain ⟨t2, t2r⟩ := T1.out.set HL1.out HL2.out (vs := icC M (.slice A3 M.body.length c3)) rfl
      obtain ⟨wb, hwb⟩ : ∃ x, x = wa.setCells w.heap.size 0 (icC M (.slice A3 M.body.length c3)).toList := ⟨_, rfl⟩
      rw [← hwb] at hst t2 t2r
      have T2 := Lib.hid t2
      have T2R := Lib.hid t2r
      clear t2 t2r hwb kr ks
      go_wp2_with fail
      refine wpMix_step T2.out fun wc hc => ?_
      have T3 := Lib.hid (HCC.out _ _ T2.out hc)
      have T3R := Lib.hid (T2R.out.below hc T2R.out.lt)
      clear hc hst
      go_wp2_with fail
      refine wpMix_plain ?_
      go_wp2_with fail
      refine bodyPost_ret_by (res_ic (cs := icC M (.slice A3 M.body.length c3)) rfl _ rfl T3R.out rfl) rfl ?_
      refine ⟨.slice A3 M.body.length c3, ?_, own_base T3.out.row (Nat.le_succ _), T3.out.b⟩
      rw [hfin]
      rfl
  | true =>
    cases u1 with
    | false =>
      have hfin := HE.out
      refine wp_region_mix [(true, 30), (false, 2)] 1 (by kernel_rfl) (fun a => RgS w gh gi (hdC g (.slice Ao g.opts.length co)) (icC M (.slice A3 M.body.length c3)) (.slice A3 M.body.length c3) M.body a) HCC.out (by kernel_rfl) S0.out (a' := ?_) (fun wz hz => ?_) fun wz hz => ?_
      rotate_left
      · have g1 := fun (d : Nat) (os : Array Obj) => ld_u8s (z := pr) (by rw [HPR.out]; exact (hz.on (below_regrown wz d os)).hd.cell 7)
        have g2 := fun (d : Nat) (os : Array Obj) => ld_u8s (z := tt) (by rw [HTT.out]; exact (hz.on (below_regrown wz d os)).hd.cell 6)
        have g3 := fun (d : Nat) (os : Array Obj) => ld_u32s (z := sr) (by rw [HSR.out]; exact (hz.on (below_regrown wz d os)).hd.cell 8)
        have g4 := fun (d : Nat) (os : Array Obj) => ld_u32s (z := ds) (by rw [HDS.out]; exact (hz.on (below_regrown wz d os)).hd.cell 9)
        have g5 := fun (d : Nat) (os : Array Obj) => ic_load (hz.on (below_regrown wz d os)).ic rfl
        have k3 := fun (v : Int) (d : Nat) (os : Array Obj) => Calls.regrown_of ((num4_any v (grow (redrawn wz d) os)).mono fun _ _ ⟨h1, h2⟩ => ⟨h1, h2 ▸ Below.refl _ _⟩)
        clear hz
        simp only [pick_nil, pick_tt, pick_ft, List.take_succ_cons, List.take_zero, List.drop_succ_cons, List.drop_zero, List.append_nil]
        repeat (go_big_quiet_step (first | with_reducible exact k3 _ _ _))
        refine wpQuiet_nil ?_
        rfl
      · simp only [pick_nil, pick_ff, pick_tf, List.take_succ_cons, List.take_zero, List.drop_succ_cons, List.drop_zero, List.append_nil]
        have T0 := Lib.hid (HCC.out _ _ S0.out hz)
        clear hz
        refine wpMix_step T0.out fun wa ha => ?_
        have T1 := Lib.hid (HCC.out _ _ T0.out ha)
        clear ha
        obtain ⟨cs, kr, ks⟩ := T1.out.res
        have hst := ic_store (vs := icC M (.slice A3 M.body.length c3)) kr ks rfl (by simp [icC, Value.oneCell'])
        obtain ⟨t2, t2r⟩ := T1.out.set HL1.out HL2.out (vs := icC M (.slice A3 M.body.length c3)) rfl
        obtain ⟨wb, hwb⟩ : ∃ x, x = wa.setCells w.heap.size 0 (icC M (.slice A3 M.body.length c3)).toList := ⟨_, rfl⟩
        rw [← hwb] at hst t2 t2r
        have T2 := Lib.hid t2
        have T2R := Lib.hid t2r
        clear t2 t2r hwb kr ks
        go_wp2_with fail
        refine wpMix_step T2.out fun wc hc => ?_
        have T3 := Lib.hid (HCC.out _ _ T2.out hc)
        have T3R := Lib.hid (T2R.out.below hc T2R.out.lt)
        clear hc hst
        go_wp2_with fail
        refine wpMix_plain ?_
        go_wp2_with fail
        refine bodyPost_ret_by (res_ic (cs := icC M (.slice A3 M.body.length c3)) rfl _ rfl T3R.out rfl) rfl ?_
        refine ⟨.slice A3 M.body.length c3, ?_, own_base T3.out.row (Nat.le_succ _), T3.out.b⟩
        rw [hfin]
        rfl
    | true =>
      cases u2 with
      | false =>
        have hfin := HE.out
        refine wp_region_mix [(true, 30), (false, 2)] 1 (by kernel_rfl) (fun a => RgS w gh gi (hdC g (.slice Ao g.opts.length co)) (icC M (.slice A3 M.body.length c3)) (.slice A3 M.body.length c3) M.body a) HCC.out (by kernel_rfl) S0.out (a' := ?_) (fun wz hz => ?_) fun wz hz => ?_
        rotate_left
        · have g1 := fun (d : Nat) (os : Array Obj) => ld_u8s (z := pr) (by rw [HPR.out]; exact (hz.on (below_regrown wz d os)).hd.cell 7)
          have g2 := fun (d : Nat) (os : Array Obj) => ld_u8s (z := tt) (by rw [HTT.out]; exact (hz.on (below_regrown wz d os)).hd.cell 6)
          have g3 := fun (d : Nat) (os : Array Obj) => ld_u32s (z := sr) (by rw [HSR.out]; exact (hz.on (below_regrown wz d os)).hd.cell 8)
          have g4 := fun (d : Nat) (os : Array Obj) => ld_u32s (z := ds) (by rw [HDS.out]; exact (hz.on (below_regrown wz d os)).hd.cell 9)
          have g5 := fun (d : Nat) (os : Array Obj) => ic_load (hz.on (below_regrown wz d os)).ic rfl
          have k3 := fun (v : Int) (d : Nat) (os : Array Obj) => Calls.regrown_of ((num4_any v (grow (redrawn wz d) os)).mono fun _ _ ⟨h1, h2⟩ => ⟨h1, h2 ▸ Below.refl _ _⟩)
          clear hz
          simp only [pick_nil, pick_tt, pick_ft, List.take_succ_cons, List.take_zero, List.drop_succ_cons, List.drop_zero, List.append_nil]
          repeat (go_big_quiet_step (first | with_reducible exact k3 _ _ _))
          refine wpQuiet_nil ?_
          rfl
        · simp only [pick_nil, pick_ff, pick_tf, List.take_succ_cons, List.take_zero, List.drop_succ_cons, List.drop_zero, List.append_nil]
          have T0 := Lib.hid (HCC.out _ _ S0.out hz)
          clear hz
          refine wpMix_step T0.out fun wa ha => ?_
          have T1 := Lib.hid (HCC.out _ _ T0.out ha)
          clear ha
          obtain ⟨cs, kr, ks⟩ := T1.out.res
          have hst := ic_store (vs := icC M (.slice A3 M.body.length c3)) kr ks rfl (by simp [icC, Value.oneCell'])
          obtain ⟨t2, t2r⟩ := T1.out.set HL1.out HL2.out (vs := icC M (.slice A3 M.body.length c3)) rfl
          obtain ⟨wb, hwb⟩ : ∃ x, x = wa.setCells w.heap.size 0 (icC M (.slice A3 M.body.length c3)).toList := ⟨_, rfl⟩
          rw [← hwb] at hst t2 t2r
          have T2 := Lib.hid t2
          have T2R := Lib.hid t2r
          clear t2 t2r hwb kr ks
          go_wp2_with fail
          refine wpMix_step T2.out fun wc hc => ?_
          have T3 := Lib.hid (HCC.out _ _ T2.out hc)
          have T3R := Lib.hid (T2R.out.below hc T2R.out.lt)
          clear hc hst
          go_wp2_with fail
          refine wpMix_plain ?_
          go_wp2_with fail
          refine bodyPost_ret_by (res_ic (cs := icC M (.slice A3 M.body.length c3)) rfl _ rfl T3R.out rfl) rfl ?_
          refine ⟨.slice A3 M.body.length c3, ?_, own_base T3.out.row (Nat.le_succ _), T3.out.b⟩
          rw [hfin]
          rfl
      | true =>
        cases u3 with
        | false =>
          have hfin := HE.out
          refine wp_region_mix [(true, 30), (false, 2)] 1 (by kernel_rfl) (fun a => RgS w gh gi (hdC g (.slice Ao g.opts.length co)) (icC M (.slice A3 M.body.length c3)) (.slice A3 M.body.length c3) M.body a) HCC.out (by kernel_rfl) S0.out (a' := ?_) (fun wz hz => ?_) fun wz hz => ?_
          rotate_left
          · have g1 := fun (d : Nat) (os : Array Obj) => ld_u8s (z := pr) (by rw [HPR.out]; exact (hz.on (below_regrown wz d os)).hd.cell 7)
            have g2 := fun (d : Nat) (os : Array Obj) => ld_u8s (z := tt) (by rw [HTT.out]; exact (hz.on (below_regrown wz d os)).hd.cell 6)
            have g3 := fun (d : Nat) (os : Array Obj) => ld_u32s (z := sr) (by rw [HSR.out]; exact (hz.on (below_regrown wz d os)).hd.cell 8)
            have g4 := fun (d : Nat) (os : Array Obj) => ld_u32s (z := ds) (by rw [HDS.out]; exact (hz.on (below_regrown wz d os)).hd.cell 9)
            have g5 := fun (d : Nat) (os : Array Obj) => ic_load (hz.on (below_regrown wz d os)).ic rfl
            have k3 := fun (v : Int) (d : Nat) (os : Array Obj) => Calls.regrown_of ((num4_any v (grow (redrawn wz d) os)).mono fun _ _ ⟨h1, h2⟩ => ⟨h1, h2 ▸ Below.refl _ _⟩)
            clear hz
            simp only [pick_nil, pick_tt, pick_ft, List.take_succ_cons, List.take_zero, List.drop_succ_cons, List.drop_zero, List.append_nil]
            repeat (go_big_quiet_step (first | with_reducible exact k3 _ _ _))
            refine wpQuiet_nil ?_
            rfl
          · simp only [pick_nil, pick_ff, pick_tf, List.take_succ_cons, List.take_zero, List.drop_succ_cons, List.drop_zero, List.append_nil]
            have T0 := Lib.hid (HCC.out _ _ S0.out hz)
            clear hz
            refine wpMix_step T0.out fun wa ha => ?_
            have T1 := Lib.hid (HCC.out _ _ T0.out ha)
            clear ha
            obtain ⟨cs, kr, ks⟩ := T1.out.res
            have hst := ic_store (vs := icC M (.slice A3 M.body.length c3)) kr ks rfl (by simp [icC, Value.oneCell'])
            obtain ⟨t2, t2r⟩ := T1.out.set HL1.out HL2.out (vs := icC M (.slice A3 M.body.length c3)) rfl
            obtain ⟨wb, hwb⟩ : ∃ x, x = wa.setCells w.heap.size 0 (icC M (.slice A3 M.body.length c3)).toList := ⟨_, rfl⟩
            rw [← hwb] at hst t2 t2r
            have T2 := Lib.hid t2
            have T2R := Lib.hid t2r
            clear t2 t2r hwb kr ks
            go_wp2_with fail
            refine wpMix_step T2.out fun wc hc => ?_
            have T3 := Lib.hid (HCC.out _ _ T2.out hc)
            have T3R := Lib.hid (T2R.out.below hc T2R.out.lt)
            clear hc hst
            go_wp2_with fail
            refine wpMix_plain ?_
            go_wp2_with fail
            refine bodyPost_ret_by (res_ic (cs := icC M (.slice A3 M.body.length c3)) rfl _ rfl T3R.out rfl) rfl ?_
            refine ⟨.slice A3 M.body.length c3, ?_, own_base T3.out.row (Nat.le_succ _), T3.out.b⟩
            rw [hfin]
            rfl
        | true =>
          cases u4 with
          | false =>
            have hfin := HE.out
            refine wp_region_mix [(true, 30), (false, 2)] 1 (by kernel_rfl) (fun a => RgS w gh gi (hdC g (.slice Ao g.opts.length co)) (icC M (.slice A3 M.body.length c3)) (.slice A3 M.body.length c3) M.body a) HCC.out (by kernel_rfl) S0.out (a' := ?_) (fun wz hz => ?_) fun wz hz => ?_
            rotate_left
            · have g1 := fun (d : Nat) (os : Array Obj) => ld_u8s (z := pr) (by rw [HPR.out]; exact (hz.on (below_regrown wz d os)).hd.cell 7)
              have g2 := fun (d : Nat) (os : Array Obj) => ld_u8s (z := tt) (by rw [HTT.out]; exact (hz.on (below_regrown wz d os)).hd.cell 6)
              have g3 := fun (d : Nat) (os : Array Obj) => ld_u32s (z := sr) (by rw [HSR.out]; exact (hz.on (below_regrown wz d os)).hd.cell 8)
              have g4 := fun (d : Nat) (os : Array Obj) => ld_u32s (z := ds) (by rw [HDS.out]; exact (hz.on (below_regrown wz d os)).hd.cell 9)
              have g5 := fun (d : Nat) (os : Array Obj) => ic_load (hz.on (below_regrown wz d os)).ic rfl
              have k3 := fun (v : Int) (d : Nat) (os : Array Obj) => Calls.regrown_of ((num4_any v (grow (redrawn wz d) os)).mono fun _ _ ⟨h1, h2⟩ => ⟨h1, h2 ▸ Below.refl _ _⟩)
              clear hz
              simp only [pick_nil, pick_tt, pick_ft, List.take_succ_cons, List.take_zero, List.drop_succ_cons, List.drop_zero, List.append_nil]
              repeat (go_big_quiet_step (first | with_reducible exact k3 _ _ _))
              refine wpQuiet_nil ?_
              rfl
            · simp only [pick_nil, pick_ff, pick_tf, List.take_succ_cons, List.take_zero, List.drop_succ_cons, List.drop_zero, List.append_nil]
              have T0 := Lib.hid (HCC.out _ _ S0.out hz)
              clear hz
              refine wpMix_step T0.out fun wa ha => ?_
              have T1 := Lib.hid (HCC.out _ _ T0.out ha)
              clear ha
              obtain ⟨cs, kr, ks⟩ := T1.out.res
              have hst := ic_store (vs := icC M (.slice A3 M.body.length c3)) kr ks rfl (by simp [icC, Value.oneCell'])
              obtain ⟨t2, t2r⟩ := T1.out.set HL1.out HL2.out (vs := icC M (.slice A3 M.body.length c3)) rfl
              obtain ⟨wb, hwb⟩ : ∃ x, x = wa.setCells w.heap.size 0 (icC M (.slice A3 M.body.length c3)).toList := ⟨_, rfl⟩
              rw [← hwb] at hst t2 t2r
              have T2 := Lib.hid t2
              have T2R := Lib.hid t2r
              clear t2 t2r hwb kr ks
              go_wp2_with fail
              refine wpMix_step T2.out fun wc hc => ?_
              have T3 := Lib.hid (HCC.out _ _ T2.out hc)
              have T3R := Lib.hid (T2R.out.below hc T2R.out.lt)
              clear hc hst
              go_wp2_with fail
              refine wpMix_plain ?_
              go_wp2_with fail
              refine bodyPost_ret_by (res_ic (cs := icC M (.slice A3 M.body.length c3)) rfl _ rfl T3R.out rfl) rfl ?_
              refine ⟨.slice A3 M.body.length c3, ?_, own_base T3.out.row (Nat.le_succ _), T3.out.b⟩
              rw [hfin]
              rfl
          | true =>
            have hfin := HE.out
            refine wp_region_mix [(true, 30), (false, 2)] 1 (by kernel_rfl) (fun a => RgS w gh gi (hdC g (.slice Ao g.opts.length co)) (icC M (.slice A3 M.body.length c3)) (.slice A3 M.body.length c3) M.body a) HCC.out (by kernel_rfl) S0.out (a' := ?_) (fun wz hz => ?_) fun wz hz => ?_
            rotate_left
            · have g1 := fun (d : Nat) (os : Array Obj) => ld_u8s (z := pr) (by rw [HPR.out]; exact (hz.on (below_regrown wz d os)).hd.cell 7)
              have g2 := fun (d : Nat) (os : Array Obj) => ld_u8s (z := tt) (by rw [HTT.out]; exact (hz.on (below_regrown wz d os)).hd.cell 6)
              have g3 := fun (d : Nat) (os : Array Obj) => ld_u32s (z := sr) (by rw [HSR.out]; exact (hz.on (below_regrown wz d os)).hd.cell 8)
              have g4 := fun (d : Nat) (os : Array Obj) => ld_u32s (z := ds) (by rw [HDS.out]; exact (hz.on (below_regrown wz d os)).hd.cell 9)
              have g5 := fun (d : Nat) (os : Array Obj) => ic_load (hz.on (below_regrown wz d os)).ic rfl
              have k3 := fun (v : Int) (d : Nat) (os : Array Obj) => Calls.regrown_of ((num4_any v (grow (redrawn wz d) os)).mono fun _ _ ⟨h1, h2⟩ => ⟨h1, h2 ▸ Below.refl _ _⟩)
              clear hz
              simp only [pick_nil, pick_tt, pick_ft, List.take_succ_cons, List.take_zero, List.drop_succ_cons, List.drop_zero, List.append_nil]
              repeat (go_big_quiet_step (first | with_reducible exact k3 _ _ _))
              refine wpQuiet_nil ?_
              rfl
            · simp only [pick_nil, pick_ff, pick_tf, List.take_succ_cons, List.take_zero, List.drop_succ_cons, List.drop_zero, List.append_nil]
              have T0 := Lib.hid (HCC.out _ _ S0.out hz)
              clear hz
              refine wpMix_step T0.out fun wa ha => ?_
              have T1 := Lib.hid (HCC.out _ _ T0.out ha)
              clear ha
              obtain ⟨cs, kr, ks⟩ := T1.out.res
              have hst := ic_store (vs := icC M (.slice A3 M.body.length c3)) kr ks rfl (by simp [icC, Value.oneCell'])
              obtain ⟨t2, t2r⟩ := T1.out.set HL1.out HL2.out (vs := icC M (.slice A3 M.body.length c3)) rfl
              obtain ⟨wb, hwb⟩ : ∃ x, x = wa.setCells w.heap.size 0 (icC M (.slice A3 M.body.length c3)).toList := ⟨_, rfl⟩
              rw [← hwb] at hst t2 t2r
              have T2 := Lib.hid t2
              have T2R := Lib.hid t2r
              clear t2 t2r hwb kr ks
              go_wp2_with fail
              refine wpMix_step T2.out fun wc hc => ?_
              have T3 := Lib.hid (HCC.out _ _ T2.out hc)
              have T3R := Lib.hid (T2R.out.below hc T2R.out.lt)
              clear hc hst
              go_wp2_with fail
              refine wpMix_plain ?_
              go_wp2_with fail
              refine bodyPost_ret_by (res_ic (cs := icC M (.slice A3 M.body.length c3)) rfl _ rfl T3R.out rfl) rfl ?_
              refine ⟨.slice A3 M.body.length c3, ?_, own_base T3.out.row (Nat.le_succ _), T3.out.b⟩
              rw [hfin]
              rfl
end Go.Proofs.Ytihfihehiifdkaa
namespace Go.Proofs.Ytihfihehiifdkaa
open Go.RowKit Go.Sort Go.BigFrame
theorem sameI_self (m : Ic) : sameI m m = true := (sameI_iff m m).2 rfl
theorem errM_ty (k : Int) (mtu : Nat) (q : By) : (errM k mtu q).ty = 11 ∨ (errM k mtu q).ty = 3 := by
  unfold errM
  by_cases h : k = 3
  · left; simp [h]
  · right; simp [h]
theorem errM_err (k : Int) (mtu : Nat) (q : By) : errT (errM k mtu q).ty = true := by
  rcases errM_ty k mtu q with h | h <;> rw [h] <;> decide
theorem icB_head (m : Ic) : (icB m).getD 0 0 = m.ty := by
  unfold icB icW
  rfl
/-- What an error says, whoever reads it. -/
theorem err_means {k : Int} {x : By} {fr : Nat} {mtu : Int} (h1 : fr < 2 ^ 32) (h : (errF k x fr mtu).2 = 0) :
    (prsF x).2.2 = 0 ∧ (icOf (prsF (errF k x fr mtu).1).2.1).1 = errM k mtu.toNat (quoteF x).1 ∧ rightF (errF k x fr mtu).1 fr (prsF x).1.src = true ∧ emayF (errF k x fr mtu).1 = false ∧ echoF (errF k x fr mtu).1 = false ∧ (quoteF x).2 = 0 := by
  obtain ⟨h0, _, _, hb⟩ := err_back h1 h
  have he := errM_err k mtu.toNat (quoteF x).1
  have ht := errM_ty k mtu.toNat (quoteF x).1
  refine ⟨h0, ?_, ?_, ?_, ?_, quote_good h0⟩
  · rw [hb]
    simp only
    rw [ic_back]
  · unfold rightF
    rw [hb]
    simp only
    rw [ic_back]
    simp [errH]
  · unfold emayF emayH
    rw [hb]
    simp only
    rw [icB_head, he]
    simp [errH]
  · unfold echoF echoH
    rw [hb]
    simp only
    rw [ic_back]
    rcases ht with ht | ht <;> rw [ht] <;> simp
/-- What a reply says. -/
theorem reply_means {x : By} (h : (replyF x).2 = 0) :
    (prsF x).2.2 = 0 ∧ (icOf (prsF (replyF x).1).2.1).1.ty = 0 ∧ rightF (replyF x).1 (prsF x).1.dst (prsF x).1.src = true ∧ echoF (replyF x).1 = false := by
  obtain ⟨h0, _, hb⟩ := reply_back h
  refine ⟨h0, ?_, ?_, ?_⟩
  · rw [hb]
    simp only
    rw [ic_back]
  · unfold rightF
    rw [hb]
    simp only
    rw [ic_back]
    simp [replyH]
  · unfold echoF echoH
    rw [hb]
    simp only
    rw [ic_back]
    simp
end Go.Proofs.Ytihfihehiifdkaa
namespace Go.Proofs.Ytihfihehiifdkaa
open Go.RowKit Go.Sort Go.BigFrame
theorem reply_small {x : By} (h : (replyF x).2 = 0) : (replyF x).1.length ≤ 65535 := by
  unfold replyF at h ⊢
  split at h
  · cases h
  split at h
  · cases h
  rename_i a1 a2
  rw [if_neg a1, if_neg a2]
  have he : echoF x = true := by simpa using a2
  have hl := reply_len he
  show (bytesF _ _).length ≤ _
  rw [bytesF_len, icB_len]
  show 20 + 0 + (8 + (icOf (prsF x).2.1).1.body.length) ≤ 65535
  omega
set_option maxRecDepth 100000 in
set_option maxHeartbeats 16000000 in
attribute [-go_sem] Instr.storeAt Instr.loadAt in
theorem icmpmeans_any (m : Ic) (Am : Option Addr) (nm cm : Nat) (k mtu : Int) (fr : Nat) (A : Option Addr) (n c : Nat) (x : By) (w : World) (hk : (Lit.int .i64 k).wf = true) (hfr : fr < 2 ^ 32) (hm : Reads w (fun k => k < w.heap.size) 1 Am nm (bytesV m.body)) (hnm : m.body.length = nm) (hcm : nm ≤ cm) (h : Reads w (fun k => k < w.heap.size) 1 A n (bytesV x)) (hn : x.length = n) (hc : n ≤ c) :
    Calls Try.prog 7 #[icV m (.slice Am nm cm), .int .i64 k, .slice A n c, .int .u32 (fr : Int), .int .i64 mtu] w fun e w' => e = .returned (.bool true) ∧ Below w.heap.size w w' := by
  have HK := Lib.hid (fun wx => known4_any wx)
  have HNM := Lib.hid (fun z wx => num4_any z wx)
  have HN := Lib.hid hn
  have HC := Lib.hid hc
  have HH := Lib.hid (show ∀ wx, Below w.heap.size w wx → Reads wx (fun k => k < w.heap.size) 1 A n (bytesV x) from fun wx hb => h.keep (Same.ofBelow hb fun k hk => hk))
  have HM := Lib.hid (show ∀ wx, Below w.heap.size w wx → Reads wx (fun k => k < w.heap.size) 1 Am nm (bytesV m.body) from fun wx hb => hm.keep (Same.ofBelow hb fun k hk => hk))
  have HNB := Lib.hid hnm
  have HCM := Lib.hid hcm
  have HSL := Lib.hid (show ∀ wx, Below w.heap.size w wx → Sl8 wx (fun k => k < w.heap.size) (.slice Am nm cm) m.body from fun wx hb => ⟨Am, cm, by rw [hnm], by rw [hnm]; exact hcm, by rw [hnm]; exact hm.keep (Same.ofBelow hb fun k hk => hk)⟩)
  obtain ⟨W, hW⟩ : ∃ W, W = w.alloc (.cells (icC m (.slice Am nm cm)) 45) := ⟨_, rfl⟩
  have hb0 : Below w.heap.size w W := by rw [hW]; exact (Below.refl _ _).alloc (Nat.le_refl _) _
  have hk0 : Blk W w.heap.size 45 (icC m (.slice Am nm cm)) := by rw [hW]; exact Blk.new _ _ _
  have HB0 := Lib.hid hb0
  have HKB := Lib.hid hk0
  have HW := Lib.hid hW
  unfold icC at HW
  clear hb0 hk0 hW hm hnm hcm h hn hc
  unfold icV icC
  go_enter Try.func7, Try.ntmps7
  go_upto_region 1 with (fail)
  rw [← HW.out]
  go_upto_region 3 with
    (go_at_call 13
     refine (HK.out _).mono ?_
     rintro e w1 ⟨rfl, hb⟩
     have HB1 := Lib.hid (HB0.out.trans (hb.mono HB0.out.size))
     have HK1 := Lib.hid (HKB.out.below hb HKB.out.lt)
     clear hb)
  have l6 := ld8s (HK1.out.cell 6)
  have hld1 := ic_load HK1.out rfl
  by_cases hbig : 9000 < nm ∨ 9000 < n
  · by_cases b1 : 9000 < nm
    · have d1 : decide ((9000 : Int) < (nm : Int)) = true := decide_eq_true (by omega)
      clear b1 hbig
      go_wp2_with fail
      go_ret
      exact ⟨rfl, HB1.out⟩
    · have d1 : decide ((9000 : Int) < (nm : Int)) = false := decide_eq_false (by omega)
      have d2 : decide ((9000 : Int) < (n : Int)) = true := decide_eq_true (by omega)
      clear b1 hbig
      go_wp2_with fail
      go_ret
      exact ⟨rfl, HB1.out⟩
  have d1 : decide ((9000 : Int) < (nm : Int)) = false := decide_eq_false (by omega)
  have d2 : decide ((9000 : Int) < (n : Int)) = false := decide_eq_false (by omega)
  have hsm : n ≤ 1000000 := by omega
  have hbm : m.body.length ≤ 900000 := by have := HNB.out; omega
  have hby := icbytes_any m (.slice Am nm cm) _ w1 (HSL.out _ HB1.out) hbm
  have hbl : (icB m).length ≤ 1000000 := by rw [icB_len]; omega
  unfold icV icC at hby
  have HBY := Lib.hid hby
  have HBL := Lib.hid hbl
  have HSM := Lib.hid hsm
  clear hby hbl hsm hbm hbig
  go_upto_region 6 with (first
    | (go_at_call 25
       refine HBY.out.mono ?_
       rintro e w2 ⟨v2, rfl, h2, hb2⟩
       obtain ⟨A2, c2, rfl, hc2⟩ := h2.form
       have hof := icof_any A2 (icB m).length c2 (icB m) _ w2 h2.reads.2 rfl hc2 HBL.out
       rw [ic_back] at hof
       have HOF := Lib.hid hof
       have HB2 := Lib.hid (HB1.out.trans (hb2.mono HB1.out.size))
       have HK2 := Lib.hid (HK1.out.below hb2 HK1.out.lt)
       clear h2 hb2 hof hc2)
    | (go_at_call 22
       refine HOF.out.mono ?_
       rintro e w3 ⟨v3, rfl, h3, hb3⟩
       obtain ⟨A3, c3, rfl, _⟩ := h3.form
       have hb23 := HB2.out.trans (hb3.mono HB2.out.size)
       obtain ⟨w4, hst, hb4, hb34, hk4⟩ := ic_var hb23 hb23.size m A3 m.body.length c3
       have HB4 := Lib.hid hb4
       have HK4 := Lib.hid ((HK2.out.below hb3 HK2.out.lt).below hb34 (Nat.lt_of_lt_of_le HK2.out.lt hb3.size))
       have HI4 := Lib.hid hk4
       have HR4 := Lib.hid (h3.below hb34)
       unfold icV
       clear h3 hb3 hb23 hb4 hb34 hk4))
  clear hst hld1
  obtain ⟨gi, hgi⟩ : ∃ z, z = w3.heap.size := ⟨_, rfl⟩
  rw [← hgi] at HI4 ⊢
  clear hgi
  have hld1 := ic_load HK4.out rfl
  have hld2 := ic_load HI4.out rfl
  have hs : Calls Try.prog 24 #[.agg (icC m (.slice A3 m.body.length c3)), .agg (icC m (.slice Am nm cm))] w4 fun e w' => e = .returned (.bool (sameI m m)) ∧ Below w4.heap.size w4 w' := rsame4_any m m A3 m.body.length c3 Am nm cm _ _ w4 HR4.out.reads.2 (HM.out w4 HB4.out) rfl HNB.out
  rw [sameI_self] at hs
  have HS := Lib.hid hs
  clear hs
  have x1 := err_means (k := k) (x := x) (fr := fr) (mtu := mtu) hfr
  have x2 := err_len (k := k) (x := x) (fr := fr) (mtu := mtu)
  have HQT := Lib.hid (fun wx (hb : Below w.heap.size w wx) => quote_any A n c x _ wx (HH.out wx hb) HN.out HC.out HSM.out)
  have HPA := Lib.hid (fun wx (hb : Below w.heap.size w wx) => parse_any A n c x _ wx (HH.out wx hb) HN.out HC.out HSM.out)
  have HER := Lib.hid (fun wx (hb : Below w.heap.size w wx) => icerror_any k mtu fr A n c x _ wx hk hfr (HH.out wx hb) HN.out HC.out HSM.out)
  have HRE := Lib.hid (fun wx (hb : Below w.heap.size w wx) => reply_any A n c x _ wx (HH.out wx hb) HN.out HC.out HSM.out)
  have HX3 := Lib.hid (quote_len x)
  have HX4 := Lib.hid (reply_means (x := x))
  obtain ⟨B, hB⟩ : ∃ B, B = errF k x fr mtu := ⟨_, rfl⟩
  rw [← hB] at HER x1 x2
  obtain ⟨b, eb⟩ := B
  simp only at HER x1 x2
  have HX1 := Lib.hid x1
  have HX2 := Lib.hid x2
  clear x1 x2 hB hk hfr
  go_upto_region 8 with (first
    | (go_at_call 15; refine (HNM.out _ _).mono ?_; rintro e w' ⟨rfl, rfl⟩)
    | (go_at_call 24
       refine HS.out.mono ?_
       rintro e w5 ⟨rfl, hb5⟩
       have HB5 := Lib.hid (HB4.out.trans (hb5.mono HB4.out.size))
       clear hb5))
  clear hld1 hld2
  go_upto_region 9 with
    (go_at_call 34
     refine (HPA.out _ HB5.out).mono ?_
     rintro e w6 ⟨vo, vq, rfl, ho, hq, _, hb6⟩
     obtain ⟨Ao, co, rfl, _⟩ := ho.form
     obtain ⟨Aq, cq, rfl, _⟩ := hq.form
     have hb56 := HB5.out.trans (hb6.mono HB5.out.size)
     obtain ⟨w7, hst, hb7, hb67, hk7⟩ := hd_var hb56 hb56.size (prsF x).1 Ao (prsF x).1.opts.length co
     have HB7 := Lib.hid hb7
     have HH7 := Lib.hid hk7
     clear ho hq hb6 hb56 hb7 hb67 hk7)
  clear hst
  obtain ⟨gh, hgh⟩ : ∃ z, z = w6.heap.size := ⟨_, rfl⟩
  rw [← hgh] at HH7 ⊢
  clear hgh
  go_upto_region 10 with
    (go_at_call 17
     refine (HER.out _ HB7.out).mono ?_
     rintro e w8 ⟨v8, rfl, h8, hb8⟩
     obtain ⟨A8, c8, rfl, hc8⟩ := h8.form
     have H8 := Lib.hid h8
     have HC8 := Lib.hid hc8
     have HB8 := Lib.hid (HB7.out.trans (hb8.mono HB7.out.size))
     have HH8 := Lib.hid (HH7.out.below hb8 HH7.out.lt)
     clear h8 hb8 hc8)
  have r8 := ld_u32s (HH8.out.cell 8)
  have r9 := ld_u32s (HH8.out.cell 9)
  by_cases he : eb = 0
  rotate_left
  · have b1 : ((eb : Int) == 0) = false := by rw [beq_eq_false_iff_ne]; omega
    clear he
    go_upto_region 18 with
      (first
      | (go_at_call 15; refine (HNM.out _ _).mono ?_; rintro e w' ⟨rfl, rfl⟩)
      | (go_at_call 30
         refine (HRE.out _ HB8.out).mono ?_
         rintro e w15 ⟨v15, rfl, h15, hb15⟩
         obtain ⟨A15, c15, rfl, hc15⟩ := h15.form
         have H15 := Lib.hid h15
         have HC15 := Lib.hid hc15
         have HB15 := Lib.hid (HB8.out.trans (hb15.mono HB8.out.size))
         have HH15 := Lib.hid (HH8.out.below hb15 HH8.out.lt)
         clear h15 hb15 hc15))
    by_cases hr : (replyF x).2 = 0
    rotate_left
    · have b2 : (((replyF x).2 : Int) != 0) = true := by rw [bne_iff_ne]; omega
      clear hr
      go_wp2_with (go_at_call 15; refine (HNM.out _ _).mono ?_; rintro e w' ⟨rfl, rfl⟩)
      go_ret
      exact ⟨rfl, HB15.out⟩
    have b2 : (((replyF x).2 : Int) != 0) = false := by rw [bne_eq_false_iff_eq]; omega
    obtain ⟨f0, fT, fR, fE⟩ := HX4.out hr
    have hrs : (replyF x).1.length ≤ 1000000 := by have := reply_small hr; omega
    have hri := right_any A15 (replyF x).1.length c15 (replyF x).1 (prsF x).1.dst (prsF x).1.src _ w15 H15.out.reads.2 rfl HC15.out hrs
    rw [fR] at hri
    obtain ⟨M16, hM16⟩ : ∃ M, M = (icOf (prsF (replyF x).1).2.1).1 := ⟨_, rfl⟩
    rw [← hM16] at hri fT
    have HRI := Lib.hid hri
    have HFT := Lib.hid fT
    have b3 : (((prsF x).2.2 : Int) == 0) = true := by rw [beq_iff_eq, f0]; rfl
    have hec := fun wx (hb : Below w15.heap.size w15 wx) => echo_any A15 (replyF x).1.length c15 (replyF x).1 _ wx (H15.out.below hb).reads.2 rfl HC15.out hrs
    rw [fE] at hec
    have HEC2 := Lib.hid hec
    have r8 := ld_u32s (HH15.out.cell 8)
    have r9 := ld_u32s (HH15.out.cell 9)
    clear hr f0 fT fR fE hrs hri hM16 hec
    go_upto_region 21 with (first
      | (go_at_call 15; refine (HNM.out _ _).mono ?_; rintro e w' ⟨rfl, rfl⟩)
      | (go_at_call 35
         refine HRI.out.mono ?_
         rintro e w16 ⟨v16, rfl, h16, hb16⟩
         obtain ⟨A16, c16, rfl, _⟩ := h16.form
         have hb156 := HB15.out.trans (hb16.mono HB15.out.size)
         obtain ⟨w17, hst, hb17, hb1617, hk17⟩ := ic_var hb156 hb156.size M16 A16 M16.body.length c16
         have HB17 := Lib.hid hb17
         have HB1517 := Lib.hid (hb16.trans (hb1617.mono hb16.size))
         have HI17 := Lib.hid hk17
         unfold icV
         clear h16 hb16 hb156 hb17 hb1617 hk17))
    clear hst r8 r9
    have lt0 := ld_u8s (show w17.cell? ⟨w16.heap.size, 0, none⟩ = some (.int .u8 0) from by
      have := HI17.out.cell 0
      unfold icC at this
      rw [HFT.out] at this
      exact this)
    go_wp2_with (go_at_call 31; refine (HEC2.out _ HB1517.out).mono ?_; rintro e w18 ⟨rfl, hb18⟩; have HB18 := Lib.hid (HB17.out.trans (hb18.mono HB17.out.size)); clear hb18)
    go_ret
    exact ⟨rfl, HB18.out⟩
  subst he
  obtain ⟨e0, eM, eR, eMay, eEcho, eQ⟩ := HX1.out rfl
  have hbl := HX2.out rfl
  have hbs : b.length ≤ 1000000 := by have := HX3.out; omega
  have hri := right_any A8 b.length c8 b fr (prsF x).1.src _ w8 H8.out.reads.2 rfl HC8.out hbs
  rw [eM, eR] at hri
  obtain ⟨M9, hM9⟩ : ∃ M, M = errM k mtu.toNat (quoteF x).1 := ⟨_, rfl⟩
  have hM1 := errM_err k mtu.toNat (quoteF x).1
  have hM2 : M9.body = (quoteF x).1 := by rw [hM9]; rfl
  rw [← hM9] at hri hM1
  have HRI := Lib.hid hri
  have HM1 := Lib.hid hM1
  have HM2 := Lib.hid hM2
  have HQ0 := Lib.hid eQ
  have HBS := Lib.hid hbs
  have hma := fun wx (hb : Below w8.heap.size w8 wx) => icmayp_any A8 b.length c8 b _ wx (H8.out.below hb).reads.2 rfl HC8.out HBS.out
  have hec := fun wx (hb : Below w8.heap.size w8 wx) => echo_any A8 b.length c8 b _ wx (H8.out.below hb).reads.2 rfl HC8.out HBS.out
  rw [eMay] at hma
  rw [eEcho] at hec
  have HMA := Lib.hid hma
  have HEC := Lib.hid hec
  have b1 : (((prsF x).2.2 : Int) != 0) = false := by rw [bne_eq_false_iff_eq, e0]; rfl
  clear e0 eM eR eMay eEcho eQ hbl hbs hri hM9 hM1 hM2 hma hec
  go_upto_region 12 with (first
    | (go_at_call 15; refine (HNM.out _ _).mono ?_; rintro e w' ⟨rfl, rfl⟩)
    | (go_at_call 35
       refine HRI.out.mono ?_
       rintro e w9 ⟨v9, rfl, h9, hb9⟩
       obtain ⟨A9, c9, rfl, _⟩ := h9.form
       have hb89 := HB8.out.trans (hb9.mono HB8.out.size)
       obtain ⟨w10, hst, hb10, hb910, hk10⟩ := ic_var hb89 hb89.size M9 A9 M9.body.length c9
       have HB10 := Lib.hid hb10
       have HB810 := Lib.hid (hb9.trans (hb910.mono hb9.size))
       have HH10 := Lib.hid ((HH8.out.below hb9 HH8.out.lt).below hb910 (Nat.lt_of_lt_of_le HH8.out.lt hb9.size))
       have HI10 := Lib.hid hk10
       have HR10 := Lib.hid (h9.below hb910)
       unfold icV
       clear h9 hb9 hb89 hb10 hb910 hk10))
  clear hst r8 r9
  obtain ⟨gj, hgj⟩ : ∃ z, z = w9.heap.size := ⟨_, rfl⟩
  rw [← hgj] at HI10 ⊢
  clear hgj
  have hldj := ic_load HI10.out rfl
  have hie : Calls Try.prog 28 #[.agg (icC M9 (.slice A9 M9.body.length c9))] w10 fun e w' => e = .returned (.bool (errT M9.ty)) ∧ Below w10.heap.size w10 w' := icerr_any M9 (.slice A9 M9.body.length c9) w10 rfl
  rw [HM1.out] at hie
  have HIE := Lib.hid hie
  clear hie
  go_upto_region 14 with (first
    | (go_at_call 28
       refine HIE.out.mono ?_
       rintro e w11 ⟨rfl, hb11⟩
       have HB11 := Lib.hid (HB10.out.trans (hb11.mono HB10.out.size))
       have HB811 := Lib.hid (HB810.out.trans (hb11.mono HB810.out.size))
       have HH11 := Lib.hid (HH10.out.below hb11 HH10.out.lt)
       have HI11 := Lib.hid (HI10.out.below hb11 HI10.out.lt)
       have HR11 := Lib.hid (HR10.out.below hb11)
       clear hb11)
    | (go_at_call 18
       refine (HMA.out _ HB811.out).mono ?_
       rintro e w12 ⟨rfl, hb12⟩
       have HB12 := Lib.hid (HB11.out.trans (hb12.mono HB11.out.size))
       have HB812 := Lib.hid (HB811.out.trans (hb12.mono HB811.out.size))
       have HH12 := Lib.hid (HH11.out.below hb12 HH11.out.lt)
       have HI12 := Lib.hid (HI11.out.below hb12 HI11.out.lt)
       have HR12 := Lib.hid (HR11.out.below hb12)
       clear hb12)
    | (go_at_call 31
       refine (HEC.out _ HB812.out).mono ?_
       rintro e w13 ⟨rfl, hb13⟩
       have HB13 := Lib.hid (HB12.out.trans (hb13.mono HB12.out.size))
       have HH13 := Lib.hid (HH12.out.below hb13 HH12.out.lt)
       have HI13 := Lib.hid (HI12.out.below hb13 HI12.out.lt)
       have HR13 := Lib.hid (HR12.out.below hb13)
       clear hb13))
  clear hldj
  go_upto_region 15 with
    (go_at_call 14
     refine (HQT.out _ HB13.out).mono ?_
     rintro e w14 ⟨v14, rfl, h14, hb14⟩
     rw [HQ0.out]
     obtain ⟨A14, c14, rfl, _⟩ := h14.form
     have H14 := Lib.hid h14
     have HB14 := Lib.hid (HB13.out.trans (hb14.mono HB13.out.size))
     have HH14 := Lib.hid (HH13.out.below hb14 HH13.out.lt)
     have HI14 := Lib.hid (HI13.out.below hb14 HI13.out.lt)
     have HR14 := Lib.hid (HR13.out.below hb14)
     clear h14 hb14)
  have l6 := ld8s (HI14.out.cell 6)
  have s1 := run_str w14 _ A14 (quoteF x).1 c14 H14.out.reads.2
  have s2 := run_str w14 _ A9 M9.body c9 HR14.out.reads.2
  rw [HM2.out] at s2 l6
  have e1 := bytes_bne (quoteF x).1
  go_upto_region 17 with
    (go_at_call 15; refine (HNM.out _ _).mono ?_; rintro e w' ⟨rfl, rfl⟩)
  clear l6 s1 s2 e1
  go_upto_region 18 with
    (first
    | (go_at_call 15; refine (HNM.out _ _).mono ?_; rintro e w' ⟨rfl, rfl⟩)
    | (go_at_call 30
       refine (HRE.out _ HB14.out).mono ?_
       rintro e w15 ⟨v15, rfl, h15, hb15⟩
       obtain ⟨A15, c15, rfl, hc15⟩ := h15.form
       have H15 := Lib.hid h15
       have HC15 := Lib.hid hc15
       have HB15 := Lib.hid (HB14.out.trans (hb15.mono HB14.out.size))
       have HH15 := Lib.hid (HH14.out.below hb15 HH14.out.lt)
       clear h15 hb15 hc15))
  by_cases hr : (replyF x).2 = 0
  rotate_left
  · have b2 : (((replyF x).2 : Int) != 0) = true := by rw [bne_iff_ne]; omega
    clear hr
    go_wp2_with (go_at_call 15; refine (HNM.out _ _).mono ?_; rintro e w' ⟨rfl, rfl⟩)
    go_ret
    exact ⟨rfl, HB15.out⟩
  have b2 : (((replyF x).2 : Int) != 0) = false := by rw [bne_eq_false_iff_eq]; omega
  obtain ⟨f0, fT, fR, fE⟩ := HX4.out hr
  have hrs : (replyF x).1.length ≤ 1000000 := by have := reply_small hr; omega
  have hri := right_any A15 (replyF x).1.length c15 (replyF x).1 (prsF x).1.dst (prsF x).1.src _ w15 H15.out.reads.2 rfl HC15.out hrs
  rw [fR] at hri
  obtain ⟨M16, hM16⟩ : ∃ M, M = (icOf (prsF (replyF x).1).2.1).1 := ⟨_, rfl⟩
  rw [← hM16] at hri fT
  have HRI := Lib.hid hri
  have HFT := Lib.hid fT
  have b3 : (((prsF x).2.2 : Int) == 0) = true := by rw [beq_iff_eq, f0]; rfl
  have hec := fun wx (hb : Below w15.heap.size w15 wx) => echo_any A15 (replyF x).1.length c15 (replyF x).1 _ wx (H15.out.below hb).reads.2 rfl HC15.out hrs
  rw [fE] at hec
  have HEC2 := Lib.hid hec
  have r8 := ld_u32s (HH15.out.cell 8)
  have r9 := ld_u32s (HH15.out.cell 9)
  clear hr f0 fT fR fE hrs hri hM16 hec
  go_upto_region 21 with (first
    | (go_at_call 15; refine (HNM.out _ _).mono ?_; rintro e w' ⟨rfl, rfl⟩)
    | (go_at_call 35
       refine HRI.out.mono ?_
       rintro e w16 ⟨v16, rfl, h16, hb16⟩
       obtain ⟨A16, c16, rfl, _⟩ := h16.form
       have hb156 := HB15.out.trans (hb16.mono HB15.out.size)
       obtain ⟨w17, hst, hb17, hb1617, hk17⟩ := ic_var hb156 hb156.size M16 A16 M16.body.length c16
       have HB17 := Lib.hid hb17
       have HB1517 := Lib.hid (hb16.trans (hb1617.mono hb16.size))
       have HI17 := Lib.hid hk17
       unfold icV
       clear h16 hb16 hb156 hb17 hb1617 hk17))
  clear hst r8 r9
  have lt0 := ld_u8s (show w17.cell? ⟨w16.heap.size, 0, none⟩ = some (.int .u8 0) from by
    have := HI17.out.cell 0
    unfold icC at this
    rw [HFT.out] at this
    exact this)
  go_wp2_with (go_at_call 31; refine (HEC2.out _ HB1517.out).mono ?_; rintro e w18 ⟨rfl, hb18⟩; have HB18 := Lib.hid (HB17.out.trans (hb18.mono HB17.out.size)); clear hb18)
  go_ret
  exact ⟨rfl, HB18.out⟩
end Go.Proofs.Ytihfihehiifdkaa
