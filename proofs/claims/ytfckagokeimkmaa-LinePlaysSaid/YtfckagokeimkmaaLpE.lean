/- LinePlays: one round of the loop. -/
import Derived.Test.YtfckagokeimkmaaLpD
import Derived.Test.YtfckagokeimkmaaRowL
namespace Go.Proofs.Ytfckagokeimkmaa
open Go.RowKit Go.Sort Go.BigFrame
attribute [local go_sem] Oper.semAt_some
def mark (D : Nat) : Deferred := { target := .collected D, args := #[] }
noncomputable def lpBody : Code := match lpBlk 0 with
  | .block _ (.loop c) => c
  | _ => .skip
theorem IsLine.blk {w : World} {M I : Nat → Prop} {b : Nat} {most d : Int} {xs : List (List UInt8)} (h : IsLine w M I b most d xs) : ∃ A c, Blk w b 52 #[.int .i64 most, .slice A xs.length c, .int .i64 d, .bool true] := by
  obtain ⟨v, us, h1, h2, h3, _⟩ := h.ex
  obtain ⟨A, c, rfl, _⟩ := own_form h2
  rw [h3.len] at h1
  exact ⟨A, c, h1⟩
theorem LpM.mark_ {w0 w w2 : World} {b D : Nat} {most d : Int} {v : Value} {ss xs : List (List UInt8)} {M I : Nat → Prop} {ms : List Nat} (h0 : LpM w0 w b most d v ss xs M I ms) (hb : Below w.heap.size w w2) (hD : w.heap.size ≤ D) (hd : w2.heap[D]? = some (.deferred (some []))) : LpM w0 w2 b most d v ss xs M I (D :: ms) := by
  have h := h0.later hb
  refine ⟨h.bel, h.line, h.ge, h.win, h.wn, fun E hE => ?_⟩
  rcases List.mem_cons.1 hE with rfl | hE
  · refine ⟨hd, Nat.le_trans h0.bel.size hD, fun hm => ?_, fun e => ?_⟩
    · have := h0.lt (hm.elim .inl fun x => .inr (.inl x))
      omega
    · have := h0.lt (.inr (.inr (.inl e)))
      omega
  · exact h.marks E hE

set_option maxRecDepth 100000 in
set_option maxHeartbeats 8000000 in
theorem lp_round {u2 u3 u4 u6 u10 u11 u12 u13 u14 u15 u16 u17 u18 u19 u20 u21 u22 u23 u24 u25 u26 u27 u28 u29 u30 u31 u32 u33 u34 u35 u36 u37 u38 u39 u40 u41 u42 u43 u44 u45 u46 u47 u48 u49 u50 u51 u52 u53 u54 u55 u56 u57 u58 u59 u60 u61 u62 u63 u64 u65 u66 u67 u68 u69 u70 u71 u72 u73 u74 u75 u76 u77 u78 u79 u80 u81 u82 u83 u84 u85 u86 u87 u88 u89 u90 u91 u92 u93 u94 u95 u96 u97 u98 u99 u100 u101 u102 u103 u104 u105 u106 u107 u108 u109 u110 u111 u112 u113 u114 u115 u116 u117 u118 u119 u120 u121 u122 u123 u124 u125 u126 u127 u128 u129 u130 u131 u132 u133 u134 u135 u136 u137 u138 u139 u140 u141 u142 u143 u144 u145 u146 u147 u148 u149 u150 u151 u152 u153 u154 u155 u156 u157 u158 u159 u160 u161 u162 u163 u164 u165 u166 u167 u168 u169 u170 u171 u172 u173 u174 u175 u176 u177 u178 u179 u180 u181 u182 u183 u184 u185 u186 u187 u188 u189 u190 u191 u192 u193 u194 u195 u196 u197 u198 u199 : Value} {Q : Exit → Act → World → Prop} {w0 wc : World} {b : Nat} {most d kd : Int} {v : Value} {ss : List (List UInt8)} {M I : Nat → Prop} {ms : List Nat} (st : LpSt w0 wc b most d v ss M I ms)
    {ad : Addr} {n cA k cx : Nat} {Ax : Option Addr} {x : List UInt8} (hmo : most ≤ 64) (hd : 0 ≤ d) (hd2 : d < 1000) (hk : k < n) (hn : n ≤ 200)
    (hact : ∀ wx, Below w0.heap.size w0 wx → wx.cell? (ad.add (k * 2)) = some (.int .i64 kd) ∧ wx.cell? ⟨(ad.add (k * 2)).block, (ad.add (k * 2)).off + 1, none⟩ = some (.slice Ax x.length cx) ∧ Reads wx (fun k => k < w0.heap.size) 1 Ax x.length (bytesV x)) (hx : x.length ≤ 140737488355328) (hnd : ms.Nodup)
    (hK : ∀ (x10 x11 x12 x13 x14 x15 x16 x17 x18 x19 x20 x21 x48 x49 x50 x51 x52 x53 x54 x55 x56 x57 x58 x59 x60 x61 x62 x63 x64 x65 x66 x67 x68 x69 x70 x71 x72 x73 x74 x75 x76 x77 x78 x79 x80 x81 x82 x83 x84 x85 x86 x87 x88 x89 x90 x91 x92 x93 x94 x95 x96 x97 x98 x99 x100 x101 x102 x103 x104 x105 x106 x107 x108 x109 x110 x111 x112 x113 x114 x115 x116 x117 x118 x119 x120 x121 x122 x123 x124 x125 x126 x127 x128 x129 x130 x131 x132 x133 x134 x135 x136 x137 x138 x139 x140 x141 x142 x143 x144 x145 x146 x147 x148 x149 x150 x151 x152 x153 x154 x155 x156 x157 x158 x159 x160 x161 x162 x163 x164 x165 x166 x167 x168 x169 x170 x171 x172 x173 x174 x175 x176 x177 x178 x179 x180 x181 x182 x183 x184 x185 x186 x187 x188 x189 x190 x191 x192 x193 x194 x195 x196 x197 x198 : Value) (v2 : Value) (d2 : Int) (ms2 : List Nat) (wx : World), (∃ M2 I2 ss2, LpSt w0 wx b most d2 v2 ss2 M2 I2 ms2) → ms2.Nodup → d ≤ d2 → d2 ≤ d + 1 → Q .normal ⟨#[.int .i64 most, .slice (some ad) n cA, u2, u3, u4, .pointer (some ⟨b, 0, none⟩), u6, v2, .int .i64 d2, .int .i64 ((k : Int) + 1), x10, x11, x12, x13, x14, x15, x16, x17, x18, x19, x20, x21, u22, u23, u24, u25, u26, u27, u28, u29, u30, u31, u32, u33, u34, u35, u36, u37, u38, u39, u40, u41, u42, u43, u44, u45, u46, u47, x48, x49, x50, x51, x52, x53, x54, x55, x56, x57, x58, x59, x60, x61, x62, x63, x64, x65, x66, x67, x68, x69, x70, x71, x72, x73, x74, x75, x76, x77, x78, x79, x80, x81, x82, x83, x84, x85, x86, x87, x88, x89, x90, x91, x92, x93, x94, x95, x96, x97, x98, x99, x100, x101, x102, x103, x104, x105, x106, x107, x108, x109, x110, x111, x112, x113, x114, x115, x116, x117, x118, x119, x120, x121, x122, x123, x124, x125, x126, x127, x128, x129, x130, x131, x132, x133, x134, x135, x136, x137, x138, x139, x140, x141, x142, x143, x144, x145, x146, x147, x148, x149, x150, x151, x152, x153, x154, x155, x156, x157, x158, x159, x160, x161, x162, x163, x164, x165, x166, x167, x168, x169, x170, x171, x172, x173, x174, x175, x176, x177, x178, x179, x180, x181, x182, x183, x184, x185, x186, x187, x188, x189, x190, x191, x192, x193, x194, x195, x196, x197, x198, u199], ms2.map mark⟩ wx) :
    Code.wp Try.prog (lpBody) Q ⟨#[.int .i64 most, .slice (some ad) n cA, u2, u3, u4, .pointer (some ⟨b, 0, none⟩), u6, v, .int .i64 d, .int .i64 (k : Int), u10, u11, u12, u13, u14, u15, u16, u17, u18, u19, u20, u21, u22, u23, u24, u25, u26, u27, u28, u29, u30, u31, u32, u33, u34, u35, u36, u37, u38, u39, u40, u41, u42, u43, u44, u45, u46, u47, u48, u49, u50, u51, u52, u53, u54, u55, u56, u57, u58, u59, u60, u61, u62, u63, u64, u65, u66, u67, u68, u69, u70, u71, u72, u73, u74, u75, u76, u77, u78, u79, u80, u81, u82, u83, u84, u85, u86, u87, u88, u89, u90, u91, u92, u93, u94, u95, u96, u97, u98, u99, u100, u101, u102, u103, u104, u105, u106, u107, u108, u109, u110, u111, u112, u113, u114, u115, u116, u117, u118, u119, u120, u121, u122, u123, u124, u125, u126, u127, u128, u129, u130, u131, u132, u133, u134, u135, u136, u137, u138, u139, u140, u141, u142, u143, u144, u145, u146, u147, u148, u149, u150, u151, u152, u153, u154, u155, u156, u157, u158, u159, u160, u161, u162, u163, u164, u165, u166, u167, u168, u169, u170, u171, u172, u173, u174, u175, u176, u177, u178, u179, u180, u181, u182, u183, u184, u185, u186, u187, u188, u189, u190, u191, u192, u193, u194, u195, u196, u197, u198, u199], ms.map mark⟩ wc := by
  have HK := Lib.hid hK
  have HA := Lib.hid hact
  have ST := Lib.hid st
  have HND := Lib.hid hnd
  have hl63 : ss.length < 1000000 := by have := st.le; omega
  have hl64 : ss.length ≤ 64 := by have := st.le; omega
  obtain ⟨A0, c0, hblk⟩ := st.m.line.blk
  have HCP := Lib.hid (copy_c M I b most d ss wc st.m.line hl63)
  have hi0 : (0 : Int) ≤ k := by omega
  have hi1 : (k : Int) < n := by omega
  clear hK hact st hnd hblk
  refine wp_of_calm ?_
  conv => arg 2; whnf
  go_wp2_with fail
  refine HCP.out.mono ?_
  rintro e w1 ⟨cb, Ac, cc, rfl, hcb, hcblk, hb1⟩
  have st1 := ST.out.later hb1
  have HCB := Lib.hid (And.intro hcb hcblk)
  have HB1 := Lib.hid hb1
  obtain ⟨A1, c1, hblk1⟩ := st1.m.line.blk
  have HLN := Lib.hid (len_any b A1 ss.length c1 _ _ w1 hblk1)
  have HAL := Lib.hid (all_c M I b most d ss w1 st1.m.line hl63)
  have ST1 := Lib.hid st1
  clear hcb hcblk hb1 st1 hblk1
  go_wp2_with fail
  refine HLN.out.mono ?_
  rintro e w2 ⟨rfl, rfl⟩
  go_wp2_with fail
  refine HAL.out.mono ?_
  rintro e w2 ⟨f, rfl, hsq, hb2⟩
  have st2 := ST1.out.later hb2
  have HSQ := Lib.hid hsq
  have HB2 := Lib.hid hb2
  have ST2 := Lib.hid st2
  obtain ⟨A2, c2, hv2, _, hrw⟩ := st2.m.win.reads
  subst hv2
  obtain ⟨i1, hi1', hy0, hy1, hy2⟩ := info_parts info_str
  have HRW := Lib.hid hrw
  have HNIL := Lib.hid (fun (w : World) => World.ownsRow_nil w w2.heap.size 9 1)
  have H1 := Lib.hid (show ∀ u ∈ ss.map strV, u.oneCell' = true by intro u hu; obtain ⟨y, _, rfl⟩ := List.mem_map.1 hu; rfl)
  have hmx : 0 + ss.length ≤ maxLen := by unfold maxLen; omega
  have hmb : (0 + ss.length) * 16 ≤ 140737488355328 := by omega
  clear hsq hb2 st2 hrw
  go_upto_region 17 with (at_builtin; refine wpList_append_any _ rfl (.const (.slice none 0 0)) (.tmp 60) _ rfl w2.heap.size 9 i1 _ 1 16 Try.underlying29 hi1' hy0 hy1 hy2 rfl Nat.one_pos (.slice none 0 0) 0 [] rfl (HNIL.out _) _ A2 ss.length c2 (ss.map strV) rfl HRW.out H1.out hmx hmb (Nat.le_refl _) ?_; intro v3 w3 hown3 hg3 hat3; have ho3 : w3.ownsRow w2.heap.size 9 1 v3 ss.length (ss.map strV) := (by simpa using hown3); obtain ⟨A3, c3, rfl, _⟩ := own_form ho3; clear hown3 hat3)
  obtain ⟨w4, hw4⟩ : ∃ w4, w4 = w3.alloc (.cells #[.slice A3 ss.length c3] 29) := ⟨_, rfl⟩
  rw [← hw4]
  have hb3 : Below w2.heap.size w2 w3 := ⟨hg3.os, hg3.tape, hg3.output, hg3.size, fun k hk => hg3.block k hk (by simp [Value.ownBlock])⟩
  have hb4 : Below w3.heap.size w3 w4 := by rw [hw4]; exact (Below.refl _ _).alloc (Nat.le_refl _) _
  have hbx : Blk w4 w3.heap.size 29 #[.slice A3 ss.length c3] := by rw [hw4]; exact Blk.new _ _ _
  have st4 := ST2.out.later (hb3.trans (hb4.mono hb3.size))
  have hrd4 : Reads w4 (fun k => w2.heap.size ≤ k ∧ k < w4.heap.size) 1 A3 ss.length (ss.map strV) := (Reads.of_own (own_later ho3 hb4 rfl) fun g hg => ⟨(own_lt ho3 hg).1, Nat.lt_of_lt_of_le (own_lt ho3 hg).2 hb4.size⟩)
  obtain ⟨hk1, hk2, hk3⟩ := HA.out w4 st4.m.bel
  have HA2 := Lib.hid (fun wx h => (HA.out wx h).2)
  have HB3 := Lib.hid hb3
  have HB4 := Lib.hid hb4
  have HBX := Lib.hid hbx
  have ST4 := Lib.hid st4
  have HRD4 := Lib.hid hrd4
  clear hw4 hb3 hb4 hbx st4 hrd4 ho3 hg3 hmx hmb hk2 hk3
  go_upto_block 2 with fail
  refine lp_sw ST4.out hmo hd hd2 hk HA2.out hx ?_
  intro y14 y15 y16 y17 y18 y67 y68 y69 y70 y71 y72 y73 y74 y75 y76 y77 y78 y79 y80 y81 y82 y83 y84 y85 y86 y87 y88 y89 y90 y91 y92 y93 y94 y95 y96 y97 y98 y99 y100 y101 y102 y103 y104 y105 y106 y107 y108 y109 y110 y111 y112 y113 y114 y115 y116 y117 y118 y119 y120 y121 y122 y123 y124 y125 y126 y127 y128 y129 y130 y131 y132 y133 y134 y135 y136 y137 y138 y139 y140 y141 y142 y143 y144 y145 y146 v2 d2 wx hsw
  obtain ⟨⟨M2, I2, ss2, st5⟩, hu5, hdd1, hdd2⟩ := hsw
  obtain ⟨hcb, hcblk⟩ := HCB.out
  have s1 := HB1.out.size
  have s2 := HB2.out.size
  have s3 := HB3.out.size
  have s4 := HB4.out.size
  have s5 := hu5.size
  have knew : ∀ k, wc.heap.size ≤ k → ¬ (M k ∨ (Value.slice A2 ss.length c2).ownBlock = some k) := fun k hk hh => by
    have := ST.out.m.lt (k := k) (hh.elim .inl fun x => .inr (.inr (.inl x)))
    omega
  have hcl := hcblk.lt
  have hcb4 := ((hcblk.below HB2.out hcl).below HB3.out (by omega)).below HB4.out (by omega)
  have hcb5 : Blk wx cb 52 #[.int .i64 most, .slice Ac ss.length cc, .int .i64 d, .bool true] := (hu5.block cb (by omega) (knew cb hcb)).trans hcb4
  have hbx5 : Blk wx w3.heap.size 29 #[.slice A3 ss.length c3] := (hu5.block w3.heap.size HBX.out.lt (knew _ (by omega))).trans HBX.out
  have hrd5 : Reads wx (fun k => k < wx.heap.size) 1 A3 ss.length (ss.map strV) := (HRD4.out.keep (hu5.same fun k hk hh => knew k (by omega) hk)).mono fun k hk => by omega
  have hsq4 := HSQ.out.keep (Same.ofBelow (HB3.out.trans (HB4.out.mono s3)) fun k hk => hk.2)
  have hsq5 := hsq4.keep (hu5.same fun k hk hh => by
    rcases hh.1 with hi | hi
    · rcases hk with hk | hk
      · exact ST.out.m.line.dis k hk hi
      · exact ST.out.m.wn k hk (.inr hi)
    · exact knew k (by omega) hk)
  have hJ : ∀ k, ((I k ∨ w1.heap.size ≤ k) ∧ k < w2.heap.size) → k < wx.heap.size := fun k hk => by omega
  obtain ⟨Bx, rfl, hst⟩ := hsq5.fits hJ (by omega) (fun y hy => by have := ST.out.sz y hy; omega)
  obtain ⟨A5, c5, hblk5⟩ := st5.m.line.blk
  have HLN5 := Lib.hid (len_any b A5 ss2.length c5 _ _ wx hblk5)
  have HDR5 := Lib.hid (dropped_any b d2 _ _ wx hblk5)
  have HCL5 := Lib.hid (len_any cb Ac ss.length cc _ _ wx hcb5)
  obtain ⟨A6, c6, rfl, _⟩ := st5.m.win
  have hfn : ∀ (w2 : World) (b : Nat), (binOp .eql 46 (.func (.func 24) #[] #[.pointer (some ⟨b, 0, none⟩)]) Value.nilFunc).run Try.prog w2 = .ok (.bool false) w2 := fun w2 b => by kernel_rfl
  obtain ⟨wk5, hwk5⟩ : ∃ wk5, wk5 = wx.alloc (.cells #[.int .i64 0] 3) := ⟨_, rfl⟩
  have hwc5 : Below wx.heap.size wx wk5 := by rw [hwk5]; exact (Below.refl _ _).alloc (Nat.le_refl _) _
  have hkb5 : Blk wk5 wx.heap.size 3 #[.int .i64 0] := by rw [hwk5]; exact Blk.new _ _ _
  have HST := Lib.hid hst
  have HJ := Lib.hid hJ
  have HW5 := Lib.hid hwk5
  have HWC5 := Lib.hid hwc5
  have HKB5 := Lib.hid hkb5
  have HBX5 := Lib.hid hbx5
  have HRD5 := Lib.hid hrd5
  have ST5 := Lib.hid st5
  have hdA := hdd1
  have hdB := hdd2
  clear hst hJ hwk5 hwc5 hkb5 hbx5 hrd5 st5 hu5 hcb hcblk hcl hcb4 hcb5 hsq4 hsq5 hblk5 knew s1 s2 s3 s4 s5 hk1
  go_wp2_with fail
  refine HLN5.out.mono ?_
  rintro e w5 ⟨rfl, rfl⟩
  go_wp2_with fail
  refine HDR5.out.mono ?_
  rintro e w5 ⟨rfl, rfl⟩
  go_wp2_with fail
  refine HCL5.out.mono ?_
  rintro e w5 ⟨rfl, rfl⟩
  go_upto_block 6 with fail
  rw [← HW5.out]
  refine lp_rng HST.out HJ.out HWC5.out HKB5.out HBX5.out HRD5.out hl64 ?_
  intro D wy hby hky hD hdy
  have q1 : wy.cell? ⟨wx.heap.size, 0, none⟩ = some (.int .i64 (ss.length : Int)) := hky.cell 0
  have q2 : wy.cell? ⟨w3.heap.size, 0, none⟩ = some (.slice A3 ss.length c3) := (HBX5.out.below hby HBX5.out.lt).cell 0
  have HBY := Lib.hid hby
  have HDY := Lib.hid hdy
  clear hby hky hdy
  go_wp2_with fail
  exact HK.out _ _ _ _ _ _ _ _ _ _ _ _ _ _ _ _ _ _ _ _ _ _ _ _ _ _ _ _ _ _ _ _ _ _ _ _ _ _ _ _ _ _ _ _ _ _ _ _ _ _ _ _ _ _ _ _ _ _ _ _ _ _ _ _ _ _ _ _ _ _ _ _ _ _ _ _ _ _ _ _ _ _ _ _ _ _ _ _ _ _ _ _ _ _ _ _ _ _ _ _ _ _ _ _ _ _ _ _ _ _ _ _ _ _ _ _ _ _ _ _ _ _ _ _ _ _ _ _ _ _ _ _ _ _ _ _ _ _ _ _ _ _ _ _ _ _ _ _ _ _ _ _ _ _ _ _ _ _ _ _ _ _ _ _ d2 (D :: ms) wy ⟨M2, I2, ss2, ST5.out.m.mark_ HBY.out hD HDY.out, ST5.out.le, ST5.out.sz⟩ (List.nodup_cons.2 ⟨fun hm => by have := ST5.out.m.lt (.inr (.inr (.inr hm))); omega, HND.out⟩) hdA hdB

end Go.Proofs.Ytfckagokeimkmaa
