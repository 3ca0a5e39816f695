/- The walk of TrieNil. -/
import Derived.Test.YtejiecebckjflaaTnC
namespace Go.Proofs.Ytejiecebckjflaa
open Go.RowKit

def GK (w wx : World) (tv : Value) : Prop := Gone wx tv ∧ Below w.heap.size w wx
theorem GK.later {w wx wy : World} {tv : Value} (h : GK w wx tv) (hb : Below wx.heap.size wx wy) : GK w wy tv := ⟨h.1.below hb, h.2.trans (hb.mono h.2.size)⟩
set_option maxRecDepth 100000 in
set_option maxHeartbeats 8000000 in
theorem nothing_any {w : World} {tv : Value} (h : Gone w tv) : Calls Try.prog 31 #[tv] w fun e w' => e = .returned (.bool true) ∧ Below w.heap.size w w' := by
  have C8 := Lib.hid (fun wx => ten_any 0 8 167772160 (by decide) rfl wx)
  have C1 := Lib.hid (fun wx => ten_any 1 8 167837696 (by decide) rfl wx)
  have HG := Lib.hid (show GK w w tv from ⟨h, Below.refl _ _⟩)
  clear h
  go_enter Try.func31, Try.ntmps31
  go_wp2_with fail
  refine (C8.out _).mono ?_
  rintro e w1 ⟨rfl, hb⟩
  have K1 := Lib.hid (HG.out.later hb)
  clear hb HG
  go_wp2_with fail
  refine (get_gone K1.out.1 _ _).mono ?_
  rintro e w2 ⟨rfl, hb⟩
  have K2 := Lib.hid (K1.out.later hb)
  clear hb K1
  go_wp2_with fail
  refine (match_gone K2.out.1 0).mono ?_
  rintro e w3 ⟨rfl, hb⟩
  have K3 := Lib.hid ((K2.out.later hb).later ((Below.refl _ _).alloc (Nat.le_refl _) (.cells #[.int .u32 0, .int .i64 0] 31)))
  clear hb K2
  go_wp2_with fail
  refine (C1.out _).mono ?_
  rintro e w4 ⟨rfl, hb⟩
  have K4 := Lib.hid (K3.out.later hb)
  clear hb K3
  go_wp2_with fail
  refine (ins_gone K4.out.1 _ _ _).mono ?_
  rintro e w5 ⟨rfl, hb⟩
  have K5 := Lib.hid (K4.out.later hb)
  clear hb K4
  go_wp2_with fail
  refine (num_any _ _).mono ?_
  rintro e w' ⟨rfl, rfl⟩
  go_wp2_with fail
  refine (C1.out _).mono ?_
  rintro e w6 ⟨rfl, hb⟩
  have K6 := Lib.hid (K5.out.later hb)
  clear hb K5
  go_wp2_with fail
  refine (del_gone K6.out.1 _ _).mono ?_
  rintro e w7 ⟨rfl, hb⟩
  have K7 := Lib.hid (K6.out.later hb)
  clear hb K6
  go_wp2_with fail
  refine (num_any _ _).mono ?_
  rintro e w' ⟨rfl, rfl⟩
  go_wp2_with fail
  refine (all_gone K7.out.1).mono ?_
  rintro e w8 ⟨f, rfl, hs, hb⟩
  have K8 := Lib.hid (K7.out.later hb)
  have HS := Lib.hid hs.lt
  clear hb hs K7
  go_wp2_with fail
  refine (once_nil f w8 _ (fun k hk => hk.2) HS.out).mono ?_
  rintro e w9 ⟨rfl, hb⟩
  have K9 := Lib.hid (K8.out.later hb)
  clear hb K8 HS
  go_wp2_with fail
  refine (covers_gone K9.out.1 0).mono ?_
  rintro e wa ⟨f, rfl, hs, hb⟩
  have Ka := Lib.hid (K9.out.later hb)
  have HS := Lib.hid hs.lt
  clear hb hs K9
  go_wp2_with fail
  refine (once_nil f wa _ (fun k hk => hk.2) HS.out).mono ?_
  rintro e wb ⟨rfl, hb⟩
  have Kb := Lib.hid (Ka.out.later hb)
  clear hb Ka HS
  go_wp2_with fail
  refine (len_gone Kb.out.1).mono ?_
  rintro e w' ⟨rfl, rfl⟩
  go_wp2_with fail
  refine (nodes_gone Kb.out.1).mono ?_
  rintro e wc ⟨rfl, hb⟩
  have Kc := Lib.hid (Kb.out.later hb)
  clear hb Kb
  go_wp2_with fail
  refine (copy_gone Kc.out.1).mono ?_
  rintro e w' ⟨rfl, rfl⟩
  go_wp2_with fail
  go_ret
  exact ⟨rfl, Kc.out.2⟩

theorem nil1 : insP 0 ⟨167772160, 8⟩ 1 .nil = (5, .nil) := by unfold insP; rw [if_pos (by decide +kernel), if_neg (by decide)]
theorem nil2 : insP 0 ⟨167772160, 7⟩ 1 .nil = (5, .nil) := by unfold insP; rw [if_pos (by decide +kernel), if_neg (by decide)]
theorem nil3 : insP 0 ⟨167837696, 8⟩ 1 .nil = (2, .nil) := by unfold insP; rw [if_neg (by decide +kernel)]
theorem nil4 : delP ⟨167772160, 8⟩ .nil = (6, .nil) := by unfold delP; rw [if_pos (by decide +kernel), if_neg (by decide)]
set_option maxRecDepth 100000 in
set_option maxHeartbeats 8000000 in
theorem trienil_any (w : World) : Calls Try.prog 8 #[] w fun e w' => e = .returned (.bool true) ∧ Below w.heap.size w w' := by
  have C8 := Lib.hid (fun wx => ten_any 0 8 167772160 (by decide) rfl wx)
  have C7 := Lib.hid (fun wx => ten_any 0 7 167772160 (by decide) rfl wx)
  have C1 := Lib.hid (fun wx => ten_any 1 8 167837696 (by decide) rfl wx)
  have I1 := Lib.hid (fun (wx : World) (h : KG w wx w.heap.size 0 .nil) => by have := kg_ins h ⟨167772160, 8⟩ 1 (by decide) (by simp [TT.list]); rw [nil1] at this; exact this)
  have I2 := Lib.hid (fun (wx : World) (h : KG w wx w.heap.size 0 .nil) => by have := kg_ins h ⟨167772160, 7⟩ 1 (by decide) (by simp [TT.list]); rw [nil2] at this; exact this)
  have I3 := Lib.hid (fun (wx : World) (h : KG w wx w.heap.size 0 .nil) => by have := kg_ins h ⟨167837696, 8⟩ 1 (by decide) (by simp [TT.list]); rw [nil3] at this; exact this)
  have D1 := Lib.hid (fun (wx : World) (h : KG w wx w.heap.size 0 .nil) => by have := kg_del h ⟨167772160, 8⟩ (by decide) (by simp [TT.list]); rw [nil4] at this; exact this)
  have HK0 := Lib.hid (kg_new w 0)
  go_enter Try.func8, Try.ntmps8
  go_wp2_with fail
  refine (new_any (-1) _).mono ?_
  rintro e w1 ⟨rfl, rfl⟩
  have HK1 := Lib.hid (show KG w (w.alloc (.cells #[.pointer none, .int .i64 (max 0 (-1)), .int .i64 0, .bool true] 71)) w.heap.size 0 .nil from HK0.out)
  generalize w.alloc (.cells #[.pointer none, .int .i64 (max 0 (-1)), .int .i64 0, .bool true] 71) = w1 at HK1 ⊢
  clear HK0
  go_wp2_with fail
  refine (C8.out _).mono ?_
  rintro e w2 ⟨rfl, hb⟩
  have K2 := Lib.hid (HK1.out.later hb)
  clear hb HK1
  go_wp2_with fail
  refine (I1.out _ K2.out).mono ?_
  rintro e w3 ⟨rfl, h⟩
  have K3 := Lib.hid (show KG w w3 w.heap.size 0 .nil from h)
  clear h K2
  go_wp2_with fail
  refine (num_any _ _).mono ?_
  rintro e w' ⟨rfl, rfl⟩
  go_wp2_with fail
  refine (C7.out _).mono ?_
  rintro e w4 ⟨rfl, hb⟩
  have K4 := Lib.hid (K3.out.later hb)
  clear hb K3
  go_wp2_with fail
  refine (I2.out _ K4.out).mono ?_
  rintro e w5 ⟨rfl, h⟩
  have K5 := Lib.hid (show KG w w5 w.heap.size 0 .nil from h)
  clear h K4
  go_wp2_with fail
  refine (num_any _ _).mono ?_
  rintro e w' ⟨rfl, rfl⟩
  go_wp2_with fail
  refine (C1.out _).mono ?_
  rintro e w6 ⟨rfl, hb⟩
  have K6 := Lib.hid (K5.out.later hb)
  clear hb K5
  go_wp2_with fail
  refine (I3.out _ K6.out).mono ?_
  rintro e w7 ⟨rfl, h⟩
  have K7 := Lib.hid (show KG w w7 w.heap.size 0 .nil from h)
  clear h K6
  go_wp2_with fail
  refine (num_any _ _).mono ?_
  rintro e w' ⟨rfl, rfl⟩
  go_wp2_with fail
  refine (C8.out _).mono ?_
  rintro e w8 ⟨rfl, hb⟩
  have K8 := Lib.hid (K7.out.later hb)
  clear hb K7
  go_wp2_with fail
  refine (D1.out _ K8.out).mono ?_
  rintro e w9 ⟨rfl, h⟩
  have K9 := Lib.hid (show KG w w9 w.heap.size 0 .nil from h)
  clear h K8
  go_wp2_with fail
  refine (num_any _ _).mono ?_
  rintro e w' ⟨rfl, rfl⟩
  go_wp2_with fail
  refine (kg_len K9.out 0 rfl).mono ?_
  rintro e w' ⟨rfl, rfl⟩
  go_wp2_with fail
  refine (kg_nodes K9.out 0 rfl (Nat.zero_le _)).mono ?_
  rintro e wa ⟨rfl, h⟩
  have Ka := Lib.hid h.below
  clear h K9
  go_wp2_with fail
  refine (nothing_any (w := wa) (.inl rfl)).mono ?_
  rintro e wb ⟨rfl, hb⟩
  have Kb := Lib.hid (Ka.out.trans (hb.mono Ka.out.size))
  clear hb Ka
  go_wp2_with fail
  refine (nothing_any (.inr ⟨_, rfl, Blk.new _ _ _⟩)).mono ?_
  rintro e wc ⟨rfl, hb⟩
  have Kc := Lib.hid ((Kb.out.alloc Kb.out.size _).trans (hb.mono (by have := Kb.out.size; simp; omega)))
  clear hb Kb
  go_wp2_with fail
  refine (known_any _).mono ?_
  rintro e wd ⟨rfl, hb⟩
  go_wp2_with fail
  go_ret
  exact ⟨rfl, Kc.out.trans (hb.mono Kc.out.size)⟩
end Go.Proofs.Ytejiecebckjflaa
