/- Tries: walk, All, Nodes. -/
import Derived.Test.YtejiecebckjflaaTrU
namespace Go.Proofs.Ytejiecebckjflaa
open Go.RowKit Go.Sort Go.BigFrame

theorem results_noneT {fn : Func} (h : fn.results = #[]) (tmps : Array Value) (P : Program) (w : World) : (results fn tmps).run P w = .ok (.tuple #[]) w := by simp [results, h]
/-- While All walks: its list. -/
def WA (w0 : World) (lb : Nat) (acc : List (Bs × Int)) (wx : World) : Prop := Below w0.heap.size w0 wx ∧ w0.heap.size ≤ lb ∧ ∃ lv, Blk wx lb 85 #[lv] ∧ wx.ownsRow w0.heap.size 87 3 lv acc.length (acc.flatMap entC)
/-- While Nodes walks: its count. -/
def WN (w0 : World) (cb : Nat) (n : Nat) (wx : World) : Prop := Below w0.heap.size w0 wx ∧ w0.heap.size ≤ cb ∧ Blk wx cb 3 #[.int .i64 (n : Int)]

theorem nodes1_any (w0 wx : World) (cb n : Nat) (pv : Value) (h : WN w0 cb n wx) (hn : n ≤ 1000000000) :
    Calls Try.prog 40 #[pv, .pointer (some ⟨cb, 0, none⟩)] wx fun e w' => e = .returned (.tuple #[]) ∧ WN w0 cb (n + 1) w' := by
  obtain ⟨hb, hle, hk⟩ := h
  have c0 : wx.cell? ⟨cb, 0, none⟩ = some (.int .i64 (n : Int)) := hk.cell 0
  have f0 : wx.frozen? ⟨cb, 0, none⟩ = false := hk.frozen 0
  have HK := Lib.hid hk
  have HB := Lib.hid hb
  have hcl := hk.lt
  clear hk hb
  go_enter Try.func40, Try.ntmps40
  go_wp2
  refine bodyPost_end (results_noneT rfl _ _ _) rfl ?_
  refine ⟨rfl, HB.out.setCell (p := ⟨cb, 0, none⟩) hle _, hle, ?_⟩
  have := HK.out.set_ 0 (.int .i64 ((n : Int) + 1))
  simpa using this

set_option maxRecDepth 100000 in
set_option maxHeartbeats 2000000 in
theorem all1_any (w0 wx : World) (lb b : Nat) (acc : List (Bs × Int)) (q : Bs) (x : Int) (g : Bool) (pl pr : Value) (hk : Blk w0 b 78 (ndC q x g pl pr)) (h : WA w0 lb acc wx) (hn : acc.length ≤ 1000000) :
    Calls Try.prog 43 #[.pointer (some ⟨b, 0, none⟩), .pointer (some ⟨lb, 0, none⟩)] wx fun e w' => e = .returned (.tuple #[]) ∧ WA w0 lb (acc ++ (if g then [(q, x)] else [])) w' := by
  obtain ⟨hb, hle, lv, hkl, ho⟩ := h
  obtain ⟨Al, cl, rfl, _⟩ := own_form ho
  have hkb := hk.below hb hk.lt
  obtain ⟨qa, hqa⟩ : ∃ qa, qa = padB q := ⟨_, rfl⟩
  obtain ⟨qn, hqn⟩ : ∃ qn, qn = q.length := ⟨_, rfl⟩
  have y0 : wx.cell? ⟨b, 0, none⟩ = some (.int .u32 (qa : Int)) := by rw [hqa]; exact hkb.cell 0
  have y1 : wx.cell? ⟨b, 1, none⟩ = some (.int .i64 (qn : Int)) := by rw [hqn]; exact hkb.cell 1
  have y2 : wx.cell? ⟨b, 2, none⟩ = some (.int .i64 x) := hkb.cell 2
  have y3 : wx.cell? ⟨b, 3, none⟩ = some (.bool g) := hkb.cell 3
  have c0 : wx.cell? ⟨lb, 0, none⟩ = some (.slice Al acc.length cl) := hkl.cell 0
  have HB := Lib.hid hb
  have HKL := Lib.hid hkl
  have HO := Lib.hid ho
  have HQA := Lib.hid hqa
  have HQN := Lib.hid hqn
  have hbl := hkb.lt
  have hll := hkl.lt
  have hsz := hb.size
  cases g with
  | false =>
    clear hk hkb hqa hqn hkl ho hb
    go_enter Try.func43, Try.ntmps43
    go_wp2
    refine bodyPost_end (results_noneT rfl _ _ _) rfl ?_
    refine ⟨rfl, HB.out, hle, _, HKL.out, ?_⟩
    simpa using HO.out
  | true =>
    obtain ⟨z0, hin, hz0, hz1, hz2⟩ := info_parts info_ent
    have hmx : acc.length + 1 ≤ maxLen := by unfold maxLen; omega
    have hmb : (acc.length + 1) * 24 ≤ 140737488355328 := by omega
    have hone : ∀ u ∈ [Value.int .u32 (qa : Int), .int .i64 (qn : Int), .int .i64 x], u.oneCell' = true := by simp [Value.oneCell']
    have hne85 : (87 : TypeId) ≠ 85 := by decide
    have HKA := Lib.hid (hkl.alloc (.cells #[.int .u32 (qa : Int), .int .i64 (qn : Int), .int .i64 x] 87)).drew
    have HNE := Lib.hid (own_blk_ne ho hkl hne85)
    have HOA := Lib.hid (ho.alloc (.cells #[.int .u32 (qa : Int), .int .i64 (qn : Int), .int .i64 x] 87))
    have HRA := Lib.hid (reads_ent wx qa (qn : Int) x (0, 0))
    have HSZ2 : Hid (w0.heap.size ≤ (wx.alloc (.cells #[.int .u32 (qa : Int), .int .i64 (qn : Int), .int .i64 x] 87)).heap.size) := Lib.hid (by simp; omega)
    clear hk hkb hqa hqn hkl ho hb
    go_enter Try.func43, Try.ntmps43
    go_wp2_with fail
    go_region_law (refine step_append_any _ (by rfl) (.tmp 7) (.tmp 17) 85 (by rfl) w0.heap.size 87 z0 _ 3 24 Try.underlying85 hin hz0 hz1 hz2 rfl (Nat.succ_pos 2) (.slice Al acc.length cl) acc.length (acc.flatMap entC) (by rfl) HOA.out (fun _ => True) (some ⟨wx.heap.size, 0, none⟩) 1 1 [.int .u32 (qa : Int), .int .i64 (qn : Int), .int .i64 x] (by rfl) HRA.out hone hmx hmb HSZ2.out ?_; intro v4 w4 hown4 hg4 hat4; obtain ⟨A4, c4, rfl, _⟩ := own_form hown4; have hk4 := HKA.out.grown hg4 HNE.out; have hc4 := hk4.cell 0; have hf4 := hk4.frozen 0)
    all_goals
      go_wp2_with fail
      refine bodyPost_end (results_noneT rfl _ _ _) rfl ?_
      have ee : (acc ++ [(q, x)]).flatMap entC = acc.flatMap entC ++ [.int .u32 (qa : Int), .int .i64 (qn : Int), .int .i64 x] := by rw [HQA.out, HQN.out]; simp [entC]
      have hA := HB.out.alloc hsz (.cells #[.int .u32 (qa : Int), .int .i64 (qn : Int), .int .i64 x] 87)
      have hD : Below w0.heap.size w0 (wx.alloc (.cells #[.int .u32 (qa : Int), .int .i64 (qn : Int), .int .i64 x] 87)).drew := ⟨hA.os, hA.tape, hA.output, hA.size, hA.block⟩
      have hZ := (hD.grown hg4 HSZ2.out fun k hk => (own_lt HOA.out hk).1).setCell (p := ⟨lb, 0, none⟩) hle (.slice A4 (acc.length + 1) c4)
      have hk5 := hk4.set_ 0 (.slice A4 (acc.length + 1) c4)
      have ho5 := own_keep (I := fun k => k ≠ lb) hown4 ((upd_set w4 lb 0 (.slice A4 (acc.length + 1) c4)).same fun k (e : k = lb) hn => hn e) fun k hk e => own_blk_ne hown4 hk4 hne85 (e ▸ hk)
      refine ⟨rfl, ⟨hZ.os, hZ.tape, hZ.output, hZ.size, hZ.block⟩, hle, .slice A4 (acc.length + 1) c4, ?_, ?_⟩
      · have e2 : ((#[Value.slice Al acc.length cl] : Array Value).setIfInBounds 0 (.slice A4 (acc.length + 1) c4)) = #[.slice A4 (acc.length + 1) c4] := by simp
        rw [e2] at hk5
        exact hk5
      · have el : (acc ++ [(q, x)]).length = acc.length + 1 := by simp
        rw [ee, el]
        exact ho5

theorem WA.later {w0 wx wy : World} {lb : Nat} {acc : List (Bs × Int)} (h : WA w0 lb acc wx) (hb : wy.heap = wx.heap ∧ wy.os = wx.os ∧ wy.tape = wx.tape ∧ wy.output = wx.output) : WA w0 lb acc wy := by
  obtain ⟨h1, h2, lv, h3, h4⟩ := h
  obtain ⟨e1, e2, e3, e4⟩ := hb
  refine ⟨⟨e2.trans h1.os, e3.trans h1.tape, e4.trans h1.output, by rw [e1]; exact h1.size, fun k hk => by rw [e1]; exact h1.block k hk⟩, h2, lv, by unfold Blk at *; rw [e1]; exact h3, own_keep (I := fun _ => True) h4 (Same.ofHeap _ e1) fun _ _ => trivial⟩
set_option maxRecDepth 100000 in
set_option maxHeartbeats 2000000 in
theorem walk_all (w0 : World) (lb : Nat) : ∀ (T : TT) (Ms : Nat → Prop) (pv : Value) (acc : List (Bs × Int)) (wx : World), IsT w0 Ms pv T → WA w0 lb acc wx → acc.length + T.list.length ≤ 1000000 →
    Calls Try.prog 39 #[pv, .func (.func 43) #[] #[.pointer (some ⟨lb, 0, none⟩)]] wx fun e w' => e = .returned (.tuple #[]) ∧ WA w0 lb (acc ++ T.list) w' := by
  intro T
  induction T with
  | nil =>
    intro Ms pv acc wx ht h hn
    obtain rfl : pv = .pointer none := ht
    have H := Lib.hid h
    clear h
    go_enter Try.func39, Try.ntmps39
    go_wp2
    refine bodyPost_end (results_noneT rfl _ _ _) rfl ?_
    exact ⟨rfl, by rw [TT.list, List.append_nil]; exact H.out⟩
  | node q x g l r ihl ihr =>
    intro Ms pv acc wx ht h hn
    obtain ⟨b, pvl, pvr, Ml, Mr, rfl, hk, _, _, _, _, tl, tr⟩ := ht
    have hlen : (TT.node q x g l r).list.length = (if g then [(q, x)] else []).length + (l.list.length + r.list.length) := by simp [TT.list]
    have hn1 : acc.length ≤ 1000000 := by omega
    have c1 := all1_any w0 wx lb b acc q x g pvl pvr hk h hn1
    have C1 := Lib.hid c1
    have C2 := Lib.hid (fun (wy : World) (hw : WA w0 lb (acc ++ (if g then [(q, x)] else [])) wy) => ihl Ml pvl _ wy tl hw (by rw [List.length_append]; omega))
    have C3 := Lib.hid (fun (wy : World) (hw : WA w0 lb ((acc ++ (if g then [(q, x)] else [])) ++ l.list) wy) => ihr Mr pvr _ wy tr hw (by rw [List.length_append, List.length_append]; omega))
    obtain ⟨hb, _⟩ := h
    have HK := Lib.hid hk
    have hkl := hk.lt
    clear c1 ihl ihr hb hk tl tr hlen hn hn1
    go_enter Try.func39, Try.ntmps39
    go_wp2_with fail
    refine (C1.out).mono ?_
    rintro e w2 ⟨rfl, h2⟩
    have k2 := HK.out.below h2.1 hkl
    have z4 : w2.cell? ⟨b, 4, none⟩ = some pvl := k2.cell 4
    have H2 := Lib.hid h2
    clear h2 k2
    go_wp2_with fail
    refine (C2.out _ H2.out).mono ?_
    rintro e w3 ⟨rfl, h3⟩
    have k3 := HK.out.below h3.1 hkl
    have z5 : w3.cell? ⟨b, 5, none⟩ = some pvr := k3.cell 5
    have H3 := Lib.hid h3
    clear h3 k3
    go_wp2_with fail
    refine (C3.out _ H3.out).mono ?_
    rintro e w4 ⟨rfl, h4⟩
    have H4 := Lib.hid h4
    clear h4
    go_wp2_with fail
    refine bodyPost_end (results_noneT rfl _ _ _) rfl ?_
    refine ⟨rfl, ?_⟩
    have := H4.out
    rw [List.append_assoc, List.append_assoc] at this
    exact this
end Go.Proofs.Ytejiecebckjflaa
