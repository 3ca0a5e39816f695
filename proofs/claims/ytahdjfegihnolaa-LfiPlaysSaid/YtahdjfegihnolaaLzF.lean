/- Layer 12: lookAll. -/
import Derived.Test.YtahdjfegihnolaaLzE
namespace Go.Proofs.Ytahdjfegihnolaa
open Go.RowKit Go.Sort
theorem st_pf_new (wx : World) (a n : Int) : (Instr.storeAt 36 (.pointer (some ⟨wx.heap.size, 0, none⟩)) (.agg #[.int .u32 a, .int .i64 n])).run Try.prog (wx.alloc (.cells #[.int .u32 0, .int .i64 0] 36)) = .ok () (wx.alloc (.cells #[.int .u32 a, .int .i64 n] 36)) := by
  go_simp
theorem ld_pfrow {w : World} {B gr n cap : Nat} {ps : List Pf} (h : w.ownsRow B 36 2 (.slice (some ⟨gr, 0, none⟩) n cap) n (flatP ps)) (hn : ps.length = n) {k : Nat} {p : Pf} (hp : ps[k]? = some p) :
    (Instr.loadAt 36 (.pointer (some ⟨gr, k * 2, none⟩))).run Try.prog w = .ok (.agg #[.int .u32 (p.1 : Int), .int .i64 p.2]) w := by
  have hk : k < n := by rw [← hn]; exact (List.getElem?_eq_some_iff.1 hp).1
  obtain ⟨f0, f1⟩ := flatP_get ps k p hp
  have c0 := h.cellAt (k * 2) (by omega)
  have c1 := h.cellAt (k * 2 + 1) (by omega)
  rw [f0] at c0
  rw [f1] at c1
  have := run_loadAt_mid (P := Try.prog) w gr (k * 2) 36 (pfE p) _ (fun j v hj => by
    have hj2 : j < 2 := by
      rcases Nat.lt_or_ge j 2 with hl | hl
      · exact hl
      · rw [List.getElem?_eq_none (by simpa [pfE] using hl)] at hj; cases hj
    rcases (by omega : j = 0 ∨ j = 1) with rfl | rfl
    · rw [Nat.add_zero, c0]; exact hj
    · rw [c1]; exact hj) Try.underlying36 rfl (show (Try.prog.info? 36).map (·.size) = some 2 by kernel_rfl)
  simpa [pfE] using this
theorem putG_mid (A D : List GE) (g : GE) (x : Le) (hn : ((A ++ g :: D).map (·.b)).Nodup) : putG (A ++ g :: D) g.b x = A ++ ⟨x, g.b⟩ :: D := by
  rw [List.map_append, List.map_cons, List.nodup_append] at hn
  obtain ⟨_, h2, h3⟩ := hn
  rw [List.nodup_cons] at h2
  have hA : ∀ h ∈ A, h.b ≠ g.b := fun h hh => h3 h.b (List.mem_map_of_mem hh) g.b (List.mem_cons_self ..)
  have hD : ∀ h ∈ D, h.b ≠ g.b := fun h hh e => h2.1 (by rw [← e]; exact List.mem_map_of_mem hh)
  unfold putG
  rw [List.map_append, List.map_cons, if_pos rfl]
  congr 1
  · exact (List.map_congr_left fun h hh => if_neg (hA h hh)).trans (List.map_id' A)
  · congr 1
    exact (List.map_congr_left fun h hh => if_neg (hD h hh)).trans (List.map_id' D)
def lookG (c : Pc) (G : List GE) : List GE := G.map fun g => ⟨(lookF c g.x).1, g.b⟩
def lookO (c : Pc) (G : List GE) : List Tl := G.flatMap fun g => (lookF c g.x).2
theorem lookG_b (c : Pc) (G : List GE) : (lookG c G).map (·.b) = G.map (·.b) := by unfold lookG; rw [List.map_map]; rfl
theorem lookG_x (c : Pc) (G : List GE) : (lookG c G).map (·.x) = (lookAllF c (G.map (·.x))).1 := by unfold lookG lookAllF; simp
theorem lookO_x (c : Pc) (G : List GE) : lookO c G = (lookAllF c (G.map (·.x))).2 := by unfold lookO lookAllF; rw [List.flatMap_map]
theorem lookF_len (c : Pc) (x : Le) : (lookF c x).2.length ≤ 8 := by
  unfold lookF
  split
  · simp
  · split
    · simp
    · have : (upsF c).length ≤ 8 := by
        unfold upsF
        exact Nat.le_trans (List.length_filter_le _ _) (by simp)
      simpa using this
theorem lookO_len (c : Pc) : ∀ G : List GE, (lookO c G).length ≤ 8 * G.length
  | [] => by simp [lookO]
  | g :: G => by
    have ih := lookO_len c G
    have := lookF_len c g.x
    unfold lookO at ih ⊢
    rw [List.flatMap_cons, List.length_append, List.length_cons]
    omega
/-- While looking at all: k were looked at. -/
def lookGk (c : Pc) (G : List GE) (k : Nat) : List GE := lookG c (G.take k) ++ G.drop k
theorem lookGk_b (c : Pc) (G : List GE) (k : Nat) : (lookGk c G k).map (·.b) = G.map (·.b) := by
  unfold lookGk
  rw [List.map_append, lookG_b, ← List.map_append, List.take_append_drop]
theorem lookGk_step {c : Pc} {G : List GE} (hn : (G.map (·.b)).Nodup) {k : Nat} {g : GE} (hg : G[k]? = some g) : g ∈ lookGk c G k ∧ putG (lookGk c G k) g.b (lookF c g.x).1 = lookGk c G (k + 1) := by
  obtain ⟨hk, he⟩ := List.getElem?_eq_some_iff.1 hg
  have hd : G.drop k = g :: G.drop (k + 1) := by rw [List.drop_eq_getElem_cons hk, he]
  have h1 : lookGk c G k = lookG c (G.take k) ++ g :: G.drop (k + 1) := by unfold lookGk; rw [hd]
  refine ⟨by rw [h1]; simp, ?_⟩
  rw [h1, putG_mid _ _ _ _ (by rw [← h1, lookGk_b]; exact hn)]
  unfold lookGk
  rw [List.take_succ_eq_append_getElem hk, he]
  unfold lookG
  rw [List.map_append, List.append_assoc]
  rfl
def CoU (cb : Nat) (G : List GE) (ov : Value) (k : Nat) : Prop := k = cb ∨ (∃ g ∈ G, k = g.b) ∨ ov.ownBlock = some k
set_option maxRecDepth 100000 in
set_option maxHeartbeats 4000000 in
attribute [-go_sem] Instr.storeAt Instr.loadAt in
theorem lookAll_any {w : World} {cb mb B : Nat} {ov : Value} {room : Int} {c : Pc} {G : List GE} (h : CoM w cb mb ov room c G) (hpc : PcOk c) (hew : ∀ g ∈ G, EW c g.x) {o : List Tl} (ho : OutM w B ov o) (hB : B ≤ w.heap.size) (hlen : o.length + 8 * G.length ≤ 900000) :
    Calls Try.prog 62 #[.pointer (some ⟨cb, 0, none⟩)] w (TellPost w cb mb B room c (lookG c G) (o ++ lookO c G) (CoU cb G ov)) := by
  have HKW := Lib.hid h.keysW
  have H := Lib.hid h
  have HPC := Lib.hid hpc
  have HEW := Lib.hid hew
  have HO := Lib.hid ho
  have hG := h.len
  clear h hpc hew ho
  go_enter Try.func62, Try.ntmps62
  go_wp2_with (go_at_call 31; refine HKW.out.mono ?_; rintro e w1 ⟨v, rfl, hr, hb⟩; obtain ⟨A, cp, rfl, _⟩ := own_form hr; have HR := Lib.hid hr; have HB1 := Lib.hid hb; clear hr hb)
  obtain ⟨n, hn⟩ : ∃ n, n = G.length := ⟨_, rfl⟩
  rw [← hn] at hG hlen
  have HN := Lib.hid hn
  have hr := HR.out
  rw [← hn] at hr ⊢
  have HR2 := Lib.hid hr
  have HPL := Lib.hid (show (G.map (·.x.p)).length = n by rw [List.length_map, hn])
  have hm0 : TlM w cb mb B room c (lookGk c G 0) (o ++ lookO c (G.take 0)) w1 ov (CoU cb G ov) := by
    rw [show lookGk c G 0 = G from rfl, show lookO c (G.take 0) = [] from rfl, List.append_nil]
    exact ⟨H.out.below HB1.out, own_below HO.out HB1.out, Upd.ofBelow HB1.out _, fun j hj => .inl (.inr (.inr hj))⟩
  have HM0 := Lib.hid hm0
  clear hn hr hm0 HR
  go_loopw [3, 7] (fun _ s7 wr => ∃ (k : Nat) (ov2 : Value), k ≤ n ∧ s7 = .int .i64 (k : Int) ∧ TlM w cb mb B room c (lookGk c G k) (o ++ lookO c (G.take k)) wr ov2 (CoU cb G ov) ∧ wr.ownsRow w.heap.size 36 2 (.slice A n cp) n (flatP (G.map (·.x.p)))) (fun _ s7 _ => n - (intOf s7).toNat)
  case atStart => exact ⟨0, ov, Nat.zero_le _, rfl, HM0.out, HR2.out⟩
  case round =>
    obtain ⟨k, ov2, hk, rfl, hM, hRr⟩ := hrel
    have HM := Lib.hid hM
    have HRr := Lib.hid hRr
    by_cases hlt : k < n
    · obtain ⟨g, hg⟩ : ∃ g, G[k]? = some g := ⟨_, List.getElem?_eq_getElem (by rw [← HN.out]; exact hlt)⟩
      have hgm := List.mem_of_getElem? hg
      obtain ⟨gr, cq, e8, _⟩ := own_form1 hRr (by omega)
      obtain ⟨rfl, rfl⟩ : A = some ⟨gr, 0, none⟩ ∧ cp = cq := by cases e8; exact ⟨rfl, rfl⟩
      have lp := ld_pfrow hRr HPL.out (k := k) (p := g.x.p) (by rw [List.getElem?_map, hg]; rfl)
      obtain ⟨q1, q2⟩ := lookGk_step (c := c) H.out.nd hg
      obtain ⟨W2, hW2⟩ : ∃ Z, Z = wr.alloc (.cells #[.int .u32 (g.x.p.1 : Int), .int .i64 g.x.p.2] 36) := ⟨_, rfl⟩
      have hb2 : Below wr.heap.size wr W2 := by rw [hW2]; exact (Below.refl _ _).alloc (Nat.le_refl _) _
      have sp := st_pf_new wr (g.x.p.1 : Int) g.x.p.2
      rw [← hW2] at sp
      have lp2 := ld_pf (w := W2) (b := wr.heap.size) (p := g.x.p) (by rw [hW2]; exact Blk.new _ _ _)
      have hm2 : TlM w cb mb B room c (lookGk c G k) (o ++ lookO c (G.take k)) W2 ov2 (CoU cb G ov) := ⟨hM.com.below hb2, own_below hM.out hb2, hM.upd.trans_ (Upd.ofBelow hb2 _), hM.own⟩
      have hll := lookO_len c (G.take k)
      have htk : (G.take k).length ≤ k := by simp; omega
      have hlk := look_any (B := B) hm2.com HPC.out q1 (HEW.out g hgm) hm2.out (by have := hm2.upd.size; omega) (by rw [List.length_append]; omega)
      rw [q2] at hlk
      have HLK := Lib.hid hlk
      have HM2 := Lib.hid hm2
      have HR3 := Lib.hid (own_below hRr hb2)
      have HGM := Lib.hid hgm
      have HGK := Lib.hid hg
      have k0 : (0 : Int) ≤ k := by omega
      have k1 : (k : Int) < n := by omega
      have HCB := Lib.hid (H.out.blk.lt)
      have HGB := Lib.hid (H.out.en g hgm).lt
      clear hM hRr hgm hg q1 q2 hW2 hb2 hm2 hll htk hlk e8
      go_wp2_with (go_at_call 55; refine HLK.out.mono ?_; rintro e w5 ⟨rfl, ov3, hm⟩; have HM5 := Lib.hid hm; clear hm)
      go_roundw
      case rel =>
        have hm := HM5.out
        have eo : o ++ lookO c (G.take k) ++ (lookF c g.x).2 = o ++ lookO c (G.take (k + 1)) := by
          rw [List.append_assoc]
          congr 1
          rw [List.take_add_one, HGK.out]
          unfold lookO
          rw [List.flatMap_append]
          simp
        rw [eo] at hm
        refine ⟨k + 1, ov3, hlt, by go_num, HM2.out.trans hm fun j hj => ?_, own_keep HR3.out (HM5.out.upd.same (I := fun j => (Value.slice (some ⟨gr, 0, none⟩) n cp).ownBlock = some j) fun j hj hI => ?_) fun _ e => e⟩
        · rcases hj with hj | hj | hj
          · exact .inl (.inl hj)
          · exact .inl (.inr (.inl ⟨g, HGM.out, hj⟩))
          · exact HM2.out.own j hj
        · have hge := (own_lt HR3.out hI).1
          rcases hj with hj | hj | hj
          · have := HCB.out; omega
          · have := HGB.out; omega
          · obtain ⟨cs, hb⟩ := own_blkT HM2.out.out hj
            obtain ⟨cs2, hb2⟩ := own_blk HR3.out hI
            exact hb.ne_ hb2 (by decide) rfl
      case measure => simp [intOf]; omega
    · obtain rfl : k = n := by omega
      clear hM hRr
      go_wp2_with fail
      go_end0
      have hm := HM.out
      have e1 : G.take k = G := List.take_of_length_le (by rw [HN.out]; exact Nat.le_refl _)
      rw [e1, show lookGk c G k = lookG c G by unfold lookGk; rw [e1, List.drop_of_length_le (by rw [HN.out]; exact Nat.le_refl _), List.append_nil]] at hm
      exact ⟨rfl, ov2, hm⟩
end Go.Proofs.Ytahdjfegihnolaa
