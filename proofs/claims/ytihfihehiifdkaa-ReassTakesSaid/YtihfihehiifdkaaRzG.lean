/- Reass: a table's Copy. -/
import Derived.Test.YtihfihehiifdkaaRtE
import Derived.Shelf.SlMaps.Clone
namespace Go.Proofs.Ytihfihehiifdkaa
open Go.RowKit Go.Sort
set_option maxRecDepth 100000 in
set_option maxHeartbeats 4000000 in
/-- maps.Clone at a flow's map. -/
theorem mclone_any {w : World} {b n s : Nat} {F : Lit → Option Value} (h : MapV Try.prog 3 w b n F s) :
    Calls Try.prog 86 #[.map (some b)] w fun e w' => e = .returned (.map (some w.heap.size)) ∧ MapV Try.prog 3 w' w.heap.size n F s ∧ Below w.heap.size w w' ∧ w.heap.size < w'.heap.size := by
  have h2 := h
  obtain ⟨D, ⟨es, clock, hb, fit, hs, hD⟩, h3⟩ := h
  have hq := fun w => run_eql_map_nil_sl (P := Try.prog) w 113 _ _ (some b) Try.underlying113
  have H3 := Lib.hid h3
  have HB := Lib.hid hb
  have HS := Lib.hid (And.intro hs hD)
  have HFIT := Lib.hid fit
  clear h3 hs hD h2
  go_enter Try.func86, Try.ntmps86
  go_wp2
  rw [run_callFunc_extern (P := Try.prog) (f := 101) (fn := Try.f101) (by kernel_rfl) (by kernel_rfl) (by kernel_rfl) (by kernel_rfl) (e := Extern.MapsClone.clone) (by kernel_rfl), run_maps_clone_sl w 113 hb]
  simp only [Result.andThen]
  rw [Oper.upon_value]
  go_wp2
  rw [run_typeAssert_map_sl _ 113 _ _ _ _ Try.underlying113]
  simp only [Result.andThen]
  rw [Oper.upon_value]
  go_wp2
  go_ret
  refine ⟨rfl, ⟨D, ⟨es, clock, (MapKept.heap_alloc w _).1, HFIT.out, HS.out.1, HS.out.2⟩, H3.out⟩, (Below.refl _ w).alloc (Nat.le_refl _) _, by simp⟩
end Go.Proofs.Ytihfihehiifdkaa
namespace Go.Proofs.Ytihfihehiifdkaa
open Go.RowKit Go.Sort
theorem perm_lift {α β : Type} {f : α → β} {a b : List β} (h : a.Perm b) : ∀ l : List α, l.map f = a → ∃ l' : List α, l'.Perm l ∧ l'.map f = b := by
  induction h with
  | nil => exact fun l hl => ⟨l, List.Perm.refl _, hl⟩
  | cons x _ ih =>
    intro l hl
    match l, hl with
    | y :: t, hl =>
      rw [List.map_cons] at hl
      injection hl with h1 h2
      obtain ⟨t', p, e⟩ := ih t h2
      exact ⟨y :: t', p.cons y, by rw [List.map_cons, h1, e]⟩
  | swap x y t =>
    intro l hl
    match l, hl with
    | u :: v :: r, hl =>
      rw [List.map_cons, List.map_cons] at hl
      injection hl with h1 h2
      injection h2 with h2 h3
      exact ⟨v :: u :: r, List.Perm.swap _ _ _, by rw [List.map_cons, List.map_cons, h1, h2, h3]⟩
  | trans _ _ ih1 ih2 =>
    intro l hl
    obtain ⟨l1, p1, e1⟩ := ih1 l hl
    obtain ⟨l2, p2, e2⟩ := ih2 l1 e1
    exact ⟨l2, p2.trans p1, e2⟩
/-- The order in which a table's flows are listed is nothing of the map's. -/
theorem TbM.perm {w : World} {tb mb : Nat} {G G' : List GF} (h : TbM w tb mb G) (p : G'.Perm G) : TbM w tb mb G' := by
  obtain ⟨F, m⟩ := h.map
  refine ⟨h.blk, ⟨F, by rw [p.length_eq]; exact m.map, fun g hg => m.at_ g (p.mem_iff.1 hg), fun k hk hn => m.miss k hk fun g hg => hn g (p.mem_iff.2 hg), fun kl v hv hl => ?_⟩, fun g hg => h.fl g (p.mem_iff.1 hg), (p.map _).nodup_iff.2 h.nd, (p.map _).nodup_iff.2 h.fbs, ((p.map _).cons mb).nodup_iff.2 h.abs, fun g hg => h.nlt g (p.mem_iff.1 hg), by rw [p.length_eq]; exact h.len⟩
  obtain ⟨g, hg, e⟩ := m.keys kl v hv hl
  exact ⟨g, p.mem_iff.2 hg, e⟩
theorem tup_grown {w w' : World} {b : Nat} (hu : Upd (only b) w w') : w.grownBy w' (some b) := ⟨hu.os, hu.tape, hu.output, hu.size, fun k hk hne => hu.block k hk fun e => hne (by rw [show k = b from e])⟩
theorem rf_info : (Try.prog.info? 115).map (·.size) = some 14 := by kernel_rfl
theorem rf_store {w : World} {g : Nat} {cs vs : Array Value} (h : Blk w g 115 cs) (hc : cs.size = 14) (hv : vs.size = 14) (h1 : vs.all (·.oneCell') = true) : (Instr.storeAt 115 (.pointer (some ⟨g, 0, none⟩)) (.agg vs)).run Try.prog w = .ok () (w.setCells g 0 vs.toList) :=
  run_storeAt_mid w g 0 _ vs (by have := blk_there h; rwa [hc, ← hv] at this) (by rw [hv]; exact rf_info) h1
theorem rf_load {w : World} {g : Nat} {cs : Array Value} (h : Blk w g 115 cs) (hc : cs.size = 14) : (Instr.loadAt 115 (.pointer (some ⟨g, 0, none⟩))).run Try.prog w = .ok (.agg cs) w := by
  have := run_loadAt_mid (P := Try.prog) w g 0 115 cs.toList _ (blk_range h) Try.underlying115 rfl (by simpa [hc] using rf_info)
  simpa using this
theorem rf_var {B : Nat} {w w1 : World} (hb : Below B w w1) (hB : B ≤ w1.heap.size) (X : Array Value) (hX : X.size = 14) (h1 : X.all (·.oneCell') = true) : ∃ w2, (Instr.storeAt 115 (.pointer (some ⟨w1.heap.size, 0, none⟩)) (.agg X)).run Try.prog (w1.alloc (.cells #[.map none, .int .u8 0, .int .u16 0, .bool false, .bool false, .bool false, .int .i64 0, .int .u8 0, .int .u8 0, .int .u32 0, .int .u32 0, .slice none 0 0, .bool false, .int .i64 0] 115)) = .ok () w2 ∧ Below B w w2 ∧ Below w1.heap.size w1 w2 ∧ Blk w2 w1.heap.size 115 X :=
  ⟨_, rf_store (vs := X) (Blk.new w1 _ _) rfl hX h1, below_setCells hB _ 0 _ (hb.alloc hB _), below_setCells (Nat.le_refl _) _ 0 _ ((Below.refl _ _).alloc (Nat.le_refl _) _), blk_setCells (Blk.new w1 _ _) hX.symm⟩
theorem ld_fm {w : World} {a : Addr} {b : Nat} (hu : w.cell? a = some (.map (some b))) : (Instr.loadAt 113 (.pointer (some a))).run Try.prog w = .ok (.map (some b)) w := by simp [go_sem, hu]
theorem st_fm {w : World} {g : Nat} {u : Value} (hu : w.cell? ⟨g, 0, none⟩ = some u) (hf : w.frozen? ⟨g, 0, none⟩ = false) (b : Nat) : (Instr.storeAt 113 (.pointer (some ⟨g, 0, none⟩)) (.map (some b))).run Try.prog w = .ok () (w.setCell ⟨g, 0, none⟩ (.map (some b))) := by simp [go_sem, hu, hf]
theorem flC_one (ab : Nat) (h : Hd) (A : Option Addr) (n c : Nat) (fst : Bool) (en : Int) : (flC ab h (.slice A n c) fst en).all (·.oneCell') = true := by unfold flC; simp [Value.oneCell']
def TCopyPost (w : World) (G : List GF) (e : Ending) (w' : World) : Prop := ∃ tb2 mb2 G2, e = .returned (ptrV tb2) ∧ TbM w' tb2 mb2 G2 ∧ G2.map GF.f = G.map GF.f ∧ Below w.heap.size w w' ∧ ∀ b, TbMut tb2 mb2 G2 b → w.heap.size ≤ b
set_option maxRecDepth 100000 in
set_option maxHeartbeats 8000000 in
attribute [-go_sem] Instr.storeAt Instr.loadAt in
theorem tcopy_any (tb mb : Nat) (G : List GF) (w : World) (h : TbM w tb mb G) : Calls Try.prog 50 #[.pointer (some ⟨tb, 0, none⟩)] w (TCopyPost w G) := by
  have HTH := Lib.hid (there_any tb mb w h.blk)
  have H := Lib.hid h
  have HTN := Lib.hid (tnew_any w)
  have hlen := h.len
  clear h
  go_enter Try.func50, Try.ntmps50
  go_upto_region 4 with (first
    | (go_at_call 82; refine HTH.out.mono ?_; rintro e w1 ⟨rfl, rfl⟩)
    | (go_at_call 40; refine HTN.out.mono ?_; rintro e w4 ⟨tb2, mb2, rfl, ht, hs1, hs2, hb⟩; have HM4 := Lib.hid ht; have HS := Lib.hid (And.intro hs1 hs2); have HB4 := Lib.hid hb; clear ht hs1 hs2 hb))
  have h4 := H.out.below HB4.out
  obtain ⟨F, m⟩ := h4.map
  obtain ⟨W5, lf, hr, hra, hl, hb5, hs5⟩ := m.map.range pcKeyed Try.underlying86
  have c0 := ld_mapt (h4.blk.cell 0)
  obtain ⟨r, hr0⟩ : ∃ r, r = w4.heap.size := ⟨_, rfl⟩
  rw [← hr0] at hr hra
  have HR0 := Lib.hid (show w.heap.size ≤ r ∧ mb2 < r ∧ tb2 < r from ⟨by rw [hr0]; exact HB4.out.size, by rw [hr0]; exact HM4.out.mlt mb2 (.inr (.inl rfl)), by rw [hr0]; exact HM4.out.mlt tb2 (.inl rfl)⟩)
  have HMBL := Lib.hid (show mb < w.heap.size ∧ tb < w.heap.size ∧ ∀ g ∈ G, g.fb < w.heap.size ∧ g.ab < w.heap.size ∧ ∀ b, g.N b → b < w.heap.size from ⟨H.out.mlt mb (.inr (.inl rfl)), H.out.mlt tb (.inl rfl), fun g hg => ⟨H.out.mlt _ (.inr (.inr ⟨g, hg, .inl rfl⟩)), H.out.mlt _ (.inr (.inr ⟨g, hg, .inr rfl⟩)), H.out.nlt g hg⟩⟩)
  have HRA := Lib.hid hra
  have HF := Lib.hid m
  have HL := Lib.hid (show ∀ g ∈ G, lf (kyL g.f.key) = true from fun g hg => by rw [hl _ (kyL_lit (H.out.fl g hg).2.2), m.at_ g hg]; rfl)
  have HM5 := Lib.hid (HM4.out.below hb5)
  have HB5 := Lib.hid (HB4.out.trans (hb5.mono HB4.out.size))
  clear h4 m hra hl hb5 hs5 hr0
  unfold ptrV
  go_wp2_with fail
  clear hr c0
  go_loopw [] (fun wr => ∃ (left : Lit → Bool) (cnt : Nat) (G2 : List GF), RangeV Try.prog 68 wr mb r G.length F left cnt ∧ TbM wr tb2 mb2 G2 ∧ (∀ x, (∃ g ∈ G2, g.f = x) ↔ ∃ g ∈ G, g.f = x ∧ left (kyL g.f.key) = false) ∧ G2.length + cnt ≤ G.length ∧ Below w.heap.size w wr ∧ ∀ g ∈ G2, w.heap.size ≤ g.fb ∧ w.heap.size ≤ g.ab ∧ g.fb ≠ r ∧ g.ab ≠ r ∧ ∀ b, g.N b → b < w.heap.size) (fun wr => wr.rangeLeft mb r)
  case atStart => exact ⟨_, _, [], HRA.out, HM5.out, fun x => ⟨fun ⟨g, hg, _⟩ => (by cases hg), fun ⟨g, hg, _, h⟩ => by rw [HL.out g hg] at h; cases h⟩, by simp, HB5.out, fun g hg => by cases hg⟩
  case round =>
    obtain ⟨left, cnt, G2, hR, hM, hmem, hcnt, hB, hg2⟩ := hrel
    have HM := Lib.hid hM
    have HMEM := Lib.hid hmem
    have HCNT := Lib.hid hcnt
    have HB := Lib.hid hB
    have HG2 := Lib.hid hg2
    rcases hR.next pcKeyed 0 with ⟨_, hdone, hrun⟩ | ⟨key, v, kl, w2, cnt2, a1, a2, a3, a4, hrun, hR2, hlt, hgr, hs2, hent⟩
    · have hnd : ∀ {L : List GF}, (L.map fun g => g.f.key).Nodup → (L.map GF.f).Nodup := fun {L} hn => by
        have e : (L.map fun g => g.f.key) = (L.map GF.f).map Fl.key := by rw [List.map_map]; rfl
        rw [e] at hn
        exact List.Pairwise.of_map Fl.key (fun a b h e => h (by rw [e])) hn
      have hperm : (G2.map GF.f).Perm (G.map GF.f) := (List.perm_ext_iff_of_nodup (hnd hM.nd) (hnd H.out.nd)).2 fun x => by
        rw [List.mem_map, List.mem_map]
        exact ⟨fun h => by obtain ⟨g, hg, e, _⟩ := (hmem x).1 h; exact ⟨g, hg, e⟩, fun ⟨g, hg, e⟩ => (hmem x).2 ⟨g, hg, e, hdone _⟩⟩
      obtain ⟨G3, hp3, he3⟩ := perm_lift hperm G2 rfl
      have HP3 := Lib.hid hp3
      have HE3 := Lib.hid he3
      clear hR hM hmem hcnt hB hg2 hdone hnd hperm hp3 he3
      go_wp2_with fail
      go_ret
      refine ⟨tb2, mb2, G3, rfl, HM.out.perm HP3.out, HE3.out, HB.out, fun b hb => ?_⟩
      rcases hb with hb | hb | ⟨g, hg, hb⟩
      · rw [hb]; exact HS.out.1
      · rw [hb]; exact HS.out.2
      · have h9 := HG2.out g (HP3.out.mem_iff.1 hg)
        rcases hb with hb | hb
        · rw [hb]; exact h9.1
        · rw [hb]; exact h9.2.1
    · obtain ⟨g, hg, rfl⟩ := HF.out.keys kl v a4 a2
      have hv := HF.out.at_ g hg
      rw [a4] at hv
      injection hv with hv
      subst hv
      have hko := (H.out.fl g hg).2.2
      obtain rfl : key = pcV g.f.key := pcKeyed.inj a1 (kyL_key hko)
      have hsm : Same (fun b => TbMut tb2 mb2 G2 b ∨ TbN G2 b) wr w2 := ⟨hgr.size, fun k hk hkl => hgr.block k hkl fun e => by
        injection e with e
        have h0 := HR0.out
        rcases hk with (hk | hk | ⟨a, ha, hk | hk⟩) | ⟨a, ha, hk⟩
        · omega
        · omega
        · exact (HG2.out a ha).2.2.1 (by omega)
        · exact (HG2.out a ha).2.2.2.1 (by omega)
        · have := (HG2.out a ha).2.2.2.2 k hk; omega⟩
      have hM2 := hM.same hsm
      have hB2 : Below w.heap.size w w2 := hB.grown hgr hB.size fun j e => by injection e with e; have := HR0.out.1; omega
      obtain ⟨⟨vo, hkg, hro, hrN⟩, F1, hm1, hc1⟩ := (H.out.fl g hg).1
      obtain ⟨Ao, co, rfl, _⟩ := hro.form
      -- the key's variable
      obtain ⟨V1, sp, hbw1, hbv1, hkp⟩ := pc_var hB2 hB2.size g.f.key
      obtain ⟨gp, hgp⟩ : ∃ z, z = w2.heap.size := ⟨_, rfl⟩
      -- the flow's copy
      have hB1 : Below w.heap.size w V1 := hbw1
      have lfw := rf_load ((hkg.below hB1 hkg.lt)) rfl
      obtain ⟨V2, st, hbw2, hbv2, hke⟩ := rf_var hB1 hB1.size (flC g.ab g.f.hd (.slice Ao g.f.hd.opts.length co) g.f.first g.f.en) rfl (flC_one _ _ _ _ _ _ _)
      have hlt2 := hke.lt
      obtain ⟨xb, hxb⟩ : ∃ z, z = V1.heap.size := ⟨_, rfl⟩
      have hb12 := hbv1.trans (hbv2.mono hbv1.size)
      have l0 := ld_fm (w := V2) (a := ⟨g.fb, 0, none⟩) (b := g.ab) (by rw [(hkg.below hbw2 hkg.lt).cell]; rfl)
      have hcl := mclone_any (hm1.below hbw2)
      have HCL := Lib.hid hcl
      have HMV := Lib.hid (hM2.below hb12)
      have HBV := Lib.hid hbw2
      have HRV := Lib.hid (hR2.below hb12)
      have HKP := Lib.hid (show Blk V2 gp 68 (pcC g.f.key) by rw [hgp]; exact hkp.below hbv2 hkp.lt)
      have HKE := Lib.hid (show Blk V2 xb 115 (flC g.ab g.f.hd (.slice Ao g.f.hd.opts.length co) g.f.first g.f.en) by rw [hxb]; exact hke)
      have hr2 : r < w2.heap.size := hR2.lt
      have HXB := Lib.hid (show w.heap.size ≤ xb ∧ xb ≠ r ∧ (∀ a ∈ G2, a.fb ≠ xb) ∧ xb ≠ gp ∧ xb < V2.heap.size ∧ r < V2.heap.size from ⟨by rw [hxb]; exact hB1.size, by have := hbv1.size; omega, fun a ha => by
        have := hM2.mlt a.fb (.inr (.inr ⟨a, ha, .inl rfl⟩))
        have := hbv1.size
        omega, by have := hkp.lt; omega, by omega, by have := hb12.size; omega⟩)
      have HLT := Lib.hid (show cnt2 < cnt ∧ wr.rangeLeft mb r = cnt from ⟨hlt, hR.left_eq⟩)
      have HG := Lib.hid hg
      have HA3 := Lib.hid a3
      have HKO := Lib.hid hko
      have HRO := Lib.hid hro
      have HRN := Lib.hid hrN
      have HC1 := Lib.hid hc1
      have hkey : kOk g.f.key := hko
      have HOK := Lib.hid (H.out.fl g hg).2.1
      unfold ptrV at hrun hent
      unfold pcV pcC at hrun hent
      unfold pcC at sp
      clear hR hM hmem hcnt hB hg2 a1 a2 a3 a4 hR2 hlt hgr hs2 hko hsm hM2 hB2 hkg hro hrN hm1 hc1 hbw1 hbv1 hkp hB1 hbw2 hbv2 hke hlt2 hb12 hr2 hg hcl
      go_upto_region 8 with (fail)
      rw [← hgp, ← hxb]
      clear sp st lfw hrun hent hgp hxb
      go_upto_region 9 with (go_at_call 86; refine HCL.out.mono ?_; rintro e V3 ⟨rfl, hmc, hbc, hlc⟩; have HMC := Lib.hid hmc; have HBC := Lib.hid hbc; have HLC := Lib.hid hlc; have s0 := st_fm ((HKE.out.below hbc HKE.out.lt).cell 0) ((HKE.out.below hbc HKE.out.lt).frozen 0) V2.heap.size; clear hmc hbc hlc)
      clear l0
      obtain ⟨ab2, hab2⟩ : ∃ z, z = V2.heap.size := ⟨_, rfl⟩
      rw [← hab2] at s0 ⊢
      obtain ⟨V4, hV4⟩ : ∃ Z, Z = V3.setCell ⟨xb, 0, none⟩ (.map (some ab2)) := ⟨_, rfl⟩
      have hx3 := HKE.out.below HBC.out HKE.out.lt
      have hx4 : Blk V4 xb 115 (flC ab2 g.f.hd (.slice Ao g.f.hd.opts.length co) g.f.first g.f.en) := by rw [hV4]; exact hx3.set_ 0 _
      have hu4 : Upd (only xb) V3 V4 := by rw [hV4]; exact upd_set V3 xb 0 _
      rw [← hV4] at s0
      try rw [← hV4]
      have hmc4 : MapV Try.prog 3 V4 ab2 (cntC g.f.c 8192) F1 (cntC g.f.c 8192) := by
        have := HMC.out
        rw [← hab2] at this
        exact this.upd hu4 fun (e : ab2 = xb) => by have := HXB.out.2.2.2.2.1; omega
      have hM3 := HMV.out.below HBC.out
      have hM4 : TbM V4 tb2 mb2 G2 := hM3.same (hu4.same fun k (hk : k = xb) hI => by
        have h9 := HXB.out
        rcases hI with (hI | hI | ⟨a, ha, hI | hI⟩) | ⟨a, ha, hI⟩
        · have := HR0.out; have := hM3.blk; rw [← hI, hk] at this; unfold Blk at this hx3; rw [hx3] at this; injection this with this; injection this with _ this; exact absurd this (by decide)
        · obtain ⟨Fq, mq⟩ := hM3.map
          exact mq.map.ne_blk hx3 (by rw [← hk, hI])
        · exact h9.2.2.1 a ha (by rw [← hI, hk])
        · obtain ⟨Fq, hq, _⟩ := (hM3.fl a ha).1.map
          exact hq.ne_blk hx3 (by rw [← hI, hk])
        · have := (HG2.out a ha).2.2.2.2 k hI; omega)
      have hB3 := HBV.out.trans (HBC.out.mono HBV.out.size)
      have hB4 : Below w.heap.size w V4 := hB3.trans (hu4.below (fun k (hk : k = xb) => by have := HXB.out.1; omega) hB3.size)
      have hrow : ∀ u (x : By), Row8 0 w u x → Row8 0 V4 u x := fun u x hx => hx.below hB4
      have hfl : FlM V4 g.N xb ab2 g.f := ⟨⟨_, hx4, hrow _ _ HRO.out, HRN.out⟩, F1, hmc4, HC1.out.keep fun v x hv hn => ⟨hrow v x hv, hn⟩⟩
      have HM4 := Lib.hid hM4
      have HFL := Lib.hid hfl
      have HB4' := Lib.hid hB4
      have HK4 := Lib.hid ((HKP.out.below HBC.out HKP.out.lt).upd hu4 fun (e : gp = xb) => HXB.out.2.2.2.1 e.symm)
      have HR4 := Lib.hid (((HRV.out.below HBC.out).kept (tup_grown hu4) (fun e => by injection e with e; have := HMBL.out.1; have := HXB.out.1; omega) (fun e => by injection e with e; exact HXB.out.2.1 e.symm)))
      have HAB := Lib.hid (show w.heap.size ≤ ab2 ∧ ab2 ≠ r ∧ (∀ a ∈ G2, a.ab ≠ ab2) ∧ ab2 ≠ mb2 from ⟨by rw [hab2]; exact HBV.out.size, by rw [hab2]; have := HXB.out.2.2.2.2.2; omega, fun a ha => by rw [hab2]; have := HMV.out.mlt a.ab (.inr (.inr ⟨a, ha, .inr rfl⟩)); omega, by rw [hab2]; have := HMV.out.mlt mb2 (.inr (.inl rfl)); omega⟩)
      clear hV4 hx3 hx4 hu4 hmc4 hM3 hM4 hB3 hB4 hrow hfl hab2
      go_upto_region 9 with (fail)
      clear s0
      refine wp_region_mix [(true, 5), (false, 1)] 0 (by kernel_rfl) (fun wx => Below V4.heap.size V4 wx) (fun _ _ h k => h.trans (k.mono h.size)) (by kernel_rfl) (Below.refl _ _) (a' := ?_) (fun wz hz => ?_) fun wz hz => ?_
      rotate_left
      · have hb := fun (dd : Nat) (os : Array Obj) => hz.trans ((below_regrown wz dd os).mono hz.size)
        have l1 := fun (dd : Nat) (os : Array Obj) => ld_mapt ((HM4.out.below (hb dd os)).blk.cell 0)
        have l2 := fun (dd : Nat) (os : Array Obj) => pc_load (HK4.out.below (hb dd os) HK4.out.lt) rfl
        clear hz hb
        simp only [pick_nil, pick_tt, pick_ft, List.take_succ_cons, List.take_zero, List.drop_succ_cons, List.drop_zero, List.append_nil]
        repeat (go_big_quiet_step (fail))
        refine wpQuiet_nil ?_
        rfl
      simp only [pick_nil, pick_ff, pick_tf, List.take_succ_cons, List.take_zero, List.drop_succ_cons, List.drop_zero, List.append_nil]
      have HZ := Lib.hid hz
      clear hz
      refine wpMix_step HZ.out fun wc hcc => ?_
      have hbx := HZ.out.trans (hcc.mono HZ.out.size)
      have hnone : findG G2 g.f.key = none := by
        cases hf : findG G2 g.f.key with
        | none => rfl
        | some a =>
          obtain ⟨q1, q2⟩ := findG_some hf
          obtain ⟨b, hb1, hb2, hb3⟩ := (HMEM.out a.f).1 ⟨a, q1, rfl⟩
          rw [hb2, q2, HA3.out] at hb3
          cases hb3
      obtain ⟨wd, hrd, hcd, hud⟩ := (HM4.out.below hbx).add (N := g.N) (fb := xb) (ab := ab2) (f := g.f) (by have h1 := HCNT.out; have h2 := HLT.out.1; omega) HKO.out hnone (HFL.out.below hbx) rfl HOK.out HXB.out.2.2.1 HAB.out.2.2.1 HAB.out.2.2.2 (fun b hb => Nat.lt_of_lt_of_le ((HMBL.out.2.2 g HG.out).2.2 b hb) (Nat.le_trans HB4'.out.size hbx.size))
      have hrk := ((HR4.out.below hbx).kept (tup_grown hud) (fun e => by injection e with e; have := HMBL.out.1; have := HS.out.2; omega) (fun e => by injection e with e; have := HR0.out.2.1; omega))
      have HMD := Lib.hid hcd
      have HRD := Lib.hid hrk
      have HBD := Lib.hid (show Below w.heap.size w wd from (HB4'.out.trans (hbx.mono HB4'.out.size)).trans (hud.below (fun k (e : k = mb2) => by rw [e]; exact HS.out.2) (Nat.le_trans HB4'.out.size hbx.size)))
      unfold pcV ptrV at hrd
      clear hcc hbx hcd hud hnone hrk
      go_wp2_with fail
      refine wpMix_plain ?_
      go_wp2_with fail
      clear hrd
      go_roundw
      case rel =>
        refine ⟨_, _, G2 ++ [⟨g.f, xb, ab2, g.N⟩], HRD.out, HMD.out, fun x => ?_, ?_, HBD.out, fun a ha => ?_⟩
        · constructor
          · rintro ⟨a, ha, rfl⟩
            rcases List.mem_append.1 ha with ha | ha
            · obtain ⟨b, hb1, hb2, hb3⟩ := (HMEM.out a.f).1 ⟨a, ha, rfl⟩
              exact ⟨b, hb1, hb2, by rw [hb3]; rfl⟩
            · rw [List.mem_singleton.1 ha]
              exact ⟨g, HG.out, rfl, by rw [WideAt.sameKey_self (kyL_lit HKO.out)]; simp⟩
          · rintro ⟨b, hb1, rfl, hb3⟩
            by_cases e : kyL b.f.key = kyL g.f.key
            · have hpb := (H.out.fl b hb1).2.2
              have hkk := kyL_inj hpb HKO.out e
              have hbg : b.f = g.f := by
                have hi := H.out.nd
                obtain ⟨i, hi1⟩ := List.getElem?_of_mem hb1
                obtain ⟨j, hj1⟩ := List.getElem?_of_mem HG.out
                have h1 : (G.map fun g => g.f.key)[i]? = some b.f.key := by rw [List.getElem?_map, hi1]; rfl
                have h2 : (G.map fun g => g.f.key)[j]? = some b.f.key := by rw [List.getElem?_map, hj1, hkk]; rfl
                have hij : i = j := (List.getElem?_inj (List.getElem?_eq_some_iff.1 h1).1 hi).1 (h1.trans h2.symm)
                rw [hij, hj1] at hi1
                injection hi1 with hi1
                rw [hi1]
              exact ⟨_, List.mem_append.2 (.inr (List.mem_singleton.2 rfl)), hbg.symm⟩
            · rw [Maps.sameKey_ne e] at hb3
              obtain ⟨a, ha, e2⟩ := (HMEM.out b.f).2 ⟨b, hb1, rfl, by simpa using hb3⟩
              exact ⟨a, List.mem_append.2 (.inl ha), e2⟩
        · rw [List.length_append]
          have h1 := HCNT.out
          have h2 := HLT.out.1
          simp
          omega
        · rcases List.mem_append.1 ha with ha | ha
          · exact HG2.out a ha
          · rw [List.mem_singleton.1 ha]
            exact ⟨HXB.out.1, HAB.out.1, HXB.out.2.1, HAB.out.2.1, (HMBL.out.2.2 g HG.out).2.2⟩
      case measure =>
        rw [HRD.out.left_eq, HLT.out.2]
        exact HLT.out.1
end Go.Proofs.Ytihfihehiifdkaa
