/- Layer 12: Passive. -/
import Derived.Test.YtahdjfegihnolaaLzA
namespace Go.Proofs.Ytahdjfegihnolaa
open Go.RowKit Go.Sort
theorem nodup_g : ∀ {G : List GE}, (G.map (·.x.p)).Nodup → ∀ {g h : GE}, g ∈ G → h ∈ G → h.x.p = g.x.p → h = g
  | [], _, _, _, hg, _, _ => by cases hg
  | a :: G, hn, g, h, hg, hh, e => by
    rw [List.map_cons, List.nodup_cons] at hn
    rcases List.mem_cons.1 hg with eg | hg
    · rcases List.mem_cons.1 hh with eh | hh
      · exact eh.trans eg.symm
      · exact absurd (by rw [← eg, ← e]; exact List.mem_map_of_mem (f := fun g : GE => g.x.p) hh) hn.1
    · rcases List.mem_cons.1 hh with eh | hh
      · exact absurd (by rw [← eh, e]; exact List.mem_map_of_mem (f := fun g : GE => g.x.p) hg) hn.1
      · exact nodup_g hn.2 hg hh e
def pasF (l : List Le) : Bool := l.all fun x => !actF x
set_option maxRecDepth 100000 in
set_option maxHeartbeats 2000000 in
attribute [-go_sem] Instr.storeAt Instr.loadAt in
theorem passive_any {w : World} {cb mb : Nat} {ov : Value} {room : Int} {c : Pc} {G : List GE} (h : CoM w cb mb ov room c G) :
    Calls Try.prog 17 #[.pointer (some ⟨cb, 0, none⟩)] w fun e w' => e = .returned (.bool (pasF (G.map (·.x)))) ∧ Below w.heap.size w w' := by
  obtain ⟨F, m⟩ := h.map
  have hka := h.keysAre m
  obtain ⟨W1, lf, hr, hra, hl, hb1, hs1⟩ := m.map.range pfKeyed Try.underlying79
  have c17 := ld_mC (h.blk.cell 17)
  have HTH := Lib.hid (cthere_any h.blk)
  have HL := Lib.hid (show ∀ g ∈ G, lf (pfL g.x.p) = false → actF g.x = false from fun g hg hh => by
    rw [hl _ (pfL_lit (hka.ok _ (List.mem_map_of_mem hg))), m.at_ g hg] at hh
    cases hh)
  have HRA := Lib.hid hra
  have HM := Lib.hid m
  have HKA := Lib.hid hka
  have HB1 := Lib.hid hb1
  have HND := Lib.hid (show ∀ g ∈ G, ∀ a ∈ G, pfL a.x.p = pfL g.x.p → a.x.p = g.x.p from fun g hg a ha e => pfL_inj (may_ok (h.may a ha)) (may_ok (h.may g hg)) e)
  have HNI := Lib.hid (show (G.map (·.x.p)).Nodup from hka.nd)
  have HEN := Lib.hid (fun wx (hb : Below w.heap.size w wx) g (hg : g ∈ G) => (h.en g hg).below hb (h.en g hg).lt)
  clear h m hka hra hl hb1 hs1
  go_enter Try.func17, Try.ntmps17
  go_wp2_with (go_at_call 27; refine HTH.out.mono ?_; rintro e w' ⟨rfl, rfl⟩)
  clear hr c17
  go_loopw [] (fun wr => ∃ (left : Lit → Bool) (cnt : Nat), RangeV Try.prog 36 wr mb w.heap.size G.length F left cnt ∧ (∀ g ∈ G, left (pfL g.x.p) = false → actF g.x = false) ∧ Below w.heap.size w wr) (fun wr => wr.rangeLeft mb w.heap.size)
  case atStart => exact ⟨_, _, HRA.out, HL.out, HB1.out⟩
  case round =>
    obtain ⟨left, cnt, hR, hk, hB⟩ := hrel
    rcases hR.next pfKeyed 0 with ⟨_, hdone, hrun⟩ | ⟨key, v, kl, w2, cnt2, a1, a2, a3, a4, hrun, hR2, hlt, hg2, hs2, hent⟩
    · have HBR := Lib.hid hB
      have hp : pasF (G.map (·.x)) = true := by
        unfold pasF
        rw [List.all_eq_true]
        intro x hx
        obtain ⟨g, hg, rfl⟩ := List.mem_map.1 hx
        rw [hk g hg (hdone _)]
        rfl
      have HP := Lib.hid hp
      clear hR hB hdone hk hp
      go_wp2_with fail
      go_ret
      exact ⟨by rw [HP.out]; rfl, HBR.out⟩
    · obtain ⟨g, hg, rfl⟩ := HM.out.keys kl v a4 a2
      have hv := HM.out.at_ g hg
      rw [a4] at hv
      injection hv with hv
      subst hv
      have hB2 : Below w.heap.size w w2 := hB.grown hg2 hB.size fun j e => by injection e with e; omega
      have hac := active_any (HEN.out w2 hB2 g hg)
      have HR2 := Lib.hid hR2
      have HB2 := Lib.hid hB2
      have HLT := Lib.hid (show w2.rangeLeft mb w.heap.size < wr.rangeLeft mb w.heap.size by rw [hR2.left_eq, hR.left_eq]; exact hlt)
      have HK := Lib.hid hk
      have HG := Lib.hid hg
      unfold ptrE at hrun hent
      clear hR hB a1 a2 a3 a4 hR2 hlt hg2 hs2 hB2 hk hg
      cases ha : actF g.x with
      | true =>
        rw [ha] at hac
        have HAC := Lib.hid hac
        have hp : pasF (G.map (·.x)) = false := by
          unfold pasF
          rw [List.all_eq_false]
          exact ⟨g.x, List.mem_map_of_mem HG.out, by rw [ha]; simp⟩
        have HP := Lib.hid hp
        clear hac hp ha
        go_wp2_with (go_at_call 34; refine HAC.out.mono ?_; rintro e w' ⟨rfl, rfl⟩)
        go_ret
        exact ⟨by rw [HP.out]; rfl, HB2.out⟩
      | false =>
        rw [ha] at hac
        have HAC := Lib.hid hac
        have HA := Lib.hid ha
        clear hac ha
        go_wp2_with (go_at_call 34; refine HAC.out.mono ?_; rintro e w' ⟨rfl, rfl⟩)
        go_roundw
        case rel =>
          refine ⟨_, _, HR2.out, fun a ha hh => ?_, HB2.out⟩
          by_cases e : pfL a.x.p = pfL g.x.p
          · have := nodup_g HNI.out HG.out ha (HND.out g HG.out a ha e)
            rw [this]
            exact HA.out
          · rw [Maps.sameKey_ne e] at hh
            exact HK.out a ha (by simpa using hh)
        case measure => exact HLT.out
end Go.Proofs.Ytahdjfegihnolaa
