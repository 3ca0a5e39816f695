/- Frag: what is known of a piece; reading one of the rows. -/
import Derived.Test.YtfddkehnhkfjeaaFrL
namespace Go.Proofs.Ytfddkehnhkfjeaa
open Go.RowKit Go.Sort Go.BigFrame
theorem st_boolv {w : World} {g i : Nat} {u : Value} (hu : w.cell? ⟨g, i, none⟩ = some u) (hf : w.frozen? ⟨g, i, none⟩ = false) (b : Bool) : (Instr.storeAt 4 (.pointer (some ⟨g, i, none⟩)) (.bool b)).run Try.prog w = .ok () (w.setCell ⟨g, i, none⟩ (.bool b)) := by
  simp [go_sem, hu, hf]
theorem ld8a {w : World} {a : Addr} {A : Option Addr} {n c : Nat} (hu : w.cell? a = some (.slice A n c)) : (Instr.loadAt 22 (.pointer (some a))).run Try.prog w = .ok (.slice A n c) w := by
  simp [go_sem, hu]
/-- Reading one of the rows. -/
theorem Rows8.read {w wx : World} {B n c : Nat} {ad : Addr} {L : List By} (h : Rows8 B w (.slice (some ad) n c) L) (hb : Below w.heap.size w wx) {k : Nat} {x : By} (hx : L[k]? = some x) :
    ∃ A' c', wx.cell? (ad.add k) = some (.slice A' x.length c') ∧ x.length ≤ c' ∧ Reads wx (fun j => B ≤ j ∧ j < w.heap.size) 1 A' x.length (bytesV x) := by
  obtain ⟨hn, us, hl⟩ := h.lst
  have hl2 := hl.keep (Same.ofBelow hb fun j hj => hj.2)
  obtain ⟨A', c', e, hc, hr⟩ := hl2.2.2 k x hx
  obtain ⟨ad', e2, _, _, hcell⟩ := hl2.1.2 (by have := (List.getElem?_eq_some_iff.1 hx).1; omega)
  injection e2 with e2
  subst e2
  have := hcell k _ e
  exact ⟨A', c', this, hc, hr⟩
theorem cutP_len (h : Hd) (L m : Nat) : (cutP h L m).length ≤ L + 1 := by
  unfold cutP
  have := pcs_len h L m L 0
  split
  · simp
  · omega
theorem cut_two {h : Hd} (hm : mayH h = true) {L m : Nat} (h68 : 68 ≤ m) (hf : ¬ 20 + h.opts.length + L ≤ m) : 1 < (cutP h L m).length := by
  have hn := cut_ne (L := L) h68 hm
  obtain ⟨q, hq⟩ : ∃ q, (cutP h L m)[0]? = some q := ⟨_, List.getElem?_eq_getElem hn⟩
  obtain ⟨e, k⟩ := cut_at hm h68 hq
  rcases Nat.lt_or_ge 1 (cutP h L m).length with h1 | h1
  · exact h1
  · have hl := k.last (by omega)
    have hs := k.size
    have hh := k.hd
    rw [hh] at hs
    simp only [Nat.lt_irrefl, if_false] at hs
    have : posF (cutP h L m) 0 = 0 := rfl
    omega
/-- Reading one of the rows, where but the rows' own blocks are as they were. -/
theorem Rows8.readS {w wx : World} {B n c : Nat} {ad : Addr} {L : List By} (h : Rows8 B w (.slice (some ad) n c) L) (hs : Same (fun j => B ≤ j ∧ j < w.heap.size) w wx) {k : Nat} {x : By} (hx : L[k]? = some x) :
    ∃ A' c', wx.cell? (ad.add k) = some (.slice A' x.length c') ∧ x.length ≤ c' ∧ Reads wx (fun j => B ≤ j ∧ j < w.heap.size) 1 A' x.length (bytesV x) := by
  obtain ⟨hn, us, hl⟩ := h.lst
  have hl2 := hl.keep hs
  obtain ⟨A', c', e, hc, hr⟩ := hl2.2.2 k x hx
  obtain ⟨ad', e2, _, _, hcell⟩ := hl2.1.2 (by have := (List.getElem?_eq_some_iff.1 hx).1; omega)
  injection e2 with e2
  subst e2
  have := hcell k _ e
  exact ⟨A', c', this, hc, hr⟩
/-- What is known of a piece. -/
structure PcK (h : Hd) (p : By) (m : Nat) (k N : Nat) (x : By) (g : Hd) (a : Nat) (y : By) : Prop where
  prs : prsF x = (g, y, 0)
  gok : g.ok
  fit : fitsF x (m : Int) = (true, 0)
  hd : g = { h with off := h.off + (a : Int) / 8, opts := if 0 < k then copF h.opts else h.opts, mf := h.mf || decide (k + 1 < N) }
  n8 : k + 1 < N → y.length % 8 = 0
  pos : 1 < N → 0 < y.length
  app : p.take a ++ y = p.take (a + y.length)
  le : a + y.length ≤ p.length
  len : x.length ≤ 65535
  m8 : a % 8 = 0
  bts : x = bytesF g y
  fts : fitsH g y = true
theorem cut_k {h : Hd} (ok : h.ok) (hm : mayH h = true) {p : By} {m : Nat} (h68 : 68 ≤ m) (hm2 : m ≤ 65535) (hoff : ∀ q ∈ cutP h p.length m, q.2.1.off ≤ 8191) {k : Nat} (hk : k < (cutP h p.length m).length) :
    ∃ x g y, ((cutP h p.length m).map (pbF p))[k]? = some x ∧ PcK h p m k (cutP h p.length m).length x g (posF (cutP h p.length m) k) y ∧ posF (cutP h p.length m) (k + 1) = posF (cutP h p.length m) k + y.length := by
  obtain ⟨q, hq⟩ : ∃ q, (cutP h p.length m)[k]? = some q := ⟨_, List.getElem?_eq_getElem hk⟩
  obtain ⟨e, K⟩ := cut_at hm h68 hq
  have hyl : (partF p q.1 (q.1 + q.2.2)).length = q.2.2 := part_len2 K.le
  have hfit := pc_fits hm K hm2 (hoff q (List.mem_of_getElem? hq)) _ hyl
  have hp := read_back (pc_ok ok K) hfit []
  rw [List.append_nil] at hp
  have hlen : (pbF p q).length = 20 + q.2.1.opts.length + q.2.2 := by unfold pbF; rw [bytesF_len, hyl]
  refine ⟨pbF p q, q.2.1, partF p q.1 (q.1 + q.2.2), by rw [List.getElem?_map, hq]; rfl, ⟨hp, pc_ok ok K, ?_, ?_, fun hh => by rw [hyl]; exact K.n8 hh, fun hh => by rw [hyl]; exact K.pos hh, ?_, ?_, ?_, by rw [e]; exact K.m8, rfl, hfit⟩, by rw [posF_succ hq, hyl]⟩
  · unfold fitsF
    rw [show prsF (pbF p q) = (q.2.1, partF p q.1 (q.1 + q.2.2), 0) from hp, if_neg (by omega)]
    have hs := K.size
    simp only [hyl]
    rw [if_neg (by simp), decide_eq_true (by omega)]
  · rw [K.hd, e]
    rw [show ((q.1 / 8 : Nat) : Int) = (q.1 : Int) / 8 by omega]
  · rw [e, hyl, take_part]
  · rw [e, hyl]; exact K.le
  · rw [hlen]; have := K.size; omega
end Go.Proofs.Ytfddkehnhkfjeaa
