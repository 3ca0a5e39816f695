/- Layer 12: the document's Do, any event. -/
import Derived.Test.YtahdjfegihnolaaRcO
namespace Go.Proofs.Ytahdjfegihnolaa
open Go.RowKit Go.Sort
theorem ref2 {c : Lc} {e : Ev} (h : okE e = false) : doF c e = (c, [], 2) := by
  have hw : wrongF c.pc e = 2 := by unfold wrongF; rw [if_pos h]
  unfold doF
  rw [if_pos (by rw [hw]; simp), hw]
set_option maxHeartbeats 2000000 in
theorem do12_any {w : World} {D rb : Nat} {av ov : Value} {room : Int} {c : Pc} {L : List Le} (h : RcM w D rb av ov room c L) (hok : LcOk ⟨room, c, L⟩) (hD : D ≤ w.heap.size) (e : Ev) (hp : e.p.1 < 2 ^ 32) :
    Calls Try.prog 19 #[.pointer (some ⟨rb, 0, none⟩), .agg #[.int .i64 e.kind, .int .i64 e.port, .int .i64 e.cost, .int .u32 (e.p.1 : Int), .int .i64 e.p.2, .int .i64 e.dist]] w (Done12 w D rb av room c L e) := by
  obtain ⟨k, po, v, ⟨a, n⟩, d⟩ := e
  dsimp only at hp ⊢
  cases hh : okE ⟨k, po, v, (a, n), d⟩ with
  | false =>
    have hr := ref2 (c := ⟨room, c, L⟩) hh
    by_cases h1 : k < 1
    · exact (do12_k0 h k po v a n d h1).mono fun _ _ r => r.done hr rfl
    by_cases h2 : 5 < k
    · exact (do12_k6 h k po v a n d h2).mono fun _ _ r => r.done hr rfl
    by_cases h3 : po < 0
    · exact (do12_p0 h k po v a n d (by omega) (by omega) h3).mono fun _ _ r => r.done hr rfl
    by_cases h4 : 7 < po
    · exact (do12_p8 h k po v a n d (by omega) (by omega) h4).mono fun _ _ r => r.done hr rfl
    have hk : k = 1 ∨ k = 2 ∨ k = 3 ∨ k = 4 ∨ k = 5 := by omega
    unfold okE at hh
    rcases hk with rfl | rfl | rfl | rfl | rfl
    · by_cases h5 : v < 1
      · exact (do12_c0_1 h po v a n d hp (by omega) (by omega) h5).mono fun _ _ r => r.done hr rfl
      by_cases h6 : 50 < v
      · exact (do12_c51_1 h po v a n d hp (by omega) (by omega) h6).mono fun _ _ r => r.done hr rfl
      by_cases h7 : a = 0
      case neg => exact (do12_a_1 h po v a n d hp (by omega) (by omega) (by omega) (by omega) h7).mono fun _ _ r => r.done hr rfl
      subst h7
      by_cases h8 : n = 0
      case neg => exact (do12_n_1 h po v 0 n d hp (by omega) (by omega) (by omega) (by omega) h8).mono fun _ _ r => r.done hr rfl
      subst h8
      by_cases h9 : d < 0
      · exact (do12_d0_1 h po v 0 0 d hp (by omega) (by omega) (by omega) (by omega) h9).mono fun _ _ r => r.done hr rfl
      by_cases h10 : 255 < d
      · exact (do12_d256_1 h po v 0 0 d hp (by omega) (by omega) (by omega) (by omega) h10).mono fun _ _ r => r.done hr rfl
      by_cases h11 : d = 0
      case neg => exact (do12_d_1 h po v 0 0 d hp (by omega) (by omega) (by omega) (by omega) (by omega) (by omega)).mono fun _ _ r => r.done hr rfl
      simp at hh
      omega
    · by_cases h5 : v = 0
      case neg => exact (do12_c_2 h po v a n d hp (by omega) (by omega) h5).mono fun _ _ r => r.done hr rfl
      subst h5
      by_cases h7 : a = 0
      case neg => exact (do12_a_2 h po 0 a n d hp (by omega) (by omega) h7).mono fun _ _ r => r.done hr rfl
      subst h7
      by_cases h8 : n = 0
      case neg => exact (do12_n_2 h po 0 0 n d hp (by omega) (by omega) h8).mono fun _ _ r => r.done hr rfl
      subst h8
      by_cases h9 : d < 0
      · exact (do12_d0_2 h po 0 0 0 d hp (by omega) (by omega) h9).mono fun _ _ r => r.done hr rfl
      by_cases h10 : 255 < d
      · exact (do12_d256_2 h po 0 0 0 d hp (by omega) (by omega) h10).mono fun _ _ r => r.done hr rfl
      by_cases h11 : d = 0
      case neg => exact (do12_d_2 h po 0 0 0 d hp (by omega) (by omega) (by omega) (by omega)).mono fun _ _ r => r.done hr rfl
      simp at hh
      omega
    · by_cases h5 : v < 1
      · exact (do12_c0_3 h po v a n d hp (by omega) (by omega) h5).mono fun _ _ r => r.done hr rfl
      by_cases h6 : 50 < v
      · exact (do12_c51_3 h po v a n d hp (by omega) (by omega) h6).mono fun _ _ r => r.done hr rfl
      by_cases h7 : a = 0
      case neg => exact (do12_a_3 h po v a n d hp (by omega) (by omega) (by omega) (by omega) h7).mono fun _ _ r => r.done hr rfl
      subst h7
      by_cases h8 : n = 0
      case neg => exact (do12_n_3 h po v 0 n d hp (by omega) (by omega) (by omega) (by omega) h8).mono fun _ _ r => r.done hr rfl
      subst h8
      by_cases h9 : d < 0
      · exact (do12_d0_3 h po v 0 0 d hp (by omega) (by omega) (by omega) (by omega) h9).mono fun _ _ r => r.done hr rfl
      by_cases h10 : 255 < d
      · exact (do12_d256_3 h po v 0 0 d hp (by omega) (by omega) (by omega) (by omega) h10).mono fun _ _ r => r.done hr rfl
      by_cases h11 : d = 0
      case neg => exact (do12_d_3 h po v 0 0 d hp (by omega) (by omega) (by omega) (by omega) (by omega) (by omega)).mono fun _ _ r => r.done hr rfl
      simp at hh
      omega
    · by_cases h5 : v = 0
      case neg => exact (do12_c_4 h po v a n d hp (by omega) (by omega) h5).mono fun _ _ r => r.done hr rfl
      subst h5
      cases hm : mayP (a, n) with
      | false => exact (do12_m_4 h po 0 a n d hp (by omega) (by omega) hm).mono fun _ _ r => r.done hr rfl
      | true =>
        by_cases h9 : d < 0
        · exact (do12_d0_4 h po 0 a n d hp (by omega) (by omega) hm h9).mono fun _ _ r => r.done hr rfl
        by_cases h10 : 255 < d
        · exact (do12_d256_4 h po 0 a n d hp (by omega) (by omega) hm h10).mono fun _ _ r => r.done hr rfl
        simp [hm] at hh
        omega
    · by_cases h5 : v = 0
      case neg => exact (do12_c_5 h po v a n d hp (by omega) (by omega) h5).mono fun _ _ r => r.done hr rfl
      subst h5
      cases hm : mayP (a, n) with
      | false => exact (do12_m_5 h po 0 a n d hp (by omega) (by omega) hm).mono fun _ _ r => r.done hr rfl
      | true =>
        by_cases h9 : d < 0
        · exact (do12_d0_5 h po 0 a n d hp (by omega) (by omega) hm h9).mono fun _ _ r => r.done hr rfl
        by_cases h10 : 255 < d
        · exact (do12_d256_5 h po 0 a n d hp (by omega) (by omega) hm h10).mono fun _ _ r => r.done hr rfl
        by_cases h11 : d = 0
        case neg => exact (do12_d_5 h po 0 a n d hp (by omega) (by omega) hm (by omega) (by omega)).mono fun _ _ r => r.done hr rfl
        simp [hm] at hh
        omega
  | true =>
    have hpo := okE_p hh
    dsimp only at hpo
    obtain ⟨q, rfl⟩ : ∃ q : Nat, po = (q : Int) := ⟨po.toNat, by omega⟩
    have hq : q < 8 := by omega
    have hk : k = 1 ∨ k = 2 ∨ k = 3 ∨ k = 4 ∨ k = 5 := by
      by_cases h1 : k = 1
      · exact .inl h1
      by_cases h2 : k = 2
      · exact .inr (.inl h2)
      by_cases h3 : k = 3
      · exact .inr (.inr (.inl h3))
      by_cases h4 : k = 4
      · exact .inr (.inr (.inr (.inl h4)))
      exact .inr (.inr (.inr (.inr (okE_ack hh h1 h2 h3 h4).1)))
    unfold okE at hh
    rcases hk with rfl | rfl | rfl | rfl | rfl
    · simp at hh
      obtain ⟨_, ⟨⟨h1, h2⟩, h3, h4⟩, h5⟩ := hh
      subst h3
      subst h4
      subst h5
      cases hu : c.up q with
      | true => exact do12_1u h hok hD hq v h1 h2 hu
      | false => exact do12_1d h hok hD hq v h1 h2 hu
    · simp at hh
      obtain ⟨_, ⟨h1, h3, h4⟩, h5⟩ := hh
      subst h1
      subst h3
      subst h4
      subst h5
      cases hu : c.up q with
      | true => exact do12_2 h hok hD hq hu
      | false => exact do12_7_2 h hok hD hq hu
    · simp at hh
      obtain ⟨_, ⟨⟨h1, h2⟩, h3, h4⟩, h5⟩ := hh
      subst h3
      subst h4
      subst h5
      cases hu : c.up q with
      | true => exact do12_3 h hok hD hq v h1 h2 hu
      | false => exact do12_7_3 h hok hD hq v h1 h2 hu
    · simp at hh
      obtain ⟨_, ⟨⟨h1, hm⟩, h3⟩, h4⟩ := hh
      subst h1
      cases hu : c.up q with
      | false => exact do12_7_4 h hok hD hq a n d hp hm h3 h4 hu
      | true =>
        rcases atF_cases L (a, n) with ⟨h5, h6⟩ | ⟨i, x, h5, h6, h7, h8⟩
        · rcases Nat.lt_or_ge L.length 1024 with h9 | h9
          · exact do12_4a h hok hD hq a n d hp hm h3 h4 hu h5 h6 h9
          · exact do12_4f h hok hD hq a n d hp hm h3 h4 hu h5 h6 h9
        · exact do12_4 h hok hD hq a n d hp hm h3 h4 hu h6 h7 h5 h8
    · simp at hh
      obtain ⟨_, ⟨h1, hm⟩, h3⟩ := hh
      subst h1
      subst h3
      cases hu : c.up q with
      | false => exact do12_7_5 h hok hD hq a n 0 hp hm hu
      | true =>
        rcases atF_cases L (a, n) with ⟨h5, h6⟩ | ⟨i, x, h5, h6, h7, h8⟩
        · exact do12_5n h hok hD hq a n hp hm hu h5 h6
        · rcases Nat.eq_zero_or_pos (x.aw q) with h9 | h9
          · exact do12_5z h hok hD hq a n hp hm hu h6 h5 h8 h9
          · exact do12_5 h hok hD hq a n hp hm hu h6 h7 h5 h8 h9
end Go.Proofs.Ytahdjfegihnolaa
