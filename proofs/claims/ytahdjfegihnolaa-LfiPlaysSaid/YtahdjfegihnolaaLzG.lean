/- Layer 12: tidy, the plain part; an entry goes. -/
import Derived.Test.YtahdjfegihnolaaLzF
namespace Go.Proofs.Ytahdjfegihnolaa
open Go.RowKit Go.Sort
theorem OutM.upd {w w' : World} {B : Nat} {ov : Value} {o : List Tl} (h : OutM w B ov o) {U : Nat → Prop} (hu : Upd U w w') (hn : ∀ j, ov.ownBlock = some j → ¬ U j) : OutM w' B ov o :=
  own_keep h (hu.same (I := fun j => ov.ownBlock = some j) fun j hj hI => hn j hI hj) fun _ e => e
theorem TlM.below {w w1 w2 : World} {cb mb B : Nat} {room : Int} {c : Pc} {G : List GE} {o : List Tl} {ov : Value} {U : Nat → Prop} (m : TlM w cb mb B room c G o w1 ov U) (hb : Below w1.heap.size w1 w2) : TlM w cb mb B room c G o w2 ov U :=
  ⟨m.com.below hb, own_below m.out hb, m.upd.trans_ (Upd.ofBelow hb _), m.own⟩
theorem own_not_map {w : World} {B : Nat} {ov : Value} {o : List Tl} (h : OutM w B ov o) {cb mb : Nat} {ov' : Value} {room : Int} {c : Pc} {G : List GE} (hc : CoM w cb mb ov' room c G) : ov.ownBlock ≠ some mb := fun e => by
  obtain ⟨cs, hb⟩ := own_blkT h e
  obtain ⟨F, m⟩ := hc.map
  obtain ⟨D, ⟨es, cc, q1, _⟩, _⟩ := m.map
  unfold Blk at hb
  rw [q1] at hb
  cases hb
set_option maxRecDepth 100000 in
/-- An entry goes. -/
theorem CoM.drop {w : World} {cb mb : Nat} {ov : Value} {room : Int} {c : Pc} {A D : List GE} {g : GE} (h : CoM w cb mb ov room c (A ++ g :: D)) (ty : TypeId) :
    ∃ w', (Builtin.delete_ #[79, 36] ty #[.map (some mb), .agg #[.int .u32 (g.x.p.1 : Int), .int .i64 g.x.p.2]]).run Try.prog w = .ok (.tuple #[]) w' ∧ CoM w' cb mb ov room c (A ++ D) ∧ Upd (only mb) w w' := by
  obtain ⟨F, m⟩ := h.map
  have hka := h.keysAre m
  have hgm : g ∈ A ++ g :: D := List.mem_append_right _ (List.mem_cons_self ..)
  have hgp := may_ok (h.may g hgm)
  obtain ⟨w', hr, hm, hu, hs⟩ := m.map.drop pfKeyed Try.underlying79 (pfL_key hgp) ty
  have hsub : (A ++ D).Sublist (A ++ g :: D) := List.Sublist.append_left (List.sublist_cons_self g D) A
  have hmem : ∀ a ∈ A ++ D, a ∈ A ++ g :: D := fun a ha => hsub.subset ha
  have hnd : ∀ a ∈ A ++ D, a.x.p ≠ g.x.p := fun a ha e => by
    have h2 := hka.nd
    rw [List.map_append, List.map_cons, List.nodup_append] at h2
    obtain ⟨_, h3, h4⟩ := h2
    rcases List.mem_append.1 ha with hx | hx
    · exact h4 a.x.p (List.mem_map_of_mem (f := fun g : GE => g.x.p) hx) g.x.p (List.mem_cons_self ..) e
    · rw [List.nodup_cons] at h3
      exact h3.1 (by rw [← e]; exact List.mem_map_of_mem (f := fun g : GE => g.x.p) hx)
  have hsome : (F (pfL g.x.p)).isSome = true := by rw [m.at_ g hgm]; rfl
  rw [if_pos hsome] at hm
  have hlen : (A ++ D).length = (A ++ g :: D).length - 1 := by simp
  obtain ⟨n1, n2⟩ := h.ne
  refine ⟨w', hr, ⟨(hu.block cb h.blk.lt n1).trans h.blk, ⟨setK F (pfL g.x.p) none, ?_, fun a ha => ?_, fun p hp hn => ?_, fun kl v hv hl => ?_⟩, fun a ha => ?_, ?_, ?_, fun a ha => h.may a (hmem a ha), ?_⟩, hu⟩
  · rw [hlen]; exact hm.tight
  · rw [setK_other _ _ (fun e => hnd a ha (pfL_inj (may_ok (h.may a (hmem a ha))) hgp e))]
    exact m.at_ a (hmem a ha)
  · by_cases e : p = g.x.p
    · rw [e, setK_same]
    · rw [setK_other _ _ (fun x => e (pfL_inj hp hgp x))]
      refine m.miss p hp fun a ha ea => ?_
      rcases List.mem_append.1 ha with hx | hx
      · exact hn a (List.mem_append_left _ hx) ea
      · rcases List.mem_cons.1 hx with rfl | hx
        · exact e ea.symm
        · exact hn a (List.mem_append_right _ hx) ea
  · by_cases e : kl = pfL g.x.p
    · rw [e, setK_same] at hv; cases hv
    · rw [setK_other _ _ e] at hv
      obtain ⟨a, ha, h2⟩ := m.keys kl v hv hl
      rcases List.mem_append.1 ha with hx | hx
      · exact ⟨a, List.mem_append_left _ hx, h2⟩
      · rcases List.mem_cons.1 hx with rfl | hx
        · exact absurd h2 e
        · exact ⟨a, List.mem_append_right _ hx, h2⟩
  · exact (hu.block a.b (h.en a (hmem a ha)).lt (n2 a (hmem a ha)).2).trans (h.en a (hmem a ha))
  · exact List.Nodup.sublist (hsub.map _) h.nd
  · have := h.srt
    unfold sortedL at this ⊢
    exact List.Pairwise.sublist ((hsub.map _).map _) this
  · have := h.len
    rw [hlen]
    omega
/-- While entries go: k were looked at. -/
def stK (G : List GE) (k : Nat) : List GE := (G.take k).filter (fun g => staysF g.x) ++ G.drop k
theorem stK_at {G : List GE} {k : Nat} {g : GE} (hg : G[k]? = some g) : stK G k = (G.take k).filter (fun g => staysF g.x) ++ g :: G.drop (k + 1) := by
  obtain ⟨hk, he⟩ := List.getElem?_eq_some_iff.1 hg
  unfold stK
  rw [List.drop_eq_getElem_cons hk, he]
theorem stK_yes {G : List GE} {k : Nat} {g : GE} (hg : G[k]? = some g) (hs : staysF g.x = true) : stK G (k + 1) = stK G k := by
  rw [stK_at hg]
  unfold stK
  rw [List.take_add_one, hg, List.filter_append]
  simp [hs]
theorem stK_no {G : List GE} {k : Nat} {g : GE} (hg : G[k]? = some g) (hs : staysF g.x = false) : stK G (k + 1) = (G.take k).filter (fun g => staysF g.x) ++ G.drop (k + 1) := by
  unfold stK
  rw [List.take_add_one, hg, List.filter_append]
  simp [hs]
theorem stK_sub (G : List GE) (k : Nat) : (stK G k).Sublist G := by
  unfold stK
  have := List.Sublist.append (List.filter_sublist (p := fun g : GE => staysF g.x) (l := G.take k)) (List.Sublist.refl (G.drop k))
  rwa [List.take_append_drop] at this
theorem stK_len {G : List GE} {k : Nat} {g : GE} (hg : G[k]? = some g) (hs : staysF g.x = false) : (stK G (k + 1)).length < G.length := by
  have h1 := (stK_sub G k).length_le
  rw [stK_at hg] at h1
  rw [stK_no hg hs]
  simp only [List.length_append, List.length_cons] at h1 ⊢
  omega
def takeG (c : Pc) (room : Int) : Nat → List GE → List GE × List Tl × Nat
  | _, [] => ([], [], 0)
  | n, g :: l => if g.x.tk = false ∧ (n : Int) < room then
      (⟨(lookF c { g.x with tk := true }).1, g.b⟩ :: (takeG c room (n + 1) l).1, (lookF c { g.x with tk := true }).2 ++ (takeG c room (n + 1) l).2.1, (takeG c room (n + 1) l).2.2 + 1)
    else (g :: (takeG c room n l).1, (takeG c room n l).2.1, (takeG c room n l).2.2)
theorem takeG_x (c : Pc) (room : Int) : ∀ (l : List GE) (n : Nat), (takeG c room n l).1.map (·.x) = (takeR c room n (l.map (·.x))).1 ∧ (takeG c room n l).2 = (takeR c room n (l.map (·.x))).2
  | [], _ => ⟨rfl, rfl⟩
  | g :: l, n => by
    rw [List.map_cons]
    unfold takeG takeR
    by_cases h : g.x.tk = false ∧ (n : Int) < room
    · obtain ⟨h1, h2⟩ := takeG_x c room l (n + 1)
      rw [if_pos h, if_pos h, List.map_cons, h1, h2]
      exact ⟨rfl, rfl⟩
    · obtain ⟨h1, h2⟩ := takeG_x c room l n
      rw [if_neg h, if_neg h, List.map_cons, h1, h2]
      exact ⟨rfl, rfl⟩
/-- While entries are taken: k were looked at, m taken; P is what they are now. -/
structure TakI (c : Pc) (room : Int) (S : List GE) (n k : Nat) (P : List GE) (m : Nat) (o : List Tl) : Prop where
  eq : takeG c room n S = (P ++ (takeG c room (n + m) (S.drop k)).1, o ++ (takeG c room (n + m) (S.drop k)).2.1, m + (takeG c room (n + m) (S.drop k)).2.2)
  b : P.map (·.b) = (S.take k).map (·.b)
  ps : P.map (·.x.p) = (S.take k).map (·.x.p)
  ok : ∀ g ∈ P, EOk c g.x
  cnt : cntT ((P ++ S.drop k).map (·.x)) = n + m
  un : untk ((P ++ S.drop k).map (·.x)) + m = untk (S.map (·.x))
  ol : o.length ≤ 8 * m
theorem TakI.start {c : Pc} {room : Int} {S : List GE} : TakI c room S (cntT (S.map (·.x))) 0 [] 0 [] :=
  ⟨by simp, rfl, rfl, (fun g hg => by cases hg), by simp, by simp, by simp⟩
section
variable {c : Pc} {room : Int} {S P : List GE} {n k m : Nat} {o : List Tl} {g : GE}
theorem drop_at (hg : S[k]? = some g) : S.drop k = g :: S.drop (k + 1) := by
  obtain ⟨hk, he⟩ := List.getElem?_eq_some_iff.1 hg
  rw [List.drop_eq_getElem_cons hk, he]
theorem TakI.no (h : TakI c room S n k P m o) (hg : S[k]? = some g) (hS : EOk c g.x) (hn : ¬ (g.x.tk = false ∧ ((n + m : Nat) : Int) < room)) : TakI c room S n (k + 1) (P ++ [g]) m o := by
  have hd := drop_at hg
  have ht : S.take (k + 1) = S.take k ++ [g] := by rw [List.take_add_one, hg]; rfl
  have e1 : takeG c room (n + m) (S.drop k) = (g :: (takeG c room (n + m) (S.drop (k + 1))).1, (takeG c room (n + m) (S.drop (k + 1))).2.1, (takeG c room (n + m) (S.drop (k + 1))).2.2) := by
    rw [hd]; rw [takeG]; rw [if_neg hn]
  have e2 : P ++ [g] ++ S.drop (k + 1) = P ++ S.drop k := by rw [hd]; simp
  refine ⟨?_, ?_, ?_, fun a ha => ?_, by rw [e2]; exact h.cnt, by rw [e2]; exact h.un, h.ol⟩
  · rw [h.eq, e1]; simp
  · rw [ht, List.map_append, List.map_append, h.b]
  · rw [ht, List.map_append, List.map_append, h.ps]
  · rcases List.mem_append.1 ha with ha | ha
    · exact h.ok a ha
    · obtain rfl := List.mem_singleton.1 ha; exact hS
theorem TakI.yes (hc : PcOk c) (h : TakI c room S n k P m o) (hg : S[k]? = some g) (hS : EOk c g.x) (hn : g.x.tk = false ∧ ((n + m : Nat) : Int) < room) : TakI c room S n (k + 1) (P ++ [⟨(lookF c { g.x with tk := true }).1, g.b⟩]) (m + 1) (o ++ (lookF c { g.x with tk := true }).2) := by
  have hd := drop_at hg
  have ht : S.take (k + 1) = S.take k ++ [g] := by rw [List.take_add_one, hg]; rfl
  obtain ⟨t1, t2, t3, t4⟩ := lookF_tk c { g.x with tk := true }
  have ho : g.x.own = false := by
    cases hoo : g.x.own with
    | false => rfl
    | true => have := hS.own hoo; rw [hn.1] at this; cases this
  have e1 : takeG c room (n + m) (S.drop k) = (⟨(lookF c { g.x with tk := true }).1, g.b⟩ :: (takeG c room (n + (m + 1)) (S.drop (k + 1))).1, (lookF c { g.x with tk := true }).2 ++ (takeG c room (n + (m + 1)) (S.drop (k + 1))).2.1, (takeG c room (n + (m + 1)) (S.drop (k + 1))).2.2 + 1) := by
    rw [hd]; rw [takeG]; rw [if_pos hn]; rfl
  have hcnt := h.cnt
  have hun := h.un
  rw [hd] at hcnt hun
  unfold cntT at hcnt
  unfold untk at hun
  rw [List.map_append, List.map_cons, List.countP_append, List.countP_cons, ho, hn.1] at hcnt
  rw [List.map_append, List.map_cons, List.countP_append, List.countP_cons, hn.1] at hun
  simp at hcnt hun
  refine ⟨?_, ?_, ?_, fun a ha => ?_, ?_, ?_, ?_⟩
  · rw [h.eq, e1]; simp; omega
  · rw [ht, List.map_append, List.map_append, h.b]; rfl
  · rw [ht, List.map_append, List.map_append, h.ps, List.map_singleton, List.map_singleton]
    show _ ++ [(lookF c { g.x with tk := true }).1.p] = _
    rw [t3]
  · rcases List.mem_append.1 ha with ha | ha
    · exact h.ok a ha
    · obtain rfl := List.mem_singleton.1 ha
      exact look_ok (take_ew hS.toEW) hc
  · unfold cntT
    rw [List.map_append, List.map_append, List.countP_append, List.countP_append, List.map_singleton, List.countP_singleton, t1, t2, ho]
    simp
    omega
  · unfold untk
    rw [List.map_append, List.map_append, List.countP_append, List.countP_append, List.map_singleton, List.countP_singleton, t1]
    simp
    omega
  · have := lookF_len c { g.x with tk := true }
    have := h.ol
    rw [List.length_append]
    omega
end
/-- While the whole goes round: what is yet to come. -/
structure TdI (c : Pc) (room : Int) (G0 : List GE) (o0 : List Tl) (ag : Bool) (G : List GE) (o : List Tl) : Prop where
  e1 : (tidyW c room (G0.map (·.x))).1 = if ag = true then (tidyW c room (G.map (·.x))).1 else G.map (·.x)
  e2 : o0 ++ (tidyW c room (G0.map (·.x))).2 = o ++ if ag = true then (tidyW c room (G.map (·.x))).2 else []
  ok : ∀ g ∈ G, EOk c g.x
  b : ∀ g ∈ G, ∃ h ∈ G0, h.b = g.b
  ol : o.length + 8 * untk (G.map (·.x)) ≤ o0.length + 8 * untk (G0.map (·.x))
theorem TdI.start {c : Pc} {room : Int} {G0 : List GE} {o0 : List Tl} (h : ∀ g ∈ G0, EOk c g.x) : TdI c room G0 o0 true G0 o0 :=
  ⟨rfl, rfl, h, fun g hg => ⟨g, hg, rfl⟩, Nat.le_refl _⟩
theorem untk_len (l : List Le) : untk l ≤ l.length := List.countP_le_length
theorem TdI.step {c : Pc} {room : Int} {G0 : List GE} {o0 : List Tl} {G : List GE} {o : List Tl} (h : TdI c room G0 o0 true G o) {P : List GE} {m : Nat} {o1 : List Tl} (ht : TakI c room (stK G G.length) (cntT ((stK G G.length).map (·.x))) (stK G G.length).length P m o1) :
    TdI c room G0 o0 (decide ((stK G G.length).length ≠ G.length) || decide (m ≠ 0)) P (o ++ o1) ∧ P.length = (stK G G.length).length ∧ P.length + untk (P.map (·.x)) + m = (stK G G.length).length + untk ((stK G G.length).map (·.x)) ∧ (stK G G.length).length ≤ G.length ∧ untk ((stK G G.length).map (·.x)) ≤ untk (G.map (·.x)) := by
  have hS : stK G G.length = G.filter fun g => staysF g.x := by unfold stK; rw [List.take_of_length_le (Nat.le_refl _), List.drop_of_length_le (Nat.le_refl _), List.append_nil]
  obtain ⟨S, hSe⟩ : ∃ S, S = stK G G.length := ⟨_, rfl⟩
  rw [← hSe] at ht hS ⊢
  have hSx : S.map (·.x) = stayL (G.map (·.x)) := by rw [hS]; unfold stayL; rw [List.filter_map]; rfl
  have hsub : S.Sublist G := by rw [hS]; exact List.filter_sublist
  obtain ⟨x1, x2⟩ := takeG_x c room S (cntT (S.map (·.x)))
  have heq := ht.eq
  rw [List.drop_of_length_le (Nat.le_refl _)] at heq
  have hnil : ∀ q, takeG c room q [] = ([], [], 0) := fun q => by rw [takeG]
  rw [hnil] at heq
  simp only [List.append_nil, Nat.add_zero] at heq
  rw [heq] at x1 x2
  dsimp only at x1 x2
  have hun := ht.un
  rw [List.drop_of_length_le (Nat.le_refl _), List.append_nil] at hun
  have hlP : P.length = S.length := by
    have := congrArg List.length ht.b
    rw [List.length_map, List.length_map, List.take_of_length_le (Nat.le_refl _)] at this
    exact this
  have hus : untk (S.map (·.x)) ≤ untk (G.map (·.x)) := by rw [hSx]; exact untk_filter _
  have hW := tidyW.eq_1 c room (G.map (·.x))
  rw [← hSx, ← x1, ← x2] at hW
  dsimp only at hW
  rw [List.length_map, List.length_map] at hW
  have he1 := h.e1
  have he2 := h.e2
  rw [if_pos rfl] at he1 he2
  refine ⟨?_, hlP, by omega, hsub.length_le, hus⟩
  have hb : ∀ g ∈ P, ∃ a ∈ G0, a.b = g.b := fun g hg => by
    have : g.b ∈ P.map (·.b) := List.mem_map_of_mem (f := fun g : GE => g.b) hg
    rw [ht.b, List.take_of_length_le (Nat.le_refl _)] at this
    obtain ⟨a, ha, e⟩ := List.mem_map.1 this
    obtain ⟨a2, h2, e2⟩ := h.b a (hsub.subset ha)
    exact ⟨a2, h2, e2.trans e⟩
  have hol : (o ++ o1).length + 8 * untk (P.map (·.x)) ≤ o0.length + 8 * untk (G0.map (·.x)) := by
    have h1 := h.ol
    have h2 := ht.ol
    rw [List.length_append]
    omega
  by_cases hq : S.length = G.length ∧ m = 0
  · rw [if_pos hq] at hW
    obtain ⟨q1, q2⟩ := hq
    have hSG : S = G := List.Sublist.eq_of_length hsub q1
    have hag : (decide (S.length ≠ G.length) || decide (m ≠ 0)) = false := by simp [q1, q2]
    have ho1 : o1 = [] := by have := ht.ol; rw [q2] at this; exact List.eq_nil_of_length_eq_zero (by omega)
    obtain ⟨z1, z2, _⟩ := takeR_zero c room (S.map (·.x)) (cntT (S.map (·.x))) (by rw [← x2]; exact q2)
    rw [hag]
    refine ⟨?_, ?_, ht.ok, hb, hol⟩
    · rw [he1, hW, if_neg (by simp), x1, z1, hSG]
    · rw [he2, hW, if_neg (by simp), ho1]; simp
  · rw [if_neg hq] at hW
    have hag : (decide (S.length ≠ G.length) || decide (m ≠ 0)) = true := by
      simp only [Bool.or_eq_true, decide_eq_true_eq]
      rcases Nat.decEq S.length G.length with h1 | h1
      · exact .inl h1
      · exact .inr fun h2 => hq ⟨h1, h2⟩
    rw [hag]
    refine ⟨?_, ?_, ht.ok, hb, hol⟩
    · rw [he1, hW, if_pos rfl]
    · rw [he2, hW, if_pos rfl, List.append_assoc]
def TidU (cb mb : Nat) (G : List GE) (ov : Value) (k : Nat) : Prop := k = cb ∨ k = mb ∨ (∃ g ∈ G, k = g.b) ∨ ov.ownBlock = some k
def TidyPost (w : World) (cb mb B : Nat) (room : Int) (c : Pc) (G : List GE) (o : List Tl) (ov : Value) (e : Ending) (w' : World) : Prop := e = .returned (.tuple #[]) ∧ ∃ ov2 G2, TlM w cb mb B room c G2 (o ++ (tidyW c room (G.map (·.x))).2) w' ov2 (TidU cb mb G ov) ∧ G2.map (·.x) = (tidyW c room (G.map (·.x))).1 ∧ ∀ g ∈ G2, ∃ h ∈ G, h.b = g.b
end Go.Proofs.Ytahdjfegihnolaa
