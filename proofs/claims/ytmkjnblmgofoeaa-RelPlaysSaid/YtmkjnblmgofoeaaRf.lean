/- The document's stream: what it is in memory; Send, Take. -/
import Derived.Test.YtmkjnblmgofoeaaStDue
import Derived.Test.YtmkjnblmgofoeaaStTake
namespace Go.Proofs.Ytmkjnblmgofoeaa
open Go.RowKit

/-- Its cells, where the stream's state is s. -/
def rfC (s : SS) (v : Value) : Array Value := #[.int .i64 s.again, v, .int .i64 s.acked, .int .i64 ((s.acked + s.sent : Nat) : Int), .int .u64 s.taken, .bool s.owed, .int .i64 s.silent]
/-- The values us are byte slices that read as xs. -/
def RIt (w : World) (J : Nat → Prop) (us : List Value) (xs : List (List UInt8)) : Prop := us.length = xs.length ∧ ∀ (i : Nat) (u : Value) (x : List UInt8), us[i]? = some u → xs[i]? = some x → ∃ (A : Option Addr) (c : Nat), u = Value.slice A x.length c ∧ Reads w J 1 A x.length (bytesV x)
theorem RIt.keep {w w2 : World} {J : Nat → Prop} {us : List Value} {xs : List (List UInt8)} (h : RIt w J us xs) (hs : Same J w w2) : RIt w2 J us xs :=
  ⟨h.1, fun i u x hu hx => by obtain ⟨A, c, e, hr⟩ := h.2 i u x hu hx; exact ⟨A, c, e, hr.keep hs⟩⟩
theorem RIt.snoc {w : World} {J : Nat → Prop} {us : List Value} {xs : List (List UInt8)} (h : RIt w J us xs) {x : List UInt8} {A : Option Addr} {c : Nat} (hr : Reads w J 1 A x.length (bytesV x)) : RIt w J (us ++ [.slice A x.length c]) (xs ++ [x]) := by
  refine ⟨by simp [h.1], fun i u y hu hy => ?_⟩
  by_cases hi : i < us.length
  · rw [List.getElem?_append_left hi] at hu
    rw [List.getElem?_append_left (by rw [← h.1]; exact hi)] at hy
    exact h.2 i u y hu hy
  · have hl : i = us.length := by
      have := (List.getElem?_eq_some_iff.1 hu).1
      simp at this; omega
    subst hl
    rw [List.getElem?_append_right (Nat.le_refl _)] at hu
    rw [List.getElem?_append_right (by rw [h.1]; exact Nat.le_refl _), h.1] at hy
    simp at hu hy
    subst hu; subst hy
    exact ⟨A, c, rfl, hr⟩

structure IsRf (w : World) (J : Nat → Prop) (b : Nat) (s : SS) (v : Value) (al : List (List UInt8)) : Prop where
  blk : Blk w b 55 (rfC s v)
  row : ∃ us, w.ownsRow 0 29 1 v us.length us ∧ RIt w J us al
  len : al.length = s.acked + s.xs.length
  xs : al.drop s.acked = s.xs
theorem RIt.len {w : World} {J : Nat → Prop} {us : List Value} {xs : List (List UInt8)} (h : RIt w J us xs) : us.length = xs.length := h.1
theorem RIt.one {w : World} {J : Nat → Prop} {us : List Value} {xs : List (List UInt8)} (h : RIt w J us xs) : ∀ u ∈ us, u.oneCell' = true := by
  intro u hu
  obtain ⟨i, hi, rfl⟩ := List.mem_iff_getElem.1 hu
  obtain ⟨A, c, e, _⟩ := h.2 i _ (xs[i]'(by rw [← h.1]; exact hi)) (List.getElem?_eq_getElem hi) (List.getElem?_eq_getElem _)
  rw [e]; rfl

theorem own_drewN {w : World} {base : Nat} {e : TypeId} {size n : Nat} {v : Value} {xs : List Value} (h : w.ownsRow base e size v n xs) (k : Nat) : (w.drewN k).ownsRow base e size v n xs := h

theorem rsend_close {J : Nat → Prop} {b : Nat} {s : SS} {al : List (List UInt8)} {A : Option Addr} {x : List UInt8} {c n : Nat} {w w2 : World} {us : List Value} {Av A2 : Option Addr} {cv c2 : Nat} (h : IsRf w J b s (.slice Av us.length cv) al) (_ho : w.ownsRow 0 29 1 (.slice Av us.length cv) us.length us) (hit : RIt w J us al)
    (hx : Reads w J 1 A x.length (bytesV x)) (hJ : ∀ k, J k → k < w.heap.size ∧ k ≠ b ∧ (Value.slice Av us.length cv).ownBlock ≠ some k) (hul : us.length = s.acked + s.xs.length) (hk2 : Blk w2 b 55 (rfC s (.slice Av us.length cv)))
    (hg2 : ((w.drewN n).alloc (.cells #[.slice A x.length c] 29)).grownBy w2 (Value.slice Av us.length cv).ownBlock) (hown2 : w2.ownsRow 0 29 1 (.slice A2 (us.length + 1) c2) (us.length + 1) (us ++ [.slice A x.length c]))
    (hat2 : (Value.slice A2 (us.length + 1) c2).ownBlock = (Value.slice Av us.length cv).ownBlock ∨ (Value.slice A2 (us.length + 1) c2).ownBlock = some ((w.drewN n).alloc (.cells #[.slice A x.length c] 29)).heap.size) :
    Ending.returned (.int .u64 ((us.length : Int) + 1)) = .returned (.int .u64 ((s.acked + (s.xs.length + 1) : Nat) : Int)) ∧
      ∃ v2, IsRf (w2.setCell ⟨b, 1, none⟩ (.slice A2 (us.length + 1) c2)) J b { s with xs := s.xs ++ [x] } v2 (al ++ [x]) ∧ Upd (fun k => k = b ∨ (Value.slice Av us.length cv).ownBlock = some k) w (w2.setCell ⟨b, 1, none⟩ (.slice A2 (us.length + 1) c2)) ∧ (v2.ownBlock = (Value.slice Av us.length cv).ownBlock ∨ ∀ k, v2.ownBlock = some k → w.heap.size ≤ k) := by
  have hne : (Value.slice A2 (us.length + 1) c2).ownBlock ≠ some b := own_blk_ne hown2 hk2 (by decide)
  have hal : al.length = s.acked + s.xs.length := h.len
  have u2 : Upd (fun k => k = b ∨ (Value.slice Av us.length cv).ownBlock = some k) w (w2.setCell ⟨b, 1, none⟩ (.slice A2 (us.length + 1) c2)) :=
    ((((Upd.refl _ w).drewN n).alloc _).grown hg2 fun k hk => .inl (.inr hk)).setCell (p := ⟨b, 1, none⟩) (.inl (.inl rfl)) _
  refine ⟨by rw [hul]; congr 2, .slice A2 (us.length + 1) c2, ⟨?_, ⟨us ++ [.slice A x.length c], ?_, ?_⟩, ?_, ?_⟩, u2, ?_⟩
  · have := hk2.set_ 1 (.slice A2 (us.length + 1) c2)
    simpa [rfC] using this
  · rw [List.length_append, List.length_singleton]
    exact own_keep (I := fun k => k ≠ b) hown2 ((upd_set w2 b 1 _).same fun k (hk : k = b) hn => hn hk) fun g hg e => hne (e ▸ hg)
  · have hs : Same J w (w2.setCell ⟨b, 1, none⟩ (.slice A2 (us.length + 1) c2)) := u2.same fun k hk hj => by
      obtain ⟨_, j1, j2⟩ := hJ k hj
      rcases hk with hk | hk
      · exact j1 hk
      · exact j2 hk
    exact (hit.keep hs).snoc (hx.keep hs)
  · show (al ++ [x]).length = s.acked + (s.xs ++ [x]).length
    simp; omega
  · show (al ++ [x]).drop s.acked = s.xs ++ [x]
    rw [List.drop_append_of_le_length (by omega), h.xs]
  · rcases hat2 with e | e
    · exact .inl e
    · exact .inr fun k hk => by rw [e] at hk; injection hk with hk; rw [← hk]; simp

set_option maxHeartbeats 2000000 in
theorem rsend_any (J : Nat → Prop) (b : Nat) (s : SS) (v : Value) (al : List (List UInt8)) (A : Option Addr) (x : List UInt8) (c : Nat) (w : World) (h : IsRf w J b s v al) (ok : s.ok) (hx : Reads w J 1 A x.length (bytesV x)) (hJb : ∀ k, J k → k < w.heap.size ∧ k ≠ b ∧ v.ownBlock ≠ some k) :
    Calls Try.prog 19 #[.pointer (some ⟨b, 0, none⟩), .slice A x.length c] w fun e w' => e = .returned (.int .u64 ((s.acked + (s.xs.length + 1) : Nat) : Int)) ∧
      ∃ v2, IsRf w' J b { s with xs := s.xs ++ [x] } v2 (al ++ [x]) ∧ Upd (fun k => k = b ∨ v.ownBlock = some k) w w' ∧ (v2.ownBlock = v.ownBlock ∨ ∀ k, v2.ownBlock = some k → w.heap.size ≤ k) := by
  obtain ⟨o1, o2, o3, o4, o5, o6, o7, o8⟩ := ok
  obtain ⟨us, hown, hit⟩ := h.row
  have hul := hit.len
  have hal := h.len
  obtain ⟨Av, cv, rfl, _⟩ := own_form hown
  have hc1 : w.cell? ⟨b, 1, none⟩ = some (.slice Av us.length cv) := h.blk.cell 1
  have hc2 : w.cell? ⟨b, 2, none⟩ = some (.int .i64 s.acked) := h.blk.cell 2
  have hc1a : ∀ o, (w.alloc o).cell? ⟨b, 1, none⟩ = some (.slice Av us.length cv) := fun o => (h.blk.alloc o).cell 1
  obtain ⟨i0, hi, hz0, hz1, hz2⟩ := info_parts info_sl8
  have hul2 : us.length ≤ 2000000 := by omega
  have hmx : us.length + 1 ≤ maxLen := by unfold maxLen; omega
  have hmb : (us.length + 1) * 24 ≤ 140737488355328 := by omega
  have hD : decide ((65536 : Int) ≤ (us.length : Int) - (s.acked : Int)) = false := decide_eq_false (by omega)
  have hv1 : ∀ u ∈ [Value.slice A x.length c], u.oneCell' = true := by simp [Value.oneCell']
  have H := Lib.hid h
  have HO := Lib.hid hown
  have HIT := Lib.hid hit
  have HX := Lib.hid hx
  have HJ := Lib.hid hJb
  have HL := Lib.hid hul
  have HAL := Lib.hid hal
  clear h hown hit hx hJb hul hal
  go_enter Try.func19, Try.ntmps19
  go_wp2_with fail
  go_quiet (fail)
  go_wp2_with (at_builtin; refine wpList_append_any _ rfl (.tmp 20) (.tmp 22) _ rfl 0 29 i0 _ 1 24 Try.underlying53 hi hz0 hz1 hz2 rfl (by omega) (.slice Av us.length cv) us.length us rfl ((own_drewN HO.out _).alloc _) (fun _ => True) (some ⟨w.heap.size, 0, none⟩) 1 1 [.slice A x.length c] rfl (reads_new _ _ _) hv1 hmx hmb (Nat.zero_le _) ?_; intro v2 w2 hown2 hg2 hat2; have hk2 := blk_append (H.out.blk.drewN _) (own_drewN HO.out _) hg2 (by decide); have hd1 : w2.cell? ⟨b, 1, none⟩ = some (.slice Av us.length cv) := hk2.cell 1; have hf1 : w2.frozen? ⟨b, 1, none⟩ = false := hk2.frozen 1; obtain ⟨A2, c2, rfl, _⟩ := own_form hown2)
  go_wp2
  go_ret
  exact rsend_close H.out HO.out HIT.out HX.out HJ.out (by have := HL.out; have := HAL.out; omega) hk2 hg2 hown2 hat2
end Go.Proofs.Ytmkjnblmgofoeaa
