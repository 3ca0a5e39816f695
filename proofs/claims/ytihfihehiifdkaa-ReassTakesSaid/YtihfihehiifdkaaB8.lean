/- Bytes: clones of byte slices; items. -/
import Derived.Test.YtihfihehiifdkaaMem
namespace Go.Proofs.Ytihfihehiifdkaa
open Go.RowKit
set_option maxHeartbeats 400000 in
theorem clone8_any (A : Option Addr) (n c : Nat) (xs : List Value) (I : Nat → Prop) (w : World) (h : Reads w I 1 A n xs) (h1 : ∀ u ∈ xs, u.oneCell' = true) (hn : n ≤ 140737488355328) :
    Calls Try.prog 59 #[.slice A n c] w fun e w' => ∃ v, e = .returned v ∧ w'.ownsRow w.heap.size 5 1 v n xs ∧ Below w.heap.size w w' := by
  have hE := fun (w : World) (a : Option Addr) => Lib.run_eql_slice_nil (P := Try.prog) w 22 5 a n c 0 0 Try.underlying22
  rcases A with _ | ad
  · have h0 : n = 0 := by
      rcases Nat.eq_zero_or_pos n with h0 | h0
      · exact h0
      · obtain ⟨ad, h, _⟩ := h.2 h0
        cases h
    subst h0
    have hx : xs = [] := List.eq_nil_of_length_eq_zero (by simpa using h.1)
    subst hx
    clear h h1
    go_enter Try.func59, Try.ntmps59
    go_wp2
    go_ret
    exact ⟨_, rfl, World.ownsRow_nil _ _ _ _, Below.refl _ _⟩
  · obtain ⟨i0, hi, hz0, hz1, hz2⟩ := info_parts info_u8
    have hown : (w.alloc (.cells #[] 5)).ownsRow w.heap.size 5 1 (.slice (some ⟨w.heap.size, 0, none⟩) 0 0) 0 [] := own_alloc_lit w.heap.size 5 1 #[] 0 (Nat.le_refl _) (Nat.zero_le _) rfl
    have hr : Reads (w.alloc (.cells #[] 5)) (fun k => I k ∧ k < w.heap.size) 1 (some ad) n xs := (h.lt).keep (Same.ofBelow ((Below.refl w.heap.size w).alloc (Nat.le_refl _) _) fun _ x => x.2)
    have hs : w.heap.size ≤ (w.alloc (.cells #[] 5)).heap.size := by simp
    have hm : 0 + n ≤ maxLen := by unfold maxLen; omega
    have hB := (Below.refl w.heap.size w).alloc (Nat.le_refl _) (.cells #[] 5)
    clear h
    go_enter Try.func59, Try.ntmps59
    go_wp2_with (at_builtin; refine wpList_append_any _ rfl (.tmp 5) (.tmp 6) _ rfl w.heap.size 5 i0 _ 1 1 Try.underlying22 hi hz0 hz1 hz2 rfl (by omega) (.slice (some ⟨w.heap.size, 0, none⟩) 0 0) 0 [] rfl hown _ (some ad) n c xs rfl hr h1 hm (by omega) hs ?_; intro v1 w1 hown1 hg1 hat1)
    go_ret
    refine ⟨v1, rfl, by simpa using hown1, hB.grown hg1 hs fun k hk => ?_⟩
    injection hk with hk
    exact Nat.le_of_eq hk
def bytesV (x : List UInt8) : List Value := x.map fun c => .int .u8 c.toNat
theorem bytesV_len (x : List UInt8) : (bytesV x).length = x.length := by simp [bytesV]
theorem bytesV_one (x : List UInt8) : ∀ u ∈ bytesV x, u.oneCell' = true := by
  intro u hu
  simp only [bytesV, List.mem_map] at hu
  obtain ⟨c, _, rfl⟩ := hu
  rfl

/-- 'string(b)'. -/
theorem run_str (w : World) (I : Nat → Prop) (A : Option Addr) (x : List UInt8) (cap : Nat) (h : Reads w I 1 A x.length (bytesV x)) :
    (convert 22 9 (.slice A x.length cap)).run Try.prog w = .ok (.string ⟨x.toArray⟩) w := by
  rcases A with _ | ad
  · have h0 : x = [] := by
      rcases x with _ | ⟨a, x⟩
      · rfl
      · obtain ⟨ad, h, _⟩ := h.2 (Nat.succ_pos _)
        cases h
    subst h0
    show (convert 22 9 (.slice none 0 cap)).run Try.prog w = _
    rw [run_convert_bytes_string w 22 9 5 none 0 cap Try.underlying22 Try.underlying5 Try.underlying9]
    rfl
  · refine run_convert_bytes_back w 22 9 5 ad cap x Try.underlying22 Try.underlying5 Try.underlying9 fun j hj => ?_
    obtain ⟨ad', e, _, _, hc⟩ := h.2 (by omega)
    injection e with e
    subst e
    exact hc j _ (by simp [bytesV, List.getElem?_eq_getElem hj])

/-- The values us are byte slices of their own, in I, that hold xs. -/
def Items (w : World) (I : Nat → Prop) : List Value → List (List UInt8) → Prop
  | [], [] => True
  | u :: us, x :: xs => (w.ownsRow 0 5 1 u x.length (bytesV x) ∧ ∀ g, u.ownBlock = some g → I g) ∧ Items w I us xs
  | _, _ => False
section
variable {w w2 : World} {I J : Nat → Prop}
theorem Items.len : ∀ {us : List Value} {xs : List (List UInt8)}, Items w I us xs → us.length = xs.length
  | [], [], _ => rfl
  | _ :: us, _ :: xs, h => by simp [Items.len h.2]
  | [], _ :: _, h => h.elim
  | _ :: _, [], h => h.elim
theorem Items.keep (hk : Same I w w2) : ∀ {us : List Value} {xs : List (List UInt8)}, Items w I us xs → Items w2 I us xs
  | [], [], _ => trivial
  | _ :: _, _ :: _, h => ⟨⟨own_keep h.1.1 hk h.1.2, h.1.2⟩, Items.keep hk h.2⟩
  | [], _ :: _, h => h.elim
  | _ :: _, [], h => h.elim
theorem Items.mono (hIJ : ∀ k, I k → J k) : ∀ {us : List Value} {xs : List (List UInt8)}, Items w I us xs → Items w J us xs
  | [], [], _ => trivial
  | _ :: _, _ :: _, h => ⟨⟨h.1.1, fun g hg => hIJ g (h.1.2 g hg)⟩, Items.mono hIJ h.2⟩
  | [], _ :: _, h => h.elim
  | _ :: _, [], h => h.elim
theorem Items.snoc {u : Value} {x : List UInt8} (hu : w.ownsRow 0 5 1 u x.length (bytesV x)) (hI : ∀ g, u.ownBlock = some g → I g) : ∀ {us : List Value} {xs : List (List UInt8)}, Items w I us xs → Items w I (us ++ [u]) (xs ++ [x])
  | [], [], _ => ⟨⟨hu, hI⟩, trivial⟩
  | _ :: _, _ :: _, h => ⟨h.1, Items.snoc hu hI h.2⟩
  | [], _ :: _, h => h.elim
  | _ :: _, [], h => h.elim
theorem Items.one : ∀ {us : List Value} {xs : List (List UInt8)}, Items w I us xs → ∀ u ∈ us, u.oneCell' = true
  | [], [], _ => by simp
  | a :: us, _ :: xs, h => by
    intro u hu
    rcases List.mem_cons.1 hu with rfl | hu
    · obtain ⟨A, c, rfl, _⟩ := own_form h.1.1
      rfl
    · exact Items.one h.2 u hu
  | [], _ :: _, h => h.elim
  | _ :: _, [], h => h.elim
end
end Go.Proofs.Ytihfihehiifdkaa
