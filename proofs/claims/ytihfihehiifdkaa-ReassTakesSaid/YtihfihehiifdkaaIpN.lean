/- Numbers and bytes: wire's and the document's Get, Put. -/
import Derived.Test.YtihfihehiifdkaaIpP
import Derived.LoopTactic
import Derived.WalkKit
import Derived.Lib.Hide
import Derived.Laws.BitsAllLaws
import Derived.Laws.AppendOwn
namespace Go.Proofs.Ytihfihehiifdkaa
open Go.RowKit
theorem bytes_get {x : By} {k : Nat} (h : k < x.length) : (bytesV x)[k]? = some (.int .u8 (x[k].toNat : Int)) := by
  simp [bytesV, List.getElem?_eq_getElem h]
theorem or_byte (g b : Nat) (hb : b < 256) : g * 256 ||| b = g * 256 + b := by
  have h := Nat.shiftLeft_add_eq_or_of_lt (i := 8) (by omega : b < 2 ^ 8) g
  rw [Nat.shiftLeft_eq] at h
  exact h.symm
theorem u64_or_byte (g b : Nat) (hg : g < 72057594037927936) (hb : b < 256) : bits .or .u64 ((g : Int) * 256) (b : Int) = ((g * 256 + b : Nat) : Int) := by
  have h := u64_or_nat (g * 256) b (by omega) (by omega)
  rw [or_byte g b hb] at h
  rw [← h]
  congr 1
theorem getF_take {x : By} {k : Nat} (h : k < x.length) : getF (x.take (k + 1)) = getF (x.take k) * 256 + x[k].toNat := by
  rw [List.take_succ_eq_append_getElem h, getF_snoc]
set_option maxHeartbeats 400000 in
theorem wget_any (A : Option Addr) (n c : Nat) (x : By) (I : Nat → Prop) (w : World) (h : Reads w I 1 A n (bytesV x)) (hn : x.length = n) (h1 : 1 ≤ n) (h8 : n ≤ 7) :
    Calls Try.prog 98 #[.slice A n c] w fun e w' => e = .returned (.tuple #[.int .u64 (getF x : Int), .int .i64 0]) ∧ w = w' := by
  obtain ⟨ad, rfl, _, _, hc⟩ := h.2 (by omega)
  have HL := Lib.hid hn
  have HC := Lib.hid hc
  clear h hc hn
  go_enter Try.func98, Try.ntmps98
  go_wp2
  go_loop [4, 17] (fun s i => ∃ k : Nat, k ≤ n ∧ i = .int .i64 (k : Int) ∧ s = .int .u64 (getF (x.take k) : Int)) (fun _ i => n - (intOf i).toNat)
  case atStart => exact ⟨0, Nat.zero_le _, rfl, rfl⟩
  case round =>
    obtain ⟨k, hk, rfl, rfl⟩ := hrel
    by_cases hlt : k < n
    · have hkx : k < x.length := by rw [HL.out]; exact hlt
      have hcell : w.cell? (ad.add k) = some (.int .u8 (x[k].toNat : Int)) := HC.out _ _ (bytes_get hkx)
      have hg := getF_lt (x.take k)
      have hl : (x.take k).length ≤ 6 := by rw [List.length_take]; omega
      have hb := x[k].toNat_lt
      have hp : 256 ^ (x.take k).length ≤ 256 ^ 6 := Nat.pow_le_pow_right (by omega) hl
      have hi0 : (0 : Int) ≤ k := by omega
      have hi1 : (k : Int) < n := by omega
      have hgs := Lib.hid (getF_take hkx)
      obtain ⟨g, hge⟩ : ∃ g, g = getF (x.take k) := ⟨_, rfl⟩
      obtain ⟨b, hbe⟩ : ∃ b, b = x[k].toNat := ⟨_, rfl⟩
      rw [← hge] at hg hgs ⊢
      rw [← hbe] at hcell hb hgs
      have hg2 : g < 281474976710656 := by have : (256 : Nat) ^ 6 = 281474976710656 := rfl; omega
      clear hg hl hp hge hbe
      go_wp2
      go_round
      case rel => exact ⟨k + 1, by omega, by go_num, by rw [u64_or_byte g b (by omega) hb, hgs.out]⟩
      case measure => simp [intOf]; omega
    · obtain rfl : k = n := by omega
      have hx : x.take k = x := List.take_of_length_le (by rw [HL.out]; exact Nat.le_refl _)
      rw [hx]
      go_wp2
      go_ret2
      exact ⟨rfl, rfl⟩
theorem number_any (A : Option Addr) (n c : Nat) (x : By) (I : Nat → Prop) (w : World) (h : Reads w I 1 A n (bytesV x)) (hn : x.length = n) (h1 : 1 ≤ n) (h8 : n ≤ 7) :
    Calls Try.prog 77 #[.slice A n c] w fun e w' => e = .returned (.int .u64 (getF x : Int)) ∧ w = w' := by
  have HC := Lib.hid (wget_any A n c x I w h hn h1 h8)
  clear h hn
  go_enter Try.func77, Try.ntmps77
  go_wp2_with fail
  refine HC.out.mono ?_
  rintro e w' ⟨rfl, rfl⟩
  go_wp2_with fail
  go_ret
  exact ⟨rfl, rfl⟩
set_option maxHeartbeats 400000 in
theorem rget_any (A : Option Addr) (n c : Nat) (x : By) (I : Nat → Prop) (w : World) (h : Reads w I 1 A n (bytesV x)) (hn : x.length = n) (h8 : n ≤ 7) :
    Calls Try.prog 60 #[.slice A n c] w fun e w' => e = .returned (.int .u64 (getF x : Int)) ∧ w = w' := by
  have HL := Lib.hid hn
  have HC := Lib.hid h
  clear h hn
  go_enter Try.func60, Try.ntmps60
  go_wp2
  go_loop [3, 4] (fun s i => ∃ k : Nat, k ≤ n ∧ i = .int .i64 (k : Int) ∧ s = .int .u64 (getF (x.take k) : Int)) (fun _ i => n - (intOf i).toNat)
  case atStart => exact ⟨0, Nat.zero_le _, rfl, rfl⟩
  case round =>
    obtain ⟨k, hk, rfl, rfl⟩ := hrel
    by_cases hlt : k < n
    · have hkx : k < x.length := by rw [HL.out]; exact hlt
      obtain ⟨ad, rfl, _, _, hc⟩ := HC.out.2 (by omega)
      have hcell : w.cell? (ad.add k) = some (.int .u8 (x[k].toNat : Int)) := hc _ _ (bytes_get hkx)
      have hg := getF_lt (x.take k)
      have hl : (x.take k).length ≤ 6 := by rw [List.length_take]; omega
      have hb := x[k].toNat_lt
      have hp : 256 ^ (x.take k).length ≤ 256 ^ 6 := Nat.pow_le_pow_right (by omega) hl
      have hi0 : (0 : Int) ≤ k := by omega
      have hi1 : (k : Int) < n := by omega
      have hgs := Lib.hid (getF_take hkx)
      obtain ⟨g, hge⟩ : ∃ g, g = getF (x.take k) := ⟨_, rfl⟩
      obtain ⟨b, hbe⟩ : ∃ b, b = x[k].toNat := ⟨_, rfl⟩
      rw [← hge] at hg hgs ⊢
      rw [← hbe] at hcell hb hgs
      have hg2 : g < 281474976710656 := by have : (256 : Nat) ^ 6 = 281474976710656 := rfl; omega
      clear hg hl hp hge hbe hc
      go_wp2
      go_round
      case rel => exact ⟨k + 1, by omega, by go_num, by rw [hgs.out]; exact congrArg (Value.int .u64) (by omega)⟩
      case measure => simp [intOf]; omega
    · obtain rfl : k = n := by omega
      have hx : x.take k = x := List.take_of_length_le (by rw [HL.out]; exact Nat.le_refl _)
      rw [hx]
      go_wp2
      go_ret
      exact ⟨rfl, rfl⟩
theorem putF_take (n size k : Nat) (hk : k < size) : (putF n size).take (k + 1) = (putF n size).take k ++ [UInt8.ofNat (n / 256 ^ (size - 1 - k))] := by
  have hl : k < (putF n size).length := by rw [putF_len]; exact hk
  rw [List.take_succ_eq_append_getElem hl]
  congr 2
  simp [putF]
set_option maxRecDepth 20000 in
set_option maxHeartbeats 1600000 in
theorem wput1_any (n : Nat) (w : World) (hn : n < 256) :
    Calls Try.prog 69 #[.int .u64 (n : Int), .int .i64 1] w fun e w' => ∃ v, e = .returned (.tuple #[v, .int .i64 0]) ∧ Row8 w.heap.size w' v (putF n 1) ∧ Below w.heap.size w w' := by
  go_enter Try.func69, Try.ntmps69
  go_wp2_with fail
  go_loopw [6, 26] (fun v i wr => ∃ k : Nat, k ≤ 1 ∧ i = .int .i64 (k : Int) ∧ Row8 w.heap.size wr v ((putF n 1).take k) ∧ Below w.heap.size w wr) (fun _ i _ => 1 - (intOf i).toNat)
  case atStart => exact ⟨0, by omega, rfl, Row8.nil _ _, Below.refl _ _⟩
  case round =>
    obtain ⟨k, hk, rfl, hv, hb⟩ := hrel
    have HV := Lib.hid hv
    have HB := Lib.hid hb
    clear hv hb
    by_cases hlt : k < 1
    · have hk3 : k = 0 := by omega
      rcases hk3 with hk3
      · obtain rfl : k = 0 := by omega
        have hpt := Lib.hid (putF_take n 1 0 (by omega))
        have hln : ((putF n 1).take 0).length + 1 ≤ 140737488355328 := by rw [List.length_take, putF_len]; omega
        have HLN := Lib.hid hln
        clear hlt hk hln
        go_wp2_with (at_builtin; refine wpList_push8 wr rfl (.tmp 29) (.tmp 38) rfl rfl w.heap.size u6 _ (UInt8.ofNat (n / 256 ^ (1 - 1 - 0))) _ (by simp only [UInt8.toNat_ofNat']; omega) rfl HV.out rfl HLN.out HB.out.size ?_; intro v2 w2 h2 hg2 hat2)
        have hb2 := grown_belowB HB.out HV.out hg2 (Nat.le_refl _) HB.out.size
        rw [← hpt.out] at h2
        have H2 := Lib.hid h2
        have HB2 := Lib.hid hb2
        clear h2 hb2 hg2 hat2
        go_wp2_with fail
        go_roundw
        case rel => exact ⟨_, _, _, ⟨1, by omega, rfl, H2.out, HB2.out⟩, rfl, rfl, rfl⟩
        case measure => simp [intOf]
    · obtain rfl : k = 1 := by omega
      have hx := HV.out
      rw [List.take_of_length_le (by rw [putF_len]; omega)] at hx
      have HX := Lib.hid hx
      clear hlt hk hx
      go_wp2_with fail
      go_ret2
      exact ⟨_, rfl, HX.out, HB.out⟩
theorem put1_any (n : Nat) (w : World) (hn : n < 256) :
    Calls Try.prog 106 #[.int .u64 (n : Int), .int .i64 1] w fun e w' => ∃ v, e = .returned v ∧ Row8 w.heap.size w' v (putF n 1) ∧ Below w.heap.size w w' := by
  have HC := Lib.hid (wput1_any n w hn)
  go_enter Try.func106, Try.ntmps106
  go_wp2_with fail
  refine HC.out.mono ?_
  rintro e w' ⟨v, rfl, h1, h2⟩
  go_wp2_with fail
  go_ret
  exact ⟨_, rfl, h1, h2⟩
set_option maxRecDepth 20000 in
set_option maxHeartbeats 1600000 in
theorem wput2_any (n : Nat) (w : World) (hn : n < 65536) :
    Calls Try.prog 69 #[.int .u64 (n : Int), .int .i64 2] w fun e w' => ∃ v, e = .returned (.tuple #[v, .int .i64 0]) ∧ Row8 w.heap.size w' v (putF n 2) ∧ Below w.heap.size w w' := by
  go_enter Try.func69, Try.ntmps69
  go_wp2_with fail
  go_loopw [6, 26] (fun v i wr => ∃ k : Nat, k ≤ 2 ∧ i = .int .i64 (k : Int) ∧ Row8 w.heap.size wr v ((putF n 2).take k) ∧ Below w.heap.size w wr) (fun _ i _ => 2 - (intOf i).toNat)
  case atStart => exact ⟨0, by omega, rfl, Row8.nil _ _, Below.refl _ _⟩
  case round =>
    obtain ⟨k, hk, rfl, hv, hb⟩ := hrel
    have HV := Lib.hid hv
    have HB := Lib.hid hb
    clear hv hb
    by_cases hlt : k < 2
    · have hk3 : k = 0 ∨ k = 1 := by omega
      rcases hk3 with hk3 | hk3
      · obtain rfl : k = 0 := by omega
        have hpt := Lib.hid (putF_take n 2 0 (by omega))
        have hln : ((putF n 2).take 0).length + 1 ≤ 140737488355328 := by rw [List.length_take, putF_len]; omega
        have HLN := Lib.hid hln
        clear hlt hk hln
        go_wp2_with (at_builtin; refine wpList_push8 wr rfl (.tmp 29) (.tmp 38) rfl rfl w.heap.size u6 _ (UInt8.ofNat (n / 256 ^ (2 - 1 - 0))) _ (by simp only [UInt8.toNat_ofNat']; omega) rfl HV.out rfl HLN.out HB.out.size ?_; intro v2 w2 h2 hg2 hat2)
        have hb2 := grown_belowB HB.out HV.out hg2 (Nat.le_refl _) HB.out.size
        rw [← hpt.out] at h2
        have H2 := Lib.hid h2
        have HB2 := Lib.hid hb2
        clear h2 hb2 hg2 hat2
        go_wp2_with fail
        go_roundw
        case rel => exact ⟨_, _, _, ⟨1, by omega, rfl, H2.out, HB2.out⟩, rfl, rfl, rfl⟩
        case measure => simp [intOf]
      · obtain rfl : k = 1 := by omega
        have hpt := Lib.hid (putF_take n 2 1 (by omega))
        have hln : ((putF n 2).take 1).length + 1 ≤ 140737488355328 := by rw [List.length_take, putF_len]; omega
        have HLN := Lib.hid hln
        clear hlt hk hln
        go_wp2_with (at_builtin; refine wpList_push8 wr rfl (.tmp 29) (.tmp 38) rfl rfl w.heap.size u6 _ (UInt8.ofNat (n / 256 ^ (2 - 1 - 1))) _ (by simp only [UInt8.toNat_ofNat']; omega) rfl HV.out rfl HLN.out HB.out.size ?_; intro v2 w2 h2 hg2 hat2)
        have hb2 := grown_belowB HB.out HV.out hg2 (Nat.le_refl _) HB.out.size
        rw [← hpt.out] at h2
        have H2 := Lib.hid h2
        have HB2 := Lib.hid hb2
        clear h2 hb2 hg2 hat2
        go_wp2_with fail
        go_roundw
        case rel => exact ⟨_, _, _, ⟨2, by omega, rfl, H2.out, HB2.out⟩, rfl, rfl, rfl⟩
        case measure => simp [intOf]
    · obtain rfl : k = 2 := by omega
      have hx := HV.out
      rw [List.take_of_length_le (by rw [putF_len]; omega)] at hx
      have HX := Lib.hid hx
      clear hlt hk hx
      go_wp2_with fail
      go_ret2
      exact ⟨_, rfl, HX.out, HB.out⟩
theorem put2_any (n : Nat) (w : World) (hn : n < 65536) :
    Calls Try.prog 106 #[.int .u64 (n : Int), .int .i64 2] w fun e w' => ∃ v, e = .returned v ∧ Row8 w.heap.size w' v (putF n 2) ∧ Below w.heap.size w w' := by
  have HC := Lib.hid (wput2_any n w hn)
  go_enter Try.func106, Try.ntmps106
  go_wp2_with fail
  refine HC.out.mono ?_
  rintro e w' ⟨v, rfl, h1, h2⟩
  go_wp2_with fail
  go_ret
  exact ⟨_, rfl, h1, h2⟩
set_option maxRecDepth 20000 in
set_option maxHeartbeats 1600000 in
theorem wput4_any (n : Nat) (w : World) (hn : n < 4294967296) :
    Calls Try.prog 69 #[.int .u64 (n : Int), .int .i64 4] w fun e w' => ∃ v, e = .returned (.tuple #[v, .int .i64 0]) ∧ Row8 w.heap.size w' v (putF n 4) ∧ Below w.heap.size w w' := by
  go_enter Try.func69, Try.ntmps69
  go_wp2_with fail
  go_loopw [6, 26] (fun v i wr => ∃ k : Nat, k ≤ 4 ∧ i = .int .i64 (k : Int) ∧ Row8 w.heap.size wr v ((putF n 4).take k) ∧ Below w.heap.size w wr) (fun _ i _ => 4 - (intOf i).toNat)
  case atStart => exact ⟨0, by omega, rfl, Row8.nil _ _, Below.refl _ _⟩
  case round =>
    obtain ⟨k, hk, rfl, hv, hb⟩ := hrel
    have HV := Lib.hid hv
    have HB := Lib.hid hb
    clear hv hb
    by_cases hlt : k < 4
    · have hk3 : k = 0 ∨ k = 1 ∨ k = 2 ∨ k = 3 := by omega
      rcases hk3 with hk3 | hk3 | hk3 | hk3
      · obtain rfl : k = 0 := by omega
        have hpt := Lib.hid (putF_take n 4 0 (by omega))
        have hln : ((putF n 4).take 0).length + 1 ≤ 140737488355328 := by rw [List.length_take, putF_len]; omega
        have HLN := Lib.hid hln
        clear hlt hk hln
        go_wp2_with (at_builtin; refine wpList_push8 wr rfl (.tmp 29) (.tmp 38) rfl rfl w.heap.size u6 _ (UInt8.ofNat (n / 256 ^ (4 - 1 - 0))) _ (by simp only [UInt8.toNat_ofNat']; omega) rfl HV.out rfl HLN.out HB.out.size ?_; intro v2 w2 h2 hg2 hat2)
        have hb2 := grown_belowB HB.out HV.out hg2 (Nat.le_refl _) HB.out.size
        rw [← hpt.out] at h2
        have H2 := Lib.hid h2
        have HB2 := Lib.hid hb2
        clear h2 hb2 hg2 hat2
        go_wp2_with fail
        go_roundw
        case rel => exact ⟨_, _, _, ⟨1, by omega, rfl, H2.out, HB2.out⟩, rfl, rfl, rfl⟩
        case measure => simp [intOf]
      · obtain rfl : k = 1 := by omega
        have hpt := Lib.hid (putF_take n 4 1 (by omega))
        have hln : ((putF n 4).take 1).length + 1 ≤ 140737488355328 := by rw [List.length_take, putF_len]; omega
        have HLN := Lib.hid hln
        clear hlt hk hln
        go_wp2_with (at_builtin; refine wpList_push8 wr rfl (.tmp 29) (.tmp 38) rfl rfl w.heap.size u6 _ (UInt8.ofNat (n / 256 ^ (4 - 1 - 1))) _ (by simp only [UInt8.toNat_ofNat']; omega) rfl HV.out rfl HLN.out HB.out.size ?_; intro v2 w2 h2 hg2 hat2)
        have hb2 := grown_belowB HB.out HV.out hg2 (Nat.le_refl _) HB.out.size
        rw [← hpt.out] at h2
        have H2 := Lib.hid h2
        have HB2 := Lib.hid hb2
        clear h2 hb2 hg2 hat2
        go_wp2_with fail
        go_roundw
        case rel => exact ⟨_, _, _, ⟨2, by omega, rfl, H2.out, HB2.out⟩, rfl, rfl, rfl⟩
        case measure => simp [intOf]
      · obtain rfl : k = 2 := by omega
        have hpt := Lib.hid (putF_take n 4 2 (by omega))
        have hln : ((putF n 4).take 2).length + 1 ≤ 140737488355328 := by rw [List.length_take, putF_len]; omega
        have HLN := Lib.hid hln
        clear hlt hk hln
        go_wp2_with (at_builtin; refine wpList_push8 wr rfl (.tmp 29) (.tmp 38) rfl rfl w.heap.size u6 _ (UInt8.ofNat (n / 256 ^ (4 - 1 - 2))) _ (by simp only [UInt8.toNat_ofNat']; omega) rfl HV.out rfl HLN.out HB.out.size ?_; intro v2 w2 h2 hg2 hat2)
        have hb2 := grown_belowB HB.out HV.out hg2 (Nat.le_refl _) HB.out.size
        rw [← hpt.out] at h2
        have H2 := Lib.hid h2
        have HB2 := Lib.hid hb2
        clear h2 hb2 hg2 hat2
        go_wp2_with fail
        go_roundw
        case rel => exact ⟨_, _, _, ⟨3, by omega, rfl, H2.out, HB2.out⟩, rfl, rfl, rfl⟩
        case measure => simp [intOf]
      · obtain rfl : k = 3 := by omega
        have hpt := Lib.hid (putF_take n 4 3 (by omega))
        have hln : ((putF n 4).take 3).length + 1 ≤ 140737488355328 := by rw [List.length_take, putF_len]; omega
        have HLN := Lib.hid hln
        clear hlt hk hln
        go_wp2_with (at_builtin; refine wpList_push8 wr rfl (.tmp 29) (.tmp 38) rfl rfl w.heap.size u6 _ (UInt8.ofNat (n / 256 ^ (4 - 1 - 3))) _ (by simp only [UInt8.toNat_ofNat']; omega) rfl HV.out rfl HLN.out HB.out.size ?_; intro v2 w2 h2 hg2 hat2)
        have hb2 := grown_belowB HB.out HV.out hg2 (Nat.le_refl _) HB.out.size
        rw [← hpt.out] at h2
        have H2 := Lib.hid h2
        have HB2 := Lib.hid hb2
        clear h2 hb2 hg2 hat2
        go_wp2_with fail
        go_roundw
        case rel => exact ⟨_, _, _, ⟨4, by omega, rfl, H2.out, HB2.out⟩, rfl, rfl, rfl⟩
        case measure => simp [intOf]
    · obtain rfl : k = 4 := by omega
      have hx := HV.out
      rw [List.take_of_length_le (by rw [putF_len]; omega)] at hx
      have HX := Lib.hid hx
      clear hlt hk hx
      go_wp2_with fail
      go_ret2
      exact ⟨_, rfl, HX.out, HB.out⟩
theorem put4_any (n : Nat) (w : World) (hn : n < 4294967296) :
    Calls Try.prog 106 #[.int .u64 (n : Int), .int .i64 4] w fun e w' => ∃ v, e = .returned v ∧ Row8 w.heap.size w' v (putF n 4) ∧ Below w.heap.size w w' := by
  have HC := Lib.hid (wput4_any n w hn)
  go_enter Try.func106, Try.ntmps106
  go_wp2_with fail
  refine HC.out.mono ?_
  rintro e w' ⟨v, rfl, h1, h2⟩
  go_wp2_with fail
  go_ret
  exact ⟨_, rfl, h1, h2⟩
end Go.Proofs.Ytihfihehiifdkaa
