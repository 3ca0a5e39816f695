/- Tries: bits.Len32, bits.LeadingZeros32 (the shelf's texts, turned to this claim); common. -/
import Derived.Test.YthlommalbkhcjaaGreatProg
import Derived.Lib.Strings
import Derived.Lib.Slices
import Derived.Lib.Small
import Derived.Lib.Walk
import Derived.Lib.BitFns
namespace Go.Proofs.YthlommalbkhcjaaGreat
set_option maxHeartbeats 4000000 in
set_option maxRecDepth 100000 in
theorem len32_any (x:Int) (w:World) (h0:0≤x) (h1:x≤4294967295) :
  Calls Tryz.prog 190 #[.int .u32 x] w fun e w'=>e=.returned (.int .i64 (Lib.bitLen x.toNat))∧w'=w:=by
 go_enter Tryz.func190,Tryz.ntmps190
 go_wp2
 all_goals (go_ret; refine ⟨congrArg Ending.returned (congrArg (Value.int IntKind.i64) ?_),rfl⟩)
 all_goals first
  | (rw [Lib.len8_of (x / 65536 / 256 % 256) (by omega) (by omega)]
     have e:(x / 65536 / 256 % 256).toNat=x.toNat / 16777216:=by omega
     have l:=Lib.bitLen_le8' (x / 65536 / 256 % 256) (by omega) (by omega)
     have s:=Lib.bitLen_shift24 x.toNat (by omega) (by omega)
     rw [e] at l ⊢
     omega)
  | (rw [Lib.len8_of (x / 65536 % 256) (by omega) (by omega)]
     have e:(x / 65536 % 256).toNat=x.toNat / 65536:=by omega
     have l:=Lib.bitLen_le8' (x / 65536 % 256) (by omega) (by omega)
     have s:=Lib.bitLen_shift16 x.toNat (by omega) (by omega)
     rw [e] at l ⊢
     omega)
  | (rw [Lib.len8_of (x / 256 % 256) (by omega) (by omega)]
     have e:(x / 256 % 256).toNat=x.toNat / 256:=by omega
     have l:=Lib.bitLen_le8' (x / 256 % 256) (by omega) (by omega)
     have s:=Lib.bitLen_shift8 x.toNat (by omega) (by omega)
     rw [e] at l ⊢
     omega)
  | (rw [Lib.len8_of (x % 256) (by omega) (by omega)]
     have e:(x % 256).toNat=x.toNat:=by omega
     have l:=Lib.bitLen_le8' (x % 256) (by omega) (by omega)
     rw [e] at l ⊢
     omega)
theorem lz32_any (x:Int) (w:World) (h0:0≤x) (h1:x≤4294967295) :
  Calls Tryz.prog 154 #[.int .u32 x] w fun e w'=>e=.returned (.int .i64 (32 - (Lib.bitLen x.toNat:Int)))∧w'=w:=by
 have l:Lib.bitLen x.toNat≤32:=Lib.bitLen_le x.toNat 32 (by omega) (by omega)
 have e8:(32 - (Lib.bitLen x.toNat:Int)+9223372036854775808) % 18446744073709551616 - 9223372036854775808=32 - (Lib.bitLen x.toNat:Int):=by omega
 go_enter Tryz.func154,Tryz.ntmps154
 go_wp2_with (go_at_call 190; refine (len32_any x _ h0 h1).mono ?_; rintro e w' ⟨rfl,rfl⟩)
 go_ret
 refine ⟨?_,rfl⟩
 rw [← e8]
 rfl
end Go.Proofs.YthlommalbkhcjaaGreat
