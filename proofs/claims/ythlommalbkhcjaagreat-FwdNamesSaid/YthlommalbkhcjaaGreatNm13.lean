/- guidepostref03.Parse. -/
import Derived.Test.YthlommalbkhcjaaGreatNm12
namespace Go.Proofs.YthlommalbkhcjaaGreat
open Go.RowKit Go.Sort Go.BigFrame
theorem sl_nil (w:World) (J:Nat→Prop):Sl8 w J (.slice none 0 0) []:=⟨none,0,rfl,Nat.le_refl _,rfl,fun h=>absurd h (Nat.lt_irrefl _)⟩
end Go.Proofs.YthlommalbkhcjaaGreat
