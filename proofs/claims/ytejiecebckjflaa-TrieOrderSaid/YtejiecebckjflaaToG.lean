/- TrieOrder's walk, as its row asks for it. -/
import Derived.Test.YtejiecebckjflaaToW
namespace Go.Proofs.Ytejiecebckjflaa
open Go.RowKit
theorem order_go (A : Option Addr) (n c : Nat) (l : List AcT) (b : Int) (w : World) (r : Reads w (fun k => k < w.heap.size) 4 A n (l.flatMap AcT.cells)) (hl : l.length = n) (hg : ∀ x ∈ l, x.p.a < 2 ^ 32) (hb : (Lit.int .u32 b).wf = true) :
    Calls Try.prog 5 #[.slice A n c, .int .u32 b] w fun e w' => e = .returned (.bool true) ∧ Below w.heap.size w w' := by
  have h := wf_u32 hb
  have := order_any A n c l b.toNat w r hl hg (by omega)
  rwa [Int.toNat_of_nonneg h.1] at this
end Go.Proofs.Ytejiecebckjflaa
