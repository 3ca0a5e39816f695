/- TrieHolds' walk, as its row asks for it. -/
import Derived.Test.YtejiecebckjflaaThW
namespace Go.Proofs.Ytejiecebckjflaa
open Go.RowKit
theorem holds_go (A : Option Addr) (n c : Nat) (l : List AcT) (A2 : Option Addr) (n2 c2 : Nat) (l2 : List AcT) (b : Int) (w : World) (r : Reads w (fun k => k < w.heap.size) 4 A n (l.flatMap AcT.cells)) (hl : l.length = n) (hg : ∀ x ∈ l, x.p.a < 2 ^ 32)
    (r2 : Reads w (fun k => k < w.heap.size) 4 A2 n2 (l2.flatMap AcT.cells)) (hl2 : l2.length = n2) (hg2 : ∀ x ∈ l2, x.p.a < 2 ^ 32) (hb : (Lit.int .u32 b).wf = true) :
    Calls Try.prog 4 #[.slice A n c, .slice A2 n2 c2, .int .u32 b] w fun e w' => e = .returned (.bool true) ∧ Below w.heap.size w w' := by
  have h := wf_u32 hb
  have := holds_any A n c l A2 n2 c2 l2 b.toNat w r hl hg r2 hl2 hg2 (by omega)
  rwa [Int.toNat_of_nonneg h.1] at this
end Go.Proofs.Ytejiecebckjflaa
