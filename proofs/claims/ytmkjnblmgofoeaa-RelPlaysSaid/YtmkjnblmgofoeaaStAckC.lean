/- Ways that come to one place go on as one. -/
import Derived.Test.YtmkjnblmgofoeaaStAck
namespace Go.Proofs.Ytmkjnblmgofoeaa
theorem cut_ {T G : Prop} (h1 : T → G) (h2 : T) : G := h1 h2
end Go.Proofs.Ytmkjnblmgofoeaa
