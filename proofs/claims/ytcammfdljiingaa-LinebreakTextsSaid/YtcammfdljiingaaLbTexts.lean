/-
  For all arguments the statement LinebreakTexts answers true, and leaves what it was given as it was.
-/
import Derived.Test.YtcammfdljiingaaLbG
import Derived.Test.YtcammfdljiingaaLbGlue
namespace Go.Proofs.Ytcammfdljiingaa
open Go Go.Abs

theorem linebreakTexts : Rows.LinebreakTextsSaid :=
  texts_of fun l tk a b c d e h0 ha hb hc hd he =>
    texts_run (h0.1.elim .inl fun h => .inr h.1) h0.2.2 ha hb hc hd he

end Go.Proofs.Ytcammfdljiingaa
