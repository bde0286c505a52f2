/- Calls one behind the other leave what lay. -/
import Derived.Test.YtiofeehcnegejaaDigN
namespace Go.Proofs.Ytiofeehcnegejaa
open Go.RowKit Go.Proofs.YtiofeehcnegejaaW.PrintWords
structure Steps0 (w w' : World) : Prop where mk :: (out : Below w.heap.size w w')
theorem Steps0.refl (w : World) : Steps0 w w := ⟨Below.refl _ w⟩
theorem Steps0.step {w w' w'' : World} (h : Steps0 w w') (k : Below w'.heap.size w' w'') : Steps0 w w'' := ⟨h.out.trans (k.mono h.out.size)⟩
theorem Steps0.drewN {w w' : World} (h : Steps0 w w') (n : Nat) : Steps0 w (w'.drewN n) := ⟨pw_below_drewN h.out n⟩
end Go.Proofs.Ytiofeehcnegejaa
