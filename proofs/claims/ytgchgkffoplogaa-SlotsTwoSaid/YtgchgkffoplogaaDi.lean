/- The walk of the law SlotsPlay. -/
import Derived.Test.YtgchgkffoplogaaDh
namespace Go.Proofs.Ytgchgkffoplogaa
open Go.RowKit Go.Proofs.YtgchgkffoplogaaW.PrintWords
set_option linter.unusedVariables false
set_option linter.unusedSimpArgs false

theorem tags123 : Tags 1 2 3 := ⟨by decide, by decide, by decide, by decide, by decide, by decide⟩
/-- The pair at its beginning. -/
theorem pair_new {w W : World} {B : Nat} (hb : Below w.heap.size w W) (ht : Tab W B (fun k => w.heap.size ≤ k) [] []) :
    Pair (W.alloc (.cells #[.slice none 0 0, .slice none 0 0] 38)) (fun k => if k < w.heap.size then 0 else if k = W.heap.size then 2 else 1) 1 2 3 B W.heap.size (([] : List (List Int)).map (rd · 0)) [] [] [] := by
  have hs := hb.size
  refine ⟨?_, ⟨_, _, _, ref_new W _ _ ?_⟩⟩
  · refine (ht.mono (ok' := fun k => (if k < w.heap.size then 0 else if k = W.heap.size then 2 else 1) = 1) (fun k e hlt => ?_)).below (below_alloc (Below.refl _ _) _)
    show (if k < w.heap.size then 0 else if k = W.heap.size then 2 else 1) = 1
    rw [if_neg (by omega), if_neg (by omega)]
  · show (if W.heap.size < w.heap.size then 0 else if W.heap.size = W.heap.size then 2 else 1) = 2
    rw [if_neg (by omega), if_pos rfl]
end Go.Proofs.Ytgchgkffoplogaa
