/- law08: SkipPlays: both ways. -/
import Derived.Test.YteaanagljmcidaaSkipPlays
namespace Go.Proofs.Yteaanagljmcidaa
open Go.RowKit
theorem skipPlays_walk (w : World) (b : Bool) {F G : Nat → Prop} {x y : Value} (l : List PutE) (hx : Sl putCA w F x l) (ps : List Key) (hy : Sl keyCA w G y ps) :
    Calls Try.prog 8 #[.bool b, x, y] w fun e w' => e = .returned (.bool true) ∧ Ext w w' := by
  cases b
  · exact skipPlays_list w l hx ps hy
  · exact skipPlays_nil w l hx ps hy
end Go.Proofs.Yteaanagljmcidaa
