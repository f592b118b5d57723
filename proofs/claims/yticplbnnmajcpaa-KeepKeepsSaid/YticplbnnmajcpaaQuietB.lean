/- Regions that draw their order, read, and call what makes memory: one walk of the text's order serves every order (the shelf's quiet regions, at the class of the worlds that leave all below a bound as it was). Plain. -/
import Derived.Test.YticplbnnmajcpaaKit
import Derived.Deep.Quiet
import Derived.BigQuiet
namespace Go.Proofs.Yticplbnnmajcpaa
open Go Go.RowKit
/-- The worlds that leave all that lay in w0 as it was. -/
def InB (w0 W : World) : Prop := Below w0.heap.size w0 W
theorem InB.below {w0 W : World} (h : InB w0 W) : Below w0.heap.size w0 W := h
theorem InB.call {w0 W w' : World} (h : InB w0 W) (hb : Below W.heap.size W w') : InB w0 w' := Below.trans h (hb.mono (Below.size h))
theorem InB.calls {P : Program} {f : FuncId} {args : Array Value} {w0 W : World} {v : Value} (h : InB w0 W) (hc : Calls P f args W fun e w' => e = .returned v ∧ Below W.heap.size W w') : Calls P f args W fun e w' => e = .returned v ∧ InB w0 w' :=
  hc.mono fun _ _ ⟨he, hb⟩ => ⟨he, h.call hb⟩
theorem wp_region_inB {P : Program} {id : Nat} {Q : Exit → Act → World → Prop} {a : Act} {w : World} {l : List Oper} (hm : P.follows .mixedOrders = true) (hB : Region.lexB .any l.toArray = true)
    (h : wpQuiet P l.toArray (InB w) (fun a' => ∀ w', InB w w' → Q .normal a' w') l a) : (Code.region id l.toArray true).wp P Q a w :=
  wp_region_quiet (C := InB w) hm hB ((Below.refl _ _).drew) (by simpa using h)
end Go.Proofs.Yticplbnnmajcpaa
