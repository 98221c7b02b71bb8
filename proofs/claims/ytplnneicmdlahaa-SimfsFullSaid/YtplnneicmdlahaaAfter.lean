/- A region that draws its order, whose operations yield one value each in whatever world has kept the blocks of before: one walk, in the order of the text. -/
import Derived.Test.YtplnneicmdlahaaBase
namespace Go.Proofs.Ytplnneicmdlahaa
open Go.RowKit

/-- A world in which the blocks of w0 are as they were. -/
structure After (w0 : World) where
  w : World
  k : Keeps NoB w0 w
instance After.here {w0 : World} : Nonempty (After w0) := ⟨⟨w0, Keeps.refl _ _⟩⟩
theorem After.cell {w0 : World} (x : After w0) {a : Addr} {v : Value} (h : w0.cell? a = some v) : x.w.cell? a = some v := x.k.cell h (fun f => f)
theorem Calls.after {P : Program} {f : FuncId} {args : Array Value} {w0 : World} {x : After w0} {v : Value}
    (h : Calls P f args x.w fun e w' => e = .returned v ∧ Keeps NoB x.w w') : Calls P f args x.w fun e w'' => e = .returned v ∧ ∃ y : After w0, w'' = y.w :=
  h.mono fun _ w' ⟨he, hk⟩ => ⟨he, ⟨w', x.k.trans hk (fun _ _ f => f) (fun _ _ f => f)⟩, rfl⟩
theorem Calls.after_same {P : Program} {f : FuncId} {args : Array Value} {w0 : World} {x : After w0} {v : Value}
    (h : Calls P f args x.w fun e w' => e = .returned v ∧ x.w = w') : Calls P f args x.w fun e w'' => e = .returned v ∧ ∃ y : After w0, w'' = y.w :=
  h.mono fun _ _ ⟨he, hk⟩ => ⟨he, x, hk.symm⟩
theorem Calls.after_drew {P : Program} {f : FuncId} {args : Array Value} {w0 : World} {x : After w0} {v : Value}
    (h : Calls P f args x.w fun e w' => e = .returned v ∧ ∃ n, w' = x.w.drewN n) : Calls P f args x.w fun e w'' => e = .returned v ∧ ∃ y : After w0, w'' = y.w :=
  h.mono fun _ _ ⟨he, n, hk⟩ => ⟨he, ⟨_, x.k.drewN n⟩, hk⟩
theorem wp_region_after {P : Program} {id : Nat} {Q : Exit → Act → World → Prop} {a : Act} {w : World} {l : List Oper} (w0 : World) (hw : Keeps NoB w0 w) (hm : P.follows .mixedOrders = true) (hB : Region.lexB .any l.toArray = true)
    (h : wpQuiet P l.toArray (fun w' => ∃ x : After w0, w' = x.w) (fun a' => ∀ w', (∃ x : After w0, w' = x.w) → Q .normal a' w') l a) : (Code.region id l.toArray true).wp P Q a w :=
  wp_region_quiet (C := fun w' => ∃ x : After w0, w' = x.w) hm hB ⟨⟨_, hw.drew⟩, rfl⟩ (by simpa using h)
end Go.Proofs.Ytplnneicmdlahaa
