/- A region that draws its order, whose operations only read and whose callees lay blocks of their own: walked once. Over any program. -/
import Derived.Test.YtcclfmapbgdpdaaGreatDoorMg
namespace Go.Proofs.YtcclfmapbgdpdaaGreatDoor
open Go.RowKit

/-- A world in which all that lay in w lies as it lay. -/
def BelW (w : World) : Type := {x : World // Below w.heap.size w x}
instance (w : World) : Nonempty (BelW w) := ⟨⟨w, Below.refl _ _⟩⟩
def BelC (w w' : World) : Prop := ∃ p : BelW w, w' = p.1
theorem BelC.start (w : World) : BelC w w.drew := ⟨⟨w.drew, (Below.refl _ _).drew⟩, rfl⟩
theorem BelC.of {w w' : World} (h : Below w.heap.size w w') : BelC w w' := ⟨⟨w', h⟩, rfl⟩
theorem BelC.below {w w' : World} (h : BelC w w') : Below w.heap.size w w' := by
  obtain ⟨p, rfl⟩ := h
  exact p.2
theorem BelW.cell {w : World} {a : Addr} {v : Value} (h : w.cell? a = some v) (hb : a.block < w.heap.size) (p : BelW w) : p.1.cell? a = some v := (p.2.cell hb).trans h
/-- wpQuiet, behind a structure: Lean doesn't look into it. -/
structure WQ (P : Program) (ops : Array Oper) (C : World → Prop) (Q : Act → Prop) (rest : List Oper) (a : Act) : Prop where
  out : wpQuiet P ops C Q rest a
theorem WQ.nil {P : Program} {ops : Array Oper} {C : World → Prop} {Q : Act → Prop} {a : Act} (h : Q a) : WQ P ops C Q [] a := ⟨wpQuiet_nil h⟩
theorem WQ.step {P : Program} {ops : Array Oper} {C : World → Prop} {Q : Act → Prop} {a : Act} {o : Oper} {rest : List Oper}
    (h : ∀ K : Act → Prop, (∀ a, WQ P ops C Q rest a → K a) → if Region.wanted o (yielded ops a.tmps) then o.quiet P a C K else K (a.put o.dst undef)) : WQ P ops C Q (o :: rest) a :=
  ⟨h _ (fun _ hh => hh.out)⟩
theorem wp_region_bel {P : Program} {id : Nat} {Q : Exit → Act → World → Prop} {a : Act} {w : World} {l : List Oper} (hm : P.follows .mixedOrders = true) (hB : Region.lexB .any l.toArray = true)
    (h : WQ P l.toArray (fun w' => ∃ p : BelW w, w' = p.1) (fun a' => ∀ w', (∃ p : BelW w, w' = p.1) → Q .normal a' w') l a) : (Code.region id l.toArray true).wp P Q a w :=
  wp_region_quiet (C := fun w' => ∃ p : BelW w, w' = p.1) hm hB (BelC.start w) (by simpa using h.out)
/-- A callee's contract, met in such a world. -/
theorem Calls.bel {P : Program} {f : FuncId} {args : Array Value} {w : World} {p : BelW w} {v : Value} (h : Calls P f args p.1 fun e w' => e = .returned v ∧ Below p.1.heap.size p.1 w') :
    Calls P f args p.1 fun e w'' => e = .returned v ∧ ∃ q : BelW w, w'' = q.1 := h.mono fun _ _ ⟨he, hb⟩ => ⟨he, ⟨⟨_, p.2.trans (hb.mono p.2.size)⟩, rfl⟩⟩
theorem Calls.bel_same {P : Program} {f : FuncId} {args : Array Value} {w : World} {p : BelW w} {v : Value} (h : Calls P f args p.1 fun e w' => e = .returned v ∧ p.1 = w') :
    Calls P f args p.1 fun e w'' => e = .returned v ∧ ∃ q : BelW w, w'' = q.1 := h.mono fun _ _ ⟨he, hb⟩ => ⟨he, ⟨p, hb.symm⟩⟩

end Go.Proofs.YtcclfmapbgdpdaaGreatDoor
