/- Appending one number to a []int64 of the call's own. -/
import Derived.Test.YtcclfmapbgdpdaaGreatDoorFresh
import Derived.Test.YtcclfmapbgdpdaaGreatDoorHelpI
namespace Go.Proofs.YtcclfmapbgdpdaaGreatDoor
open Go.RowKit

theorem appI {w : World} {ops : Array Oper} {rest : List Oper} {o : Oper} {a : Act} {Q : Exit → Act → World → Prop} (hgd : o.guard = none) (s x : Operand)
    (ho : o.op = .call { callee := .builtin .append, args := #[s, x], argTypes := #[24, 24] })
    (base : Nat) (v : Value) (n : Nat) (xs : List Int) (u : Int) (hs : a.eval s = v) (hown : w.ownsRow base 2 1 v n (cI xs)) (hx : a.eval x = .slice (some ⟨w.heap.size, 0, none⟩) 1 1)
    (hn : n ≤ 1099511627776) (hbase : base ≤ w.heap.size)
    (h : ∀ v' w', w'.ownsRow base 2 1 v' (n + 1) (cI (xs ++ [u])) → Below base w w' → w.heap.size ≤ w'.heap.size → wpList Tryz.prog ops Q rest (a.put o.dst v') w') : wpList Tryz.prog ops Q (o :: rest) a (w.alloc (.cells #[.int .i64 u] 2)) :=
  app1_gen hgd s x 24 ho base 2 (.int .i64 0) 8 Tryz.underlying24 Tryz.info2 rfl (by omega) v n (cI xs) (.int .i64 u) rfl hs hown hx hn hbase
    (fun v' w' h1 h2 h3 => h v' w' (by simpa [cI] using h1) h2 h3)

end Go.Proofs.YtcclfmapbgdpdaaGreatDoor
