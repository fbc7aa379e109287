/- Gaps in a series: contracts of what FillGaps calls. -/
import Derived.Test.YtmpfkmbfbeejhaaRows
import Derived.Test.YtmpfkmbfbeejhaaFillZ
import Derived.Test.YtmpfkmbfbeejhaaHasI
import Derived.Test.YtmpfkmbfbeejhaaKind
namespace Go.Proofs.Ytmpfkmbfbeejhaa
open Go.RowKit
set_option linter.unusedVariables false

theorem appsI {w : World} {ops : Array Oper} {rest : List Oper} {o : Oper} {a : Act} {Q : Exit → Act → World → Prop} (hgd : o.guard = none) (s x : Operand)
    (ho : o.op = .call { callee := .builtin .append, args := #[s, x], argTypes := #[22, 22] })
    (base : Nat) (v : Value) (n : Nat) (xs : List Int) (hs : a.eval s = v) (hown : w.ownsRow base 2 1 v n (cK kI xs))
    (Ax : Option Addr) (m cx : Nat) (ys : List Int) (hx : a.eval x = .slice Ax m cx) (hy : Rd w Ax m 1 (cK kI ys)) (hn : n + m ≤ 1099511627776) (hbase : base ≤ w.heap.size)
    (h : ∀ v' w', w'.ownsRow base 2 1 v' (n + m) (cK kI (xs ++ ys)) → Below base w w' → w.heap.size ≤ w'.heap.size → wpList Try.prog ops Q rest (a.put o.dst v') w') : wpList Try.prog ops Q (o :: rest) a w :=
  appKs_gen kI hgd s x 22 ho base 2 (.int .i64 0) 8 Try.underlying22 Try.info2 rfl (by decide) (by omega) v n xs hs hown Ax m cx ys hx hy hn hbase h

theorem own_addr {w : World} {base : Nat} {e : TypeId} {size n : Nat} {v : Value} {xs : List Value} (h : w.ownsRow base e size v n xs) (hn : 1 ≤ n) : ∃ g c, v = .slice (some ⟨g, 0, none⟩) n c := by
  rcases h.2 with ⟨rfl, rfl⟩ | ⟨g, cap, cur, rfl, _⟩
  · omega
  · exact ⟨g, cap, rfl⟩






end Go.Proofs.Ytmpfkmbfbeejhaa
