/- Appending, with what stays told. -/
import Derived.Test.YtcclfmapbgdpdaaGreatDoorHelK
import Derived.Test.YtcclfmapbgdpdaaGreatDoorOwnG
namespace Go.Proofs.YtcclfmapbgdpdaaGreatDoor
open Go.RowKit
set_option linter.unusedVariables false

theorem appHelperG {w : World} {ops : Array Oper} {rest : List Oper} {o : Oper} {a : Act} {Q : Exit → Act → World → Prop} (hgd : o.guard = none) (s x : Operand)
    (ho : o.op = .call { callee := .builtin .append, args := #[s, x], argTypes := #[59, 59] })
    (base : Nat) (v : Value) (n : Nat) (xs : List HlpZ) (u : HlpZ) (hs : a.eval s = v) (hown : w.ownsRow base 70 3 v n (cK kHlp xs)) (hx : a.eval x = .slice (some ⟨w.heap.size, 0, none⟩) 1 1)
    (hn : n ≤ 1099511627776) (hbase : base ≤ w.heap.size)
    (h : ∀ v' w', w'.ownsRow base 70 3 v' (n + 1) (cK kHlp (xs ++ [u])) → (w.alloc (.cells #[.string u.id, .int .i64 u.sk, .int .i64 u.n] 70)).grownBy w' v.ownBlock → Below base w w' → w.heap.size ≤ w'.heap.size → wpList Tryz.prog ops Q rest (a.put o.dst v') w') : wpList Tryz.prog ops Q (o :: rest) a (w.alloc (.cells #[.string u.id, .int .i64 u.sk, .int .i64 u.n] 70)) :=
  appK_genG kHlp hgd s x 59 ho base 70 (.agg #[.string ⟨#[]⟩, .int .i64 0, .int .i64 0]) 32 Tryz.underlying59 Tryz.infoHelper rfl (by decide) (by omega) v n xs u hs hown hx hn hbase h

theorem appTaskG {w : World} {ops : Array Oper} {rest : List Oper} {o : Oper} {a : Act} {Q : Exit → Act → World → Prop} (hgd : o.guard = none) (s x : Operand)
    (ho : o.op = .call { callee := .builtin .append, args := #[s, x], argTypes := #[60, 60] })
    (base : Nat) (v : Value) (n : Nat) (xs : List HlpZ) (u : HlpZ) (hs : a.eval s = v) (hown : w.ownsRow base 67 3 v n (cK kHlp xs)) (hx : a.eval x = .slice (some ⟨w.heap.size, 0, none⟩) 1 1)
    (hn : n ≤ 1099511627776) (hbase : base ≤ w.heap.size)
    (h : ∀ v' w', w'.ownsRow base 67 3 v' (n + 1) (cK kHlp (xs ++ [u])) → (w.alloc (.cells #[.string u.id, .int .i64 u.sk, .int .i64 u.n] 67)).grownBy w' v.ownBlock → Below base w w' → w.heap.size ≤ w'.heap.size → wpList Tryz.prog ops Q rest (a.put o.dst v') w') : wpList Tryz.prog ops Q (o :: rest) a (w.alloc (.cells #[.string u.id, .int .i64 u.sk, .int .i64 u.n] 67)) :=
  appK_genG kHlp hgd s x 60 ho base 67 (.agg #[.string ⟨#[]⟩, .int .i64 0, .int .i64 0]) 32 Tryz.underlying60 Tryz.infoTask rfl (by decide) (by omega) v n xs u hs hown hx hn hbase h

end Go.Proofs.YtcclfmapbgdpdaaGreatDoor
