/- Slices of strings: appending, and the laws' helpers on them. -/
import Derived.Test.YtcclfmapbgdpdaaGreatDoorRows
import Derived.Test.YtcclfmapbgdpdaaGreatDoorKind
import Derived.Test.YtcclfmapbgdpdaaGreatDoorBase
import Derived.Test.YtcclfmapbgdpdaaGreatDoorMarkT
import Derived.Deep.RegionHeld3
namespace Go.Proofs.YtcclfmapbgdpdaaGreatDoor
open Go.RowKit
set_option linter.unusedVariables false

theorem Tryz.infoB : (Tryz.prog.info? 9).map (fun i => (i.zero, i.size, i.bytes)) = some (some (.string ⟨#[]⟩), 1, 16) := by kernel_rfl
theorem appB {w : World} {ops : Array Oper} {rest : List Oper} {o : Oper} {a : Act} {Q : Exit → Act → World → Prop} (hgd : o.guard = none) (s x : Operand)
    (ho : o.op = .call { callee := .builtin .append, args := #[s, x], argTypes := #[54, 54] })
    (base : Nat) (v : Value) (n : Nat) (xs : List ByteArray) (u : ByteArray) (hs : a.eval s = v) (hown : w.ownsRow base 9 1 v n (cK kB xs)) (hx : a.eval x = .slice (some ⟨w.heap.size, 0, none⟩) 1 1)
    (hn : n ≤ 1099511627776) (hbase : base ≤ w.heap.size)
    (h : ∀ v' w', w'.ownsRow base 9 1 v' (n + 1) (cK kB (xs ++ [u])) → Below base w w' → w.heap.size ≤ w'.heap.size → wpList Tryz.prog ops Q rest (a.put o.dst v') w') : wpList Tryz.prog ops Q (o :: rest) a (w.alloc (.cells #[.string u] 9)) :=
  appK_gen kB hgd s x 54 ho base 9 (.string ⟨#[]⟩) 16 Tryz.underlying54 Tryz.infoB rfl (by decide) (by omega) v n xs u hs hown hx hn hbase h
theorem appsB {w : World} {ops : Array Oper} {rest : List Oper} {o : Oper} {a : Act} {Q : Exit → Act → World → Prop} (hgd : o.guard = none) (s x : Operand)
    (ho : o.op = .call { callee := .builtin .append, args := #[s, x], argTypes := #[54, 54] })
    (base : Nat) (v : Value) (n : Nat) (xs : List ByteArray) (hs : a.eval s = v) (hown : w.ownsRow base 9 1 v n (cK kB xs))
    (Ax : Option Addr) (m cx : Nat) (ys : List ByteArray) (hx : a.eval x = .slice Ax m cx) (hy : Rd w Ax m 1 (cK kB ys)) (hn : n + m ≤ 1099511627776) (hbase : base ≤ w.heap.size)
    (h : ∀ v' w', w'.ownsRow base 9 1 v' (n + m) (cK kB (xs ++ ys)) → Below base w w' → w.heap.size ≤ w'.heap.size → wpList Tryz.prog ops Q rest (a.put o.dst v') w') : wpList Tryz.prog ops Q (o :: rest) a w :=
  appKs_gen kB hgd s x 54 ho base 9 (.string ⟨#[]⟩) 16 Tryz.underlying54 Tryz.infoB rfl (by decide) (by omega) v n xs hs hown Ax m cx ys hx hy hn hbase h




def markBL (k : Nat) : Nat → List ByteArray
  | 0 => []
  | n + 1 => markBL k n ++ [mT (k + n)]
theorem markBL_len (k n : Nat) : (markBL k n).length = n := by
  induction n with
  | zero => rfl
  | succ n ih => simp [markBL, ih]
theorem markBL_at (k : Nat) {n i : Nat} (h : i < n) : (markBL k n)[i]? = some (mT (k + i)) := by
  induction n with
  | zero => omega
  | succ n ih =>
    rw [markBL, List.getElem?_append, markBL_len]
    split
    · exact ih (by omega)
    · have : i = n := by omega
      subst this
      simp
theorem markBL_fine {k n : Nat} (hk : k + n ≤ 4611686018427387904) : ∀ x ∈ markBL k n, kB.fine x := by
  intro x hx
  obtain ⟨i, hi⟩ := List.mem_iff_getElem?.1 hx
  have hl := (List.getElem?_eq_some_iff.1 hi).1
  rw [markBL_len] at hl
  rw [markBL_at k hl] at hi
  obtain rfl := Option.some.inj hi
  exact Nat.le_trans (mT_size _) (by omega)



end Go.Proofs.YtcclfmapbgdpdaaGreatDoor
