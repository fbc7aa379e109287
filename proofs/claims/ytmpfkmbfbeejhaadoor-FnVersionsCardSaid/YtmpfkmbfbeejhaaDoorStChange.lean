/- The struct Change: what its slices read as, and the laws' helpers on it. Printed by structgen.py. -/
import Derived.Test.YtmpfkmbfbeejhaaDoorRows
import Derived.Test.YtmpfkmbfbeejhaaDoorMg
import Derived.Test.YtmpfkmbfbeejhaaDoorVerTo
import Derived.Deep.RegionHeld3
namespace Go.Proofs.YtmpfkmbfbeejhaaDoor
open Go.RowKit
set_option linter.unusedVariables false

structure ChangeZ where
  kind : Int
  name : ByteArray
  value : Int
theorem ChangeZ_iff {a b : ChangeZ} : a = b ↔ a.kind = b.kind ∧ a.name = b.name ∧ a.value = b.value := by cases a; cases b; simp
instance : DecidableEq ChangeZ := fun a b => decidable_of_iff _ ChangeZ_iff.symm
def kChange : Kind ChangeZ := ⟨fun x => [.int .i64 x.kind, .string x.name, .int .i64 x.value], 3, fun x => I64 x.kind ∧ x.name.size ≤ 9223372036854775807 ∧ I64 x.value, fun _ => rfl, by
  intro x u hu
  simp only [List.mem_cons, List.not_mem_nil, or_false] at hu
  rcases hu with rfl | rfl | rfl <;> rfl⟩
abbrev RdChange := RdK kChange
abbrev FrChange := FrK kChange

theorem RdK.atChange {w : World} {A : Option Addr} {n : Nat} {xs : List ChangeZ} {k : Nat} (h : RdK kChange w A n xs) (hk : k < n) :
    ∃ b off f0 f1 f2, A = some ⟨b, off, none⟩ ∧ b < w.heap.size ∧ Hid (xs[k]? = some ⟨f0, f1, f2⟩) ∧ w.cell? ⟨b, off + k * 3, none⟩ = some (.int .i64 f0) ∧ w.cell? ⟨b, off + k * 3 + 1, none⟩ = some (.string f1) ∧ w.cell? ⟨b, off + k * 3 + 2, none⟩ = some (.int .i64 f2) ∧ -9223372036854775808 ≤ f0 ∧ f0 ≤ 9223372036854775807 ∧ f1.size ≤ 9223372036854775807 ∧ -9223372036854775808 ≤ f2 ∧ f2 ≤ 9223372036854775807 := by
  obtain ⟨b, off, x, hA, hb, hx, hf, hc⟩ := h.atK hk
  exact ⟨b, off, _, _, _, hA, hb, hx, hc 0 _ rfl, hc 1 _ rfl, hc 2 _ rfl, hf.1.1, hf.1.2, hf.2.1, hf.2.2.1, hf.2.2.2⟩

theorem Tryd.infoChange : (Tryd.prog.info? 60).map (fun i => (i.zero, i.size, i.bytes)) = some (some (.agg #[.int .i64 0, .string ⟨#[]⟩, .int .i64 0]), 3, 32) := by kernel_rfl

theorem appChange {w : World} {ops : Array Oper} {rest : List Oper} {o : Oper} {a : Act} {Q : Exit → Act → World → Prop} (hgd : o.guard = none) (s x : Operand)
    (ho : o.op = .call { callee := .builtin .append, args := #[s, x], argTypes := #[29, 29] })
    (base : Nat) (v : Value) (n : Nat) (xs : List ChangeZ) (u : ChangeZ) (hs : a.eval s = v) (hown : w.ownsRow base 60 3 v n (cK kChange xs)) (hx : a.eval x = .slice (some ⟨w.heap.size, 0, none⟩) 1 1)
    (hn : n ≤ 1099511627776) (hbase : base ≤ w.heap.size)
    (h : ∀ v' w', w'.ownsRow base 60 3 v' (n + 1) (cK kChange (xs ++ [u])) → Below base w w' → w.heap.size ≤ w'.heap.size → wpList Tryd.prog ops Q rest (a.put o.dst v') w') : wpList Tryd.prog ops Q (o :: rest) a (w.alloc (.cells #[.int .i64 u.kind, .string u.name, .int .i64 u.value] 60)) :=
  appK_gen kChange hgd s x 29 ho base 60 (.agg #[.int .i64 0, .string ⟨#[]⟩, .int .i64 0]) 32 Tryd.underlying29 Tryd.infoChange rfl (by decide) (by omega) v n xs u hs hown hx hn hbase h

theorem appsChange {w : World} {ops : Array Oper} {rest : List Oper} {o : Oper} {a : Act} {Q : Exit → Act → World → Prop} (hgd : o.guard = none) (s x : Operand)
    (ho : o.op = .call { callee := .builtin .append, args := #[s, x], argTypes := #[29, 29] })
    (base : Nat) (v : Value) (n : Nat) (xs : List ChangeZ) (hs : a.eval s = v) (hown : w.ownsRow base 60 3 v n (cK kChange xs))
    (Ax : Option Addr) (m cx : Nat) (ys : List ChangeZ) (hx : a.eval x = .slice Ax m cx) (hy : Rd w Ax m 3 (cK kChange ys)) (hn : n + m ≤ 1099511627776) (hbase : base ≤ w.heap.size)
    (h : ∀ v' w', w'.ownsRow base 60 3 v' (n + m) (cK kChange (xs ++ ys)) → Below base w w' → w.heap.size ≤ w'.heap.size → wpList Tryd.prog ops Q rest (a.put o.dst v') w') : wpList Tryd.prog ops Q (o :: rest) a w :=
  appKs_gen kChange hgd s x 29 ho base 60 (.agg #[.int .i64 0, .string ⟨#[]⟩, .int .i64 0]) 32 Tryd.underlying29 Tryd.infoChange rfl (by decide) (by omega) v n xs hs hown Ax m cx ys hx hy hn hbase h

/-- Are two alike? -/
def eqChangeB (x y : ChangeZ) : Bool := decide (x = y)
theorem eqChangeB_iff {x y : ChangeZ} : eqChangeB x y = true ↔ x = y := by simp [eqChangeB]
theorem eqChangeB_not {x y : ChangeZ} : eqChangeB x y = false ↔ x ≠ y := by simp [eqChangeB]

theorem take_setChange {l : List Value} {k : Nat} {u0 u1 u2 : Value} (h : k * 3 + 2 < l.length) : ((((l).set (k * 3) u0).set (k * 3 + 1) u1).set (k * 3 + 2) u2).take ((k + 1) * 3) = l.take (k * 3) ++ [u0, u1, u2] := by
  have e : (k + 1) * 3 = k * 3 + 1 + 1 + 1 := by omega
  rw [e, take_set_snoc (by first | omega | (simp; omega)), take_set_snoc (by first | omega | (simp; omega)), take_set_snoc (by first | omega | (simp; omega))]
  simp




def markChangeL (k : Nat) : Nat → List ChangeZ
  | 0 => []
  | n + 1 => markChangeL k n ++ [⟨(k : Int) + 3 * (n : Int), mT (k + 3 * n + 1), (k : Int) + 3 * (n : Int) + 2⟩]
theorem markChangeL_len (k n : Nat) : (markChangeL k n).length = n := by
  induction n with
  | zero => rfl
  | succ n ih => simp [markChangeL, ih]
theorem markChangeL_at (k : Nat) {n i : Nat} (h : i < n) : (markChangeL k n)[i]? = some (⟨(k : Int) + 3 * (i : Int), mT (k + 3 * i + 1), (k : Int) + 3 * (i : Int) + 2⟩) := by
  induction n with
  | zero => omega
  | succ n ih =>
    rw [markChangeL, List.getElem?_append, markChangeL_len]
    split
    · exact ih (by omega)
    · have : i = n := by omega
      subst this
      simp
theorem markChangeL_fine {k n : Nat} (hk : k + 3 * n ≤ 4611686018427387904) : ∀ x ∈ markChangeL k n, kChange.fine x := by
  intro x hx
  obtain ⟨i, hi⟩ := List.mem_iff_getElem?.1 hx
  have hl := (List.getElem?_eq_some_iff.1 hi).1
  rw [markChangeL_len] at hl
  rw [markChangeL_at k hl] at hi
  obtain rfl := Option.some.inj hi
  refine ⟨⟨by simp only; omega, by simp only; omega⟩, Nat.le_trans (mT_size _) (by omega), ⟨by simp only; omega, by simp only; omega⟩⟩



end Go.Proofs.YtmpfkmbfbeejhaaDoor
