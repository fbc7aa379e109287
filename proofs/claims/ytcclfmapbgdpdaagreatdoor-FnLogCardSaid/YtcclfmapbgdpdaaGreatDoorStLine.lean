/- The struct Line: what its slices read as, and the laws' helpers on it. Printed by structgen.py. -/
import Derived.Test.YtcclfmapbgdpdaaGreatDoorRows
import Derived.Test.YtcclfmapbgdpdaaGreatDoorMg
import Derived.Deep.RegionHeld3
namespace Go.Proofs.YtcclfmapbgdpdaaGreatDoor
open Go.RowKit
set_option linter.unusedVariables false

structure LineZ where
  day : Int
  minute : Int
  text : ByteArray
  crc : Int
theorem LineZ_iff {a b : LineZ} : a = b ↔ a.day = b.day ∧ a.minute = b.minute ∧ a.text = b.text ∧ a.crc = b.crc := by cases a; cases b; simp
instance : DecidableEq LineZ := fun a b => decidable_of_iff _ LineZ_iff.symm
def kLine : Kind LineZ := ⟨fun x => [.int .i64 x.day, .int .i64 x.minute, .string x.text, .int .i64 x.crc], 4, fun x => I64 x.day ∧ I64 x.minute ∧ x.text.size ≤ 9223372036854775807 ∧ I64 x.crc, fun _ => rfl, by
  intro x u hu
  simp only [List.mem_cons, List.not_mem_nil, or_false] at hu
  rcases hu with rfl | rfl | rfl | rfl <;> rfl⟩
abbrev RdLine := RdK kLine
abbrev FrLine := FrK kLine

theorem RdK.atLine {w : World} {A : Option Addr} {n : Nat} {xs : List LineZ} {k : Nat} (h : RdK kLine w A n xs) (hk : k < n) :
    ∃ b off f0 f1 f2 f3, A = some ⟨b, off, none⟩ ∧ b < w.heap.size ∧ Hid (xs[k]? = some ⟨f0, f1, f2, f3⟩) ∧ w.cell? ⟨b, off + k * 4, none⟩ = some (.int .i64 f0) ∧ w.cell? ⟨b, off + k * 4 + 1, none⟩ = some (.int .i64 f1) ∧ w.cell? ⟨b, off + k * 4 + 2, none⟩ = some (.string f2) ∧ w.cell? ⟨b, off + k * 4 + 3, none⟩ = some (.int .i64 f3) ∧ -9223372036854775808 ≤ f0 ∧ f0 ≤ 9223372036854775807 ∧ -9223372036854775808 ≤ f1 ∧ f1 ≤ 9223372036854775807 ∧ f2.size ≤ 9223372036854775807 ∧ -9223372036854775808 ≤ f3 ∧ f3 ≤ 9223372036854775807 := by
  obtain ⟨b, off, x, hA, hb, hx, hf, hc⟩ := h.atK hk
  exact ⟨b, off, _, _, _, _, hA, hb, hx, hc 0 _ rfl, hc 1 _ rfl, hc 2 _ rfl, hc 3 _ rfl, hf.1.1, hf.1.2, hf.2.1.1, hf.2.1.2, hf.2.2.1, hf.2.2.2.1, hf.2.2.2.2⟩

theorem Tryz.infoLine : (Tryz.prog.info? 48).map (fun i => (i.zero, i.size, i.bytes)) = some (some (.agg #[.int .i64 0, .int .i64 0, .string ⟨#[]⟩, .int .i64 0]), 4, 40) := by kernel_rfl

theorem appLine {w : World} {ops : Array Oper} {rest : List Oper} {o : Oper} {a : Act} {Q : Exit → Act → World → Prop} (hgd : o.guard = none) (s x : Operand)
    (ho : o.op = .call { callee := .builtin .append, args := #[s, x], argTypes := #[39, 39] })
    (base : Nat) (v : Value) (n : Nat) (xs : List LineZ) (u : LineZ) (hs : a.eval s = v) (hown : w.ownsRow base 48 4 v n (cK kLine xs)) (hx : a.eval x = .slice (some ⟨w.heap.size, 0, none⟩) 1 1)
    (hn : n ≤ 1099511627776) (hbase : base ≤ w.heap.size)
    (h : ∀ v' w', w'.ownsRow base 48 4 v' (n + 1) (cK kLine (xs ++ [u])) → Below base w w' → w.heap.size ≤ w'.heap.size → wpList Tryz.prog ops Q rest (a.put o.dst v') w') : wpList Tryz.prog ops Q (o :: rest) a (w.alloc (.cells #[.int .i64 u.day, .int .i64 u.minute, .string u.text, .int .i64 u.crc] 48)) :=
  appK_gen kLine hgd s x 39 ho base 48 (.agg #[.int .i64 0, .int .i64 0, .string ⟨#[]⟩, .int .i64 0]) 40 Tryz.underlying39 Tryz.infoLine rfl (by decide) (by omega) v n xs u hs hown hx hn hbase h

theorem appsLine {w : World} {ops : Array Oper} {rest : List Oper} {o : Oper} {a : Act} {Q : Exit → Act → World → Prop} (hgd : o.guard = none) (s x : Operand)
    (ho : o.op = .call { callee := .builtin .append, args := #[s, x], argTypes := #[39, 39] })
    (base : Nat) (v : Value) (n : Nat) (xs : List LineZ) (hs : a.eval s = v) (hown : w.ownsRow base 48 4 v n (cK kLine xs))
    (Ax : Option Addr) (m cx : Nat) (ys : List LineZ) (hx : a.eval x = .slice Ax m cx) (hy : Rd w Ax m 4 (cK kLine ys)) (hn : n + m ≤ 1099511627776) (hbase : base ≤ w.heap.size)
    (h : ∀ v' w', w'.ownsRow base 48 4 v' (n + m) (cK kLine (xs ++ ys)) → Below base w w' → w.heap.size ≤ w'.heap.size → wpList Tryz.prog ops Q rest (a.put o.dst v') w') : wpList Tryz.prog ops Q (o :: rest) a w :=
  appKs_gen kLine hgd s x 39 ho base 48 (.agg #[.int .i64 0, .int .i64 0, .string ⟨#[]⟩, .int .i64 0]) 40 Tryz.underlying39 Tryz.infoLine rfl (by decide) (by omega) v n xs hs hown Ax m cx ys hx hy hn hbase h

/-- Are two alike? -/
def eqLineB (x y : LineZ) : Bool := decide (x = y)
theorem eqLineB_iff {x y : LineZ} : eqLineB x y = true ↔ x = y := by simp [eqLineB]
theorem eqLineB_not {x y : LineZ} : eqLineB x y = false ↔ x ≠ y := by simp [eqLineB]




theorem take_setLine {l : List Value} {k : Nat} {u0 u1 u2 u3 : Value} (h : k * 4 + 3 < l.length) : (((((l).set (k * 4) u0).set (k * 4 + 1) u1).set (k * 4 + 2) u2).set (k * 4 + 3) u3).take ((k + 1) * 4) = l.take (k * 4) ++ [u0, u1, u2, u3] := by
  have e : (k + 1) * 4 = k * 4 + 1 + 1 + 1 + 1 := by omega
  rw [e, take_set_snoc (by first | omega | (simp; omega)), take_set_snoc (by first | omega | (simp; omega)), take_set_snoc (by first | omega | (simp; omega)), take_set_snoc (by first | omega | (simp; omega))]
  simp




def markLineL (k : Nat) : Nat → List LineZ
  | 0 => []
  | n + 1 => markLineL k n ++ [⟨(k : Int) + 4 * (n : Int), (k : Int) + 4 * (n : Int) + 1, mT (k + 4 * n + 2), (k : Int) + 4 * (n : Int) + 3⟩]
theorem markLineL_len (k n : Nat) : (markLineL k n).length = n := by
  induction n with
  | zero => rfl
  | succ n ih => simp [markLineL, ih]
theorem markLineL_at (k : Nat) {n i : Nat} (h : i < n) : (markLineL k n)[i]? = some (⟨(k : Int) + 4 * (i : Int), (k : Int) + 4 * (i : Int) + 1, mT (k + 4 * i + 2), (k : Int) + 4 * (i : Int) + 3⟩) := by
  induction n with
  | zero => omega
  | succ n ih =>
    rw [markLineL, List.getElem?_append, markLineL_len]
    split
    · exact ih (by omega)
    · have : i = n := by omega
      subst this
      simp
theorem markLineL_fine {k n : Nat} (hk : k + 4 * n ≤ 4611686018427387904) : ∀ x ∈ markLineL k n, kLine.fine x := by
  intro x hx
  obtain ⟨i, hi⟩ := List.mem_iff_getElem?.1 hx
  have hl := (List.getElem?_eq_some_iff.1 hi).1
  rw [markLineL_len] at hl
  rw [markLineL_at k hl] at hi
  obtain rfl := Option.some.inj hi
  refine ⟨⟨by simp only; omega, by simp only; omega⟩, ⟨by simp only; omega, by simp only; omega⟩, Nat.le_trans (mT_size _) (by omega), ⟨by simp only; omega, by simp only; omega⟩⟩



end Go.Proofs.YtcclfmapbgdpdaaGreatDoor
