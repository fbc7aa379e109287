/- The struct Setting: what its slices read as, and the laws' helpers on it. Printed by structgen.py. -/
import Derived.Test.YtmpfkmbfbeejhaaRows
import Derived.Test.YtmpfkmbfbeejhaaKind
import Derived.Test.YtmpfkmbfbeejhaaMarkT
import Derived.Test.YtmpfkmbfbeejhaaMg
import Derived.Deep.RegionHeld3
namespace Go.Proofs.Ytmpfkmbfbeejhaa
open Go.RowKit
set_option linter.unusedVariables false

def kSetting : Kind SetZ := ⟨fun x => [.string x.name, .int .i64 x.value], 2, fun x => x.name.size ≤ 9223372036854775807 ∧ I64 x.value, fun _ => rfl, by
  intro x u hu
  simp only [List.mem_cons, List.not_mem_nil, or_false] at hu
  rcases hu with rfl | rfl <;> rfl⟩
abbrev RdSetting := RdK kSetting
abbrev FrSetting := FrK kSetting

theorem RdK.atSetting {w : World} {A : Option Addr} {n : Nat} {xs : List SetZ} {k : Nat} (h : RdK kSetting w A n xs) (hk : k < n) :
    ∃ b off f0 f1, A = some ⟨b, off, none⟩ ∧ b < w.heap.size ∧ Hid (xs[k]? = some ⟨f0, f1⟩) ∧ w.cell? ⟨b, off + k * 2, none⟩ = some (.string f0) ∧ w.cell? ⟨b, off + k * 2 + 1, none⟩ = some (.int .i64 f1) ∧ f0.size ≤ 9223372036854775807 ∧ -9223372036854775808 ≤ f1 ∧ f1 ≤ 9223372036854775807 := by
  obtain ⟨b, off, x, hA, hb, hx, hf, hc⟩ := h.atK hk
  exact ⟨b, off, _, _, hA, hb, hx, hc 0 _ rfl, hc 1 _ rfl, hf.1, hf.2.1, hf.2.2⟩

theorem appSetting {w : World} {ops : Array Oper} {rest : List Oper} {o : Oper} {a : Act} {Q : Exit → Act → World → Prop} (hgd : o.guard = none) (s x : Operand)
    (ho : o.op = .call { callee := .builtin .append, args := #[s, x], argTypes := #[43, 43] })
    (base : Nat) (v : Value) (n : Nat) (xs : List SetZ) (u : SetZ) (hs : a.eval s = v) (hown : w.ownsRow base 77 2 v n (cK kSetting xs)) (hx : a.eval x = .slice (some ⟨w.heap.size, 0, none⟩) 1 1)
    (hn : n ≤ 1099511627776) (hbase : base ≤ w.heap.size)
    (h : ∀ v' w', w'.ownsRow base 77 2 v' (n + 1) (cK kSetting (xs ++ [u])) → Below base w w' → w.heap.size ≤ w'.heap.size → wpList Try.prog ops Q rest (a.put o.dst v') w') : wpList Try.prog ops Q (o :: rest) a (w.alloc (.cells #[.string u.name, .int .i64 u.value] 77)) :=
  appK_gen kSetting hgd s x 43 ho base 77 (.agg #[.string ⟨#[]⟩, .int .i64 0]) 24 Try.underlying43 Try.infoSetting rfl (by decide) (by omega) v n xs u hs hown hx hn hbase h

theorem appsSetting {w : World} {ops : Array Oper} {rest : List Oper} {o : Oper} {a : Act} {Q : Exit → Act → World → Prop} (hgd : o.guard = none) (s x : Operand)
    (ho : o.op = .call { callee := .builtin .append, args := #[s, x], argTypes := #[43, 43] })
    (base : Nat) (v : Value) (n : Nat) (xs : List SetZ) (hs : a.eval s = v) (hown : w.ownsRow base 77 2 v n (cK kSetting xs))
    (Ax : Option Addr) (m cx : Nat) (ys : List SetZ) (hx : a.eval x = .slice Ax m cx) (hy : Rd w Ax m 2 (cK kSetting ys)) (hn : n + m ≤ 1099511627776) (hbase : base ≤ w.heap.size)
    (h : ∀ v' w', w'.ownsRow base 77 2 v' (n + m) (cK kSetting (xs ++ ys)) → Below base w w' → w.heap.size ≤ w'.heap.size → wpList Try.prog ops Q rest (a.put o.dst v') w') : wpList Try.prog ops Q (o :: rest) a w :=
  appKs_gen kSetting hgd s x 43 ho base 77 (.agg #[.string ⟨#[]⟩, .int .i64 0]) 24 Try.underlying43 Try.infoSetting rfl (by decide) (by omega) v n xs hs hown Ax m cx ys hx hy hn hbase h

theorem take_setSetting {l : List Value} {k : Nat} {u0 u1 : Value} (h : k * 2 + 1 < l.length) : (((l).set (k * 2) u0).set (k * 2 + 1) u1).take ((k + 1) * 2) = l.take (k * 2) ++ [u0, u1] := by
  have e : (k + 1) * 2 = k * 2 + 1 + 1 := by omega
  rw [e, take_set_snoc (by first | omega | (simp; omega)), take_set_snoc (by first | omega | (simp; omega))]
  simp

def markSettingL (k : Nat) : Nat → List SetZ
  | 0 => []
  | n + 1 => markSettingL k n ++ [⟨mT (k + 2 * n), (k : Int) + 2 * (n : Int) + 1⟩]
theorem markSettingL_len (k n : Nat) : (markSettingL k n).length = n := by
  induction n with
  | zero => rfl
  | succ n ih => simp [markSettingL, ih]
theorem markSettingL_at (k : Nat) {n i : Nat} (h : i < n) : (markSettingL k n)[i]? = some (⟨mT (k + 2 * i), (k : Int) + 2 * (i : Int) + 1⟩) := by
  induction n with
  | zero => omega
  | succ n ih =>
    rw [markSettingL, List.getElem?_append, markSettingL_len]
    split
    · exact ih (by omega)
    · have : i = n := by omega
      subst this
      simp
theorem markSettingL_fine {k n : Nat} (hk : k + 2 * n ≤ 4611686018427387904) : ∀ x ∈ markSettingL k n, kSetting.fine x := by
  intro x hx
  obtain ⟨i, hi⟩ := List.mem_iff_getElem?.1 hx
  have hl := (List.getElem?_eq_some_iff.1 hi).1
  rw [markSettingL_len] at hl
  rw [markSettingL_at k hl] at hi
  obtain rfl := Option.some.inj hi
  refine ⟨Nat.le_trans (mT_size _) (by omega), ⟨by simp only; omega, by simp only; omega⟩⟩



end Go.Proofs.Ytmpfkmbfbeejhaa
