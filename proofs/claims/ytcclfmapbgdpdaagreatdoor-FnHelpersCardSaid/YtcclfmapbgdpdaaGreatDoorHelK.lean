/- Helpers and tasks in memory. -/
import Derived.Test.YtcclfmapbgdpdaaGreatDoorHelZ
import Derived.Test.YtcclfmapbgdpdaaGreatDoorMg
import Derived.Test.YtcclfmapbgdpdaaGreatDoorRows
namespace Go.Proofs.YtcclfmapbgdpdaaGreatDoor
open Go.RowKit
set_option linter.unusedVariables false

def kHlp : Kind HlpZ := ⟨fun x => [.string x.id, .int .i64 x.sk, .int .i64 x.n], 3, fun x => x.id.size ≤ 1048576 ∧ I64 x.sk ∧ I64 x.n, fun _ => rfl, by
  intro x u hu
  simp only [List.mem_cons, List.not_mem_nil, or_false] at hu
  rcases hu with rfl | rfl | rfl <;> rfl⟩
theorem RdK.atHlp {w : World} {A : Option Addr} {n : Nat} {xs : List HlpZ} {k : Nat} (h : RdK kHlp w A n xs) (hk : k < n) :
    ∃ b off f0 f1 f2, A = some ⟨b, off, none⟩ ∧ b < w.heap.size ∧ Hid (xs[k]? = some ⟨f0, f1, f2⟩) ∧ w.cell? ⟨b, off + k * 3, none⟩ = some (.string f0) ∧ w.cell? ⟨b, off + k * 3 + 1, none⟩ = some (.int .i64 f1) ∧ w.cell? ⟨b, off + k * 3 + 2, none⟩ = some (.int .i64 f2) ∧ f0.size ≤ 1048576 ∧ -9223372036854775808 ≤ f1 ∧ f1 ≤ 9223372036854775807 ∧ -9223372036854775808 ≤ f2 ∧ f2 ≤ 9223372036854775807 := by
  obtain ⟨b, off, x, hA, hb, hx, hf, hc⟩ := h.atK hk
  exact ⟨b, off, _, _, _, hA, hb, hx, hc 0 _ rfl, hc 1 _ rfl, hc 2 _ rfl, hf.1, hf.2.1.1, hf.2.1.2, hf.2.2.1, hf.2.2.2⟩
/-- A part of a list. -/
theorem RdK.rest {α : Type} {K : Kind α} {w : World} {b off n : Nat} {xs : List α} {x : α} (h : RdK K w (some ⟨b, off, none⟩) (n + 1) (x :: xs)) : RdK K w (some ⟨b, off + K.size, none⟩) n xs := by
  have hl : xs.length = n := by have := h.2.1; rw [List.length_cons] at this; omega
  refine ⟨⟨by rw [cK_len, hl], fun hn => ?_⟩, hl, fun y hy => h.2.2 y (List.mem_cons_of_mem _ hy)⟩
  obtain ⟨b', off', e, hb, hc⟩ := h.1.2 (Nat.succ_pos n)
  obtain ⟨rfl, rfl⟩ : b = b' ∧ off = off' := by injection e with e; injection e; exact ⟨‹_›, ‹_›⟩
  refine ⟨b, off + K.size, rfl, hb, fun j u hu => ?_⟩
  have := hc (K.size + j) u (by
    show (K.c x ++ cK K xs)[K.size + j]? = some u
    rw [List.getElem?_append_right (by rw [K.len]; omega), K.len, Nat.add_sub_cancel_left]
    exact hu)
  rwa [Nat.add_assoc]

theorem Tryz.infoHelper : (Tryz.prog.info? 70).map (fun i => (i.zero, i.size, i.bytes)) = some (some (.agg #[.string ⟨#[]⟩, .int .i64 0, .int .i64 0]), 3, 32) := by kernel_rfl
theorem appHelper {w : World} {ops : Array Oper} {rest : List Oper} {o : Oper} {a : Act} {Q : Exit → Act → World → Prop} (hgd : o.guard = none) (s x : Operand)
    (ho : o.op = .call { callee := .builtin .append, args := #[s, x], argTypes := #[59, 59] })
    (base : Nat) (v : Value) (n : Nat) (xs : List HlpZ) (u : HlpZ) (hs : a.eval s = v) (hown : w.ownsRow base 70 3 v n (cK kHlp xs)) (hx : a.eval x = .slice (some ⟨w.heap.size, 0, none⟩) 1 1)
    (hn : n ≤ 1099511627776) (hbase : base ≤ w.heap.size)
    (h : ∀ v' w', w'.ownsRow base 70 3 v' (n + 1) (cK kHlp (xs ++ [u])) → Below base w w' → w.heap.size ≤ w'.heap.size → wpList Tryz.prog ops Q rest (a.put o.dst v') w') : wpList Tryz.prog ops Q (o :: rest) a (w.alloc (.cells #[.string u.id, .int .i64 u.sk, .int .i64 u.n] 70)) :=
  appK_gen kHlp hgd s x 59 ho base 70 (.agg #[.string ⟨#[]⟩, .int .i64 0, .int .i64 0]) 32 Tryz.underlying59 Tryz.infoHelper rfl (by decide) (by omega) v n xs u hs hown hx hn hbase h

theorem Tryz.infoTask : (Tryz.prog.info? 67).map (fun i => (i.zero, i.size, i.bytes)) = some (some (.agg #[.string ⟨#[]⟩, .int .i64 0, .int .i64 0]), 3, 32) := by kernel_rfl
theorem appTask {w : World} {ops : Array Oper} {rest : List Oper} {o : Oper} {a : Act} {Q : Exit → Act → World → Prop} (hgd : o.guard = none) (s x : Operand)
    (ho : o.op = .call { callee := .builtin .append, args := #[s, x], argTypes := #[60, 60] })
    (base : Nat) (v : Value) (n : Nat) (xs : List HlpZ) (u : HlpZ) (hs : a.eval s = v) (hown : w.ownsRow base 67 3 v n (cK kHlp xs)) (hx : a.eval x = .slice (some ⟨w.heap.size, 0, none⟩) 1 1)
    (hn : n ≤ 1099511627776) (hbase : base ≤ w.heap.size)
    (h : ∀ v' w', w'.ownsRow base 67 3 v' (n + 1) (cK kHlp (xs ++ [u])) → Below base w w' → w.heap.size ≤ w'.heap.size → wpList Tryz.prog ops Q rest (a.put o.dst v') w') : wpList Tryz.prog ops Q (o :: rest) a (w.alloc (.cells #[.string u.id, .int .i64 u.sk, .int .i64 u.n] 67)) :=
  appK_gen kHlp hgd s x 60 ho base 67 (.agg #[.string ⟨#[]⟩, .int .i64 0, .int .i64 0]) 32 Tryz.underlying60 Tryz.infoTask rfl (by decide) (by omega) v n xs u hs hown hx hn hbase h

end Go.Proofs.YtcclfmapbgdpdaaGreatDoor
