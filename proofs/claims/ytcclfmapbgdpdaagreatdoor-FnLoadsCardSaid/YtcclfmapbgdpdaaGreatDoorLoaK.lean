/- Groups and rooms in memory. -/
import Derived.Test.YtcclfmapbgdpdaaGreatDoorMg
import Derived.Test.YtcclfmapbgdpdaaGreatDoorOwnG
import Derived.Test.YtcclfmapbgdpdaaGreatDoorListZ
import Derived.Test.YtcclfmapbgdpdaaGreatDoorQuietB
namespace Go.Proofs.YtcclfmapbgdpdaaGreatDoor
open Go.RowKit
set_option linter.unusedVariables false

def kGrp : Kind GrpZ := ⟨fun x => [.string x.id, .int .i64 x.p, .int .i64 x.b, .int .i64 x.k], 4, fun x => x.id.size ≤ 1048576 ∧ I64 x.p ∧ I64 x.b ∧ I64 x.k, fun _ => rfl, by
  intro x u hu
  simp only [List.mem_cons, List.not_mem_nil, or_false] at hu
  rcases hu with rfl | rfl | rfl | rfl <;> rfl⟩
theorem RdK.atGrp {w : World} {A : Option Addr} {n : Nat} {xs : List GrpZ} {k : Nat} (h : RdK kGrp w A n xs) (hk : k < n) :
    ∃ b off f0 f1 f2 f3, A = some ⟨b, off, none⟩ ∧ b < w.heap.size ∧ Hid (xs[k]? = some ⟨f0, f1, f2, f3⟩) ∧ w.cell? ⟨b, off + k * 4, none⟩ = some (.string f0) ∧ w.cell? ⟨b, off + k * 4 + 1, none⟩ = some (.int .i64 f1) ∧ w.cell? ⟨b, off + k * 4 + 2, none⟩ = some (.int .i64 f2) ∧ w.cell? ⟨b, off + k * 4 + 3, none⟩ = some (.int .i64 f3) ∧ f0.size ≤ 1048576 ∧ -9223372036854775808 ≤ f1 ∧ f1 ≤ 9223372036854775807 ∧ -9223372036854775808 ≤ f2 ∧ f2 ≤ 9223372036854775807 ∧ -9223372036854775808 ≤ f3 ∧ f3 ≤ 9223372036854775807 := by
  obtain ⟨b, off, x, hA, hb, hx, hf, hc⟩ := h.atK hk
  exact ⟨b, off, _, _, _, _, hA, hb, hx, hc 0 _ rfl, hc 1 _ rfl, hc 2 _ rfl, hc 3 _ rfl, hf.1, hf.2.1.1, hf.2.1.2, hf.2.2.1.1, hf.2.2.1.2, hf.2.2.2.1, hf.2.2.2.2⟩
theorem Tryz.infoGroup : (Tryz.prog.info? 98).map (fun i => (i.zero, i.size, i.bytes)) = some (some (.agg #[.string ⟨#[]⟩, .int .i64 0, .int .i64 0, .int .i64 0]), 4, 40) := by kernel_rfl
theorem appGroup {w : World} {ops : Array Oper} {rest : List Oper} {o : Oper} {a : Act} {Q : Exit → Act → World → Prop} (hgd : o.guard = none) (s x : Operand)
    (ho : o.op = .call { callee := .builtin .append, args := #[s, x], argTypes := #[84, 84] })
    (base : Nat) (v : Value) (n : Nat) (xs : List GrpZ) (u : GrpZ) (hs : a.eval s = v) (hown : w.ownsRow base 98 4 v n (cK kGrp xs)) (hx : a.eval x = .slice (some ⟨w.heap.size, 0, none⟩) 1 1)
    (hn : n ≤ 1099511627776) (hbase : base ≤ w.heap.size)
    (h : ∀ v' w', w'.ownsRow base 98 4 v' (n + 1) (cK kGrp (xs ++ [u])) → Below base w w' → w.heap.size ≤ w'.heap.size → wpList Tryz.prog ops Q rest (a.put o.dst v') w') : wpList Tryz.prog ops Q (o :: rest) a (w.alloc (.cells #[.string u.id, .int .i64 u.p, .int .i64 u.b, .int .i64 u.k] 98)) :=
  appK_gen kGrp hgd s x 84 ho base 98 (.agg #[.string ⟨#[]⟩, .int .i64 0, .int .i64 0, .int .i64 0]) 40 Tryz.underlying84 Tryz.infoGroup rfl (by decide) (by omega) v n xs u hs hown hx hn hbase h

/-- Rooms in a row. -/
def kRm : Kind RmZ := ⟨fun x => [.int .i64 x.p, .int .i64 x.b, .int .i64 x.k], 3, fun x => I64 x.p ∧ I64 x.b ∧ I64 x.k, fun _ => rfl, by
  intro x u hu
  simp only [List.mem_cons, List.not_mem_nil, or_false] at hu
  rcases hu with rfl | rfl | rfl <;> rfl⟩

/-- A group is valid. -/
def grpB (x : GrpZ) : Bool := nameB x.id && (withinB x.p 1 200 && (withinB x.b 0 40 && withinB x.k 0 100000))
def grpsB (xs : List GrpZ) : Bool := listB grpB GrpZ.id 12 xs
def roomB (r : RmZ) : Bool := withinB r.p 0 200 && (withinB r.b 0 40 && withinB r.k 0 100000)

end Go.Proofs.YtcclfmapbgdpdaaGreatDoor
