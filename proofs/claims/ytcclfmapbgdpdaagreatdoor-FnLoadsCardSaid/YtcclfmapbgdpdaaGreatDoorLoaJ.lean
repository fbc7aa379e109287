/- Two rows of numbers of one's own, side by side; appending to the first leaves the second. -/
import Derived.Test.YtcclfmapbgdpdaaGreatDoorMg
import Derived.Maps.AppendAt
namespace Go.Proofs.YtcclfmapbgdpdaaGreatDoor
open Go.RowKit
set_option linter.unusedVariables false

structure Two (w : World) (base : Nat) (v1 : Value) (n1 : Nat) (xs : List Int) (v2 : Value) (n2 : Nat) (ys : List Int) : Prop where
  one : w.ownsRow base 2 1 v1 n1 (cI xs)
  two : w.ownsRow base 2 1 v2 n2 (cI ys)
  apart : ∀ g, v1.ownBlock = some g → v2.ownBlock ≠ some g
section
variable {w w' : World} {base n1 n2 : Nat} {v1 v2 : Value} {xs ys : List Int}
theorem Two.swap (h : Two w base v1 n1 xs v2 n2 ys) : Two w base v2 n2 ys v1 n1 xs := ⟨h.two, h.one, fun g h1 h2 => h.apart g h2 h1⟩
end
theorem appTwo {w : World} {ops : Array Oper} {rest : List Oper} {o : Oper} {a : Act} {Q : Exit → Act → World → Prop} (hgd : o.guard = none) (s x : Operand)
    (ho : o.op = .call { callee := .builtin .append, args := #[s, x], argTypes := #[24, 24] })
    (base : Nat) (v : Value) (n : Nat) (xs : List Int) (v2 : Value) (n2 : Nat) (ys : List Int) (u : Int) (hs : a.eval s = v) (hown : Two w base v n xs v2 n2 ys) (hx : a.eval x = .slice (some ⟨w.heap.size, 0, none⟩) 1 1)
    (hn : n ≤ 1099511627776) (hbase : base ≤ w.heap.size)
    (h : ∀ v' w', Two w' base v' (n + 1) (xs ++ [u]) v2 n2 ys → Below base w w' → w.heap.size ≤ w'.heap.size → wpList Tryz.prog ops Q rest (a.put o.dst v') w') : wpList Tryz.prog ops Q (o :: rest) a (w.alloc (.cells #[.int .i64 u] 2)) := by
  obtain ⟨i, hi, hz0, hz1, hz2⟩ := info_parts (z := .int .i64 0) (bytes := 8) (size := 1) Tryz.info2
  refine wpList_append_own_at _ hgd s x 24 ho base 2 i (.int .i64 0) 1 8 Tryz.underlying24 hi hz0 hz1 hz2 rfl (by decide) v n (cI xs) hs (hown.one.alloc _) ⟨w.heap.size, 0, none⟩ 1 1 [.int .i64 u] hx rfl (cell_one_new _ _ _) ?_ ?_ ?_ ?_ ?_
  · intro y hy; simp at hy; subst hy; rfl
  · unfold maxLen; omega
  · omega
  · simp; omega
  · intro v' w' h1 h2 _ h4
    refine h v' w' ⟨by simpa [cI] using h1, (hown.two.alloc _).kept h2 ?_, fun g hg h2' => ?_⟩ (((Below.refl base w).alloc hbase _).grown h2 (by simp; omega) (fun g hg => (hown.one.lt g hg).1)) ?_
    · cases h5 : v2.ownBlock with
      | none => exact .inl rfl
      | some g => exact .inr fun e => hown.apart g e.symm h5
    · rcases h4 with h4 | h4
      · exact hown.apart g (h4 ▸ hg) h2'
      · rw [h4] at hg
        have := (hown.two.lt g h2').2
        simp at hg
        omega
    · have := h2.size
      simp at this
      omega

end Go.Proofs.YtcclfmapbgdpdaaGreatDoor
