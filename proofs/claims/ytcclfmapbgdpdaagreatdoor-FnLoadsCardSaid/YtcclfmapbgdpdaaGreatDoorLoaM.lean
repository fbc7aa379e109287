/- The filler in memory: what each of its steps leaves; an append of a number that lies anywhere. -/
import Derived.Test.YtcclfmapbgdpdaaGreatDoorLoaQ
namespace Go.Proofs.YtcclfmapbgdpdaaGreatDoor
open Go.RowKit
set_option linter.unusedVariables false

def FlC (left : Nat) (A : Option Addr) (n c : Nat) (r : RmZ) (vb : Value) (most : Int) : Array Value := #[.int .i64 (left : Int), .bool false, .slice A n c, .int .i64 r.p, .int .i64 r.b, .int .i64 r.k, vb, .int .i64 most]
/-- A list of numbers that lies apart from block g. -/
def RdA (w : World) (g : Nat) (A : Option Addr) (q : Nat) (xs : List Int) : Prop := RdI w A q xs ∧ ∀ a, A = some a → a.block ≠ g
theorem RdA.wr {w w' : World} {g q : Nat} {A : Option Addr} {xs : List Int} (h : RdA w g A q xs) (hw : Wr g (g + 1) w w') : RdA w' g A q xs := by
  obtain ⟨⟨⟨h1, h2⟩, h3⟩, h4⟩ := h
  refine ⟨⟨⟨h1, fun hq => ?_⟩, h3⟩, h4⟩
  obtain ⟨b, off, e, hb, hc⟩ := h2 hq
  have hne : b ≠ g := h4 _ e
  exact ⟨b, off, e, Nat.lt_of_lt_of_le hb hw.size, fun j u hu => (hw.cell (p := ⟨b, off + j, none⟩) hb (by show b < g ∨ g + 1 ≤ b; omega)).trans (hc j u hu)⟩
theorem RdA.below {w w' : World} {g q : Nat} {A : Option Addr} {xs : List Int} (h : RdA w g A q xs) (hb : Below w.heap.size w w') : RdA w' g A q xs := ⟨h.1.below hb (Nat.le_refl _), h.2⟩
structure FlP (w : World) (g : Nat) (A : Option Addr) (n c : Nat) (r : RmZ) (left : Nat) (Ab : Option Addr) (nb cb : Nat) (b : List Int × Int) : Prop where
  fl : w.heap[g]? = some (.cells (FlC left A n c r (.slice Ab nb cb) b.2) 169 (0, 0))
  bs : RdA w g Ab nb b.1
section
variable {w w' : World} {g n c left nb cb : Nat} {A Ab : Option Addr} {r : RmZ} {b : List Int × Int}
theorem FlP.lt (h : FlP w g A n c r left Ab nb cb b) : g < w.heap.size := (Array.getElem?_eq_some_iff.1 h.fl).1
theorem FlP.below (h : FlP w g A n c r left Ab nb cb b) (hb : Below w.heap.size w w') : FlP w' g A n c r left Ab nb cb b := ⟨(hb.block g h.lt).trans h.fl, h.bs.below hb⟩
theorem FlP.cells (h : FlP w g A n c r left Ab nb cb b) : w.cell? ⟨g, 0, none⟩ = some (.int .i64 (left : Int)) ∧ w.cell? ⟨g, 1, none⟩ = some (.bool false) ∧ w.cell? ⟨g, 2, none⟩ = some (.slice A n c) ∧ w.cell? ⟨g, 3, none⟩ = some (.int .i64 r.p) ∧ w.cell? ⟨g, 4, none⟩ = some (.int .i64 r.b) ∧ w.cell? ⟨g, 5, none⟩ = some (.int .i64 r.k) ∧
    w.cell? ⟨g, 6, none⟩ = some (.slice Ab nb cb) ∧ w.cell? ⟨g, 7, none⟩ = some (.int .i64 b.2) :=
  ⟨(cell_of_row _ g 0 _ _ _ h.fl).trans rfl, (cell_of_row _ g 1 _ _ _ h.fl).trans rfl, (cell_of_row _ g 2 _ _ _ h.fl).trans rfl, (cell_of_row _ g 3 _ _ _ h.fl).trans rfl, (cell_of_row _ g 4 _ _ _ h.fl).trans rfl, (cell_of_row _ g 5 _ _ _ h.fl).trans rfl, (cell_of_row _ g 6 _ _ _ h.fl).trans rfl, (cell_of_row _ g 7 _ _ _ h.fl).trans rfl⟩
theorem FlP.fz (h : FlP w g A n c r left Ab nb cb b) (i : Nat) : w.frozen? ⟨g, i, none⟩ = false := frozen_of_row _ g i _ _ h.fl
theorem FlP.node (h : FlP w g A n c r (left + 1) Ab nb cb b) : FlP (w.setCell ⟨g, 0, none⟩ (.int .i64 (left : Int))) g A n c r left Ab nb cb b :=
  ⟨heap_setCell_same _ _ _ _ _ _ h.fl, h.bs.wr (Wr.setCell _ _ (Nat.le_refl _) (Nat.lt_succ_self _))⟩
theorem FlP.take {S : Option Addr} {q cs : Nat} {set : List Int} {m : Int} (h : FlP w g A n c r left Ab nb cb b) (hs : RdA w g S q set) : FlP ((w.setCell ⟨g, 6, none⟩ (.slice S q cs)).setCell ⟨g, 7, none⟩ (.int .i64 m)) g A n c r left S q cs (set, m) :=
  ⟨heap_setCell_same _ _ _ _ _ _ (heap_setCell_same _ _ _ _ _ _ h.fl), (hs.wr (Wr.setCell _ _ (Nat.le_refl _) (Nat.lt_succ_self _))).wr (Wr.setCell _ _ (Nat.le_refl _) (Nat.lt_succ_self _))⟩
end
/-- An append of one number that lies at ad, the operation alone. -/
theorem opAppI_gen {w : World} {o : Oper} {a : Act} {Q : Exit → Act → World → Prop} {K' : Act → World → Prop} (hgd : o.guard = none) (s x : Operand)
    (ho : o.op = .call { callee := .builtin .append, args := #[s, x], argTypes := #[24, 24] })
    (base : Nat) (v : Value) (n : Nat) (xs : List Int) (u : Int) (ad : Addr) (hs : a.eval s = v) (hown : w.ownsRow base 2 1 v n (cI xs)) (hx : a.eval x = .slice (some ad) 1 1) (hc : w.cell? ad = some (.int .i64 u))
    (hn : n ≤ 1099511627776) (hbase : base ≤ w.heap.size)
    (h : ∀ v' w', w'.ownsRow base 2 1 v' (n + 1) (cI (xs ++ [u])) → Below base w w' → K' (a.put o.dst v') w') : Oper.wp Tryz.prog o a w K' Q := by
  obtain ⟨i, hi, hz0, hz1, hz2⟩ := info_parts (z := .int .i64 0) (bytes := 8) (size := 1) Tryz.info2
  obtain ⟨v', w', hr, h1, h2, _, h4⟩ := run_append_own_at (P := Tryz.prog) w base 24 o.type 2 i (.int .i64 0) 1 8 Tryz.underlying24 hi hz0 hz1 hz2 rfl (by decide) v n (cI xs) hown ad 1 1 [.int .i64 u] rfl (by
    intro j y hy
    cases j with
    | zero => simp only [List.getElem?_cons_zero, Option.some.injEq] at hy; subst hy; simpa [Addr.add] using hc
    | succ j => simp at hy) (by intro y hy; simp only [List.mem_cons, List.not_mem_nil, or_false] at hy; subst hy; rfl) (by unfold maxLen; omega) (by omega) hbase
  have h' := h v' w' (by rw [show cI (xs ++ [u]) = cI xs ++ [.int .i64 u] by simp [cI]]; exact h1) ((Below.refl base w).grown h2 hbase (fun g hg => (own_lt hown hg).1))
  unfold Oper.wp execOp
  simp only [ho, resolve, invoke, builtin, Sem.run_bind, Sem.run_pure, Result.andThen_ok, List.map_toArray, List.map_cons, List.map_nil, hs, hx, hr]
  exact h'

end Go.Proofs.YtcclfmapbgdpdaaGreatDoor
