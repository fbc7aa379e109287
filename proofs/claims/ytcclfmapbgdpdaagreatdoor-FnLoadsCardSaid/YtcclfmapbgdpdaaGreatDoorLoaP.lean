/- The loader in memory: what each of its steps leaves. -/
import Derived.Test.YtcclfmapbgdpdaaGreatDoorLoaV
import Derived.Test.YtcclfmapbgdpdaaGreatDoorLoaH
import Derived.Test.YtcclfmapbgdpdaaGreatDoorMg
import Derived.Maps.AppendAt
namespace Go.Proofs.YtcclfmapbgdpdaaGreatDoor
open Go.RowKit
set_option linter.unusedVariables false

/-! ### rows of the call's own -/
theorem own_heap {w w' : World} {base : Nat} {e : TypeId} {size : Nat} {v : Value} {n : Nat} {xs : List Value} (h : w.ownsRow base e size v n xs) (hk : ∀ k, v.ownBlock = some k → w'.heap[k]? = w.heap[k]?) : w'.ownsRow base e size v n xs := by
  refine ⟨h.1, ?_⟩
  rcases h.2 with hn | ⟨g, cap, cur, rfl, hb, hg, rest⟩
  · exact .inl hn
  · exact .inr ⟨g, cap, cur, rfl, hb, by rw [hk g rfl]; exact hg, rest⟩
theorem own_lt {w : World} {base : Nat} {e : TypeId} {size : Nat} {v : Value} {n : Nat} {xs : List Value} (h : w.ownsRow base e size v n xs) {k : Nat} (hk : v.ownBlock = some k) : base ≤ k ∧ k < w.heap.size := by
  rcases h.2 with ⟨rfl, _⟩ | ⟨g, cap, cur, rfl, hb, hg, rest⟩
  · cases hk
  · simp only [Value.ownBlock, Option.some.injEq] at hk
    subst hk
    exact ⟨hb, (Array.getElem?_eq_some_iff.1 hg).1⟩
theorem own_ne {w : World} {base base' : Nat} {e e' : TypeId} {size size' : Nat} {v v' : Value} {n n' : Nat} {xs xs' : List Value} (h : w.ownsRow base e size v n xs) (h' : w.ownsRow base' e' size' v' n' xs') (hne : e ≠ e') {k : Nat} (hk : v.ownBlock = some k) : v'.ownBlock ≠ some k := by
  intro hk'
  rcases h.2 with ⟨rfl, _⟩ | ⟨g, cap, cur, rfl, hb, hg, rest⟩
  · cases hk
  · simp only [Value.ownBlock, Option.some.injEq] at hk
    subst hk
    rcases h'.2 with ⟨rfl, _⟩ | ⟨g', cap', cur', rfl, hb', hg', rest'⟩
    · cases hk'
    · simp only [Value.ownBlock, Option.some.injEq] at hk'
      subst hk'
      rw [hg] at hg'
      injection hg' with hg'
      injection hg' with _ h2
      exact hne h2
theorem own_cut {w : World} {base : Nat} {e : TypeId} {size m c k : Nat} {A : Option Addr} {xs : List Value} (h : w.ownsRow base e size (.slice A m c) m xs) (hk : k ≤ m) : w.ownsRow base e size (.slice A k c) k (xs.take (k * size)) := by
  have hks : k * size ≤ m * size := Nat.mul_le_mul_right _ hk
  refine ⟨by rw [List.length_take, h.1]; omega, ?_⟩
  rcases h.2 with ⟨hv, hm⟩ | ⟨g, cap, cur, hv, hb, hg, h1, h2, h3, h4⟩
  · injection hv with h5 h6 h7
    subst h5; subst h7
    obtain rfl : k = 0 := by omega
    exact .inl ⟨rfl, rfl⟩
  · injection hv with h5 h6 h7
    subst h5; subst h7
    refine .inr ⟨g, c, cur, rfl, hb, hg, by omega, h2, h3, ?_⟩
    rw [← h4, List.take_take, Nat.min_eq_left hks]
theorem own_base {w : World} {base base' : Nat} {e : TypeId} {size : Nat} {v : Value} {n : Nat} {xs : List Value} (h : w.ownsRow base e size v n xs) (h1 : base' ≤ base) : w.ownsRow base' e size v n xs := by
  refine ⟨h.1, ?_⟩
  rcases h.2 with hn | ⟨g, cap, cur, hv, hb, rest⟩
  · exact .inl hn
  · exact .inr ⟨g, cap, cur, hv, Nat.le_trans h1 hb, rest⟩
theorem blk_slice {A : Option Addr} {m c m' c' : Nat} : (Value.slice A m c).ownBlock = (Value.slice A m' c').ownBlock := by cases A <;> rfl
theorem cI_cut {rs : List Int} {u : Int} : (cI (rs ++ [u])).take (rs.length * 1) = cI rs := by
  rw [Nat.mul_one, show cI (rs ++ [u]) = cI rs ++ [.int .i64 u] by simp [cI], List.take_append_of_le_length (by simp [cI]), List.take_of_length_le (by simp [cI])]
theorem cR_cut {ons : List RmZ} {x : RmZ} : (cK kRm (ons ++ [x])).take (ons.length * 3) = cK kRm ons := by
  have hl : (cK kRm ons).length = ons.length * 3 := cK_len _
  rw [cK_append, List.take_append_of_le_length (by omega), List.take_of_length_le (by omega)]
theorem cR_set {ons : List RmZ} {j : Nat} {x : RmZ} (h : j < ons.length) : (((cK kRm ons).set (j * 3) (.int .i64 x.p)).set (j * 3 + 1) (.int .i64 x.b)).set (j * 3 + 2) (.int .i64 x.k) = cK kRm (ons.set j x) := by
  have hl : (cK kRm (ons.take j)).length = j * 3 := by rw [cK_len, List.length_take, Nat.min_eq_left (Nat.le_of_lt h)]; rfl
  have e1 : ons.drop j = ons[j] :: ons.drop (j + 1) := by rw [← List.getElem_cons_drop (h := h)]
  have e2 : ons.set j x = ons.take j ++ x :: ons.drop (j + 1) := by rw [List.set_eq_take_append_cons_drop, if_pos h]
  rw [e2]
  conv => lhs; rw [← List.take_append_drop j ons, e1]
  rw [cK_append, cK_append]
  rw [List.set_append_right _ _ (by omega), List.set_append_right _ _ (by omega), List.set_append_right _ _ (by omega), hl, show j * 3 - j * 3 = 0 by omega, show j * 3 + 1 - j * 3 = 1 by omega, show j * 3 + 2 - j * 3 = 2 by omega]
  rfl

/-! ### the loader -/
def LdC (left : Nat) (A : Option Addr) (n c : Nat) (r : RmZ) (v1 v2 v3 : Value) (few : Int) (fd : Bool) : Array Value := #[.int .i64 (left : Int), .bool false, .slice A n c, .int .i64 r.p, .int .i64 r.b, .int .i64 r.k, v1, v2, v3, .int .i64 few, .bool fd]
/-- The best as it lies. -/
def BstR (w : World) (g : Nat) (v2 v3 : Value) (few : Int) (fd : Bool) : Option (List Int × Nat) → Prop
  | none => fd = false
  | some b => fd = true ∧ few = (b.2 : Int) ∧ w.ownsRow (g + 1) 2 1 v3 b.1.length (cI b.1) ∧ ∀ x, v3.ownBlock = some x → v2.ownBlock ≠ some x
theorem BstR.keep {w w' : World} {g : Nat} {v2 v2' v3 : Value} {few : Int} {fd : Bool} {best : Option (List Int × Nat)} (h : BstR w g v2 v3 few fd best) (hk : ∀ b, best = some b → ∀ k, g + 1 ≤ k → k < w.heap.size → v3.ownBlock = some k → v2.ownBlock ≠ some k → w'.heap[k]? = w.heap[k]? ∧ v2'.ownBlock ≠ some k) : BstR w' g v2' v3 few fd best := by
  cases best with
  | none => exact h
  | some b =>
    obtain ⟨h1, h2, h3, h4⟩ := h
    exact ⟨h1, h2, own_heap h3 (fun k e => (hk b rfl k (own_lt h3 e).1 (own_lt h3 e).2 e (h4 k e)).1), fun k e => (hk b rfl k (own_lt h3 e).1 (own_lt h3 e).2 e (h4 k e)).2⟩

structure LdP (w : World) (g : Nat) (A : Option Addr) (n c : Nat) (r : RmZ) (left : Nat) (v1 v2 v3 : Value) (few : Int) (fd : Bool) (ons : List RmZ) (rs : List Int) (best : Option (List Int × Nat)) : Prop where
  ld : w.heap[g]? = some (.cells (LdC left A n c r v1 v2 v3 few fd) 161 (0, 0))
  on : w.ownsRow (g + 1) 87 3 v1 ons.length (cK kRm ons)
  rd : w.ownsRow (g + 1) 2 1 v2 rs.length (cI rs)
  bs : BstR w g v2 v3 few fd best

section
variable {w w' : World} {g n c left : Nat} {A : Option Addr} {r : RmZ} {v1 v2 v3 : Value} {few : Int} {fd : Bool} {ons : List RmZ} {rs : List Int} {best : Option (List Int × Nat)}
theorem LdP.lt (h : LdP w g A n c r left v1 v2 v3 few fd ons rs best) : g < w.heap.size := (Array.getElem?_eq_some_iff.1 h.ld).1
theorem LdP.keep (h : LdP w g A n c r left v1 v2 v3 few fd ons rs best) (hk : ∀ k, k < w.heap.size → w'.heap[k]? = w.heap[k]?) : LdP w' g A n c r left v1 v2 v3 few fd ons rs best :=
  ⟨(hk g h.lt).trans h.ld, own_heap h.on fun k e => hk k (own_lt h.on e).2, own_heap h.rd fun k e => hk k (own_lt h.rd e).2, h.bs.keep fun _ _ k _ h2 _ h4 => ⟨hk k h2, h4⟩⟩
theorem LdP.below (h : LdP w g A n c r left v1 v2 v3 few fd ons rs best) (hb : Below w.heap.size w w') : LdP w' g A n c r left v1 v2 v3 few fd ons rs best := h.keep fun k hk => hb.block k hk
/-- The cells of the loader. -/
theorem LdP.cells (h : LdP w g A n c r left v1 v2 v3 few fd ons rs best) : w.cell? ⟨g, 0, none⟩ = some (.int .i64 (left : Int)) ∧ w.cell? ⟨g, 1, none⟩ = some (.bool false) ∧ w.cell? ⟨g, 2, none⟩ = some (.slice A n c) ∧ w.cell? ⟨g, 3, none⟩ = some (.int .i64 r.p) ∧ w.cell? ⟨g, 4, none⟩ = some (.int .i64 r.b) ∧ w.cell? ⟨g, 5, none⟩ = some (.int .i64 r.k) ∧
    w.cell? ⟨g, 6, none⟩ = some v1 ∧ w.cell? ⟨g, 7, none⟩ = some v2 ∧ w.cell? ⟨g, 8, none⟩ = some v3 ∧ w.cell? ⟨g, 9, none⟩ = some (.int .i64 few) ∧ w.cell? ⟨g, 10, none⟩ = some (.bool fd) :=
  ⟨(cell_of_row _ g 0 _ _ _ h.ld).trans rfl, (cell_of_row _ g 1 _ _ _ h.ld).trans rfl, (cell_of_row _ g 2 _ _ _ h.ld).trans rfl, (cell_of_row _ g 3 _ _ _ h.ld).trans rfl, (cell_of_row _ g 4 _ _ _ h.ld).trans rfl, (cell_of_row _ g 5 _ _ _ h.ld).trans rfl, (cell_of_row _ g 6 _ _ _ h.ld).trans rfl, (cell_of_row _ g 7 _ _ _ h.ld).trans rfl, (cell_of_row _ g 8 _ _ _ h.ld).trans rfl, (cell_of_row _ g 9 _ _ _ h.ld).trans rfl, (cell_of_row _ g 10 _ _ _ h.ld).trans rfl⟩
theorem LdP.fz (h : LdP w g A n c r left v1 v2 v3 few fd ons rs best) (i : Nat) : w.frozen? ⟨g, i, none⟩ = false := frozen_of_row _ g i _ _ h.ld
/-- A store into the loader leaves the rows. -/
theorem LdP.rows (h : LdP w g A n c r left v1 v2 v3 few fd ons rs best) (i : Nat) (u : Value) : (w.setCell ⟨g, i, none⟩ u).ownsRow (g + 1) 87 3 v1 ons.length (cK kRm ons) ∧ (w.setCell ⟨g, i, none⟩ u).ownsRow (g + 1) 2 1 v2 rs.length (cI rs) ∧ BstR (w.setCell ⟨g, i, none⟩ u) g v2 v3 few fd best :=
  ⟨own_heap h.on fun k e => heap_setCell_other _ _ _ _ (by have := (own_lt h.on e).1; show k ≠ g; omega), own_heap h.rd fun k e => heap_setCell_other _ _ _ _ (by have := (own_lt h.rd e).1; show k ≠ g; omega), h.bs.keep fun _ _ k h1 _ _ h4 => ⟨heap_setCell_other _ _ _ _ (by show k ≠ g; omega), h4⟩⟩
theorem LdP.node (h : LdP w g A n c r (left + 1) v1 v2 v3 few fd ons rs best) : LdP (w.setCell ⟨g, 0, none⟩ (.int .i64 (left : Int))) g A n c r left v1 v2 v3 few fd ons rs best :=
  ⟨heap_setCell_same _ _ _ _ _ _ h.ld, (h.rows _ _).1, (h.rows _ _).2.1, (h.rows _ _).2.2⟩
theorem LdP.push {v2' : Value} {u : Int} {o : Obj} (h : LdP w g A n c r left v1 v2 v3 few fd ons rs best) (h1 : w'.ownsRow (g + 1) 2 1 v2' (rs.length + 1) (cI (rs ++ [u]))) (h2 : (w.alloc o).grownBy w' v2.ownBlock) (h3 : v2'.ownBlock = v2.ownBlock ∨ v2'.ownBlock = some (w.heap.size + 1)) :
    LdP (w'.setCell ⟨g, 7, none⟩ v2') g A n c r left v1 v2' v3 few fd ons (rs ++ [u]) best := by
  have hg := h.lt
  have hk : ∀ k, k < w.heap.size → v2.ownBlock ≠ some k → w'.heap[k]? = w.heap[k]? := fun k hk hn => (h2.block k (by simp; omega) (fun e => hn e.symm)).trans (heap_alloc_old w o hk)
  have hb : BstR w' g v2' v3 few fd best := h.bs.keep fun _ _ k h5 h6 h7 h8 => ⟨hk k h6 h8, by
    rcases h3 with e | e
    · rw [e]; exact h8
    · rw [e]; intro hh; simp only [Option.some.injEq] at hh; omega⟩
  have h' : LdP w' g A n c r left v1 v2' v3 few fd ons (rs ++ [u]) best ∨ True := .inr trivial
  have hgk : w'.heap[g]? = _ := (hk g hg (fun e => by have := (own_lt h.rd e).1; omega)).trans h.ld
  have hon := own_heap (w' := w') h.on fun k e => hk k (own_lt h.on e).2 (own_ne h.on h.rd (by decide) e)
  refine ⟨heap_setCell_same _ _ _ _ _ _ hgk, own_heap hon fun k e => heap_setCell_other _ _ _ _ (by have := (own_lt hon e).1; show k ≠ g; omega), ?_, hb.keep fun _ _ k h5 _ _ h8 => ⟨heap_setCell_other _ _ _ _ (by show k ≠ g; omega), h8⟩⟩
  rw [List.length_append, List.length_singleton]
  exact own_heap h1 fun k e => heap_setCell_other _ _ _ _ (by have := (own_lt h1 e).1; show k ≠ g; omega)
theorem LdP.pushOn {v1' : Value} {x : RmZ} {o : Obj} (h : LdP w g A n c r left v1 v2 v3 few fd ons rs best) (h1 : w'.ownsRow (g + 1) 87 3 v1' (ons.length + 1) (cK kRm (ons ++ [x]))) (h2 : (w.alloc o).grownBy w' v1.ownBlock) :
    LdP (w'.setCell ⟨g, 6, none⟩ v1') g A n c r left v1' v2 v3 few fd (ons ++ [x]) rs best := by
  have hg := h.lt
  have hk : ∀ k, k < w.heap.size → v1.ownBlock ≠ some k → w'.heap[k]? = w.heap[k]? := fun k hk hn => (h2.block k (by simp; omega) (fun e => hn e.symm)).trans (heap_alloc_old w o hk)
  have hb : BstR w' g v2 v3 few fd best := by
    have hbs := h.bs
    cases best with
    | none => exact hbs
    | some b => exact hbs.keep fun _ _ k h5 h6 h7 h8 => ⟨hk k h6 (own_ne hbs.2.2.1 h.on (by decide) h7), h8⟩
  have hgk : w'.heap[g]? = _ := (hk g hg (fun e => by have := (own_lt h.on e).1; omega)).trans h.ld
  have hrd := own_heap (w' := w') h.rd fun k e => hk k (own_lt h.rd e).2 (own_ne h.rd h.on (by decide) e)
  refine ⟨heap_setCell_same _ _ _ _ _ _ hgk, ?_, own_heap hrd fun k e => heap_setCell_other _ _ _ _ (by have := (own_lt hrd e).1; show k ≠ g; omega), hb.keep fun _ _ k h5 _ _ h8 => ⟨heap_setCell_other _ _ _ _ (by show k ≠ g; omega), h8⟩⟩
  rw [List.length_append, List.length_singleton]
  exact own_heap h1 fun k e => heap_setCell_other _ _ _ _ (by have := (own_lt h1 e).1; show k ≠ g; omega)
theorem LdP.cutR {A2 : Option Addr} {m2 c2 : Nat} {u : Int} (h : LdP w g A n c r left v1 (.slice A2 m2 c2) v3 few fd ons (rs ++ [u]) best) (hm : m2 = rs.length + 1) : LdP (w.setCell ⟨g, 7, none⟩ (.slice A2 rs.length c2)) g A n c r left v1 (.slice A2 rs.length c2) v3 few fd ons rs best := by
  obtain ⟨h1, h2, h3⟩ := h.rows 7 (.slice A2 rs.length c2)
  rw [show (rs ++ [u]).length = m2 by rw [List.length_append, hm]; rfl] at h2
  have h4 := own_cut h2 (show rs.length ≤ m2 by omega)
  rw [cI_cut] at h4
  exact ⟨heap_setCell_same _ _ _ _ _ _ h.ld, h1, h4, h3.keep fun _ _ k _ _ _ h8 => ⟨rfl, by rw [blk_slice (m' := m2) (c' := c2)]; exact h8⟩⟩
theorem LdP.cutOn {A1 : Option Addr} {m1 c1 : Nat} {x : RmZ} (h : LdP w g A n c r left (.slice A1 m1 c1) v2 v3 few fd (ons ++ [x]) rs best) (hm : m1 = ons.length + 1) : LdP (w.setCell ⟨g, 6, none⟩ (.slice A1 ons.length c1)) g A n c r left (.slice A1 ons.length c1) v2 v3 few fd ons rs best := by
  obtain ⟨h1, h2, h3⟩ := h.rows 6 (.slice A1 ons.length c1)
  rw [show (ons ++ [x]).length = m1 by rw [List.length_append, hm]; rfl] at h1
  have h4 := own_cut h1 (show ons.length ≤ m1 by omega)
  rw [cR_cut] at h4
  exact ⟨heap_setCell_same _ _ _ _ _ _ h.ld, h4, h2, h3⟩
/-- What a store into the rooms wants, and what it leaves. -/
theorem LdP.putOn {b1 m1 c1 j : Nat} (h : LdP w g A n c r left (.slice (some ⟨b1, 0, none⟩) m1 c1) v2 v3 few fd ons rs best) (hm : m1 = ons.length) (hj : j < m1) :
    g < b1 ∧ b1 < w.heap.size ∧ ∃ p b k, ons[j]? = some ⟨p, b, k⟩ ∧ (w.cell? ⟨b1, j * 3, none⟩ = some (.int .i64 p) ∧ w.cell? ⟨b1, j * 3 + 1, none⟩ = some (.int .i64 b) ∧ w.cell? ⟨b1, j * 3 + 2, none⟩ = some (.int .i64 k)) ∧ (w.frozen? ⟨b1, j * 3, none⟩ = false ∧ w.frozen? ⟨b1, j * 3 + 1, none⟩ = false ∧ w.frozen? ⟨b1, j * 3 + 2, none⟩ = false) ∧
      Hid (∀ x : RmZ, LdP (((w.setCell ⟨b1, j * 3, none⟩ (.int .i64 x.p)).setCell ⟨b1, j * 3 + 1, none⟩ (.int .i64 x.b)).setCell ⟨b1, j * 3 + 2, none⟩ (.int .i64 x.k)) g A n c r left (.slice (some ⟨b1, 0, none⟩) m1 c1) v2 v3 few fd (ons.set j x) rs best) := by
  have hon := h.on
  rw [← hm] at hon
  obtain ⟨q1, q2⟩ := own_lt hon (k := b1) rfl
  refine ⟨by omega, q2, ?_⟩
  have hx := List.getElem?_eq_getElem (show j < ons.length by omega)
  have hc : ∀ i, (hi : i < 3) → (cK kRm ons)[j * 3 + i]? = (kRm.c (ons[j]'(by omega)))[i]? := fun i hi => by
    have hl : (cK kRm (ons.take j)).length = j * 3 := by rw [cK_len, List.length_take, Nat.min_eq_left (by omega)]; rfl
    have e1 : ons.drop j = (ons[j]'(by omega)) :: ons.drop (j + 1) := by rw [← List.getElem_cons_drop (h := by omega)]
    conv => lhs; rw [← List.take_append_drop j ons, e1]
    rw [cK_append, List.getElem?_append_right (by omega), hl, Nat.add_sub_cancel_left]
    show (kRm.c (ons[j]'(by omega)) ++ cK kRm (ons.drop (j + 1)))[i]? = _
    rw [List.getElem?_append_left (by rw [kRm.len]; exact hi)]
  have hc2 : ∀ i u, i < 3 → (kRm.c (ons[j]'(by omega)))[i]? = some u → w.cell? ⟨b1, j * 3 + i, none⟩ = some u := fun i u hi hu => by
    have := hon.cells (g := b1) rfl (j * 3 + i) u (by rw [hc i hi]; exact hu)
    simpa [Addr.add_lit] using this
  obtain ⟨_, s1, f1, S1⟩ := own_store (k := j * 3) hon (by omega)
  obtain ⟨_, s2, f2, _⟩ := own_store (k := j * 3 + 1) hon (by omega)
  obtain ⟨_, s3, f3, _⟩ := own_store (k := j * 3 + 2) hon (by omega)
  refine ⟨_, _, _, hx, ⟨hc2 0 _ (by omega) rfl, hc2 1 _ (by omega) rfl, hc2 2 _ (by omega) rfl⟩, ⟨f1, f2, f3⟩, fun x => ?_⟩
  obtain ⟨_, _, _, S2⟩ := own_store (k := j * 3 + 1) (S1.out (.int .i64 x.p)) (by omega)
  obtain ⟨_, _, _, S3⟩ := own_store (k := j * 3 + 2) (S2.out (.int .i64 x.b)) (by omega)
  have S4 := S3.out (.int .i64 x.k)
  rw [cR_set (show j < ons.length by omega)] at S4
  have hk : ∀ k, k ≠ b1 → (((w.setCell ⟨b1, j * 3, none⟩ (.int .i64 x.p)).setCell ⟨b1, j * 3 + 1, none⟩ (.int .i64 x.b)).setCell ⟨b1, j * 3 + 2, none⟩ (.int .i64 x.k)).heap[k]? = w.heap[k]? := fun k hk => ((heap_setCell_other _ _ _ _ hk).trans (heap_setCell_other _ _ _ _ hk)).trans (heap_setCell_other _ _ _ _ hk)
  refine ⟨(hk g (by omega)).trans h.ld, by rw [List.length_set, ← hm]; exact S4, own_heap h.rd fun k e => hk k (fun e2 => own_ne h.rd h.on (by decide) e (by rw [e2]; rfl)), ?_⟩
  have hbs := h.bs
  cases best with
  | none => exact hbs
  | some b => exact hbs.keep fun _ _ k h5 h6 h7 h8 => ⟨hk k (fun e2 => own_ne hbs.2.2.1 h.on (by decide) h7 (by rw [e2]; rfl)), h8⟩
/-- The best taken. -/
theorem LdP.take {v3' : Value} (h : LdP w g A n c r left v1 v2 v3 few fd ons rs best) (hb : Below w.heap.size w w') (h1 : w'.ownsRow w.heap.size 2 1 v3' rs.length (cI rs)) :
    LdP (((w'.setCell ⟨g, 8, none⟩ v3').setCell ⟨g, 9, none⟩ (.int .i64 (ons.length : Int))).setCell ⟨g, 10, none⟩ (.bool true)) g A n c r left v1 v2 v3' (ons.length : Int) true ons rs (some (rs, ons.length)) := by
  have hg := h.lt
  have h' := h.below hb
  have hk : ∀ k, k ≠ g → (((w'.setCell ⟨g, 8, none⟩ v3').setCell ⟨g, 9, none⟩ (.int .i64 (ons.length : Int))).setCell ⟨g, 10, none⟩ (.bool true)).heap[k]? = w'.heap[k]? := fun k hk => ((heap_setCell_other _ _ _ _ hk).trans (heap_setCell_other _ _ _ _ hk)).trans (heap_setCell_other _ _ _ _ hk)
  have hld := heap_setCell_same _ g 10 _ _ (.bool true) (heap_setCell_same _ g 9 _ _ (.int .i64 (ons.length : Int)) (heap_setCell_same _ g 8 _ _ v3' h'.ld))
  refine ⟨hld, own_heap h'.on fun k e => hk k (by have := (own_lt h'.on e).1; omega), own_heap h'.rd fun k e => hk k (by have := (own_lt h'.rd e).1; omega), rfl, rfl, ?_, fun x e e2 => ?_⟩
  · exact own_base (own_heap h1 fun k e => hk k (by have := (own_lt h1 e).1; omega)) (by omega)
  · have a1 := (own_lt h1 e).1
    have a2 := (own_lt h.rd e2).2
    omega
end

end Go.Proofs.YtcclfmapbgdpdaaGreatDoor
