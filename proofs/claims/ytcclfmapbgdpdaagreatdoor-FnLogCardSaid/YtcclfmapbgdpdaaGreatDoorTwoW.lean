/- Two rows of the call's own, apart: strings and numbers, both growing; a number stored. -/
import Derived.Test.YtcclfmapbgdpdaaGreatDoorMg
import Derived.Maps.AppendAt
namespace Go.Proofs.YtcclfmapbgdpdaaGreatDoor
open Go.RowKit
set_option linter.unusedVariables false

def TwoW (w : World) (base : Nat) (u v : Value) (n m : Nat) (xs : List ByteArray) (ys : List Int) : Prop :=
  w.ownsRow base 9 1 u n (cK kB xs) ∧ w.ownsRow base 2 1 v m (cI ys) ∧ ∀ g, u.ownBlock = some g → v.ownBlock ≠ some g
theorem TwoW.below {w w' : World} {base : Nat} {u v : Value} {n m : Nat} {xs : List ByteArray} {ys : List Int} (h : TwoW w base u v n m xs ys) (hb : Below w.heap.size w w') : TwoW w' base u v n m xs ys := ⟨own_below h.1 hb (Nat.le_refl _), own_below h.2.1 hb (Nat.le_refl _), h.2.2⟩
theorem TwoW.nil (w : World) (base : Nat) : TwoW w base (.slice none 0 0) (.slice none 0 0) 0 0 [] [] := ⟨by simpa [cK] using World.ownsRow_nil w base 9 1, by simpa [cI] using World.ownsRow_nil w base 2 1, fun g hg => by simp [Value.ownBlock] at hg⟩
theorem TwoW.growB {w w' : World} {base : Nat} {u u' v : Value} {n n' m : Nat} {xs xs' : List ByteArray} {ys : List Int} {o : Obj} (h : TwoW w base u v n m xs ys) (hown : w'.ownsRow base 9 1 u' n' (cK kB xs')) (hg : (w.alloc o).grownBy w' u.ownBlock) (hat : u'.ownBlock = u.ownBlock ∨ u'.ownBlock = some (w.alloc o).heap.size) : TwoW w' base u' v n' m xs' ys := by
  have hne : v.ownBlock = none ∨ v.ownBlock ≠ u.ownBlock := by
    cases hv : v.ownBlock with
    | none => exact .inl rfl
    | some g => exact .inr fun e => h.2.2 g e.symm hv
  refine ⟨hown, (h.2.1.alloc o).kept hg hne, fun g h1 h2 => ?_⟩
  rcases hat with ha | ha
  · rw [ha] at h1
    exact h.2.2 g h1 h2
  · rw [ha] at h1
    injection h1 with h1
    have := (h.2.1.lt g h2).2
    simp at h1
    omega
theorem TwoW.growI {w w' : World} {base : Nat} {u v v' : Value} {n m m' : Nat} {xs : List ByteArray} {ys ys' : List Int} {o : Obj} (h : TwoW w base u v n m xs ys) (hown : w'.ownsRow base 2 1 v' m' (cI ys')) (hg : (w.alloc o).grownBy w' v.ownBlock) (hat : v'.ownBlock = v.ownBlock ∨ v'.ownBlock = some (w.alloc o).heap.size) : TwoW w' base u v' n m' xs ys' := by
  have hne : u.ownBlock = none ∨ u.ownBlock ≠ v.ownBlock := by
    cases hv : u.ownBlock with
    | none => exact .inl rfl
    | some g => exact .inr fun e => h.2.2 g hv e.symm
  refine ⟨(h.1.alloc o).kept hg hne, hown, fun g h1 h2 => ?_⟩
  rcases hat with ha | ha
  · rw [ha] at h2
    exact h.2.2 g h1 h2
  · rw [ha] at h2
    injection h2 with h2
    have := (h.1.lt g h1).2
    simp at h2
    omega
/-- Appending one string. -/
theorem appBW {w : World} {ops : Array Oper} {rest : List Oper} {o : Oper} {a : Act} {Q : Exit → Act → World → Prop} (hgd : o.guard = none) (s x : Operand)
    (ho : o.op = .call { callee := .builtin .append, args := #[s, x], argTypes := #[54, 54] })
    (base : Nat) (v v2 : Value) (n m : Nat) (xs : List ByteArray) (ys : List Int) (u : ByteArray) (hs : a.eval s = v) (htwo : TwoW w base v v2 n m xs ys) (hx : a.eval x = .slice (some ⟨w.heap.size, 0, none⟩) 1 1)
    (hn : n ≤ 1099511627776) (hbase : base ≤ w.heap.size)
    (h : ∀ v' w', TwoW w' base v' v2 (n + 1) m (xs ++ [u]) ys → Below base w w' → w.heap.size ≤ w'.heap.size → wpList Tryz.prog ops Q rest (a.put o.dst v') w') : wpList Tryz.prog ops Q (o :: rest) a (w.alloc (.cells #[.string u] 9)) := by
  obtain ⟨i, hi, hz0, hz1, hz2⟩ := info_parts Tryz.infoB
  have hown := htwo.1
  refine wpList_append_own_at _ hgd s x 54 ho base 9 i (.string ⟨#[]⟩) 1 16 Tryz.underlying54 hi hz0 hz1 hz2 rfl (by decide) v n (cK kB xs) hs (hown.alloc _) ⟨w.heap.size, 0, none⟩ 1 1 [.string u] hx rfl (cell_one_new _ _ _) ?_ ?_ ?_ ?_ ?_
  · intro y hy
    simp only [List.mem_singleton] at hy
    subst hy
    rfl
  · unfold maxLen; omega
  · omega
  · simp; omega
  · intro v' w' h1 h2 _ h3
    refine h v' w' (htwo.growB (by rw [cK_snoc]; exact h1) h2 h3) (((Below.refl base w).alloc hbase _).grown h2 (by simp; omega) (fun g hg => (hown.lt g hg).1)) ?_
    have := h2.size
    simp at this
    omega
/-- Appending one number. -/
theorem appIW {w : World} {ops : Array Oper} {rest : List Oper} {o : Oper} {a : Act} {Q : Exit → Act → World → Prop} (hgd : o.guard = none) (s x : Operand)
    (ho : o.op = .call { callee := .builtin .append, args := #[s, x], argTypes := #[24, 24] })
    (base : Nat) (v v2 : Value) (n m : Nat) (xs : List ByteArray) (ys : List Int) (u : Int) (hs : a.eval s = v2) (htwo : TwoW w base v v2 n m xs ys) (hx : a.eval x = .slice (some ⟨w.heap.size, 0, none⟩) 1 1)
    (hn : m ≤ 1099511627776) (hbase : base ≤ w.heap.size)
    (h : ∀ v' w', TwoW w' base v v' n (m + 1) xs (ys ++ [u]) → Below base w w' → w.heap.size ≤ w'.heap.size → wpList Tryz.prog ops Q rest (a.put o.dst v') w') : wpList Tryz.prog ops Q (o :: rest) a (w.alloc (.cells #[.int .i64 u] 2)) := by
  obtain ⟨i, hi, hz0, hz1, hz2⟩ := info_parts Tryz.info2
  have hown := htwo.2.1
  refine wpList_append_own_at _ hgd s x 24 ho base 2 i (.int .i64 0) 1 8 Tryz.underlying24 hi hz0 hz1 hz2 rfl (by decide) v2 m (cI ys) hs (hown.alloc _) ⟨w.heap.size, 0, none⟩ 1 1 [.int .i64 u] hx rfl (cell_one_new _ _ _) ?_ ?_ ?_ ?_ ?_
  · intro y hy
    simp only [List.mem_singleton] at hy
    subst hy
    rfl
  · unfold maxLen; omega
  · omega
  · simp; omega
  · intro v' w' h1 h2 _ h3
    refine h v' w' (htwo.growI (by simpa [cI] using h1) h2 h3) (((Below.refl base w).alloc hbase _).grown h2 (by simp; omega) (fun g hg => (hown.lt g hg).1)) ?_
    have := h2.size
    simp at this
    omega
/-- A number stored. -/
theorem TwoW.store {w : World} {base g n m c k : Nat} {u : Value} {xs : List ByteArray} {ys : List Int} (h : TwoW w base u (.slice (some ⟨g, 0, none⟩) m c) n m xs ys) (hk : k < m) (x : Int) :
    TwoW (w.setCell ⟨g, k, none⟩ (.int .i64 x)) base u (.slice (some ⟨g, 0, none⟩) m c) n m xs (ys.set k x) := by
  obtain ⟨_, _, _, ho⟩ := own_store h.2.1 (show k < m * 1 by omega)
  refine ⟨⟨h.1.1, ?_⟩, by have := ho.out (.int .i64 x); rwa [show (cI ys).set k (.int .i64 x) = cI (ys.set k x) by unfold cI; rw [List.map_set]] at this, h.2.2⟩
  rcases h.1.2 with hv | ⟨g', cap, cur, hv, hb, hg, hr⟩
  · exact .inl hv
  · refine .inr ⟨g', cap, cur, hv, hb, ?_, hr⟩
    rw [heap_setCell_other _ _ _ _ ?_]
    · exact hg
    · intro e
      subst e
      exact h.2.2 g' (by rw [hv]; rfl) rfl
theorem TwoW.cell {w : World} {base g n m c k : Nat} {u : Value} {xs : List ByteArray} {ys : List Int} (h : TwoW w base u (.slice (some ⟨g, 0, none⟩) m c) n m xs ys) {x : Int} (hk : ys[k]? = some x) : w.cell? ⟨g, k, none⟩ = some (.int .i64 x) ∧ w.frozen? ⟨g, k, none⟩ = false ∧ base ≤ g ∧ g < w.heap.size := by
  have hl : ys.length = m := by have := h.2.1.1; simpa [cI] using this
  have hkm : k < m := by have := (List.getElem?_eq_some_iff.1 hk).1; omega
  obtain ⟨v, hv, hf, _⟩ := own_store h.2.1 (show k < m * 1 by omega)
  have hlt := h.2.1.lt g rfl
  have e : w.cell? ⟨g, k, none⟩ = (cI ys)[k]? := h.2.1.cellAt k (by omega)
  refine ⟨?_, hf, hlt.1, hlt.2⟩
  rw [e]
  unfold cI
  rw [List.getElem?_map, hk]
  rfl

theorem TwoW.addr {w : World} {base n m : Nat} {u v : Value} {xs : List ByteArray} {ys : List Int} (h : TwoW w base u v n m xs ys) (hm : 1 ≤ m) : ∃ g c, v = .slice (some ⟨g, 0, none⟩) m c := by
  rcases h.2.1.2 with ⟨_, h0⟩ | ⟨g, cap, cur, hv, _⟩
  · omega
  · exact ⟨g, cap, hv⟩

end Go.Proofs.YtcclfmapbgdpdaaGreatDoor
