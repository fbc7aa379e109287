/- Appending, with what stays told. Over any element type. -/
import Derived.Test.YtcclfmapbgdpdaaGreatDoorMg
namespace Go.Proofs.YtcclfmapbgdpdaaGreatDoor
open Go.RowKit
set_option linter.unusedVariables false

/-- A row of another element type stays. -/
theorem own_kept {w w' : World} {base base' : Nat} {e e' : TypeId} {size size' : Nat} {v v' : Value} {n n' : Nat} {xs xs' : List Value} (h : w.ownsRow base e size v n xs) (h' : w.ownsRow base' e' size' v' n' xs') (hg : w.grownBy w' v'.ownBlock) (hne : e ≠ e') : w'.ownsRow base e size v n xs := by
  refine ⟨h.1, ?_⟩
  rcases h.2 with ⟨hv, hn⟩ | ⟨g, cap, cur, hv, hb, hh, h3⟩
  · exact .inl ⟨hv, hn⟩
  · refine .inr ⟨g, cap, cur, hv, hb, ?_, h3⟩
    rw [hg.block g (Array.getElem?_eq_some_iff.1 hh).1 ?_]
    · exact hh
    · intro hq
      rcases h'.2 with ⟨hv', _⟩ | ⟨g', cap', cur', hv', _, hh', _⟩
      · rw [hv'] at hq; cases hq
      · rw [hv'] at hq
        simp only [Value.ownBlock, Option.some.injEq] at hq
        subst hq
        rw [hh] at hh'
        injection hh' with hh'
        injection hh' with _ h2
        exact hne h2

section
variable {α : Type} (K : Kind α)
variable {P : Program} {w : World} {ops : Array Oper} {rest : List Oper} {o : Oper} {a : Act} {Q : Exit → Act → World → Prop}
theorem appK_genG (hgd : o.guard = none) (s x : Operand) (t : TypeId)
    (ho : o.op = .call { callee := .builtin .append, args := #[s, x], argTypes := #[t, t] })
    (base : Nat) (e : TypeId) (z : Value) (bytes : Nat) (ht : P.underlying t = some (.slice e)) (hinfo : (P.info? e).map (fun i => (i.zero, i.size, i.bytes)) = some (some z, K.size, bytes)) (hzs : z.cells.size = K.size) (hsz : 0 < K.size) (hby : bytes ≤ 64)
    (v : Value) (n : Nat) (xs : List α) (u : α) (hs : a.eval s = v) (hown : w.ownsRow base e K.size v n (cK K xs)) (hx : a.eval x = .slice (some ⟨w.heap.size, 0, none⟩) 1 1)
    (hn : n ≤ 1099511627776) (hbase : base ≤ w.heap.size)
    (h : ∀ v' w', w'.ownsRow base e K.size v' (n + 1) (cK K (xs ++ [u])) → (w.alloc (.cells (K.c u).toArray e)).grownBy w' v.ownBlock → Below base w w' → w.heap.size ≤ w'.heap.size → wpList P ops Q rest (a.put o.dst v') w') : wpList P ops Q (o :: rest) a (w.alloc (.cells (K.c u).toArray e)) := by
  obtain ⟨i, hi, hz0, hz1, hz2⟩ := info_parts hinfo
  refine wpList_append_own _ hgd s x t ho base e i z K.size bytes ht hi hz0 hz1 hz2 hzs hsz v n (cK K xs) hs (hown.alloc _) ⟨w.heap.size, 0, none⟩ 1 1 (K.c u) hx (by rw [K.len]; omega) ?_ (K.one u) ?_ ?_ ?_ ?_
  · intro j y hy
    rw [Addr.add_lit, cell_of_row _ w.heap.size (0 + j) (K.c u).toArray e (0, 0) (heap_alloc_new w _)]
    simpa using hy
  · unfold maxLen; omega
  · have : (n + 1) * bytes ≤ (n + 1) * 64 := Nat.mul_le_mul_left _ hby
    omega
  · simp; omega
  · intro v' w' h1 h2 _
    refine h v' w' (by rw [cK_snoc]; exact h1) h2 (((Below.refl base w).alloc hbase _).grown h2 (by simp; omega) (fun g hg => (hown.lt g hg).1)) ?_
    have := h2.size
    simp at this
    omega

end

end Go.Proofs.YtcclfmapbgdpdaaGreatDoor
