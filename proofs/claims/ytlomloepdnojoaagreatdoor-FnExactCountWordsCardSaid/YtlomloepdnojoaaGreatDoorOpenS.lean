/- Arguments that are structs, or slices of whatever, opened: the cells, and what each reads as. Over any program. -/
import Derived.Test.YtlomloepdnojoaaGreatDoorOpen
import Derived.Deep.Slices
import Derived.Deep.Fields
import Derived.Lib.SmallJoins
namespace Go.Proofs.YtlomloepdnojoaaGreatDoor
open Go.ChangeShapes Go.WideShapes Go.ChangeAt Go.RowKit Go.Deep

section
variable {H : Type} {enc : TypeId × Value → H} {P : Program} {w : World} {base : Nat} {spare : Nat → Bool} {held : Bool}
/-- The cells of a struct whose fields are one cell each. -/
theorem struct_cells {e : TypeId} {fs : Array Field} {fuel : Nat} {cs : List Value} {x : DataW H × List MemPlace} (he : P.underlying e = some (.struct fs)) (hone : oneCellFields P fs = true) (hC : P.cellsOf e = fs.size)
    (h : DataW.trod enc P w base spare held fuel e cs = some x) : cs.length = fs.size ∧ ∀ (i : Nat) (f : Field), fs[i]? = some f → ∃ v n y, cs[i]? = some v ∧ DataW.trod enc P w base spare held n f.type [v] = some y := by
  obtain ⟨ys, n, hn, hy, hlen, hyl, hf⟩ := DataW.trod_struct he h
  refine ⟨hlen.trans hC, fun i f hi => ?_⟩
  obtain ⟨ho, hk⟩ := hone_of hone i f hi
  have hil : i < fs.size := (Array.getElem?_eq_some_iff.1 hi).1
  have hl : i < cs.length := by rw [hlen, hC]; exact hil
  have h1 := hf i f hi
  rw [ho, hk] at h1
  have hone' : (cs.drop i).take 1 = [cs[i]] := by
    rw [List.drop_eq_getElem_cons hl]
    rfl
  rw [hone'] at h1
  have hys : ys[i]? = some (ys[i]'(by omega)) := List.getElem?_eq_getElem (by omega)
  exact ⟨cs[i], n, _, List.getElem?_eq_getElem hl, h1.trans hys⟩

/-- A struct by value. -/
theorem open_agg {r : Reach} {b0 : Nat} {t : TypeId} {fs : Array Field} {v : Value} {d : DataW H} {p : List MemPlace} (hs : P.underlying t = some (.struct fs)) (hone : oneCellFields P fs = true) (hC : P.cellsOf t = fs.size)
    (hv : Value.okWide P w r b0 t v) (h : DataW.Trod enc P w base spare held t v d p) :
    ∃ cs : List Value, v = .agg cs.toArray ∧ cs.length = fs.size ∧ ∀ (i : Nat) (f : Field), fs[i]? = some f → ∃ u n y, cs[i]? = some u ∧ DataW.trod enc P w base spare held n f.type [u] = some y := by
  obtain ⟨cs, rfl, hsz⟩ := okWide_struct hs hv
  obtain ⟨fuel, hf⟩ := h
  have := struct_cells hs hone hC (by simpa [Value.cells] using hf)
  exact ⟨cs.toList, by simp, this.1, this.2⟩

/-- A slice whose elements read well: the rows of its elements. 'Good': what an element's reading gives. -/
theorem open_rows_in {t e : TypeId} {u0 : Value} {fuel0 : Nat} {y0 : DataW H × List MemPlace} (Good : List Value → Prop) (ht : P.underlying t = some (.slice e)) (hz : 0 < P.cellsOf e)
    (hG : ∀ (fuel : Nat) (cs : List Value) (x : DataW H × List MemPlace), cs.length = P.cellsOf e → DataW.trod enc P w 0 (fun _ => true) true fuel e cs = some x → Good cs)
    (hf : DataW.trod enc P w 0 (fun _ => true) true fuel0 t [u0] = some y0) :
    ∃ A n c, ∃ rows : List (List Value), u0 = .slice A n c ∧ n ≤ 9223372036854775807 ∧ rows.length = n ∧ (∀ x ∈ rows, x.length = P.cellsOf e ∧ Good x) ∧ Rd w A n (P.cellsOf e) rows.flatten := by
  rcases open_slice ht hf with ⟨hcs, _⟩ | ⟨a, len0, cap, m, n, D, Pl, hcs, hb, hl, hm, hmm, hx, hi⟩
  · simp at hcs
    subst hcs
    exact ⟨_, _, _, [], rfl, by omega, rfl, by simp, Rd.nil⟩
  · simp at hcs
    subst hcs
    simp only [if_true] at hmm
    subst hmm
    have hrow : ∀ i, i < len0 → ∃ cs', w.cells? 0 (a.add (i * P.cellsOf e)) (P.cellsOf e) = some cs' ∧ Good cs' := by
      intro i hlt
      obtain ⟨cs', h1, h2⟩ := hi i (by omega)
      exact ⟨cs', h1, hG _ _ _ (World.cells?_some h1).2.1 h2⟩
    have hex : ∀ k, k ≤ len0 → ∃ rows : List (List Value), rows.length = k ∧ (∀ x ∈ rows, x.length = P.cellsOf e ∧ Good x) ∧ ∀ i cs', rows[i]? = some cs' → w.cells? 0 (a.add (i * P.cellsOf e)) (P.cellsOf e) = some cs' := by
      intro k
      induction k with
      | zero => intro _; exact ⟨[], rfl, by simp, by simp⟩
      | succ k ih =>
        intro hk
        obtain ⟨rows, h1, h2, h3⟩ := ih (by omega)
        obtain ⟨cs', h4, h5⟩ := hrow k (by omega)
        refine ⟨rows ++ [cs'], by simp [h1], ?_, ?_⟩
        · intro x hx
          rcases List.mem_append.1 hx with hx | hx
          · exact h2 x hx
          · simp at hx
            subst hx
            exact ⟨(World.cells?_some h4).2.1, h5⟩
        · intro i cs'' hi
          rw [List.getElem?_append] at hi
          split at hi
          · exact h3 i cs'' hi
          · rename_i hge
            have : i = k := by
              have := (List.getElem?_eq_some_iff.1 hi).1
              simp at this
              omega
            subst this
            simp [h1] at hi
            subst hi
            exact h4
    obtain ⟨rows, h1, h2, h3⟩ := hex len0 (Nat.le_refl _)
    refine ⟨_, _, _, rows, rfl, by unfold maxLen at hm; omega, h1, h2, ?_, fun hn => ?_⟩
    · rw [flatten_len (fun x hx => (h2 x hx).1), h1]
    · obtain ⟨b, off, spot⟩ := a
      have hat : ∀ j u, rows.flatten[j]? = some u → w.cell? ((⟨b, off, spot⟩ : Addr).add j) = some u := by
        intro j u hu
        have hj : j < len0 * P.cellsOf e := by
          have := (List.getElem?_eq_some_iff.1 hu).1
          rwa [flatten_len (fun x hx => (h2 x hx).1), h1] at this
        have hq : j / P.cellsOf e < len0 := Nat.div_lt_of_lt_mul (by rwa [Nat.mul_comm] at hj)
        have hr := Nat.mod_lt j hz
        have hrow' : rows[j / P.cellsOf e]? = some (rows[j / P.cellsOf e]'(by omega)) := List.getElem?_eq_getElem (by omega)
        have hc := h3 _ _ hrow'
        obtain ⟨_, hlen, hcell⟩ := World.cells?_some hc
        have hthis := hcell (j % P.cellsOf e) hr
        rw [Go.Deep.add_add, Nat.div_add_mod' j (P.cellsOf e)] at hthis
        rw [hthis, ← hu, ← flatten_at (fun x hx => (h2 x hx).1) hrow' hr, Nat.div_add_mod' j (P.cellsOf e)]
      have h0 : 0 < len0 * P.cellsOf e := Nat.mul_pos hn hz
      have hl0 : 0 < rows.flatten.length := by
        rw [flatten_len (fun x hx => (h2 x hx).1), h1]; exact h0
      have hc0 := hat 0 _ (List.getElem?_eq_getElem hl0)
      have hspot : spot = none := by simpa [Addr.add] using World.cell?_spot hc0
      subst hspot
      refine ⟨b, off, rfl, World.block_lt_of_cell? w _ (by simpa [Addr.add] using hc0), fun j u hu => ?_⟩
      have := hat j u hu
      rwa [Addr.add_lit] at this
theorem open_rows {t e : TypeId} {r : Reach} {b0 : Nat} {v : Value} {d : DataW H} {p : List MemPlace} (Good : List Value → Prop) (ht : P.underlying t = some (.slice e)) (hz : 0 < P.cellsOf e)
    (hG : ∀ (fuel : Nat) (cs : List Value) (x : DataW H × List MemPlace), cs.length = P.cellsOf e → DataW.trod enc P w 0 (fun _ => true) true fuel e cs = some x → Good cs)
    (hv : Value.okWide P w r b0 t v) (h : DataW.Trod enc P w 0 (fun _ => true) true t v d p) :
    ∃ A n c, ∃ rows : List (List Value), v = .slice A n c ∧ n ≤ 9223372036854775807 ∧ rows.length = n ∧ (∀ x ∈ rows, x.length = P.cellsOf e ∧ Good x) ∧ Rd w A n (P.cellsOf e) rows.flatten := by
  obtain ⟨a0, len0, cap0, rfl⟩ := okWide_slice ht hv
  obtain ⟨fuel, hf⟩ := h
  exact open_rows_in Good ht hz hG (by simpa [Value.cells] using hf)
/-- Rows that each come of a thing. -/
theorem rows_map {α : Type} {f : α → List Value} {G : α → Prop} : ∀ {rows : List (List Value)}, (∀ x ∈ rows, ∃ a, x = f a ∧ G a) → ∃ l : List α, rows = l.map f ∧ ∀ a ∈ l, G a
  | [], _ => ⟨[], rfl, by simp⟩
  | r :: rs, h => by
    obtain ⟨a, rfl, ha⟩ := h r (by simp)
    obtain ⟨l, rfl, hl⟩ := rows_map (rows := rs) (fun x hx => h x (by simp [hx]))
    exact ⟨a :: l, rfl, by simpa using ⟨ha, hl⟩⟩
end

end Go.Proofs.YtlomloepdnojoaaGreatDoor
