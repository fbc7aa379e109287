/- An argument that is a slice of versions, opened. -/
import Derived.Test.YtlomloepdnojoaaDoorOpenSet
import Derived.Test.YtlomloepdnojoaaDoorVerZ
namespace Go.Proofs.YtlomloepdnojoaaDoor
open Go.ChangeShapes Go.WideShapes Go.ChangeAt Go.RowKit Go.Deep
set_option linter.unusedVariables false

section
variable {H : Type} {enc : TypeId × Value → H} {w : World}
set_option maxRecDepth 100000 in
theorem open_SetS_in {u : Value} {fuel : Nat} {y : DataW H × List MemPlace} (h : DataW.trod enc Tryd.prog w 0 (fun _ => true) true fuel 80 [u] = some y) :
    ∃ A n c x, u = .slice A n c ∧ RdS w A n x ∧ n ≤ 9223372036854775807 := by
  have hC : Tryd.prog.cellsOf 170 = 2 := by kernel_rfl
  obtain ⟨A, n, c, rows, rfl, hm, hl, hrows, hrd⟩ := open_rows_in (fun cs => ∃ x : SetZ, cs = cS x ∧ x.fine) Tryd.underlying80 (by rw [hC]; omega)
    (fun fuel cs x hlen ht => by
      have := struct_cells Tryd.underlying170 (by kernel_rfl) (by kernel_rfl) ht
      exact set_of_cells Tryd.underlying170 (by rw [hlen, hC]) this.2) h
  obtain ⟨l, rfl, hg⟩ := rows_map (f := cS) (G := SetZ.fine) (fun x hx => (hrows x hx).2)
  rw [hC] at hrd
  exact ⟨A, n, c, l, rfl, ⟨hrd, by simpa using hl, hg⟩, hm⟩

theorem ver_of_cells {cs : List Value} {fs : Array Field} (h1 : Tryd.prog.underlying 82 = some (.struct fs)) (hlen : cs.length = 4)
    (hf : ∀ (i : Nat) (f : Field), fs[i]? = some f → ∃ u n y, cs[i]? = some u ∧ DataW.trod enc Tryd.prog w 0 (fun _ => true) true n f.type [u] = some y) :
    ∃ x : VerC, cs = cV x ∧ x.fine w := by
  rw [Tryd.underlying82] at h1
  injection h1 with h1
  injection h1 with h1
  subst h1
  obtain ⟨u0, n0, y0, e0, t0⟩ := hf 0 _ rfl
  obtain ⟨u1, n1, y1, e1, t1⟩ := hf 1 _ rfl
  obtain ⟨u2, n2, y2, e2, t2⟩ := hf 2 _ rfl
  obtain ⟨u3, n3, y3, e3, t3⟩ := hf 3 _ rfl
  obtain ⟨a0, q0, _, b0⟩ := DataW.trod_int Tryd.underlying2 t0
  obtain ⟨a1, q1, _, b1⟩ := DataW.trod_int Tryd.underlying2 t1
  obtain ⟨s2, q2, _, b2⟩ := DataW.trod_string Tryd.underlying9 t2
  obtain ⟨A, n, c, x, q3, b3, b4⟩ := open_SetS_in t3
  simp only [List.cons.injEq, and_true] at q0 q1 q2
  subst q0 q1 q2 q3
  refine ⟨⟨a0, a1, s2, A, n, c, x⟩, ?_, wf_I64 b0, wf_I64 b1, by simpa [maxLen] using b2, b3, b4⟩
  match cs, hlen with
  | [c0, c1, c2, c3], _ =>
    simp at e0 e1 e2 e3
    subst e0 e1 e2 e3
    rfl

set_option maxRecDepth 100000 in
theorem open_VerS {r : Reach} {b0 : Nat} {v : Value} {d : DataW H} {p : List MemPlace} (hv : Value.okWide Tryd.prog w r b0 22 v) (h : DataW.Trod enc Tryd.prog w 0 (fun _ => true) true 22 v d p) :
    ∃ A n c x, v = .slice A n c ∧ RdVz w A n x ∧ n ≤ 9223372036854775807 := by
  have hC : Tryd.prog.cellsOf 82 = 4 := by kernel_rfl
  obtain ⟨A, n, c, rows, rfl, hm, hl, hrows, hrd⟩ := open_rows (fun cs => ∃ x : VerC, cs = cV x ∧ x.fine w) Tryd.underlying22 (by rw [hC]; omega)
    (fun fuel cs x hlen ht => by
      have := struct_cells Tryd.underlying82 (by kernel_rfl) (by kernel_rfl) ht
      exact ver_of_cells Tryd.underlying82 (by rw [hlen, hC]) this.2) hv h
  obtain ⟨l, rfl, hg⟩ := rows_map (f := cV) (G := VerC.fine w) (fun x hx => (hrows x hx).2)
  rw [hC] at hrd
  exact ⟨A, n, c, zV l, rfl, ⟨l, ⟨hrd, by simpa using hl, hg⟩, rfl⟩, hm⟩
end

end Go.Proofs.YtlomloepdnojoaaDoor
