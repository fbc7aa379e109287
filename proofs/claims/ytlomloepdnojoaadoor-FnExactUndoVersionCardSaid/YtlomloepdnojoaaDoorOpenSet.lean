/- An argument that is a slice of settings, opened. -/
import Derived.Test.YtlomloepdnojoaaDoorOpenS
import Derived.Test.YtlomloepdnojoaaDoorSet
namespace Go.Proofs.YtlomloepdnojoaaDoor
open Go.ChangeShapes Go.WideShapes Go.ChangeAt Go.RowKit Go.Deep

section
variable {H : Type} {enc : TypeId × Value → H} {w : World}
theorem set_of_cells {cs : List Value} {fs : Array Field} (h1 : Tryd.prog.underlying 170 = some (.struct fs)) (hlen : cs.length = 2)
    (hf : ∀ (i : Nat) (f : Field), fs[i]? = some f → ∃ u n y, cs[i]? = some u ∧ DataW.trod enc Tryd.prog w 0 (fun _ => true) true n f.type [u] = some y) :
    ∃ x : SetZ, cs = cS x ∧ x.fine := by
  rw [Tryd.underlying170] at h1
  injection h1 with h1
  injection h1 with h1
  subst h1
  obtain ⟨u0, n0, y0, e0, t0⟩ := hf 0 _ rfl
  obtain ⟨u1, n1, y1, e1, t1⟩ := hf 1 _ rfl
  obtain ⟨s0, q0, _, b0⟩ := DataW.trod_string Tryd.underlying9 t0
  obtain ⟨a, q1, _, b1⟩ := DataW.trod_int Tryd.underlying2 t1
  simp only [List.cons.injEq, and_true] at q0 q1
  subst q0 q1
  refine ⟨⟨s0, a⟩, ?_, by simpa [maxLen] using b0, wf_I64 b1⟩
  match cs, hlen with
  | [c0, c1], _ =>
    simp at e0 e1
    subst e0 e1
    rfl

set_option maxRecDepth 100000 in
theorem open_SetS {r : Reach} {b0 : Nat} {v : Value} {d : DataW H} {p : List MemPlace} (hv : Value.okWide Tryd.prog w r b0 80 v) (h : DataW.Trod enc Tryd.prog w 0 (fun _ => true) true 80 v d p) :
    ∃ A n c x, v = .slice A n c ∧ RdS w A n x ∧ n ≤ 9223372036854775807 := by
  have hC : Tryd.prog.cellsOf 170 = 2 := by kernel_rfl
  obtain ⟨A, n, c, rows, rfl, hm, hl, hrows, hrd⟩ := open_rows (fun cs => ∃ x : SetZ, cs = cS x ∧ x.fine) Tryd.underlying80 (by rw [hC]; omega)
    (fun fuel cs x hlen ht => by
      have := struct_cells Tryd.underlying170 (by kernel_rfl) (by kernel_rfl) ht
      exact set_of_cells Tryd.underlying170 (by rw [hlen, hC]) this.2) hv h
  obtain ⟨l, rfl, hg⟩ := rows_map (f := cS) (G := SetZ.fine) (fun x hx => (hrows x hx).2)
  rw [hC] at hrd
  exact ⟨A, n, c, l, rfl, ⟨hrd, by simpa using hl, hg⟩, hm⟩
end

end Go.Proofs.YtlomloepdnojoaaDoor
