/- An argument that is a grant, opened. -/
import Derived.Test.YtjilagbifcokoaaOpenS
import Derived.Test.YtjilagbifcokoaaGrant
namespace Go.Proofs.Ytjilagbifcokoaa
open Go.ChangeShapes Go.WideShapes Go.ChangeAt Go.RowKit Go.Deep

section
variable {H : Type} {enc : TypeId × Value → H} {w : World}
theorem grant_of_cells {cs : List Value} {fs : Array Field} (h1 : Try.prog.underlying 37 = some (.struct fs)) (hlen : cs.length = 3)
    (hf : ∀ (i : Nat) (f : Field), fs[i]? = some f → ∃ u n y, cs[i]? = some u ∧ DataW.trod enc Try.prog w 0 (fun _ => true) true n f.type [u] = some y) :
    ∃ x : GrantZ, cs = cG x ∧ x.role.size ≤ 9223372036854775807 ∧ x.object.size ≤ 9223372036854775807 ∧ I64 x.action := by
  rw [Try.underlying37] at h1
  injection h1 with h1
  injection h1 with h1
  subst h1
  obtain ⟨u0, n0, y0, e0, t0⟩ := hf 0 _ rfl
  obtain ⟨u1, n1, y1, e1, t1⟩ := hf 1 _ rfl
  obtain ⟨u2, n2, y2, e2, t2⟩ := hf 2 _ rfl
  obtain ⟨s0, q0, _, b0⟩ := DataW.trod_string Try.underlying9 t0
  obtain ⟨s1, q1, _, b1⟩ := DataW.trod_string Try.underlying9 t1
  obtain ⟨a, q2, _, b2⟩ := DataW.trod_int Try.underlying2 t2
  simp only [List.cons.injEq, and_true] at q0 q1 q2
  subst q0 q1 q2
  refine ⟨⟨s0, s1, a⟩, ?_, by simpa [maxLen] using b0, by simpa [maxLen] using b1, wf_I64 b2⟩
  match cs, hlen with
  | [c0, c1, c2], _ =>
    simp at e0 e1 e2
    subst e0 e1 e2
    rfl

theorem open_Grant {r : Reach} {b0 : Nat} {v : Value} {d : DataW H} {p : List MemPlace} (hv : Value.okWide Try.prog w r b0 37 v) (h : DataW.Trod enc Try.prog w 0 (fun _ => true) true 37 v d p) :
    ∃ x : GrantZ, v = .agg #[.string x.role, .string x.object, .int .i64 x.action] ∧ x.role.size ≤ 9223372036854775807 ∧ x.object.size ≤ 9223372036854775807 := by
  obtain ⟨cs, rfl, hlen, hf⟩ := open_agg Try.underlying37 (by kernel_rfl) (by kernel_rfl) hv h
  obtain ⟨x, rfl, h1, h2, _⟩ := grant_of_cells Try.underlying37 hlen hf
  exact ⟨x, rfl, h1, h2⟩
end

end Go.Proofs.Ytjilagbifcokoaa
