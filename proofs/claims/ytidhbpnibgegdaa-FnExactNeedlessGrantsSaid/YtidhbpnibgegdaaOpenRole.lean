/- Arguments that are slices of roles, slices of grants, a grant: opened. -/
import Derived.Test.YtidhbpnibgegdaaOpenS
import Derived.Test.YtidhbpnibgegdaaRoleTo
import Derived.Test.YtidhbpnibgegdaaStGrant
namespace Go.Proofs.Ytidhbpnibgegdaa
open Go.ChangeShapes Go.WideShapes Go.ChangeAt Go.RowKit Go.Deep
set_option linter.unusedVariables false

section
variable {H : Type} {enc : TypeId × Value → H} {w : World}
set_option maxRecDepth 100000 in
theorem open_StrS_in {u : Value} {fuel : Nat} {y : DataW H × List MemPlace} (h : DataW.trod enc Try.prog w 0 (fun _ => true) true fuel 29 [u] = some y) :
    ∃ A n c x, u = .slice A n c ∧ RdK kB w A n x ∧ n ≤ 9223372036854775807 := by
  have hC : Try.prog.cellsOf 9 = 1 := by kernel_rfl
  obtain ⟨A, n, c, rows, rfl, hm, hl, hrows, hrd⟩ := open_rows_in (fun cs => ∃ x : ByteArray, cs = kB.c x ∧ kB.fine x) Try.underlying29 (by rw [hC]; omega)
    (fun fuel cs x hlen ht => by
      obtain ⟨s0, q0, _, b0⟩ := DataW.trod_string Try.underlying9 ht
      exact ⟨s0, q0, by simpa [kB, maxLen] using b0⟩) h
  obtain ⟨l, rfl, hg⟩ := rows_map (f := kB.c) (G := kB.fine) (fun x hx => (hrows x hx).2)
  rw [hC] at hrd
  exact ⟨A, n, c, l, rfl, ⟨hrd, by simpa using hl, hg⟩, hm⟩

theorem role_of_cells {cs : List Value} {fs : Array Field} (h1 : Try.prog.underlying 69 = some (.struct fs)) (hlen : cs.length = 2)
    (hf : ∀ (i : Nat) (f : Field), fs[i]? = some f → ∃ u n y, cs[i]? = some u ∧ DataW.trod enc Try.prog w 0 (fun _ => true) true n f.type [u] = some y) :
    ∃ x : RoleC, cs = cR x ∧ x.fine w := by
  rw [Try.underlying69] at h1
  injection h1 with h1
  injection h1 with h1
  subst h1
  obtain ⟨u2, n2, y2, e2, t2⟩ := hf 0 _ rfl
  obtain ⟨u3, n3, y3, e3, t3⟩ := hf 1 _ rfl
  obtain ⟨s2, q2, _, b2⟩ := DataW.trod_string Try.underlying9 t2
  obtain ⟨A, n, c, x, q3, b3, b4⟩ := open_StrS_in t3
  simp only [List.cons.injEq, and_true] at q2
  subst q2 q3
  refine ⟨⟨s2, A, n, c, x⟩, ?_, by simpa [maxLen] using b2, b3, b4⟩
  match cs, hlen with
  | [c0, c1], _ =>
    simp at e2 e3
    subst e2 e3
    rfl

set_option maxRecDepth 100000 in
theorem open_RolS {r : Reach} {b0 : Nat} {v : Value} {d : DataW H} {p : List MemPlace} (hv : Value.okWide Try.prog w r b0 22 v) (h : DataW.Trod enc Try.prog w 0 (fun _ => true) true 22 v d p) :
    ∃ A n c x, v = .slice A n c ∧ RdRz w A n x ∧ n ≤ 9223372036854775807 := by
  have hC : Try.prog.cellsOf 69 = 2 := by kernel_rfl
  obtain ⟨A, n, c, rows, rfl, hm, hl, hrows, hrd⟩ := open_rows (fun cs => ∃ x : RoleC, cs = cR x ∧ x.fine w) Try.underlying22 (by rw [hC]; omega)
    (fun fuel cs x hlen ht => by
      have := struct_cells Try.underlying69 (by kernel_rfl) (by kernel_rfl) ht
      exact role_of_cells Try.underlying69 (by rw [hlen, hC]) this.2) hv h
  obtain ⟨l, rfl, hg⟩ := rows_map (f := cR) (G := RoleC.fine w) (fun x hx => (hrows x hx).2)
  rw [hC] at hrd
  exact ⟨A, n, c, zR l, rfl, ⟨l, ⟨hrd, by simpa using hl, hg⟩, rfl⟩, hm⟩

theorem grant_of_cells {cs : List Value} {fs : Array Field} (h1 : Try.prog.underlying 46 = some (.struct fs)) (hlen : cs.length = 3)
    (hf : ∀ (i : Nat) (f : Field), fs[i]? = some f → ∃ u n y, cs[i]? = some u ∧ DataW.trod enc Try.prog w 0 (fun _ => true) true n f.type [u] = some y) :
    ∃ x : GrantZ, cs = kGrant.c x ∧ kGrant.fine x := by
  rw [Try.underlying46] at h1
  injection h1 with h1
  injection h1 with h1
  subst h1
  obtain ⟨u0, n0, y0, e0, t0⟩ := hf 0 _ rfl
  obtain ⟨u1, n1, y1, e1, t1⟩ := hf 1 _ rfl
  obtain ⟨u2, n2, y2, e2, t2⟩ := hf 2 _ rfl
  obtain ⟨s0, q0, _, b0⟩ := DataW.trod_string Try.underlying9 t0
  obtain ⟨s1, q1, _, b1⟩ := DataW.trod_string Try.underlying9 t1
  obtain ⟨a, q2, _, b2⟩ := DataW.trod_int Try.underlying2 t2
  simp only [List.cons.injEq, and_true] at q0 q1 q2
  subst q0 q1 q2
  refine ⟨⟨s0, s1, a⟩, ?_, by simpa [maxLen] using b0, by simpa [maxLen] using b1, wf_I64 b2⟩
  match cs, hlen with
  | [c0, c1, c2], _ =>
    simp at e0 e1 e2
    subst e0 e1 e2
    rfl
set_option maxRecDepth 100000 in
theorem open_GraS {r : Reach} {b0 : Nat} {v : Value} {d : DataW H} {p : List MemPlace} (hv : Value.okWide Try.prog w r b0 36 v) (h : DataW.Trod enc Try.prog w 0 (fun _ => true) true 36 v d p) :
    ∃ A n c x, v = .slice A n c ∧ RdK kGrant w A n x ∧ n ≤ 9223372036854775807 := by
  have hC : Try.prog.cellsOf 46 = 3 := by kernel_rfl
  obtain ⟨A, n, c, rows, rfl, hm, hl, hrows, hrd⟩ := open_rows (fun cs => ∃ x : GrantZ, cs = kGrant.c x ∧ kGrant.fine x) Try.underlying36 (by rw [hC]; omega)
    (fun fuel cs x hlen ht => by
      have := struct_cells Try.underlying46 (by kernel_rfl) (by kernel_rfl) ht
      exact grant_of_cells Try.underlying46 (by rw [hlen, hC]) this.2) hv h
  obtain ⟨l, rfl, hg⟩ := rows_map (f := kGrant.c) (G := kGrant.fine) (fun x hx => (hrows x hx).2)
  rw [hC] at hrd
  exact ⟨A, n, c, l, rfl, ⟨hrd, by simpa using hl, hg⟩, hm⟩
set_option maxRecDepth 100000 in
theorem open_Gra {r : Reach} {b0 : Nat} {v : Value} {d : DataW H} {p : List MemPlace} (hv : Value.okWide Try.prog w r b0 46 v) (h : DataW.Trod enc Try.prog w 0 (fun _ => true) true 46 v d p) :
    ∃ x : GrantZ, v = .agg #[.string x.role, .string x.object, .int .i64 x.action] ∧ kGrant.fine x := by
  obtain ⟨cs, rfl, hlen, hf⟩ := open_agg Try.underlying46 (by kernel_rfl) (by kernel_rfl) hv h
  obtain ⟨x, rfl, h1⟩ := grant_of_cells Try.underlying46 hlen hf
  exact ⟨x, rfl, h1⟩
end

end Go.Proofs.Ytidhbpnibgegdaa
