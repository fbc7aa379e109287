/- Arguments that are of Line, or slices of it, opened. Printed by gen_open.py. -/
import Derived.Test.YtlomloepdnojoaaGreatDoorOpenS
import Derived.Test.YtlomloepdnojoaaGreatDoorStLine
namespace Go.Proofs.YtlomloepdnojoaaGreatDoor
open Go.ChangeShapes Go.WideShapes Go.ChangeAt Go.RowKit Go.Deep

section
variable {H : Type} {enc : TypeId × Value → H} {w : World}
theorem line_of_cells {cs : List Value} {fs : Array Field} (h1 : Tryz.prog.underlying 54 = some (.struct fs)) (hlen : cs.length = 4)
    (hf : ∀ (i : Nat) (f : Field), fs[i]? = some f → ∃ u n y, cs[i]? = some u ∧ DataW.trod enc Tryz.prog w 0 (fun _ => true) true n f.type [u] = some y) :
    ∃ x : LineZ, cs = kLine.c x ∧ kLine.fine x := by
  rw [Tryz.underlying54] at h1
  injection h1 with h1
  injection h1 with h1
  subst h1
  obtain ⟨u0, n0, y0, e0, t0⟩ := hf 0 _ rfl
  obtain ⟨u1, n1, y1, e1, t1⟩ := hf 1 _ rfl
  obtain ⟨u2, n2, y2, e2, t2⟩ := hf 2 _ rfl
  obtain ⟨u3, n3, y3, e3, t3⟩ := hf 3 _ rfl
  obtain ⟨a0, q0, _, b0⟩ := DataW.trod_int Tryz.underlying2 t0
  obtain ⟨a1, q1, _, b1⟩ := DataW.trod_int Tryz.underlying2 t1
  obtain ⟨s2, q2, _, b2⟩ := DataW.trod_string Tryz.underlying9 t2
  obtain ⟨a3, q3, _, b3⟩ := DataW.trod_int Tryz.underlying2 t3
  simp only [List.cons.injEq, and_true] at q0 q1 q2 q3
  subst q0 q1 q2 q3
  refine ⟨⟨a0, a1, s2, a3⟩, ?_, wf_I64 b0, wf_I64 b1, by simpa [maxLen] using b2, wf_I64 b3⟩
  match cs, hlen with
  | [c0, c1, c2, c3], _ =>
    simp at e0 e1 e2 e3
    subst e0 e1 e2 e3
    rfl

set_option maxRecDepth 100000 in
theorem open_LineS {r : Reach} {b0 : Nat} {v : Value} {d : DataW H} {p : List MemPlace} (hv : Value.okWide Tryz.prog w r b0 22 v) (h : DataW.Trod enc Tryz.prog w 0 (fun _ => true) true 22 v d p) :
    ∃ A n c x, v = .slice A n c ∧ RdK kLine w A n x ∧ n ≤ 9223372036854775807 := by
  have hC : Tryz.prog.cellsOf 54 = 4 := by kernel_rfl
  obtain ⟨A, n, c, rows, rfl, hm, hl, hrows, hrd⟩ := open_rows (fun cs => ∃ x : LineZ, cs = kLine.c x ∧ kLine.fine x) Tryz.underlying22 (by rw [hC]; omega)
    (fun fuel cs x hlen ht => by
      have := struct_cells Tryz.underlying54 (by kernel_rfl) (by kernel_rfl) ht
      exact line_of_cells Tryz.underlying54 (by rw [hlen, hC]) this.2) hv h
  obtain ⟨l, rfl, hg⟩ := rows_map (f := kLine.c) (G := kLine.fine) (fun x hx => (hrows x hx).2)
  rw [hC] at hrd
  exact ⟨A, n, c, l, rfl, ⟨hrd, by simpa using hl, hg⟩, hm⟩

set_option maxRecDepth 100000 in
theorem open_Line1 {r : Reach} {b0 : Nat} {v : Value} {d : DataW H} {p : List MemPlace} (hv : Value.okWide Tryz.prog w r b0 54 v) (h : DataW.Trod enc Tryz.prog w 0 (fun _ => true) true 54 v d p) :
    ∃ x : LineZ, v = .agg #[.int .i64 x.day, .int .i64 x.minute, .string x.text, .int .i64 x.crc] ∧ kLine.fine x := by
  obtain ⟨cs, rfl, hlen, hf⟩ := open_agg Tryz.underlying54 (by kernel_rfl) (by kernel_rfl) hv h
  obtain ⟨x, rfl, h1⟩ := line_of_cells Tryz.underlying54 hlen hf
  exact ⟨x, rfl, h1⟩
end

end Go.Proofs.YtlomloepdnojoaaGreatDoor
