/- An argument that is a slice of changes, opened. -/
import Derived.Test.YtmcdafaadodekaaOpenSet
import Derived.Test.YtmcdafaadodekaaStChange
namespace Go.Proofs.Ytmcdafaadodekaa
open Go.ChangeShapes Go.WideShapes Go.ChangeAt Go.RowKit Go.Deep
set_option linter.unusedVariables false

section
variable {H : Type} {enc : TypeId × Value → H} {w : World}
set_option maxRecDepth 100000 in
theorem chg_of_cells {fuel : Nat} {cs : List Value} {x : DataW H × List MemPlace} (hlen : cs.length = 3)
    (h : DataW.trod enc Try.prog w 0 (fun _ => true) true fuel 106 cs = some x) : ∃ x : ChangeZ, cs = kChange.c x ∧ kChange.fine x := by
  obtain ⟨ys, n, _, _, _, hyl, hf⟩ := DataW.trod_struct Try.underlying106 h
  have h0 : DataW.trod enc Try.prog w 0 (fun _ => true) true n 2 ((cs.drop 0).take (Try.prog.cellsOf 2)) = ys[0]? := hf 0 _ rfl
  have h1 : DataW.trod enc Try.prog w 0 (fun _ => true) true n 75 ((cs.drop 1).take (Try.prog.cellsOf 75)) = ys[1]? := hf 1 _ rfl
  have hC1 : Try.prog.cellsOf 2 = 1 := by kernel_rfl
  have hC2 : Try.prog.cellsOf 75 = 2 := by kernel_rfl
  match cs, hlen with
  | [c0, c1, c2], _ =>
    have hys : ys.length = 2 := hyl
    match ys, hys with
    | [y0, y1], _ =>
      rw [hC1] at h0
      rw [hC2] at h1
      have h0' : DataW.trod enc Try.prog w 0 (fun _ => true) true n 2 [c0] = some y0 := h0
      have h1' : DataW.trod enc Try.prog w 0 (fun _ => true) true n 75 [c1, c2] = some y1 := h1
      obtain ⟨a0, q0, _, b0⟩ := DataW.trod_int Try.underlying2 h0'
      have hs := struct_cells Try.underlying75 (by kernel_rfl) (by kernel_rfl) h1'
      obtain ⟨z, e, hz⟩ := set_of_cells Try.underlying75 rfl hs.2
      simp only [List.cons.injEq, and_true] at q0
      subst q0
      simp only [cS, List.cons.injEq, and_true] at e
      obtain ⟨rfl, rfl⟩ := e
      exact ⟨⟨a0, z.name, z.value⟩, rfl, wf_I64 b0, hz.1, hz.2⟩

set_option maxRecDepth 100000 in
theorem open_ChaS {r : Reach} {b0 : Nat} {v : Value} {d : DataW H} {p : List MemPlace} (hv : Value.okWide Try.prog w r b0 58 v) (h : DataW.Trod enc Try.prog w 0 (fun _ => true) true 58 v d p) :
    ∃ A n c x, v = .slice A n c ∧ RdK kChange w A n x ∧ n ≤ 9223372036854775807 := by
  have hC : Try.prog.cellsOf 106 = 3 := by kernel_rfl
  obtain ⟨A, n, c, rows, rfl, hm, hl, hrows, hrd⟩ := open_rows (fun cs => ∃ x : ChangeZ, cs = kChange.c x ∧ kChange.fine x) Try.underlying58 (by rw [hC]; omega)
    (fun fuel cs x hlen ht => chg_of_cells (by rw [hlen, hC]) ht) hv h
  obtain ⟨l, rfl, hg⟩ := rows_map (f := kChange.c) (G := kChange.fine) (fun x hx => (hrows x hx).2)
  rw [hC] at hrd
  exact ⟨A, n, c, l, rfl, ⟨hrd, by simpa using hl, hg⟩, hm⟩

end

end Go.Proofs.Ytmcdafaadodekaa
