/- copyCheck and WriteString of a strings.Builder, walked at this program (the shelf's layings fall here). -/
import Derived.Test.YtmpfkmbfbeejhaaDoorTextZ
import Derived.Test.YtmpfkmbfbeejhaaDoorShelp
import Derived.Lib.Builder
import Derived.Lib.AppendStr
import Derived.Shelf.Strings.Builder1
namespace Go.Proofs.YtmpfkmbfbeejhaaDoor
open Go.RowKit
set_option linter.unusedVariables false

theorem sizeBuil : (Tryd.prog.info? 79).map (·.size) = some 2 := by kernel_rfl
theorem liesBuil : liesAt Tryd.prog Tryd.prog.depth 79 (2 / Tryd.prog.cellsOf 79) 0 79 1 = true := by kernel_rfl
theorem infoByte : (Tryd.prog.info? 5).map (fun i => (i.zero, i.size, i.bytes)) = some (some (.int .u8 0), 1, 1) := by kernel_rfl

set_option maxHeartbeats 1000000 in
set_option maxRecDepth 100000 in
theorem copyUsed_calls (b : Nat) (w : World) (h0 : w.cell? ⟨b, 0, none⟩ = some (.pointer (some ⟨b, 0, none⟩))) :
    Calls Tryd.prog 71 #[.pointer (some ⟨b, 0, none⟩)] w fun e w' => e = .returned (.tuple #[]) ∧ w' = w := by
  obtain ⟨j, hj, _⟩ := Option.map_eq_some_iff.1 sizeBuil
  go_enter Tryd.func71, Tryd.ntmps71
  go_wp2
  rw [Lib.run_neq_ptr_same w _ Tryd.underlying77 hj]
  go_wp2
  go_end0
  exact ⟨rfl, rfl⟩
set_option maxHeartbeats 1000000 in
set_option maxRecDepth 100000 in
theorem copyFresh_calls (b : Nat) (w : World) (h0 : w.cell? ⟨b, 0, none⟩ = some (.pointer none)) (hsh : w.shape? b = some (79, 2)) (hfz : w.frozen? ⟨b, 0, none⟩ = false) :
    Calls Tryd.prog 71 #[.pointer (some ⟨b, 0, none⟩)] w fun e w' => e = .returned (.tuple #[]) ∧ w' = w.setCell ⟨b, 0, none⟩ (.pointer (some ⟨b, 0, none⟩)) := by
  obtain ⟨j, hj, hjs⟩ := Option.map_eq_some_iff.1 sizeBuil
  go_enter Tryd.func71, Tryd.ntmps71
  go_wp2
  rw [Lib.run_to_unsafe w ⟨b, 0, none⟩ Tryd.underlying77 Tryd.underlying119 hj (by rw [hjs]; decide) hsh (Nat.zero_lt_succ 1)]
  simp only [Result.andThen]
  rw [Oper.upon_value]
  go_wp2
  rw [run_callFunc_extern Tryd.func84 (by kernel_rfl) (by kernel_rfl) (by kernel_rfl) (e := Extern.AbiNoEscape.same) (by kernel_rfl)]
  rw [Lib.run_noEscape]
  simp only [Result.andThen]
  rw [Oper.upon_value]
  go_wp2
  rw [Lib.run_from_unsafe w ⟨b, 0, none⟩ Tryd.underlying119 Tryd.underlying77 hj hsh liesBuil]
  simp only [Result.andThen]
  rw [Oper.upon_value]
  go_wp2
  go_end0
  exact ⟨rfl, rfl⟩
theorem copyCheck_calls (B b : Nat) (bs : List Value) (w : World) (h : Lib.IsBuilder 79 5 B b bs w) :
    Calls Tryd.prog 71 #[.pointer (some ⟨b, 0, none⟩)] w fun e w' => e = .returned (.tuple #[]) ∧ Lib.BuilderAt 79 5 B b (.pointer (some ⟨b, 0, none⟩)) bs w' ∧ Below B w w' ∧ w'.heap.size = w.heap.size ∧ (∀ k, k ≠ b → w'.heap[k]? = w.heap[k]?) ∧ ∃ p v, w.heap[b]? = some (.cells #[p, v] 79 (0, 0)) ∧ w'.heap[b]? = some (.cells #[.pointer (some ⟨b, 0, none⟩), v] 79 (0, 0)) := by
  rcases h with h | h
  · refine (copyFresh_calls b w h.cell0 h.shape h.frozen0).mono ?_
    rintro e w' ⟨rfl, rfl⟩
    obtain ⟨_, v, hv, _⟩ := h
    exact ⟨rfl, Lib.BuilderAt.used ⟨‹_›, v, hv, ‹_›⟩ _, (Below.refl B w).setCell (p := ⟨b, 0, none⟩) (by assumption) _, by simp, fun k hk => heap_setCell_other _ _ _ _ hk, _, v, hv, heap_setCell_same w b 0 _ _ _ hv⟩
  · refine (copyUsed_calls b w h.cell0).mono ?_
    rintro e w' ⟨rfl, rfl⟩
    obtain ⟨_, v, hv, _⟩ := h
    exact ⟨rfl, ⟨‹_›, v, hv, ‹_›⟩, Below.refl B _, rfl, fun k _ => rfl, _, v, hv, hv⟩

set_option maxHeartbeats 2000000 in
set_option maxRecDepth 100000 in
/-- A text is written behind what a builder holds. -/
theorem writeS_calls (B b : Nat) (bs : List Value) (s : ByteArray) (w : World) (h : Lib.IsBuilder 79 5 B b bs w) (hlen : bs.length + s.size ≤ 140737488355328) (hBw : B ≤ w.heap.size) :
    Calls Tryd.prog 46 #[.pointer (some ⟨b, 0, none⟩), .string s] w fun e w' => e = .returned (.tuple #[.int .i64 s.size, .nilIface]) ∧ Lib.IsBuilder 79 5 B b (bs ++ Lib.strCells s) w' ∧ Below B w w' ∧ ∀ k, k ≠ b → k < w.heap.size → (∀ p v, w.heap[b]? = some (.cells #[p, v] 79 (0, 0)) → v.ownBlock ≠ some k) → w'.heap[k]? = w.heap[k]? := by
  obtain ⟨i0, hi, hz0, hz1, hz2⟩ := info_parts infoByte
  have HC := hide (copyCheck_calls B b bs w h)
  go_enter Tryd.func46, Tryd.ntmps46
  go_wp2_with fail
  refine HC.out.mono ?_
  rintro e w1 ⟨rfl, h1, hb1, hsz, hoth, hpv⟩
  obtain ⟨hB, v, hbk, hown, hne⟩ := h1
  have HKP : Hid (∀ k, k ≠ b → k < w.heap.size → (∀ p v, w.heap[b]? = some (.cells #[p, v] 79 (0, 0)) → v.ownBlock ≠ some k) → ∀ w2 u, w1.grownBy w2 v.ownBlock → (w2.setCell ⟨b, 1, none⟩ u).heap[k]? = w.heap[k]?) := by
    intro k hk hkl hq w2 u hg
    obtain ⟨p0, v0, hv0, hv1⟩ := hpv
    obtain rfl : v = v0 := by
      rw [hbk] at hv1
      simp at hv1
      exact hv1
    rw [heap_setCell_other _ _ _ _ hk, hg.block k (by omega) (fun e => hq _ _ hv0 e.symm), hoth k hk]
  clear hpv hoth hsz
  have c0 : w1.cell? ⟨b, 0, none⟩ = some (.pointer (some ⟨b, 0, none⟩)) := by rw [Lib.cell_of_heap hbk]; rfl
  have c1 : w1.cell? ⟨b, 1, none⟩ = some v := by rw [Lib.cell_of_heap hbk]; rfl
  have hz1' := hb1.size
  have HOW := hide hown
  have HBK := hide hbk
  clear hown hbk
  have hlt : b < w1.heap.size := by
    rcases Nat.lt_or_ge b w1.heap.size with h' | h'
    · exact h'
    · have := HBK.out; simp [Array.getElem?_eq_none h'] at this
  have HB2F : Hid (∀ w2, w1.grownBy w2 v.ownBlock → w2.heap[b]? = some (.cells #[.pointer (some ⟨b, 0, none⟩), v] 79 (0, 0))) := fun w2 hgrow => by
    rw [hgrow.block b hlt (fun e => hne e.symm)]
    exact HBK.out
  go_wp2_with (at_builtin; refine Lib.wpList_append_own_string _ rfl _ _ 22 9 rfl B 5 i0 Tryd.underlying22 Tryd.underlying9 hi hz0 hz1 hz2 _ _ _ rfl HOW.out s rfl (by unfold maxLen; omega) (by omega) (by omega) ?_; intro v' w2 hown' hgrow hat; obtain ⟨ao, cap, rfl⟩ := own_slice hown'; have hb2 := HB2F.out w2 hgrow; have f1 : w2.frozen? ⟨b, 1, none⟩ = false := Lib.frozen_of_heap hb2 1; have d1 : w2.cell? ⟨b, 1, none⟩ = some v := by rw [Lib.cell_of_heap hb2]; rfl)
  have HO2 := hide hown'
  have HB2 := hide hb2
  clear hown' hb2
  go_wp2
  go_ret2
  refine ⟨rfl, .inr ?_, ?_, fun k h1 h2 h3 => HKP.out k h1 h2 h3 _ _ hgrow⟩
  · exact Lib.BuilderAt.put (T := 79) (e := 5) hB HB2.out (bs' := bs ++ Lib.strCells s) (by simpa [Lib.strCells_length] using HO2.out) (by decide)
  · exact (hb1.grown hgrow (by omega) (fun k hk => (HOW.out.lt k hk).1)).setCell (p := ⟨b, 1, none⟩) hB _

end Go.Proofs.YtmpfkmbfbeejhaaDoor
