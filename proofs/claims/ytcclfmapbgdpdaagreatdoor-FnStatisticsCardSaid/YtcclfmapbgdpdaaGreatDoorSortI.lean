/- slices.Sort over int64s of the call's own, in my own words. -/
import Derived.Test.YtcclfmapbgdpdaaGreatDoorFill
import Derived.Test.YtcclfmapbgdpdaaGreatDoorShSort
import Derived.Sort.OwnSorted
import Derived.Lib.OwnBridge
namespace Go.Proofs.YtcclfmapbgdpdaaGreatDoor
open Go.RowKit Go.Sort Go.Lib
set_option linter.unusedVariables false

theorem sortI_calls (A : Option Addr) (n c base : Nat) (xs : List Int) (w : World) (hown : w.ownsRow base 2 1 (.slice A n c) n (cI xs)) (h1 : 1 ≤ n) (hn : n ≤ 1048576) (hbase : base ≤ w.heap.size) :
    Calls Tryz.prog 154 #[.slice A n c] w fun e w' => e = .returned (.tuple #[]) ∧ w'.ownsRow base 2 1 (.slice A n c) n (cI (xs.mergeSort fun x y => decide (x ≤ y))) ∧ Below base w w' := by
  obtain ⟨g, cap, hv, hbg, hlt, hnc, hcm, hl, hH⟩ := holds_of_ownsRow (enc := Value.int .i64) (zs := xs) hown (by intro e; injection e with _ e; omega)
  injection hv with hv1 _ hv3
  subst hv1 hv3
  have hc := Tryz.slices_Sort_i64 g 0 c xs w hH hlt (by omega)
  rw [hl] at hc
  refine hc.mono ?_
  rintro e w' ⟨rfl, q, os, rfl⟩
  have hm : (xs.mergeSort fun x y => decide (x ≤ y)).length = xs.length := (List.mergeSort_perm _ _).length_eq
  have hso := ownsRow_putRow (enc := Value.int .i64) (q := q) (k := n) (ys := xs.mergeSort fun x y => decide (x ≤ y)) hown (by omega) (Nat.le_refl _)
  rw [List.take_of_length_le (by omega)] at hso
  have hW := below_putRow (enc := Value.int .i64) (q := q) (d := (xs.mergeSort fun x y => decide (x ≤ y)).toArray) (Below.refl base w) hbg
  have hG : Below (putRow (Value.int .i64) (Sort.ahead w q) g 0 (xs.mergeSort fun x y => decide (x ≤ y)).toArray).heap.size (putRow (Value.int .i64) (Sort.ahead w q) g 0 (xs.mergeSort fun x y => decide (x ≤ y)).toArray) (grow (putRow (Value.int .i64) (Sort.ahead w q) g 0 (xs.mergeSort fun x y => decide (x ≤ y)).toArray) os) := ⟨rfl, rfl, rfl, by simp [grow], fun k hk => Go.Sort.heap_grow_old _ _ hk⟩
  exact ⟨rfl, own_below hso hG (Nat.le_refl _), hW.trans (hG.mono (Nat.le_trans hbase hW.size))⟩

end Go.Proofs.YtcclfmapbgdpdaaGreatDoor
