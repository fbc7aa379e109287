/- TopDays of the program: the comparing closure, the two sorts. -/
import Derived.Test.YtmpfkmbfbeejhaaTopS
import Derived.Test.YtmpfkmbfbeejhaaStab
import Derived.Test.YtmpfkmbfbeejhaaShSort
import Derived.Test.YtmpfkmbfbeejhaaSigns
import Derived.Test.YtmpfkmbfbeejhaaAppI
import Derived.Lib.OwnBridge
namespace Go.Proofs.Ytmpfkmbfbeejhaa
open Go.Shelf Go.RowKit Go.Lib Go.Sort
set_option linter.unusedVariables false

theorem row_take {w : World} {base n k g cap : Nat} {e : TypeId} {cs : List Value} (h : w.ownsRow base e 1 (.slice (some ⟨g, 0, none⟩) n cap) n cs) (hk : k ≤ n) : w.ownsRow base e 1 (.slice (some ⟨g, 0, none⟩) k cap) k (cs.take k) := by
  rcases h.2 with ⟨e0, _⟩ | ⟨g', cap', cur, e0, hb, hg, hn, hm, hs, ht⟩
  · cases e0
  · injection e0 with e1 _ e3
    injection e1 with e1
    injection e1 with e1
    subst e1; subst e3
    have hl := h.1
    refine ⟨by rw [List.length_take]; omega, .inr ⟨g, cap, cur, rfl, hb, hg, by omega, hm, hs, ?_⟩⟩
    rw [← ht, List.take_take]
    congr 1
    omega
theorem below_grown (w : World) (os : Array Obj) : Below w.heap.size w (grow w os) := ⟨rfl, rfl, rfl, by simp [grow], fun k hk => Go.Sort.heap_grow_old _ _ hk⟩
theorem below_sorted {α : Type} [Inhabited α] {enc : α → Value} {w : World} {base g m : Nat} (d : Array α) (os : Array Obj) (hg : base ≤ g) (hb : base ≤ w.heap.size) : Below base w (sortWorld enc w g 0 m d os) := by
  have h1 := below_putRow (enc := enc) (q := m) (d := d) (Below.refl base w) hg
  exact h1.trans ((below_grown _ os).mono (Nat.le_trans hb h1.size))

set_option maxHeartbeats 2000000 in
theorem topClos_calls (A : Option Addr) (n c bx x y : Nat) (xs : List Int) (w : World) (h : RdI w A n xs) (hb : w.cell? ⟨bx, 0, none⟩ = some (.slice A n c)) (hx : x < n) (hy : y < n) :
    Calls Try.prog 47 #[.int .i64 x, .int .i64 y, .pointer (some ⟨bx, 0, none⟩)] w fun e w' => e = .returned (.int .i64 (cmpZ (valI xs y) (valI xs x))) ∧ ∃ q, w' = w.drewN q := by
  obtain ⟨b1, off1, v1, hA, hb1, hv1, hc1, _, _⟩ := h.at hx
  obtain ⟨b2, off2, v2, hA2, hb2, hv2, hc2, _, _⟩ := h.at hy
  subst hA
  obtain ⟨rfl, rfl⟩ : b1 = b2 ∧ off1 = off2 := by simpa using hA2
  rw [valI_at hv1.out, valI_at hv2.out]
  have i1 : (0 : Int) ≤ (x : Int) := by omega
  have i2 : (x : Int) < (n : Int) := by omega
  have i3 : (0 : Int) ≤ (y : Int) := by omega
  have i4 : (y : Int) < (n : Int) := by omega
  clear h hA2 hv1 hv2
  go_enter Try.func47, Try.ntmps47
  go_wp2
  go_quiet ((go_at_call 48; exact Calls.quiet_of_same ((cmpI_calls v2 v1 _).mono fun _ _ hh => ⟨hh.1, hh.2.symm⟩)))
  go_wp2
  go_ret
  exact ⟨rfl, _, rfl⟩

/-! ### the days as places -/
theorem fin_range (n : Nat) : (List.finRange n).map (fun x : Fin n => x.val) = List.range n := by
  refine List.ext_getElem (by simp) fun k h1 h2 => ?_
  simp
theorem fin_days (n : Nat) : (List.finRange n).map (fun x : Fin n => ((x.val : Nat) : Int)) = dayL n := by
  unfold dayL
  rw [← fin_range, List.map_map]
  rfl
theorem fin_list (n : Nat) : (List.finRange n).map (fun x : Fin n => Value.int .i64 ((x.val : Nat) : Int)) = cI (dayL n) := by
  unfold cI
  rw [← fin_days, List.map_map]
  rfl
theorem fin_sorted (n : Nat) : (List.finRange n).Pairwise (· < ·) := List.pairwise_lt_finRange n

set_option maxHeartbeats 2000000 in
theorem sortDays_calls (A : Option Addr) (n c bx g cap base : Nat) (xs : List Int) (w : World) (hl : xs.length = n) (h1 : 1 ≤ n) (hn : n ≤ 1048575) (hcl : ∀ W, Below base w W → RdI W A n xs ∧ W.cell? ⟨bx, 0, none⟩ = some (.slice A n c)) (hbase : base ≤ w.heap.size)
    (hown : w.ownsRow base 2 1 (.slice (some ⟨g, 0, none⟩) n cap) n (cI (dayL n))) :
    Calls Try.prog 46 #[.slice (some ⟨g, 0, none⟩) n cap, .func (.func 47) #[] #[.pointer (some ⟨bx, 0, none⟩)]] w fun e w' =>
      e = .returned (.tuple #[]) ∧ w'.ownsRow base 2 1 (.slice (some ⟨g, 0, none⟩) n cap) n (cI (dayO xs)) ∧ Below base w w' := by
  haveI : Inhabited (Fin n) := ⟨⟨0, h1⟩⟩
  have hown' := hown
  rw [← fin_list n] at hown'
  obtain ⟨g', cap', hv, hbg, hlt, hnc, hcm, hzl, hH⟩ := holds_of_ownsRow (enc := fun x : Fin n => Value.int .i64 ((x.val : Nat) : Int)) (zs := List.finRange n) hown' (by intro e; injection e with e; cases e)
  injection hv with hv1 _ hv3
  injection hv1 with hv1
  injection hv1 with hv1
  subst hv1 hv3
  have T : Told (fun x : Fin n => Value.int .i64 ((x.val : Nat) : Int)) (fun x y => cmpZ (valI xs (y.val : Nat)) (valI xs (x.val : Nat))) 47 #[.pointer (some ⟨bx, 0, none⟩)] g 0 (List.finRange n).toArray w (fun x y => Ahd xs (x.val : Nat) (y.val : Nat)) (fun x y => x < y) := by
    refine ⟨⟨fun x => rfl, hH, hlt⟩, Try.call47, ?_, by rw [List.size_toArray]; omega, fun x y z => ahd_trans, ?_, ?_⟩
    · intro m os dk hs x y
      have hb := below_sorted (enc := fun x : Fin n => Value.int .i64 ((x.val : Nat) : Int)) (m := m) dk os hbg hbase
      obtain ⟨r1, r2⟩ := hcl _ hb
      refine (topClos_calls A n c bx x.val y.val xs _ r1 r2 x.isLt y.isLt).mono ?_
      rintro e w' ⟨he, q, hq⟩
      exact ⟨he, q, #[], by rw [hq, grow_empty]⟩
    · intro x y hxy hc
      refine .inl ?_
      unfold cmpZ at hc
      split at hc
      · assumption
      · split at hc <;> omega
    · intro x y hxy hc
      have h0 : (y.val : Nat) < x.val := hxy
      unfold cmpZ at hc
      unfold Ahd
      split at hc
      · omega
      · omega
  have tot : Tot (fun x y : Fin n => Ahd xs (x.val : Nat) (y.val : Nat)) := ⟨fun x => ahd_irrefl _ _, fun x y z => ahd_trans, fun x y hxy => ahd_total (by intro e; exact hxy (Fin.ext (by omega)))⟩
  have hc := sortStable_calls (fun x : Fin n => Value.int .i64 ((x.val : Nat) : Int)) (fun x y => cmpZ (valI xs (y.val : Nat)) (valI xs (x.val : Nat))) 47 #[.pointer (some ⟨bx, 0, none⟩)] g 0 cap (List.finRange n).toArray w _ _ T tot (fun x => by simp) (by simpa using fin_sorted n) n (by rw [List.size_toArray]; exact hzl.symm)
  refine hc.mono ?_
  rintro e w' ⟨rfl, d', p1, p2, p3, m, os, rfl⟩
  have hso := ownsRow_putRow (enc := fun x : Fin n => Value.int .i64 ((x.val : Nat) : Int)) (q := m) (k := n) (ys := d'.toList) hown' (by rw [Array.length_toList]; exact p3) (Nat.le_refl _)
  rw [List.take_of_length_le (by rw [Array.length_toList]; omega)] at hso
  have e1 : d'.toList.map (fun x : Fin n => ((x.val : Nat) : Int)) = dayO xs := by
    refine dayO_of ?_ ?_
    · rw [hl, ← fin_days n]
      have := p1.map (fun x : Fin n => ((x.val : Nat) : Int))
      simpa using this
    · rw [List.pairwise_map]; exact p2
  have e2 : d'.toList.map (fun x : Fin n => Value.int .i64 ((x.val : Nat) : Int)) = cI (dayO xs) := by
    rw [← e1]; unfold cI; rw [List.map_map]; rfl
  rw [e2] at hso
  exact ⟨rfl, own_below hso (below_grown _ os) (Nat.le_refl _), below_sorted d' os hbg hbase⟩

/-- slices.Sort over the first numbers of a row of the call's own. -/
theorem sortRow_calls (g n c base : Nat) (xs : List Int) (w : World) (hown : w.ownsRow base 2 1 (.slice (some ⟨g, 0, none⟩) n c) n (cI xs)) (hn : n ≤ 1048576) (hbase : base ≤ w.heap.size) :
    Calls Try.prog 49 #[.slice (some ⟨g, 0, none⟩) n c] w fun e w' => e = .returned (.tuple #[]) ∧ w'.ownsRow base 2 1 (.slice (some ⟨g, 0, none⟩) n c) n (cI (sortZ xs)) ∧ Below base w w' := by
  obtain ⟨g', cap, hv, hbg, hlt, hnc, hcm, hl, hH⟩ := holds_of_ownsRow (enc := Value.int .i64) (zs := xs) hown (by intro e; injection e with e; cases e)
  injection hv with hv1 _ hv3
  injection hv1 with hv1
  injection hv1 with hv1
  subst hv1 hv3
  have hc := Try.slices_Sort_i64 g 0 c xs w hH hlt (by omega)
  rw [hl] at hc
  refine hc.mono ?_
  rintro e w' ⟨rfl, q, os, rfl⟩
  have hm : (sortZ xs).length = xs.length := sortZ_len xs
  have hso := ownsRow_putRow (enc := Value.int .i64) (q := q) (k := n) (ys := sortZ xs) hown (by omega) (Nat.le_refl _)
  rw [List.take_of_length_le (by omega)] at hso
  have hW := below_putRow (enc := Value.int .i64) (q := q) (d := (sortZ xs).toArray) (Below.refl base w) hbg
  exact ⟨rfl, own_below hso (below_grown _ os) (Nat.le_refl _), hW.trans ((below_grown _ os).mono (Nat.le_trans hbase hW.size))⟩

end Go.Proofs.Ytmpfkmbfbeejhaa
