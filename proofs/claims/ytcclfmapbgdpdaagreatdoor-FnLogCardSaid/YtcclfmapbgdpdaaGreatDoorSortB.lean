/- slices.Sort and slices.Compact over strings of the call's own, in my own words. -/
import Derived.Test.YtcclfmapbgdpdaaGreatDoorMg
import Derived.Test.YtcclfmapbgdpdaaGreatDoorShStr
import Derived.Sort.OwnSorted
import Derived.Lib.OwnBridge
import Derived.Lib.SlicesCompact
import Derived.Sort.Walk0
namespace Go.Proofs.YtcclfmapbgdpdaaGreatDoor
open Go.RowKit Go.Sort Go.Lib
set_option linter.unusedVariables false

/-! ### plain words -/
/-- The strings rise, some may be equal. -/
def RiseB (xs : List ByteArray) : Prop := xs.Pairwise (fun a b => strLess b a = false)
theorem strLess_lt (s t : ByteArray) : strLess s t = decide (bs s < bs t) := by
  unfold strLess; rw [bytesLess_eq, toList_bs, toList_bs]
theorem le_less {s t : ByteArray} : bs s ≤ bs t ↔ strLess t s = false := by
  rw [strLess_lt, decide_eq_false_iff_not, List.not_lt]
def sb (l : List UInt8) : ByteArray := ⟨l.toArray⟩
theorem bs_sb (l : List UInt8) : bs (sb l) = l := by simp [bs, sb]
theorem sb_bs (s : ByteArray) : sb (bs s) = s := bs_inj (bs_sb _)
theorem map_bs_sb (l : List (List UInt8)) : (l.map sb).map bs = l := by
  rw [List.map_map]
  conv => rhs; rw [← List.map_id l]
  exact List.map_congr_left fun x _ => bs_sb x
theorem enc_bs (xs : List ByteArray) : (xs.map bs).map encStr = cK kB xs := by
  rw [cK_kB]
  exact map_encStr xs
theorem enc_sb (l : List (List UInt8)) : l.map encStr = cK kB (l.map sb) := by rw [← enc_bs, map_bs_sb]

/-- What is kept of a rising list: it rises strictly, and holds the same. -/
theorem compactUpTo_inv (d : Array (List UInt8)) (hd : d.toList.Pairwise (fun a b => a ≤ b)) : ∀ m, m ≤ d.size → (compactUpTo d m).Pairwise (fun a b => a < b) ∧ (∀ x, x ∈ compactUpTo d m ↔ x ∈ d.toList.take m) ∧ (∀ x ∈ compactUpTo d m, ∀ h : 0 < m, x ≤ d[m - 1]!) := by
  intro m
  induction m with
  | zero => intro _; exact ⟨by simp [compactUpTo], by simp [compactUpTo], fun _ _ h => absurd h (by omega)⟩
  | succ m ih =>
    intro hm
    obtain ⟨h1, h2, h3⟩ := ih (by omega)
    have hg : d.toList[m]? = some d[m]! := by
      rw [Array.getElem?_toList, Array.getElem?_eq_getElem (by omega)]
      simp [getElem!_pos, show m < d.size by omega]
    have htk : d.toList.take (m + 1) = d.toList.take m ++ [d[m]!] := take_snoc hg
    rw [compactUpTo_succ, htk]
    by_cases hk : keeps d m = true
    · rw [if_pos hk]
      have hlt : ∀ x ∈ compactUpTo d m, x < d[m]! := by
        intro x hx
        rcases Nat.eq_zero_or_pos m with h0 | h0
        · subst h0; simp [compactUpTo] at hx
        · have h4 := h3 x hx h0
          have hp : d.toList[m - 1]? = some d[m - 1]! := by
            rw [Array.getElem?_toList, Array.getElem?_eq_getElem (by omega)]
            simp [getElem!_pos, show m - 1 < d.size by omega]
          have h5 : d[m - 1]! ≤ d[m]! := by
            rw [List.pairwise_iff_getElem] at hd
            have := hd (m - 1) m (by simp; omega) (by simp; omega) (by omega)
            obtain ⟨_, e1⟩ := List.getElem?_eq_some_iff.1 hp
            obtain ⟨_, e2⟩ := List.getElem?_eq_some_iff.1 hg
            rw [e1, e2] at this
            exact this
          have h6 : d[m]! ≠ d[m - 1]! := by
            unfold keeps at hk
            simp at hk
            rcases hk with hk | hk
            · omega
            · exact hk
          have h7 : x ≤ d[m]! := Std.le_trans h4 h5
          rcases Classical.em (x < d[m]!) with h8 | h8
          · exact h8
          · have h9 : d[m]! ≤ x := List.not_lt.1 h8
            have h10 : x = d[m]! := Std.le_antisymm h7 h9
            exact absurd (Std.le_antisymm h5 (h10 ▸ h4)).symm h6
      refine ⟨?_, ?_, ?_⟩
      · rw [List.pairwise_append]
        exact ⟨h1, by simp, fun a ha b hb => by simp only [List.mem_singleton] at hb; subst hb; exact hlt a ha⟩
      · intro x; simp only [List.mem_append, h2 x]
      · intro x hx _
        rcases List.mem_append.1 hx with hx | hx
        · exact List.le_of_lt (hlt x hx)
        · simp only [List.mem_singleton] at hx; subst hx; exact List.le_refl _
    · rw [if_neg hk, List.append_nil]
      have he : m ≠ 0 ∧ d[m]! = d[m - 1]! := by
        unfold keeps at hk
        simp at hk
        exact hk
      refine ⟨h1, ?_, ?_⟩
      · intro x
        rw [h2 x, List.mem_append, List.mem_singleton]
        constructor
        · exact .inl
        · rintro (h | rfl)
          · exact h
          · rw [he.2]
            have hp : d.toList[m - 1]? = some d[m - 1]! := by
              rw [Array.getElem?_toList, Array.getElem?_eq_getElem (by omega)]
              simp [getElem!_pos, show m - 1 < d.size by omega]
            exact List.mem_of_getElem? (i := m - 1) (by rw [List.getElem?_take, if_pos (by omega)]; exact hp)
      · intro x hx _
        have := h3 x hx (by omega)
        rw [show m + 1 - 1 = m by omega, he.2]
        exact this
theorem compact_rise (zs : List (List UInt8)) (h : zs.Pairwise (fun a b => a ≤ b)) : (compact zs).Pairwise (fun a b => a < b) ∧ ∀ x, x ∈ compact zs ↔ x ∈ zs := by
  have := compactUpTo_inv zs.toArray (by simpa using h) zs.length (by simp)
  refine ⟨this.1, fun x => ?_⟩
  have h2 := this.2.1 x
  rw [List.take_of_length_le (by simp)] at h2
  exact h2

/-! ### the contracts -/
theorem RiseB_bs {xs : List ByteArray} : RiseB xs ↔ (xs.map bs).Pairwise (fun a b => a ≤ b) := by
  unfold RiseB
  rw [List.pairwise_map]
  constructor <;> (intro h; refine h.imp ?_; intro a b hab)
  · exact le_less.2 hab
  · exact le_less.1 hab

/-- What sorting leaves. -/
def SortPost (A : Option Addr) (n c base : Nat) (xs : List ByteArray) (w : World) (e : Ending) (w' : World) : Prop :=
  e = .returned (.tuple #[]) ∧ ∃ ys, w'.ownsRow base 9 1 (.slice A n c) n (cK kB ys) ∧ ys.Perm xs ∧ RiseB ys ∧ Below base w w'
theorem sortB_calls (A : Option Addr) (n c base : Nat) (xs : List ByteArray) (w : World) (hown : w.ownsRow base 9 1 (.slice A n c) n (cK kB xs)) (hn : n ≤ 1048576) (hbase : base ≤ w.heap.size) :
    Calls Tryz.prog 104 #[.slice A n c] w (SortPost A n c base xs w) := by
  rcases Nat.eq_zero_or_pos n with h0 | h0
  · subst h0
    refine (Tryz.slices_Sort_string_none A c w).mono ?_
    rintro e w' ⟨rfl, rfl⟩
    have hx : xs = [] := by
      have := hown.1
      rw [cK_len] at this
      exact List.eq_nil_of_length_eq_zero (by simpa [kB] using this)
    subst hx
    exact ⟨rfl, [], hown, List.Perm.refl _, by simp [RiseB], Below.refl _ _⟩
  · have ho := hown
    rw [← enc_bs] at ho
    obtain ⟨g, cap, hv, hbg, hlt, hnc, hcm, hl, hH⟩ := holds_of_ownsRow ho (by intro e; injection e with _ e; omega)
    injection hv with hv1 _ hv3
    subst hv1 hv3
    have hl' : xs.length = n := by simpa using hl
    have hc := Tryz.slices_Sort_string g 0 c (xs.map bs) w hH hlt (by omega)
    rw [hl] at hc
    refine hc.mono ?_
    rintro e w' ⟨rfl, q, os, rfl⟩
    have hm : ((xs.map bs).mergeSort fun x y => decide (x ≤ y)).length = (xs.map bs).length := (List.mergeSort_perm _ _).length_eq
    obtain ⟨cur, hcur⟩ : ∃ cur, w.heap[g]? = some (.cells cur 9 (0, 0)) ∧ n ≤ c ∧ c ≤ maxLen ∧ cur.size = c * 1 := by
      rcases hown.2 with ⟨hv, _⟩ | ⟨g', cap', cur, hv, _, hh, h1, h2, h3, _⟩
      · cases hv
      · injection hv with hv1 _ hv3
        injection hv1 with hv1
        injection hv1 with hv1
        subst hv1 hv3
        exact ⟨cur, hh, h1, h2, h3⟩
    have hso := ownsRow_sorted (w := w) (base := base) (n := q) (os := os) (ss := xs.map bs) (ts := (xs.map bs).mergeSort fun x y => decide (x ≤ y)) hm hbg hcur.1 (by rw [hl]; exact hcur.2.1) hcur.2.2.1 hcur.2.2.2
    rw [hl, enc_sb] at hso
    refine ⟨rfl, _, hso, ?_, ?_, ?_⟩
    · have h1 := (List.mergeSort_perm (xs.map bs) fun x y => decide (x ≤ y)).map sb
      have h2 : (xs.map bs).map sb = xs := by
        rw [List.map_map]
        conv => rhs; rw [← List.map_id xs]
        exact List.map_congr_left fun x _ => sb_bs x
      rw [h2] at h1
      exact h1
    · rw [RiseB_bs, map_bs_sb]
      have := List.pairwise_mergeSort (le := fun x y : List UInt8 => decide (x ≤ y)) (fun a b c h1 h2 => by
        simp only [decide_eq_true_eq] at *
        exact Std.le_trans h1 h2) (fun a b => by
        simp only [Bool.or_eq_true, decide_eq_true_eq]
        exact Std.le_total) (xs.map bs)
      exact this.imp (by simp)
    · exact (Below.refl base w).grown (grownBy_sorted _) hbase (fun k hk => by injection hk with hk; omega)
/-- What Compact leaves of rising strings. -/
def CompPost (A : Option Addr) (c base : Nat) (xs : List ByteArray) (w : World) (e : Ending) (w' : World) : Prop :=
  ∃ m zs, e = .returned (.slice A m c) ∧ w'.ownsRow base 9 1 (.slice A m c) m (cK kB zs) ∧ zs.length = m ∧ zs.Pairwise (fun a b => strLess a b = true) ∧ (∀ x, x ∈ zs ↔ x ∈ xs) ∧ m ≤ xs.length ∧ Below base w w'
end Go.Proofs.YtcclfmapbgdpdaaGreatDoor
