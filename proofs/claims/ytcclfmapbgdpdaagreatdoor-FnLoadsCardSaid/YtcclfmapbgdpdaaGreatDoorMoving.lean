/- kept, and MovingMeans of the program and of the reference. -/
import Derived.Test.YtcclfmapbgdpdaaGreatDoorMean
import Derived.Test.YtcclfmapbgdpdaaGreatDoorMg
namespace Go.Proofs.YtcclfmapbgdpdaaGreatDoor
open Go.RowKit
set_option linter.unusedVariables false

/-- The first error of a series and of something about numbers. -/
def keptC (xs : List Int) (fine : Bool) : Int := if okSer xs then (if fine then 0 else 2) else 1
theorem kept_cases (xs : List Int) (fine : Bool) : (okSer xs = false ∧ keptC xs fine = 1) ∨ (okSer xs = true ∧ fine = false ∧ keptC xs fine = 2) ∨ (okSer xs = true ∧ fine = true ∧ keptC xs fine = 0) := by
  unfold keptC
  cases okSer xs <;> cases fine <;> simp

theorem kept_calls (A : Option Addr) (n c : Nat) (xs : List Int) (fine : Bool) (w : World) (h : RdI w A n xs) (hn : n ≤ 1048576) :
    Calls Tryz.prog 74 #[.slice A n c, .bool fine] w fun e w' => e = .returned (.int .i64 (keptC xs fine)) ∧ w = w' := by
  rcases kept_cases xs fine with ⟨h1, h3⟩ | ⟨h1, rfl, h3⟩ | ⟨h1, rfl, h3⟩
  all_goals
    have H3 := hide h3
    clear h3
    go_enter Tryz.func74, Tryz.ntmps74
    go_wp2_with (go_at_call 71; refine (implValidSeries_calls _ _ _ _ _ h hn).mono ?_; rintro e w' ⟨rfl, rfl⟩)
    go_ret
    exact ⟨ret_int H3.out.symm, rfl⟩

/-- A part of a list. -/
theorem RdI.cut {w : World} {b off n k m : Nat} {xs : List Int} (h : RdI w (some ⟨b, off, none⟩) n xs) (hk : k + m ≤ n) : RdI w (some ⟨b, off + k, none⟩) m ((xs.drop k).take m) := by
  have hl := h.len
  refine ⟨⟨by simp [cI]; omega, fun hm => ?_⟩, fun x hx => h.2 x (List.mem_of_mem_drop (List.mem_of_mem_take hx))⟩
  obtain ⟨b', off', e, hb, hcell⟩ := h.1.2 (by omega)
  obtain ⟨rfl, rfl⟩ : b = b' ∧ off = off' := by simpa using e
  refine ⟨b, off + k, rfl, hb, fun j u hu => ?_⟩
  have hj : j < m := by
    have := (List.getElem?_eq_some_iff.1 hu).1
    simp [cI] at this
    omega
  rw [Nat.add_assoc]
  refine hcell (k + j) u ?_
  rw [← hu]
  simp [cI, hj]
theorem Small.part {xs : List Int} (h : Small xs) (k m : Nat) : Small ((xs.drop k).take m) := fun x hx => h x (List.mem_of_mem_drop (List.mem_of_mem_take hx))
theorem meanZ_bd {xs : List Int} (h : ∀ x ∈ xs, 0 ≤ x ∧ x ≤ 1000000) (hn : xs ≠ []) : 0 ≤ meanZ xs ∧ meanZ xs ≤ 1000000 := by
  have h1 := sumZ_bd 0 1000000 xs h
  have hp : 0 < xs.length := List.length_pos_iff.2 hn
  have h2 := nearZ_bd (sumZ xs) xs.length 1000000 (by omega) (by omega) (by omega)
  refine ⟨?_, h2.2⟩
  unfold meanZ nearZ
  rw [if_pos (by omega)]
  exact Int.ediv_nonneg (by omega) (by omega)

/-- The means of all parts of 'wide' numbers. -/
def movL (xs : List Int) (wide : Nat) : Nat → List Int
  | 0 => []
  | k + 1 => movL xs wide k ++ [meanZ ((xs.drop k).take wide)]
theorem movL_len (xs : List Int) (wide k : Nat) : (movL xs wide k).length = k := by
  induction k with
  | zero => rfl
  | succ k ih => simp [movL, ih]
theorem movL_bd {xs : List Int} {W : Nat} (h : ∀ x ∈ xs, 0 ≤ x ∧ x ≤ 1000000) (hW : 1 ≤ W) : ∀ k, k + W ≤ xs.length + 1 → ∀ x ∈ movL xs W k, 0 ≤ x ∧ x ≤ 1000000
  | 0, _ => by simp [movL]
  | k + 1, hk => by
    intro x hx
    rw [movL, List.mem_append] at hx
    rcases hx with hx | hx
    · exact movL_bd h hW k (by omega) x hx
    · simp at hx
      subst hx
      refine meanZ_bd (fun y hy => h y (List.mem_of_mem_drop (List.mem_of_mem_take hy))) (fun he => ?_)
      have : ((xs.drop k).take W).length = 0 := by rw [he]; rfl
      simp at this
      omega
def movV (xs : List Int) (wide : Int) : List Int := if keptC xs (withinB wide 1 xs.length) = 0 then movL xs wide.toNat (xs.length + 1 - wide.toNat) else []
def movC (xs : List Int) (wide : Int) : Int := keptC xs (withinB wide 1 xs.length)

set_option maxHeartbeats 1000000 in
set_option maxRecDepth 100000 in
theorem implMovingMeans_calls (A : Option Addr) (n c : Nat) (xs : List Int) (wide : Int) (w : World) (h : RdI w A n xs) (hw : I64 wide) (hn : n ≤ 1048576) (hnc : n ≤ c) :
    Calls Tryz.prog 11 #[.slice A n c, .int .i64 wide] w fun e w' => ∃ A' n' c', e = .returned (.tuple #[.slice A' n' c', .int .i64 (movC xs wide)]) ∧ FrI w' w.heap.size w'.heap.size 2 A' n' (movV xs wide) ∧ n' ≤ 1048576 ∧ Below w.heap.size w w' := by
  have HL := hide h.len
  have hmv : Hid (movV xs wide = if keptC xs (withinB wide 1 n) = 0 then movL xs wide.toNat (n + 1 - wide.toNat) else []) := by unfold Hid movV; rw [HL.out]
  have hmc : Hid (movC xs wide = keptC xs (withinB wide 1 n)) := by unfold Hid movC; rw [HL.out]
  obtain ⟨i0, hi, hz0, hz1, hz2⟩ := info_parts Tryz.info2
  go_enter Tryz.func11, Tryz.ntmps11
  go_wp2_with fail
  refine (sizeI_calls _ _ _ _ hn).mono ?_
  rintro e w' ⟨rfl, rfl⟩
  go_wp2_with fail
  refine (within_calls _ _ _ _).mono ?_
  rintro e w' ⟨rfl, rfl⟩
  go_wp2_with fail
  refine (kept_calls _ _ _ _ _ _ h hn).mono ?_
  rintro e w' ⟨rfl, rfl⟩
  by_cases hk : keptC xs (withinB wide 1 n) = 0
  · have e0 : (keptC xs (withinB wide 1 n) != 0) = false := by simpa using hk
    have HK := hide hk
    clear hk
    obtain ⟨ho, hwi⟩ : okSer xs = true ∧ withinB wide 1 n = true := by
      rcases kept_cases xs (withinB wide 1 n) with ⟨_, h3⟩ | ⟨_, _, h3⟩ | ⟨h1, h2, _⟩
      · rw [HK.out] at h3; omega
      · rw [HK.out] at h3; omega
      · exact ⟨h1, h2⟩
    obtain ⟨w1, w2⟩ := withinB_iff.1 hwi
    have h60 := (ok_len ho).2
    rw [HL.out] at h60
    have HS := hide (Small.of_ok ho)
    have HOK := hide ho
    clear ho hwi
    obtain ⟨W, rfl⟩ := Int.eq_ofNat_of_zero_le (by omega : 0 ≤ wide)
    have w1' : 1 ≤ W := by omega
    go_wp2_with fail
    go_loopw [7, 8] (fun v i wr => ∃ k : Nat, k ≤ n + 1 - W ∧ i = .int .i64 k ∧ wr.ownsRow w.heap.size 2 1 v k (cI (movL xs W k)) ∧ Below w.heap.size w wr) (fun _ i _ => n - (intOf i).toNat)
    case atStart => exact ⟨0, by omega, rfl, by simpa [cI, movL] using World.ownsRow_nil w w.heap.size 2 1, Below.refl _ _⟩
    case round =>
      obtain ⟨k, hk, rfl, hown, hb⟩ := hrel
      have HO := hide hown
      clear hown
      by_cases hlt : k + W ≤ n
      · obtain ⟨b, off, x, rfl, hbl, hx, hc, hx1, hx2⟩ := (h.below hb (Nat.le_refl _)).at (k := k) (by omega)
        have hck : ¬ c = k := by omega
        have hcut := ((h.below hb (Nat.le_refl _)).cut (k := k) (m := W) (by omega))
        go_wp2_with fail
        refine (sizeI_calls _ _ _ _ hn).mono ?_
        rintro e w' ⟨rfl, rfl⟩
        go_wp2_with fail
        refine (implMean_calls _ _ _ _ _ hcut (by omega) (HS.out.part k W) (by omega)).mono ?_
        rintro e w3 ⟨rfl, q, rfl⟩
        have hown3 := HO.out
        go_wp2_with (at_builtin; refine wpList_append_own _ rfl _ _ 24 rfl w.heap.size 2 i0 (.int .i64 0) 1 8 Tryz.underlying24 hi hz0 hz1 hz2 rfl (by decide) _ _ _ rfl ((own_drewN hown3 q).alloc _) ⟨_, 0, none⟩ 1 1 [.int .i64 (meanZ ((xs.drop k).take W))] rfl rfl ?c1 ?c2 ?c3 ?c4 ?c5 ?_)
        case c1 => exact cell_one_new _ _ _
        case c2 => intro u hu; simp at hu; subst hu; rfl
        case c3 => unfold maxLen; omega
        case c4 => omega
        case c5 => have := hb.size; simp; omega
        intro v' w4 hown4 hgr4 _
        have hb4 : Below w.heap.size w w4 := ((below_drewN hb q).alloc (by have := hb.size; simp; omega) _).grown hgr4 (by have := hb.size; simp; omega) (fun g hg => (hown3.lt g hg).1)
        clear hown3 hgr4
        go_wp2
        go_roundw
        case rel =>
          refine ⟨k + 1, by omega, by go_num, ?_, hb4⟩
          simpa [movL, cI] using hown4
        case measure => simp [intOf]; omega
      · have hkn : k = n + 1 - W := by omega
        have HKN := hide hkn
        clear hkn
        obtain ⟨A', c', hv⟩ := own_slice HO.out
        have HV := hide hv
        clear hv
        go_wp2_with fail
        refine (sizeI_calls _ _ _ _ hn).mono ?_
        rintro e w' ⟨rfl, rfl⟩
        go_wp2_with fail
        go_ret2
        have hall : ∀ x ∈ xs, 0 ≤ x ∧ x ≤ 1000000 := fun x hx => ok_mem HOK.out x hx
        have hval : movV xs (W : Int) = movL xs W k := by rw [hmv.out, if_pos HK.out, HKN.out, Int.toNat_natCast]
        refine ⟨A', k, c', ret_two HV.out (congrArg (Value.int .i64) (by rw [hmc.out, HK.out])), ?_, by omega, hb⟩
        rw [hval]
        have ho := HO.out
        rw [HV.out] at ho
        exact FrI.of_own ho (fun x hx => by have := movL_bd hall w1' k (by rw [HL.out]; omega) x hx; exact ⟨by omega, by omega⟩)
  · have e0 : (keptC xs (withinB wide 1 n) != 0) = true := by simpa using hk
    have HK := hide hk
    clear hk
    go_wp2_with fail
    go_ret2
    refine ⟨none, 0, 0, ret_two rfl (congrArg (Value.int .i64) (by rw [hmc.out])), ?_, by omega, Below.refl _ _⟩
    rw [hmv.out, if_neg HK.out]
    exact FrI.nil
end Go.Proofs.YtcclfmapbgdpdaaGreatDoor
