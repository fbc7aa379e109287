/- WeekMeans of the program and of the reference. -/
import Derived.Test.YtmpfkmbfbeejhaaMoving
import Derived.Test.YtmpfkmbfbeejhaaAppI
namespace Go.Proofs.Ytmpfkmbfbeejhaa
open Go.RowKit
set_option linter.unusedVariables false

/-- The numbers of one day of the week among the first k; its mean; all means. -/
def wkL (xs : List Int) (f d : Int) : Nat → List Int
  | 0 => []
  | k + 1 => if ((k : Int) + f) % 7 = d then wkL xs f d k ++ [xs.getD k 0] else wkL xs f d k
theorem wkL_mem {xs : List Int} {f d : Int} {k : Nat} {x : Int} (hk : k ≤ xs.length) (h : x ∈ wkL xs f d k) : x ∈ xs := by
  induction k with
  | zero => simp [wkL] at h
  | succ k ih =>
    rw [wkL] at h
    split at h
    · rcases List.mem_append.1 h with h | h
      · exact ih (by omega) h
      · simp only [List.mem_singleton] at h
        subst h
        rw [List.getD, List.getElem?_eq_getElem (by omega : k < xs.length)]
        exact List.getElem_mem _
    · exact ih (by omega) h
theorem wkL_len (xs : List Int) (f d : Int) (k : Nat) : (wkL xs f d k).length ≤ k := by
  induction k with
  | zero => simp [wkL]
  | succ k ih =>
    rw [wkL]
    split
    · simp; omega
    · omega
theorem wkL_yes {xs : List Int} {f d : Int} {k : Nat} {x : Int} (hx : xs[k]? = some x) (h : ((k : Int) + f) % 7 = d) : wkL xs f d (k + 1) = wkL xs f d k ++ [x] := by
  rw [wkL, if_pos h, List.getD, hx]; rfl
theorem wkL_no {xs : List Int} {f d : Int} {k : Nat} (h : ¬ ((k : Int) + f) % 7 = d) : wkL xs f d (k + 1) = wkL xs f d k := by
  rw [wkL, if_neg h]
def wkM (xs : List Int) (f : Int) (d : Nat) : Int := if (wkL xs f d xs.length).length = 0 then 0 else meanZ (wkL xs f d xs.length)
def wkAll (xs : List Int) (f : Int) : Nat → List Int
  | 0 => []
  | d + 1 => wkAll xs f d ++ [wkM xs f d]
theorem wkAll_len (xs : List Int) (f : Int) (d : Nat) : (wkAll xs f d).length = d := by
  induction d with
  | zero => rfl
  | succ d ih => simp [wkAll, ih]
theorem wkM_bd {xs : List Int} {f : Int} (d : Nat) (h : ∀ x ∈ xs, 0 ≤ x ∧ x ≤ 1000000) : 0 ≤ wkM xs f d ∧ wkM xs f d ≤ 1000000 := by
  unfold wkM
  split
  · omega
  · rename_i hne
    exact meanZ_bd (fun x hx => h x (wkL_mem (Nat.le_refl _) hx)) (fun e => hne (by rw [e]; rfl))
theorem wkAll_bd {xs : List Int} {f : Int} (h : ∀ x ∈ xs, 0 ≤ x ∧ x ≤ 1000000) (d : Nat) : ∀ x ∈ wkAll xs f d, 0 ≤ x ∧ x ≤ 1000000 := by
  induction d with
  | zero => simp [wkAll]
  | succ d ih =>
    intro x hx
    rw [wkAll, List.mem_append] at hx
    rcases hx with hx | hx
    · exact ih x hx
    · simp at hx
      subst hx
      exact wkM_bd d h
def wkC (xs : List Int) (f : Int) : Int := keptC xs (withinB f 0 6)
def wkV (xs : List Int) (f : Int) : List Int := if wkC xs f = 0 then wkAll xs f 7 else []

/-- The means of the first d days, and zeros. -/
def wkPad (xs : List Int) (f : Int) (d : Nat) : List Int := wkAll xs f d ++ List.replicate (7 - d) 0
theorem wkPad_set {xs : List Int} {f : Int} {d : Nat} (h : d < 7) : (wkPad xs f d).set d (wkM xs f d) = wkPad xs f (d + 1) := by
  unfold wkPad
  rw [List.set_append_right _ _ (by rw [wkAll_len]; omega), wkAll_len, Nat.sub_self, wkAll]
  obtain ⟨m, hm⟩ : ∃ m, 7 - d = m + 1 := ⟨6 - d, by omega⟩
  rw [hm, show 7 - (d + 1) = m by omega, List.replicate_succ, List.set_cons_zero]
  simp
theorem wkPad_same {xs : List Int} {f : Int} {d : Nat} (h : d < 7) (hz : wkM xs f d = 0) : wkPad xs f d = wkPad xs f (d + 1) := by
  unfold wkPad
  obtain ⟨m, hm⟩ : ∃ m, 7 - d = m + 1 := ⟨6 - d, by omega⟩
  rw [wkAll, hz, hm, show 7 - (d + 1) = m by omega, List.replicate_succ]
  simp

set_option maxRecDepth 100000 in
set_option maxHeartbeats 2000000 in
theorem implWeekMeans_calls (A : Option Addr) (n c : Nat) (xs : List Int) (f : Int) (w : World) (h : RdI w A n xs) (hf : I64 f) (hn : n ≤ 1048576) :
    Calls Try.prog 18 #[.slice A n c, .int .i64 f] w fun e w' => ∃ A' n' c', e = .returned (.tuple #[.slice A' n' c', .int .i64 (wkC xs f)]) ∧ FrI w' w.heap.size w'.heap.size 2 A' n' (wkV xs f) ∧ n' ≤ 1048576 ∧ Below w.heap.size w w' := by
  have HL := hide h.len
  obtain ⟨i0, hi, hz0, hz1, hz2⟩ := info_parts Try.info2
  by_cases hk : keptC xs (withinB f 0 6) = 0
  · obtain ⟨hok, hwi⟩ : okSer xs = true ∧ withinB f 0 6 = true := by
      rcases kept_cases xs (withinB f 0 6) with ⟨_, h3⟩ | ⟨_, _, h3⟩ | ⟨h1, h2, _⟩
      · omega
      · omega
      · exact ⟨h1, h2⟩
    have K0 := hide hk
    clear hk
    have HC : Hid (wkC xs f = 0) := K0
    have HV : Hid (wkV xs f = wkAll xs f 7) := by unfold Hid wkV; rw [HC.out]; rfl
    obtain ⟨f1, f2⟩ := withinB_iff.1 hwi
    have h60 := (ok_len hok).2
    rw [HL.out] at h60
    have hall := hide (ok_mem hok)
    have HS := hide (Small.of_ok hok)
    clear hok hwi
    go_enter Try.func18, Try.ntmps18
    go_wp2_with fail
    refine (within_calls _ _ _ _).mono ?_
    rintro e w' ⟨rfl, rfl⟩
    go_wp2_with fail
    refine (kept_calls _ _ _ _ _ _ h hn).mono ?_
    rintro e w' ⟨rfl, rfl⟩
    rw [K0.out]
    go_wp2_with (refine wpList_make_full _ rfl _ _ 22 rfl w.heap.size 2 i0 (.int .i64 0) 1 Try.underlying22 hi hz0 hz1 .i64 .i64 _ _ 7 rfl rfl rfl rfl (by rw [hz2]; omega) (by unfold maxLen; omega) (Nat.le_refl _) ?_; intro w1 hown1 hgr1)
    have hb1 : Below w.heap.size w w1 := (Below.refl _ _).grown hgr1 (Nat.le_refl _) (fun k hk => by cases hk)
    go_loopw [22] (fun i wr => ∃ (d : Nat), d ≤ 7 ∧ i = .int .i64 d ∧ wr.ownsRow w.heap.size 2 1 (.slice (some ⟨w.heap.size, 0, none⟩) 7 7) 7 (cI (wkPad xs f d)) ∧ Below w.heap.size w wr ∧ w.heap.size < wr.heap.size) (fun i _ => 7 - (intOf i).toNat)
    case atStart => exact ⟨0, by omega, rfl, by simpa [cI, wkPad, wkAll, toList_madeCells_one, Value.cells] using hown1, hb1, (hown1.lt _ rfl).2⟩
    case round =>
      clear hown1
      obtain ⟨d, hd, rfl, hown, hb, hbs⟩ := hrel
      obtain ⟨wo, rfl⟩ : ∃ wo : World, wo = wr := ⟨_, rfl⟩
      have HO := hide hown
      clear hown
      by_cases hlt : d < 7
      · have hlti : (d : Int) < 7 := by omega
        go_wp2_with fail
        go_loopw [9, 27] (fun v i wr => ∃ (k m : Nat), k ≤ n ∧ i = .int .i64 k ∧ m = (wkL xs f d k).length ∧ wr.ownsRow wo.heap.size 2 1 v m (cI (wkL xs f d k)) ∧ Below wo.heap.size wo wr) (fun _ i _ => n - (intOf i).toNat)
        case atStart => exact ⟨0, 0, by omega, rfl, rfl, by simpa [cI, wkL] using World.ownsRow_nil wo wo.heap.size 2 1, Below.refl _ _⟩
        case round =>
          obtain ⟨k, m, hk, rfl, hm, hown, hb2⟩ := hrel
          have HM := hide hm
          have HI := hide hown
          have hml : m ≤ k := by rw [hm]; exact wkL_len _ _ _ _
          clear hm hown
          have hb2s := hb2.size
          by_cases hlk : k < n
          · obtain ⟨b, off, x, rfl, hbl, hx, hc, hx1, hx2⟩ := ((h.below hb (Nat.le_refl _)).below hb2 (Nat.le_refl _)).at hlk
            by_cases hday : ((k : Int) + f) % 7 = d
            · have e1 : ((((k : Int) + f) % 7) == (d : Int)) = true := by simp; omega
              have HE := hide (wkL_yes hx.out hday)
              clear hday
              go_wp2_with (at_builtin; refine appI rfl _ _ rfl wo.heap.size u9 m (wkL xs f d k) x rfl HI.out rfl (by omega) (by omega) ?_; intro v' w4 hown4 hb4 hz4)
              go_roundw
              case rel =>
                refine ⟨k + 1, m + 1, by omega, by go_num, ?_, ?_, hb2.trans hb4⟩
                · rw [HE.out, HM.out]; simp
                · rw [HE.out]; exact hown4
              case measure => simp [intOf]; omega
            · have e1 : ((((k : Int) + f) % 7) == (d : Int)) = false := by simp; omega
              have HE := hide (wkL_no (xs := xs) hday)
              clear hday
              go_wp2
              go_roundw
              case rel => exact ⟨k + 1, m, by omega, by go_num, by rw [HE.out]; exact HM.out, by rw [HE.out]; exact HI.out, hb2⟩
              case measure => simp [intOf]; omega
          · have hkn : k = n := by omega
            have HKN := hide hkn
            clear hkn
            have ho2 := own_below HO.out hb2 (Nat.le_refl _)
            have HO2 := hide ho2
            have hB2 := hb.trans (hb2.mono hb.size)
            obtain ⟨Am, cm, hv⟩ := own_slice HI.out
            have HV2 := hide hv
            by_cases hm0 : m = 0
            · have HZ : Hid (wkM xs f d = 0) := by
                unfold Hid wkM
                rw [HL.out, ← HKN.out, if_pos (by rw [← HM.out]; exact hm0)]
              have HM0 := hide hm0
              clear hm0
              rw [HM0.out] at hv
              subst hv
              clear ho2
              go_wp2
              go_roundw
              case rel =>
                refine ⟨d + 1, by omega, by go_num, ?_, hB2, by omega⟩
                rw [← wkPad_same hlt HZ.out]; exact HO2.out
              case measure => simp [intOf]; omega
            · have HZ : Hid (wkM xs f d = meanZ (wkL xs f d k)) := by
                unfold Hid wkM
                rw [HL.out, ← HKN.out, if_neg (by rw [← HM.out]; exact hm0)]
              have e0 : (0 : Int) < m := by omega
              have hrd : RdI wr Am m (wkL xs f d k) := by
                have := HI.out
                rw [HV2.out] at this
                exact RdI.of_own this (fun y hy => by
                  have := hall.out y (wkL_mem (by rw [HL.out]; omega) hy)
                  exact ⟨by omega, by omega⟩)
              have hsm : Hid (Small (wkL xs f d k)) := fun y hy => HS.out y (wkL_mem (by rw [HL.out]; omega) hy)
              subst hv
              obtain ⟨v0, q1, q2, hst⟩ := own_store (k := d) ho2 (by omega)
              clear ho2
              go_wp2_with fail
              refine (implMean_calls _ _ _ _ _ hrd (by omega) hsm.out (by omega)).mono ?_
              rintro e w3 ⟨rfl, q, rfl⟩
              go_wp2
              go_roundw
              case rel =>
                refine ⟨d + 1, by omega, by go_num, ?_, below_drewN (hB2.setCell (by simp) _) q, by simp [World.setCell]; omega⟩
                have : ((wr.drewN q).setCell ⟨w.heap.size, d, none⟩ (.int .i64 (meanZ (wkL xs f d k)))).ownsRow w.heap.size 2 1 (.slice (some ⟨w.heap.size, 0, none⟩) 7 7) 7 ((cI (wkPad xs f d)).set d (.int .i64 (meanZ (wkL xs f d k)))) := hst.out _
                rw [← wkPad_set hlt, HZ.out]
                simpa [cI, List.map_set] using this
              case measure => simp [intOf]; omega
      · have hd7 : d = 7 := by omega
        subst hd7
        go_wp2
        go_ret2
        refine ⟨_, _, _, ret_two rfl (congrArg (Value.int .i64) HC.out.symm), ?_, by omega, hb⟩
        rw [HV.out]
        have ho := HO.out
        have e7 : wkPad xs f 7 = wkAll xs f 7 := by simp [wkPad]
        rw [e7] at ho
        exact FrI.of_own ho (fun x hx => by have := wkAll_bd hall.out 7 x hx; exact ⟨by omega, by omega⟩)
  · have e0 : (keptC xs (withinB f 0 6) != 0) = true := by simpa using hk
    have HC : Hid (wkC xs f = keptC xs (withinB f 0 6)) := rfl
    have HV : Hid (wkV xs f = []) := by unfold Hid wkV; rw [HC.out, if_neg hk]
    clear hk
    go_enter Try.func18, Try.ntmps18
    go_wp2_with fail
    refine (within_calls _ _ _ _).mono ?_
    rintro e w' ⟨rfl, rfl⟩
    go_wp2_with fail
    refine (kept_calls _ _ _ _ _ _ h hn).mono ?_
    rintro e w' ⟨rfl, rfl⟩
    go_wp2
    go_ret2
    refine ⟨none, 0, 0, ret_two rfl (congrArg (Value.int .i64) HC.out.symm), ?_, by omega, Below.refl _ _⟩
    rw [HV.out]
    exact FrI.nil

end Go.Proofs.Ytmpfkmbfbeejhaa
