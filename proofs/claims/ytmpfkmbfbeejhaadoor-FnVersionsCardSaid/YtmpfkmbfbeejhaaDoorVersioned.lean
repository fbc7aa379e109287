/- ContainsFunc over int64s with a closure that holds one value; versioned. -/
import Derived.Test.YtmpfkmbfbeejhaaDoorValidHist
namespace Go.Proofs.YtmpfkmbfbeejhaaDoor
open Go.RowKit
set_option linter.unusedVariables false


theorem sizeV_calls (A : Option Addr) (n c : Nat) (w : World) (hn : n ≤ 1048576) :
    Calls Tryd.prog 36 #[.slice A n c] w fun e w' => e = .returned (.int .i64 n) ∧ w = w' := by
  go_enter Tryd.func36, Tryd.ntmps36
  go_wp2
  go_ret
  exact ⟨by simp, rfl⟩

theorem versioned1_calls (A : Option Addr) (n c : Nat) (x : Int) (p : Addr) (w : World) (hc : w.cell? p = some (.slice A n c)) (hn : n ≤ 1048576) :
    Calls Tryd.prog 64 #[.int .i64 x, .pointer (some p)] w fun e w' => e = .returned (.bool (!withinB x 1 n)) ∧ w = w' := by
  go_enter Tryd.func64, Tryd.ntmps64
  go_wp2_with (first
    | (go_at_call 36; refine (sizeV_calls _ _ _ _ hn).mono ?_; rintro e w' ⟨rfl, rfl⟩)
    | (go_at_call 29; refine (within_calls _ _ _ _).mono ?_; rintro e w' ⟨rfl, rfl⟩))
  go_ret
  exact ⟨rfl, rfl⟩

set_option maxHeartbeats 400000 in
theorem indexFuncC_calls (A : Option Addr) (n c : Nat) (xs : List Int) (f : Nat) (cv : Value) (p : Int → Bool) (w : World) (h : RdI w A n xs) (hn : n ≤ 1048576)
    (hcf : ∀ args w, Sem.run Tryd.prog (callFunc f args) w = .ok (.enter f args) w)
    (hf : ∀ x, I64 x → Calls Tryd.prog f #[.int .i64 x, cv] w fun e w' => e = .returned (.bool (p x)) ∧ w = w') :
    Calls Tryd.prog 80 #[.slice A n c, .func (.func f) #[] #[cv]] w fun e w' => (∃ i : Int, e = .returned (.int .i64 i) ∧ decide (0 ≤ i) = xs.any p) ∧ w = w' := by
  have hl := h.len
  have HF := hide hf
  clear hf
  go_enter Tryd.func80, Tryd.ntmps80
  go_wp2
  go_loop [8] (fun i => ∃ (k : Nat), k ≤ n ∧ i = .int .i64 k ∧ (xs.take k).any p = false) (fun i => n - (intOf i).toNat)
  case atStart => exact ⟨0, Nat.zero_le _, rfl, by simp⟩
  case round =>
    obtain ⟨k, hk, rfl, hcur⟩ := hrel
    have HC := hide hcur
    have HL := hide hl
    clear hcur hl
    by_cases hlt : k < n
    · obtain ⟨b, off, x, rfl, hbl, hx, hc, hx1, hx2⟩ := h.at hlt
      cases hp : p x
      · go_wp2_with fail
        refine (HF.out _ ⟨hx1, hx2⟩).mono ?_
        rintro e w' ⟨rfl, rfl⟩
        go_wp2
        go_round
        case rel => exact ⟨k + 1, by omega, by go_num, any_take_snoc hx.out HC.out hp⟩
        case measure => simp [intOf]; omega
      · go_wp2_with fail
        refine (HF.out _ ⟨hx1, hx2⟩).mono ?_
        rintro e w' ⟨rfl, rfl⟩
        go_wp2
        go_ret
        exact ⟨⟨_, rfl, by rw [any_of_at hx.out hp]; simp⟩, rfl⟩
    · have hkn : k = n := by omega
      subst hkn
      go_wp2
      go_ret
      exact ⟨⟨_, rfl, by rw [any_of_takes HL.out HC.out]; rfl⟩, rfl⟩

theorem containsFuncC_calls (A : Option Addr) (n c : Nat) (xs : List Int) (f : Nat) (cv : Value) (p : Int → Bool) (w : World) (h : RdI w A n xs) (hn : n ≤ 1048576)
    (hcf : ∀ args w, Sem.run Tryd.prog (callFunc f args) w = .ok (.enter f args) w)
    (hf : ∀ x, I64 x → Calls Tryd.prog f #[.int .i64 x, cv] w fun e w' => e = .returned (.bool (p x)) ∧ w = w') :
    Calls Tryd.prog 63 #[.slice A n c, .func (.func f) #[] #[cv]] w fun e w' => e = .returned (.bool (xs.any p)) ∧ w = w' := by
  have HF := hide hf
  have HCF := hide hcf
  clear hf hcf
  go_enter Tryd.func63, Tryd.ntmps63
  go_wp2_with fail
  refine (indexFuncC_calls _ _ _ _ _ _ p _ h hn HCF.out HF.out).mono ?_
  rintro e w' ⟨⟨i, rfl, hi⟩, rfl⟩
  have HI := hide hi
  clear hi
  go_wp2
  go_ret
  exact ⟨ret_bool HI.out, rfl⟩

/-- Is a number none of a version's? -/
def offB (n : Nat) (x : Int) : Bool := !withinB x 1 n
/-- The first error of a history and the numbers of versions. -/
def codeV (vs : List VerZ) (xs : List Int) : Int := if histB vs then (if xs.any (offB vs.length) then 3 else 0) else 1

set_option maxHeartbeats 1000000 in
theorem versioned_calls (A : Option Addr) (n c : Nat) (vs : List VerZ) (B : Option Addr) (m cb : Nat) (xs : List Int) (w : World) (h : RdVz w A n vs) (hn : n ≤ 1048576) (hs : Short vs) (hx : RdI w B m xs) (hm : m ≤ 1048576) :
    Calls Tryd.prog 38 #[.slice A n c, .slice B m cb] w fun e w' => e = .returned (.int .i64 (codeV vs xs)) ∧ Below w.heap.size w w' := by
  have HL := hide h.len
  have BB := hide ((Below.refl w.heap.size w).alloc (Nat.le_refl _) (.cells #[.slice A n c] 24))
  have HD : Hid (codeV vs xs = if histB vs then (if xs.any (offB n) then 3 else 0) else 1) := by
    unfold Hid codeV
    rw [h.len]
  go_enter Tryd.func38, Tryd.ntmps38
  go_wp2_with fail
  refine (implValidHistory_calls _ _ _ vs _ (h.below BB.out (Nat.le_refl _)) hn hs).mono ?_
  rcases b_cases (histB vs) with hd | hd
  · rw [hd]
    rintro e w1 ⟨rfl, hb1⟩
    have hbx := BB.out.trans (hb1.mono BB.out.size)
    rw [hd] at HD
    go_wp2
    go_ret
    exact ⟨ret_int HD.out.symm, hbx⟩
  · rw [hd]
    rintro e w1 ⟨rfl, hb1⟩
    have hbx := hide (BB.out.trans (hb1.mono BB.out.size))
    have hcell : w1.cell? ⟨w.heap.size, 0, none⟩ = some (.slice A n c) := (hb1.cell (by simp)).trans (by simp [go_sem])
    rw [hd] at HD
    go_wp2_with fail
    refine (containsFuncC_calls _ _ _ xs _ _ (offB n) _ (hx.below hbx.out (Nat.le_refl _)) hm Tryd.call64 (fun x _ => versioned1_calls A n c x _ _ hcell hn)).mono ?_
    rcases b_cases (xs.any (offB n)) with hd' | hd'
    all_goals
      rw [hd']
      rw [hd'] at HD
      rintro e w2 ⟨rfl, rfl⟩
      go_wp2
      go_ret
      exact ⟨ret_int HD.out.symm, hbx.out⟩
theorem codeV_bad {vs : List VerZ} {xs : List Int} (h : histB vs = false) : codeV vs xs = 1 := by unfold codeV; rw [h]; rfl
theorem codeV_one {vs : List VerZ} {a : Int} (h : histB vs = true) : codeV vs [a] = if withinB a 1 vs.length then 0 else 3 := by
  unfold codeV offB
  rw [h]
  rcases b_cases (withinB a 1 vs.length) with h1 | h1 <;> simp [h1]

end Go.Proofs.YtmpfkmbfbeejhaaDoor
