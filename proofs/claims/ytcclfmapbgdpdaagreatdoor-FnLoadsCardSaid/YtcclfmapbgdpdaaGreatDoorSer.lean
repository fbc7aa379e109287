/- Contracts of the functions on series (lists of int64): each call returns what a plain Lean function gives. -/
import Derived.Test.YtcclfmapbgdpdaaGreatDoorRows
import Derived.Test.YtcclfmapbgdpdaaGreatDoorMg
namespace Go.Proofs.YtcclfmapbgdpdaaGreatDoor
open Go.RowKit


/-- Is a series valid? -/
def okSer (xs : List Int) : Bool := decide (1 ≤ xs.length) && decide (xs.length ≤ 60) && xs.all fun x => withinB x 0 1000000
theorem all_take_snoc {α : Type} {p : α → Bool} {xs : List α} {k : Nat} {x : α} (hx : xs[k]? = some x) (h : (xs.take k).all p = true) (hp : p x = true) : (xs.take (k + 1)).all p = true := by
  rw [take_snoc hx, List.all_append, h]; simp [hp]
theorem all_false_of {α : Type} {p : α → Bool} {xs : List α} {k : Nat} {x : α} (hx : xs[k]? = some x) (hp : p x = false) : xs.all p = false := by
  rw [List.all_eq_false]
  exact ⟨x, List.mem_of_getElem? hx, by simp [hp]⟩
theorem all_of_takes {α : Type} {p : α → Bool} {xs : List α} {n : Nat} (h : xs.length = n) (ht : (xs.take n).all p = true) : xs.all p = true := by
  rwa [List.take_of_length_le (by omega)] at ht

theorem ok_len {xs : List Int} (h : okSer xs = true) : 1 ≤ xs.length ∧ xs.length ≤ 60 := by
  simp only [okSer, Bool.and_eq_true, decide_eq_true_eq] at h
  omega

theorem ok_mem {xs : List Int} (h : okSer xs = true) : ∀ x ∈ xs, 0 ≤ x ∧ x ≤ 1000000 := by
  intro x hx
  simp only [okSer, Bool.and_eq_true, List.all_eq_true] at h
  exact withinB_iff.1 (h.2 x hx)
theorem okSer_bad {xs : List Int} {k : Nat} {x : Int} (hx : xs[k]? = some x) (hp : withinB x 0 1000000 = false) : okSer xs = false := by
  unfold okSer
  rw [all_false_of (p := fun x => withinB x 0 1000000) hx hp]
  simp
theorem okSer_end {xs : List Int} {n : Nat} (hl : xs.length = n) (h : (xs.take n).all (fun x => withinB x 0 1000000) = true) : okSer xs = (decide (1 ≤ n) && decide (n ≤ 60)) := by
  unfold okSer
  rw [all_of_takes hl h, hl]
  simp

set_option maxHeartbeats 400000 in
theorem l26Ok_big (A : Option Addr) (n c : Nat) (xs : List Int) (w : World) (h : RdI w A n xs) (hn : n ≤ 2097152) :
    Calls Tryz.prog 81 #[.slice A n c] w fun e w' => e = .returned (.bool (okSer xs)) ∧ w = w' := by
  have hl := h.len
  go_enter Tryz.func81, Tryz.ntmps81
  go_wp2
  go_loop [3] (fun i => ∃ (k : Nat), k ≤ n ∧ i = .int .i64 k ∧ (xs.take k).all (fun x => withinB x 0 1000000) = true) (fun i => n - (intOf i).toNat)
  case atStart => exact ⟨0, Nat.zero_le _, rfl, by simp⟩
  case round =>
    obtain ⟨k, hk, rfl, hcur⟩ := hrel
    have HC := hide hcur
    have HL := hide hl
    clear hcur hl
    by_cases hlt : k < n
    · obtain ⟨b, off, x, rfl, hbl, hx, hc, hx1, hx2⟩ := h.at hlt
      cases hp : withinB x 0 1000000
      · go_wp2_with (go_at_call 162; refine (l00In_calls _ _ _ _).mono ?_; rintro e w' ⟨rfl, rfl⟩)
        go_ret
        exact ⟨ret_bool (okSer_bad hx.out hp).symm, rfl⟩
      · go_wp2_with (go_at_call 162; refine (l00In_calls _ _ _ _).mono ?_; rintro e w' ⟨rfl, rfl⟩)
        go_round
        case rel => exact ⟨k + 1, by omega, by go_num, all_take_snoc hx.out HC.out hp⟩
        case measure => simp [intOf]; omega
    · have hkn : k = n := by omega
      subst hkn
      by_cases h1 : (1 : Int) ≤ k
      · have h2 : decide ((1 : Int) ≤ k) = true := by simpa using h1
        go_wp2
        go_ret
        refine ⟨ret_bool ?_, rfl⟩
        exact (okSer_end HL.out HC.out).symm ▸ (by have h4 : decide (1 ≤ k) = true := by simp; omega
                                                   rw [h4]; simp; omega)
      · have h2 : decide ((1 : Int) ≤ k) = false := by simpa using h1
        have h3 : decide (1 ≤ k) = false := by simp; omega
        go_wp2
        go_ret
        exact ⟨ret_bool (by rw [okSer_end HL.out HC.out, h3]; rfl), rfl⟩
theorem l26Ok_calls (A : Option Addr) (n c : Nat) (xs : List Int) (w : World) (h : RdI w A n xs) (hn : n ≤ 1048576) :
    Calls Tryz.prog 81 #[.slice A n c] w fun e w' => e = .returned (.bool (okSer xs)) ∧ w = w' := l26Ok_big A n c xs w h (Nat.le_trans hn (by decide))

theorem validSeries1_calls (n : Int) (w : World) : Calls Tryz.prog 151 #[.int .i64 n] w fun e w' => e = .returned (.bool (!withinB n 0 1000000)) ∧ w = w' := by
  go_enter Tryz.func151, Tryz.ntmps151
  go_wp2_with (go_at_call 75; refine (within_calls _ _ _ _).mono ?_; rintro e w' ⟨rfl, rfl⟩)
  go_ret
  exact ⟨rfl, rfl⟩


set_option maxHeartbeats 400000 in
theorem indexFuncI_big (A : Option Addr) (n c : Nat) (xs : List Int) (f : Nat) (p : Int → Bool) (w : World) (h : RdI w A n xs) (hn : n ≤ 2097152)
    (hcf : ∀ args w, Sem.run Tryz.prog (callFunc f args) w = .ok (.enter f args) w)
    (hf : ∀ x w, I64 x → Calls Tryz.prog f #[.int .i64 x] w fun e w' => e = .returned (.bool (p x)) ∧ w = w') :
    Calls Tryz.prog 185 #[.slice A n c, .func (.func f) #[] #[]] w fun e w' => (∃ i : Int, e = .returned (.int .i64 i) ∧ decide (0 ≤ i) = xs.any p) ∧ w = w' := by
  have hl := h.len
  have HF := hide hf
  clear hf
  go_enter Tryz.func185, Tryz.ntmps185
  go_wp2
  go_loop [8] (fun i => ∃ (k : Nat), k ≤ n ∧ i = .int .i64 k ∧ (xs.take k).any p = false) (fun i => n - (intOf i).toNat)
  case atStart => exact ⟨0, Nat.zero_le _, rfl, by simp⟩
  case round =>
    obtain ⟨k, hk, rfl, hcur⟩ := hrel
    have HC := hide hcur
    have HL := hide hl
    clear hcur hl
    by_cases hlt : k < n
    · obtain ⟨b, off, x, rfl, hbl, hx, hc, hx1, hx2⟩ := h.at hlt
      cases hp : p x
      · go_wp2_with fail
        refine (HF.out _ _ ⟨hx1, hx2⟩).mono ?_
        rintro e w' ⟨rfl, rfl⟩
        go_wp2
        go_round
        case rel => exact ⟨k + 1, by omega, by go_num, any_take_snoc hx.out HC.out hp⟩
        case measure => simp [intOf]; omega
      · go_wp2_with fail
        refine (HF.out _ _ ⟨hx1, hx2⟩).mono ?_
        rintro e w' ⟨rfl, rfl⟩
        go_wp2
        go_ret
        exact ⟨⟨_, rfl, by rw [any_of_at hx.out hp]; simp⟩, rfl⟩
    · have hkn : k = n := by omega
      subst hkn
      go_wp2
      go_ret
      exact ⟨⟨_, rfl, by rw [any_of_takes HL.out HC.out]; rfl⟩, rfl⟩
theorem indexFuncI_calls (A : Option Addr) (n c : Nat) (xs : List Int) (f : Nat) (p : Int → Bool) (w : World) (h : RdI w A n xs) (hn : n ≤ 1048576)
    (hcf : ∀ args w, Sem.run Tryz.prog (callFunc f args) w = .ok (.enter f args) w)
    (hf : ∀ x w, I64 x → Calls Tryz.prog f #[.int .i64 x] w fun e w' => e = .returned (.bool (p x)) ∧ w = w') :
    Calls Tryz.prog 185 #[.slice A n c, .func (.func f) #[] #[]] w fun e w' => (∃ i : Int, e = .returned (.int .i64 i) ∧ decide (0 ≤ i) = xs.any p) ∧ w = w' := indexFuncI_big A n c xs f p w h (Nat.le_trans hn (by decide)) hcf hf
theorem containsFuncI_big (A : Option Addr) (n c : Nat) (xs : List Int) (f : Nat) (p : Int → Bool) (w : World) (h : RdI w A n xs) (hn : n ≤ 2097152)
    (hcf : ∀ args w, Sem.run Tryz.prog (callFunc f args) w = .ok (.enter f args) w)
    (hf : ∀ x w, I64 x → Calls Tryz.prog f #[.int .i64 x] w fun e w' => e = .returned (.bool (p x)) ∧ w = w') :
    Calls Tryz.prog 117 #[.slice A n c, .func (.func f) #[] #[]] w fun e w' => e = .returned (.bool (xs.any p)) ∧ w = w' := by
  have HF := hide hf
  have HCF := hide hcf
  clear hf hcf
  go_enter Tryz.func117, Tryz.ntmps117
  go_wp2_with fail
  refine (indexFuncI_big _ _ _ _ _ p _ h hn HCF.out HF.out).mono ?_
  rintro e w' ⟨⟨i, rfl, hi⟩, rfl⟩
  have HI := hide hi
  clear hi
  go_wp2
  go_ret
  exact ⟨ret_bool HI.out, rfl⟩
theorem containsFuncI_calls (A : Option Addr) (n c : Nat) (xs : List Int) (f : Nat) (p : Int → Bool) (w : World) (h : RdI w A n xs) (hn : n ≤ 1048576)
    (hcf : ∀ args w, Sem.run Tryz.prog (callFunc f args) w = .ok (.enter f args) w)
    (hf : ∀ x w, I64 x → Calls Tryz.prog f #[.int .i64 x] w fun e w' => e = .returned (.bool (p x)) ∧ w = w') :
    Calls Tryz.prog 117 #[.slice A n c, .func (.func f) #[] #[]] w fun e w' => e = .returned (.bool (xs.any p)) ∧ w = w' := containsFuncI_big A n c xs f p w h (Nat.le_trans hn (by decide)) hcf hf
theorem okSer_any (xs : List Int) : okSer xs = (decide (1 ≤ xs.length) && decide (xs.length ≤ 60) && !xs.any fun x => !withinB x 0 1000000) := by
  unfold okSer
  rw [List.not_any_eq_all_not]
  simp

set_option maxHeartbeats 400000 in
theorem implValidSeries_big (A : Option Addr) (n c : Nat) (xs : List Int) (w : World) (h : RdI w A n xs) (hn : n ≤ 2097152) :
    Calls Tryz.prog 71 #[.slice A n c] w fun e w' => e = .returned (.bool (okSer xs)) ∧ w = w' := by
  have HL := hide h.len
  by_cases h1 : (1 : Int) ≤ n
  · by_cases h2 : (n : Int) ≤ 60
    · have e1 : decide ((1 : Int) ≤ n) = true := by simpa using h1
      have e2 : decide ((n : Int) ≤ 60) = true := by simpa using h2
      go_enter Tryz.func71, Tryz.ntmps71
      go_wp2_with (go_at_call 117; refine (containsFuncI_big _ _ _ xs _ (fun x => !withinB x 0 1000000) _ h hn Tryz.call151 (fun x w _ => validSeries1_calls x w)).mono ?_; rintro e w' ⟨rfl, rfl⟩)
      go_ret
      refine ⟨ret_bool ?_, rfl⟩
      rw [okSer_any, HL.out, decide_eq_true (by omega : 1 ≤ n), decide_eq_true (by omega : n ≤ 60)]
      simp
    · have e1 : decide ((1 : Int) ≤ n) = true := by simpa using h1
      have e2 : decide ((n : Int) ≤ 60) = false := by simpa using h2
      go_enter Tryz.func71, Tryz.ntmps71
      go_wp2
      go_ret
      refine ⟨ret_bool ?_, rfl⟩
      rw [okSer_any, HL.out, decide_eq_false (by omega : ¬ n ≤ 60)]
      simp
  · have e1 : decide ((1 : Int) ≤ n) = false := by simpa using h1
    go_enter Tryz.func71, Tryz.ntmps71
    go_wp2
    go_ret
    refine ⟨ret_bool ?_, rfl⟩
    rw [okSer_any, HL.out, decide_eq_false (by omega : ¬ 1 ≤ n)]
    simp
theorem implValidSeries_calls (A : Option Addr) (n c : Nat) (xs : List Int) (w : World) (h : RdI w A n xs) (hn : n ≤ 1048576) :
    Calls Tryz.prog 71 #[.slice A n c] w fun e w' => e = .returned (.bool (okSer xs)) ∧ w = w' := implValidSeries_big A n c xs w h (Nat.le_trans hn (by decide))
end Go.Proofs.YtcclfmapbgdpdaaGreatDoor
