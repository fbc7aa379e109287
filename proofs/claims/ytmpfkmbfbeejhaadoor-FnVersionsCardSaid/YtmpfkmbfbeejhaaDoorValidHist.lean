/- Contracts on valid histories, of the program and of the reference. -/
import Derived.Test.YtmpfkmbfbeejhaaDoorVerZ
import Derived.Test.YtmpfkmbfbeejhaaDoorMg
import Derived.Test.YtmpfkmbfbeejhaaDoorMemo
namespace Go.Proofs.YtmpfkmbfbeejhaaDoor
open Go.RowKit
set_option linter.unusedVariables false

/-- Is the version at k valid? -/
def verKB (vs : List VerZ) (k : Nat) : Bool :=
  match vs[k]? with
  | none => true
  | some v => decide (v.number = (k : Int) + 1) && (withinB v.parent 0 k && (memoB v.memo && stateB v.state))
/-- Is a list of versions a history? -/
def histB (vs : List VerZ) : Bool := (List.range vs.length).all (verKB vs) && decide (vs.length ≤ 32)

section
variable {vs : List VerZ} {k n : Nat} {r : VerC}
theorem verK_nu (h : vs[k]? = some r.z) (hn : r.number ≠ (k : Int) + 1) : verKB vs k = false := by
  unfold verKB; rw [h]; simp [VerC.z, hn]
theorem verK_pa (h : vs[k]? = some r.z) (hn : withinB r.parent 0 k = false) : verKB vs k = false := by
  unfold verKB; rw [h]; simp [VerC.z, hn]
theorem verK_me (h : vs[k]? = some r.z) (hn : memoB r.memo = false) : verKB vs k = false := by
  unfold verKB; rw [h]; simp [VerC.z, hn]
theorem verK_st {pa : Int} {me : ByteArray} {A : Option Addr} {n c : Nat} {st : List SetZ} (h : vs[k]? = some (⟨(k : Int) + 1, pa, me, A, n, c, st⟩ : VerC).z) (h1 : withinB pa 0 k = true) (h2 : memoB me = true) : verKB vs k = stateB st := by
  unfold verKB; rw [h]; simp [VerC.z, h1, h2]
theorem hist_bad (hl : vs.length = n) (hk : k < n) (h : verKB vs k = false) : histB vs = false := by
  unfold histB
  have : (List.range vs.length).all (verKB vs) = false := by
    rw [List.all_eq_false]
    exact ⟨k, by simp; omega, by simp [h]⟩
  rw [this]; rfl
theorem hist_end (hl : vs.length = n) (h : ∀ j, j < n → verKB vs j = true) : histB vs = decide ((n : Int) ≤ 32) := by
  unfold histB
  have : (List.range vs.length).all (verKB vs) = true := by
    rw [List.all_eq_true]
    intro j hj
    exact h j (by simpa [hl] using hj)
  rw [this, hl]
  simp only [Bool.true_and, decide_eq_decide]
  omega
theorem all_snoc {p : Nat → Bool} (h : ∀ j, j < k → p j = true) (hk : p k = true) : ∀ j, j < k + 1 → p j = true := by
  intro j hj
  rcases Nat.lt_or_ge j k with h1 | h1
  · exact h j h1
  · rw [show j = k by omega]
    exact hk
end

theorem within_q (n low high : Int) (q : Bool) (w : World) (h : withinB n low high = q) : Calls Tryd.prog 29 #[.int .i64 n, .int .i64 low, .int .i64 high] w fun e w' => e = .returned (.bool q) ∧ w = w' := h ▸ within_calls n low high w
theorem l00In_q (n low high : Int) (q : Bool) (w : World) (h : withinB n low high = q) : Calls Tryd.prog 68 #[.int .i64 n, .int .i64 low, .int .i64 high] w fun e w' => e = .returned (.bool q) ∧ w = w' := h ▸ l00In_calls n low high w
theorem validMemo_q (s : ByteArray) (q : Bool) (w : World) (hs : s.size ≤ 9223372036854775807) (h : memoB s = q) : Calls Tryd.prog 35 #[.string s] w fun e w' => e = .returned (.bool q) ∧ Below w.heap.size w w' := h ▸ validMemo_calls s w hs
theorem l27Memo_q (s : ByteArray) (q : Bool) (w : World) (hs : s.size ≤ 9223372036854775807) (h : memoB s = q) : Calls Tryd.prog 69 #[.string s] w fun e w' => e = .returned (.bool q) ∧ w = w' := h ▸ l27Memo_calls s w hs
theorem l27State_q (A : Option Addr) (n c : Nat) (ss : List SetZ) (w : World) (h : RdS w A n ss) (hn : n ≤ 1048576) (q : Bool) (hq : stateB ss = q) :
    Calls Tryd.prog 70 #[.slice A n c] w fun e w' => e = .returned (.bool q) ∧ ∃ m, w' = w.drewN m := hq ▸ l27State_calls A n c ss w h hn
theorem implValidState_q (A : Option Addr) (n c : Nat) (ss : List SetZ) (w : World) (h : RdS w A n ss) (hn : n ≤ 1048576) (q : Bool) (hq : stateB ss = q) :
    Calls Tryd.prog 26 #[.slice A n c] w fun e w' => e = .returned (.bool q) ∧ Below w.heap.size w w' := hq ▸ implValidState_calls A n c ss w h hn

set_option maxHeartbeats 2000000 in
theorem l27OkR_calls (A : Option Addr) (n c : Nat) (rs : List VerC) (w : World) (h : RdV w A n rs) (hn : n ≤ 1048576) (hq : ∀ r ∈ rs, r.n ≤ 1048576) :
    Calls Tryd.prog 45 #[.slice A n c] w fun e w' => e = .returned (.bool (histB (zV rs))) ∧ Below w.heap.size w w' := by
  have HL := hide ((zV_len rs).trans h.2.1)
  have HQ := hide hq
  clear hq
  go_enter Tryd.func45, Tryd.ntmps45
  go_wp2
  go_loopw [3] (fun i wr => ∃ (k : Nat), k ≤ n ∧ i = .int .i64 k ∧ Hid (∀ j, j < k → verKB (zV rs) j = true) ∧ Below w.heap.size w wr) (fun i _ => n - (intOf i).toNat)
  case atStart => exact ⟨0, Nat.zero_le _, rfl, fun j hj => absurd hj (by omega), Below.refl _ _⟩
  case round =>
    obtain ⟨k, hk, rfl, HC, hb⟩ := hrel
    by_cases hlt : k < n
    · obtain ⟨b, off, nu, pa, me, Aq, nq, cq, st, rfl, hbl, hx, hc, hc2, hc3, hc4, hn1, hn2, hp1, hp2, hme, hst, hnq⟩ := (h.below hb (Nat.le_refl _)).at hlt
      have hm := HQ.out _ (List.mem_of_getElem? hx.out)
      simp only at hm
      have hz := hide (zV_at hx.out)
      have BB := hide ((Below.refl wr.heap.size wr).alloc (Nat.le_refl _) (.cells #[.int .i64 nu, .int .i64 pa, .string me, .slice Aq nq cq] 48))
      have hk1 : (k : Int) + 1 - 1 = (k : Int) := by omega
      have hbw := hb.trans (BB.out.mono hb.size)
      by_cases c1 : nu = (k : Int) + 1
      case neg =>
        have e1 : (nu == (k : Int) + 1) = false := by simpa using c1
        have e1' : (nu != (k : Int) + 1) = true := by simpa using c1
        have HN := hide (hist_bad HL.out hlt (verK_nu hz.out c1))
        clear c1
        go_wp2
        go_ret
        exact ⟨ret_bool HN.out.symm, hbw⟩
      subst c1
      rcases b_cases (withinB pa 0 k) with hw | hw
      · have HN := hide (hist_bad HL.out hlt (verK_pa hz.out hw))
        go_wp2_with (go_at_call 68; refine (l00In_q _ _ _ _ _ hw).mono ?_; rintro e w' ⟨rfl, rfl⟩)
        go_ret
        exact ⟨ret_bool HN.out.symm, hbw⟩
      · rcases b_cases (memoB me) with hmm | hmm
        · have HN := hide (hist_bad HL.out hlt (verK_me hz.out hmm))
          go_wp2_with (first
          | (go_at_call 68; refine (l00In_q _ _ _ _ _ hw).mono ?_; rintro e w' ⟨rfl, rfl⟩)
          | (go_at_call 69; refine (l27Memo_q _ _ _ hme hmm).mono ?_; rintro e w' ⟨rfl, rfl⟩))
          go_ret
          exact ⟨ret_bool HN.out.symm, hbw⟩
        · rcases b_cases (stateB st) with hss | hss
          · have HN := hide (hist_bad HL.out hlt ((verK_st hz.out hw hmm).trans hss))
            go_wp2_with (first
            | (go_at_call 68; refine (l00In_q _ _ _ _ _ hw).mono ?_; rintro e w' ⟨rfl, rfl⟩)
            | (go_at_call 69; refine (l27Memo_q _ _ _ hme hmm).mono ?_; rintro e w' ⟨rfl, rfl⟩)
            | (go_at_call 70; refine (l27State_q _ _ _ st _ (hst.below BB.out (Nat.le_refl _)) hm _ hss).mono ?_; rintro e w2 ⟨rfl, m, rfl⟩))
            go_ret
            exact ⟨ret_bool HN.out.symm, below_drewN hbw m⟩
          · have HN := hide (all_snoc HC.out ((verK_st hz.out hw hmm).trans hss))
            go_wp2_with (first
            | (go_at_call 68; refine (l00In_q _ _ _ _ _ hw).mono ?_; rintro e w' ⟨rfl, rfl⟩)
            | (go_at_call 69; refine (l27Memo_q _ _ _ hme hmm).mono ?_; rintro e w' ⟨rfl, rfl⟩)
            | (go_at_call 70; refine (l27State_q _ _ _ st _ (hst.below BB.out (Nat.le_refl _)) hm _ hss).mono ?_; rintro e w2 ⟨rfl, m, rfl⟩))
            go_roundw
            case rel => exact ⟨k + 1, by omega, by go_num, HN, below_drewN hbw m⟩
            case measure => simp [intOf]; omega
    · have hkn : k = n := by omega
      have HN := hide (hist_end HL.out (hkn ▸ HC.out))
      clear HC
      go_wp2
      go_ret
      exact ⟨ret_bool HN.out.symm, hb⟩

set_option maxHeartbeats 2000000 in
theorem implValidHistoryR_calls (A : Option Addr) (n c : Nat) (rs : List VerC) (w : World) (h : RdV w A n rs) (hn : n ≤ 1048576) (hq : ∀ r ∈ rs, r.n ≤ 1048576) :
    Calls Tryd.prog 34 #[.slice A n c] w fun e w' => e = .returned (.bool (histB (zV rs))) ∧ Below w.heap.size w w' := by
  have HL := hide ((zV_len rs).trans h.2.1)
  have HQ := hide hq
  clear hq
  go_enter Tryd.func34, Tryd.ntmps34
  go_wp2
  go_loopw [8] (fun i wr => ∃ (k : Nat), k ≤ n ∧ i = .int .i64 k ∧ Hid (∀ j, j < k → verKB (zV rs) j = true) ∧ Below w.heap.size w wr) (fun i _ => n - (intOf i).toNat)
  case atStart => exact ⟨0, Nat.zero_le _, rfl, fun j hj => absurd hj (by omega), Below.refl _ _⟩
  case round =>
    obtain ⟨k, hk, rfl, HC, hb⟩ := hrel
    by_cases hlt : k < n
    · obtain ⟨b, off, nu, pa, me, Aq, nq, cq, st, rfl, hbl, hx, hc, hc2, hc3, hc4, hn1, hn2, hp1, hp2, hme, hst, hnq⟩ := (h.below hb (Nat.le_refl _)).at hlt
      have hm := HQ.out _ (List.mem_of_getElem? hx.out)
      simp only at hm
      have hz := hide (zV_at hx.out)
      have BB := hide ((Below.refl wr.heap.size wr).alloc (Nat.le_refl _) (.cells #[.int .i64 nu, .int .i64 pa, .string me, .slice Aq nq cq] 48))
      have hk1 : (k : Int) + 1 - 1 = (k : Int) := by omega
      have hbw := hb.trans (BB.out.mono hb.size)
      by_cases c1 : nu = (k : Int) + 1
      case neg =>
        have e1 : (nu == (k : Int) + 1) = false := by simpa using c1
        have e1' : (nu != (k : Int) + 1) = true := by simpa using c1
        have HN := hide (hist_bad HL.out hlt (verK_nu hz.out c1))
        clear c1
        go_wp2
        go_ret
        exact ⟨ret_bool HN.out.symm, hbw⟩
      subst c1
      rcases b_cases (withinB pa 0 k) with hw | hw
      · have HN := hide (hist_bad HL.out hlt (verK_pa hz.out hw))
        go_wp2_with (go_at_call 29; refine (within_q _ _ _ _ _ hw).mono ?_; rintro e w' ⟨rfl, rfl⟩)
        go_ret
        exact ⟨ret_bool HN.out.symm, hbw⟩
      · rcases b_cases (memoB me) with hmm | hmm
        · have HN := hide (hist_bad HL.out hlt (verK_me hz.out hmm))
          go_wp2_with (first
          | (go_at_call 29; refine (within_q _ _ _ _ _ hw).mono ?_; rintro e w' ⟨rfl, rfl⟩)
          | (go_at_call 35; refine (validMemo_q _ _ _ hme hmm).mono ?_; rintro e w1 ⟨rfl, hb1⟩; have hcell : w1.cell? ⟨wr.heap.size, 3, none⟩ = some (.slice Aq nq cq) := (hb1.cell (by simp)).trans (by simp [go_sem]); have hbm := hide (BB.out.trans (hb1.mono BB.out.size))))
          go_ret
          exact ⟨ret_bool HN.out.symm, hb.trans (hbm.out.mono hb.size)⟩
        · rcases b_cases (stateB st) with hss | hss
          · have HN := hide (hist_bad HL.out hlt ((verK_st hz.out hw hmm).trans hss))
            go_wp2_with (first
            | (go_at_call 29; refine (within_q _ _ _ _ _ hw).mono ?_; rintro e w' ⟨rfl, rfl⟩)
            | (go_at_call 35; refine (validMemo_q _ _ _ hme hmm).mono ?_; rintro e w1 ⟨rfl, hb1⟩; have hcell : w1.cell? ⟨wr.heap.size, 3, none⟩ = some (.slice Aq nq cq) := (hb1.cell (by simp)).trans (by simp [go_sem]); have hbm := hide (BB.out.trans (hb1.mono BB.out.size)))
            | (go_at_call 26; refine (implValidState_q _ _ _ st _ (hst.below hbm.out (Nat.le_refl _)) hm _ hss).mono ?_; rintro e w2 ⟨rfl, hb2⟩))
            go_ret
            exact ⟨ret_bool HN.out.symm, (hb.trans (hbm.out.mono hb.size)).trans (hb2.mono (hb.trans (hbm.out.mono hb.size)).size)⟩
          · have HN := hide (all_snoc HC.out ((verK_st hz.out hw hmm).trans hss))
            go_wp2_with (first
            | (go_at_call 29; refine (within_q _ _ _ _ _ hw).mono ?_; rintro e w' ⟨rfl, rfl⟩)
            | (go_at_call 35; refine (validMemo_q _ _ _ hme hmm).mono ?_; rintro e w1 ⟨rfl, hb1⟩; have hcell : w1.cell? ⟨wr.heap.size, 3, none⟩ = some (.slice Aq nq cq) := (hb1.cell (by simp)).trans (by simp [go_sem]); have hbm := hide (BB.out.trans (hb1.mono BB.out.size)))
            | (go_at_call 26; refine (implValidState_q _ _ _ st _ (hst.below hbm.out (Nat.le_refl _)) hm _ hss).mono ?_; rintro e w2 ⟨rfl, hb2⟩))
            go_roundw
            case rel => exact ⟨k + 1, by omega, by go_num, HN, (hb.trans (hbm.out.mono hb.size)).trans (hb2.mono (hb.trans (hbm.out.mono hb.size)).size)⟩
            case measure => simp [intOf]; omega
    · have hkn : k = n := by omega
      have HN := hide (hist_end HL.out (hkn ▸ HC.out))
      clear HC
      go_wp2
      go_ret
      exact ⟨ret_bool HN.out.symm, hb⟩

theorem l27Ok_calls (A : Option Addr) (n c : Nat) (vs : List VerZ) (w : World) (h : RdVz w A n vs) (hn : n ≤ 1048576) (hs : Short vs) :
    Calls Tryd.prog 45 #[.slice A n c] w fun e w' => e = .returned (.bool (histB vs)) ∧ Below w.heap.size w w' := by
  obtain ⟨rs, h, rfl⟩ := h
  exact l27OkR_calls A n c rs w h hn (hs.of h)
theorem implValidHistory_calls (A : Option Addr) (n c : Nat) (vs : List VerZ) (w : World) (h : RdVz w A n vs) (hn : n ≤ 1048576) (hs : Short vs) :
    Calls Tryd.prog 34 #[.slice A n c] w fun e w' => e = .returned (.bool (histB vs)) ∧ Below w.heap.size w w' := by
  obtain ⟨rs, h, rfl⟩ := h
  exact implValidHistoryR_calls A n c rs w h hn (hs.of h)
theorem specValidHistory_calls (A : Option Addr) (n c : Nat) (vs : List VerZ) (w : World) (h : RdVz w A n vs) (hn : n ≤ 1048576) (hs : Short vs) :
    Calls Tryd.prog 18 #[.slice A n c] w fun e w' => e = .returned (.bool (histB vs)) ∧ Below w.heap.size w w' := by
  go_enter Tryd.func18, Tryd.ntmps18
  go_wp2_with (go_at_call 45; refine (l27Ok_calls _ _ _ _ _ h hn hs).mono ?_; rintro e w1 ⟨rfl, hb⟩)
  go_ret
  exact ⟨rfl, hb⟩

end Go.Proofs.YtmpfkmbfbeejhaaDoor
