/- SameHistory of the program and of the reference. -/
import Derived.Test.YtmcdafaadodekaaVerZ
namespace Go.Proofs.Ytmcdafaadodekaa
open Go.RowKit
set_option linter.unusedVariables false

set_option maxHeartbeats 2000000 in
theorem sameHistory1_calls (nu pa nu' pa' : Int) (me me' : ByteArray) (Aq Aq' : Option Addr) (nq cq nq' cq' : Nat) (st st' : List SetZ) (w : World) (h : RdS w Aq nq st) (h' : RdS w Aq' nq' st') (hn : nq ≤ 1048576) (hn' : nq' ≤ 1048576) :
    Calls Try.prog 69 #[.agg #[.int .i64 nu, .int .i64 pa, .string me, .slice Aq nq cq], .agg #[.int .i64 nu', .int .i64 pa', .string me', .slice Aq' nq' cq']] w fun e w' => e = .returned (.bool (eqVB nu pa me st nu' pa' me' st')) ∧ Below w.heap.size w w' := by
  have B := hide (((Below.refl w.heap.size w).alloc (Nat.le_refl _) (.cells #[.int .i64 nu, .int .i64 pa, .string me, .slice Aq nq cq] 84)).alloc (by simp) (.cells #[.int .i64 nu', .int .i64 pa', .string me', .slice Aq' nq' cq'] 84))
  by_cases c1 : nu = nu'
  case neg =>
    have e1 : (nu == nu') = false := by simpa using c1
    have e1' : (nu != nu') = true := by simpa using c1
    have HN := hide (eqVB_nu (pa := pa) (me := me) (st := st) (pa' := pa') (me' := me') (st' := st') c1)
    clear c1
    go_enter Try.func69, Try.ntmps69
    go_wp2
    go_ret
    exact ⟨ret_bool HN.out.symm, B.out⟩
  subst c1
  by_cases c2 : pa = pa'
  case neg =>
    have e1 : (pa == pa') = false := by simpa using c2
    have e1' : (pa != pa') = true := by simpa using c2
    have HN := hide (eqVB_pa (nu := nu) (me := me) (st := st) (nu' := nu) (me' := me') (st' := st') c2)
    clear c2
    go_enter Try.func69, Try.ntmps69
    go_wp2
    go_ret
    exact ⟨ret_bool HN.out.symm, B.out⟩
  subst c2
  by_cases c3 : me = me'
  case neg =>
    obtain ⟨e1, e1'⟩ := str_ne c3
    have HN := hide (eqVB_me (nu := nu) (pa := pa) (st := st) (nu' := nu) (pa' := pa) (st' := st') c3)
    clear c3
    go_enter Try.func69, Try.ntmps69
    go_wp2
    go_ret
    exact ⟨ret_bool HN.out.symm, B.out⟩
  subst c3
  have HN := hide (eqVB_st (nu := nu) (pa := pa) (me := me) (st := st) (st' := st'))
  rcases b_cases (decide (st = st')) with hd | hd
  all_goals
    rw [hd] at HN
    go_enter Try.func69, Try.ntmps69
    go_wp2_with (go_at_call 70; refine (implSameState_calls _ _ _ _ _ _ st st' _ (h.below B.out (Nat.le_refl _)) (h'.below B.out (Nat.le_refl _)) hn hn').mono ?_; rw [hd]; rintro e w1 ⟨rfl, m, rfl⟩)
    go_ret
    exact ⟨ret_bool HN.out.symm, below_drewN B.out m⟩

set_option maxHeartbeats 2000000 in
theorem equalFuncV_calls (A A' : Option Addr) (n n' c c' : Nat) (rs ts : List VerC) (w : World) (h : RdV w A n rs) (h' : RdV w A' n' ts) (hn : n ≤ 1048576) (hn' : n' ≤ 1048576) (hq : ∀ r ∈ rs, r.n ≤ 1048576) (hq' : ∀ r ∈ ts, r.n ≤ 1048576) :
    Calls Try.prog 68 #[.slice A n c, .slice A' n' c', .func (.func 69) #[] #[]] w fun e w' => e = .returned (.bool (decide (zV rs = zV ts))) ∧ Below w.heap.size w w' := by
  have HL := hide ((zV_len rs).trans h.2.1)
  have HL' := hide ((zV_len ts).trans h'.2.1)
  have HQ := hide hq
  have HQ' := hide hq'
  clear hq hq'
  by_cases hnn : n = n'
  · subst hnn
    go_enter Try.func68, Try.ntmps68
    go_wp2
    go_loopw [17] (fun i wr => ∃ (k : Nat), k ≤ n ∧ i = .int .i64 k ∧ Hid ((zV rs).take k = (zV ts).take k) ∧ Below w.heap.size w wr) (fun i _ => n - (intOf i).toNat)
    case atStart => exact ⟨0, Nat.zero_le _, rfl, by simp [Hid], Below.refl _ _⟩
    case round =>
      obtain ⟨k, hk, rfl, HC, hb⟩ := hrel
      by_cases hlt : k < n
      · obtain ⟨b, off, nu, pa, me, Aq, nq, cq, st, rfl, hbl, hx, hc, hc2, hc3, hc4, hn1, hn2, hp1, hp2, hme, hst, hnq⟩ := (h.below hb (Nat.le_refl _)).at hlt
        obtain ⟨b', off', nu', pa', me', Aq', nq', cq', st', rfl, hbl', hx', hc', hc2', hc3', hc4', hn1', hn2', hp1', hp2', hme', hst', hnq'⟩ := (h'.below hb (Nat.le_refl _)).at hlt
        have hm1 := HQ.out _ (List.mem_of_getElem? hx.out)
        have hm2 := HQ'.out _ (List.mem_of_getElem? hx'.out)
        simp only at hm1 hm2
        have hz := hide (zV_at hx.out)
        have hz' := hide (zV_at hx'.out)
        have BB := hide (((Below.refl wr.heap.size wr).alloc (Nat.le_refl _) (.cells #[.int .i64 nu, .int .i64 pa, .string me, .slice Aq nq cq] 84)).alloc (by simp) (.cells #[.int .i64 nu', .int .i64 pa', .string me', .slice Aq' nq' cq'] 84))
        rcases b_cases (eqVB nu pa me st nu' pa' me' st') with he | he
        all_goals
          go_wp2_with fail
          refine (sameHistory1_calls _ _ _ _ _ _ _ _ _ _ _ _ st st' _ (hst.below BB.out (Nat.le_refl _)) (hst'.below BB.out (Nat.le_refl _)) hm1 hm2).mono ?_
          rw [he]
          rintro e w3 ⟨rfl, hb3⟩
          have hbx := hb.trans ((BB.out.trans (hb3.mono BB.out.size)).mono hb.size)
        · go_wp2
          go_ret
          exact ⟨ret_bool (decide_eq_false (ne_of_at hz.out hz'.out (eqVB_false he))).symm, hbx⟩
        · go_wp2
          go_roundw
          case rel =>
            refine ⟨k + 1, by omega, by go_num, ?_, hbx⟩
            unfold Hid
            rw [take_snoc hz.out, take_snoc hz'.out, HC.out]
            congr 2
            exact eqVB_true he
          case measure => simp [intOf]; omega
      · have hkn : k = n := by omega
        subst hkn
        go_wp2
        go_ret
        exact ⟨ret_bool (decide_eq_true (eq_of_takes HL.out HL'.out HC.out)).symm, hb⟩
  · have hne : ((n : Int) != n') = true := by simp; omega
    go_enter Try.func68, Try.ntmps68
    go_wp2
    go_ret
    exact ⟨ret_bool (decide_eq_false (ne_of_len HL.out HL'.out hnn)).symm, Below.refl _ _⟩

theorem implSameHistoryR_calls (A A' : Option Addr) (n n' c c' : Nat) (rs ts : List VerC) (w : World) (h : RdV w A n rs) (h' : RdV w A' n' ts) (hn : n ≤ 1048576) (hn' : n' ≤ 1048576) (hq : ∀ r ∈ rs, r.n ≤ 1048576) (hq' : ∀ r ∈ ts, r.n ≤ 1048576) :
    Calls Try.prog 23 #[.slice A n c, .slice A' n' c'] w fun e w' => e = .returned (.bool (decide (zV rs = zV ts))) ∧ Below w.heap.size w w' := by
  go_enter Try.func23, Try.ntmps23
  go_wp2_with (go_at_call 68; refine (equalFuncV_calls _ _ _ _ _ _ _ _ _ h h' hn hn' hq hq').mono ?_; rintro e w1 ⟨rfl, hb⟩)
  go_ret
  exact ⟨rfl, hb⟩

theorem l27Same_q (A A' : Option Addr) (n n' c c' : Nat) (ss ts : List SetZ) (w : World) (h : RdS w A n ss) (h' : RdS w A' n' ts) (hn : n ≤ 1048576) (hn' : n' ≤ 1048576) (q : Bool) (hq : decide (ss = ts) = q) :
    Calls Try.prog 66 #[.slice A n c, .slice A' n' c'] w fun e w' => e = .returned (.bool q) ∧ ∃ m, w' = w.drewN m := hq ▸ l27Same_calls A A' n n' c c' ss ts w h h' hn hn'

set_option maxHeartbeats 4000000 in
theorem specSameHistoryR_calls (A A' : Option Addr) (n n' c c' : Nat) (rs ts : List VerC) (w : World) (h : RdV w A n rs) (h' : RdV w A' n' ts) (hn : n ≤ 1048576) (hn' : n' ≤ 1048576) (hq : ∀ r ∈ rs, r.n ≤ 1048576) (hq' : ∀ r ∈ ts, r.n ≤ 1048576) :
    Calls Try.prog 21 #[.slice A n c, .slice A' n' c'] w fun e w' => e = .returned (.bool (decide (zV rs = zV ts))) ∧ ∃ m, w' = w.drewN m := by
  have HL := hide ((zV_len rs).trans h.2.1)
  have HL' := hide ((zV_len ts).trans h'.2.1)
  have HQ := hide hq
  have HQ' := hide hq'
  clear hq hq'
  by_cases hnn : n = n'
  · subst hnn
    go_enter Try.func21, Try.ntmps21
    go_wp2
    go_loopw [5] (fun i wr => ∃ (k : Nat), k ≤ n ∧ i = .int .i64 k ∧ Hid ((zV rs).take k = (zV ts).take k) ∧ ∃ m, wr = w.drewN m) (fun i _ => n - (intOf i).toNat)
    case atStart => exact ⟨0, Nat.zero_le _, rfl, by simp [Hid], 0, rfl⟩
    case round =>
      obtain ⟨k, hk, rfl, HC, m, rfl⟩ := hrel
      by_cases hlt : k < n
      · obtain ⟨b, off, nu, pa, me, Aq, nq, cq, st, rfl, hbl, hx, hc, hc2, hc3, hc4, hn1, hn2, hp1, hp2, hme, hst, hnq⟩ := h.at hlt
        obtain ⟨b', off', nu', pa', me', Aq', nq', cq', st', rfl, hbl', hx', hc', hc2', hc3', hc4', hn1', hn2', hp1', hp2', hme', hst', hnq'⟩ := h'.at hlt
        have hm1 := HQ.out _ (List.mem_of_getElem? hx.out)
        have hm2 := HQ'.out _ (List.mem_of_getElem? hx'.out)
        simp only at hm1 hm2
        have hz := hide (zV_at hx.out)
        have hz' := hide (zV_at hx'.out)
        by_cases c1 : nu = nu'
        case neg =>
          have e1 : (nu == nu') = false := by simpa using c1
          have e1' : (nu != nu') = true := by simpa using c1
          have HN := hide (decide_eq_false (ne_of_at hz.out hz'.out (eqVB_false (eqVB_nu (pa := pa) (me := me) (st := st) (pa' := pa') (me' := me') (st' := st') c1))))
          clear c1
          go_wp2
          go_quiet (fail)
          go_wp2
          go_ret
          exact ⟨ret_bool HN.out.symm, (by first | exact ⟨_, rfl⟩ | exact drewN2 _ _ _)⟩
        subst c1
        by_cases c2 : pa = pa'
        case neg =>
          have e1 : (pa == pa') = false := by simpa using c2
          have e1' : (pa != pa') = true := by simpa using c2
          have HN := hide (decide_eq_false (ne_of_at hz.out hz'.out (eqVB_false (eqVB_pa (nu := nu) (me := me) (st := st) (nu' := nu) (me' := me') (st' := st') c2))))
          clear c2
          go_wp2
          go_quiet (fail)
          go_wp2
          go_ret
          exact ⟨ret_bool HN.out.symm, (by first | exact ⟨_, rfl⟩ | exact drewN2 _ _ _)⟩
        subst c2
        by_cases c3 : me = me'
        case neg =>
          obtain ⟨e1, e1'⟩ := str_ne c3
          have HN := hide (decide_eq_false (ne_of_at hz.out hz'.out (eqVB_false (eqVB_me (nu := nu) (pa := pa) (st := st) (nu' := nu) (pa' := pa) (st' := st') c3))))
          clear c3
          go_wp2
          go_quiet (fail)
          go_wp2
          go_ret
          exact ⟨ret_bool HN.out.symm, (by first | exact ⟨_, rfl⟩ | exact drewN2 _ _ _)⟩
        subst c3
        rcases b_cases (decide (st = st')) with hd | hd
        · have HN := hide (decide_eq_false (ne_of_at hz.out hz'.out (eqVB_false (eqVB_st.trans hd))))
          go_wp2
          go_quiet (first | exact quiet_dr (l27Same_q _ _ _ _ _ _ st st' _ (by exact hst) (by exact hst') hm1 hm2 _ hd) | exact quiet_dr2 (l27Same_q _ _ _ _ _ _ st st' _ (by exact hst) (by exact hst') hm1 hm2 _ hd))
          go_wp2
          go_ret
          exact ⟨ret_bool HN.out.symm, (by first | exact ⟨_, rfl⟩ | exact drewN2 _ _ _)⟩
        · have HN := hide (eqVB_true (nu := nu) (pa := pa) (me := me) (st := st) (nu' := nu) (pa' := pa) (me' := me) (st' := st') (eqVB_st.trans hd))
          go_wp2
          go_quiet (first | exact quiet_dr (l27Same_q _ _ _ _ _ _ st st' _ (by exact hst) (by exact hst') hm1 hm2 _ hd) | exact quiet_dr2 (l27Same_q _ _ _ _ _ _ st st' _ (by exact hst) (by exact hst') hm1 hm2 _ hd))
          go_wp2
          go_roundw
          case rel =>
            refine ⟨k + 1, by omega, by go_num, ?_, (by first | exact ⟨_, rfl⟩ | exact drewN2 _ _ _)⟩
            unfold Hid
            rw [take_snoc hz.out, take_snoc hz'.out, HC.out]
            congr 2
            all_goals exact HN.out
          case measure => simp [intOf]; omega
      · have hkn : k = n := by omega
        subst hkn
        go_wp2
        go_ret
        exact ⟨ret_bool (decide_eq_true (eq_of_takes HL.out HL'.out HC.out)).symm, _, rfl⟩
  · have hne : ((n : Int) != n') = true := by simp; omega
    go_enter Try.func21, Try.ntmps21
    go_wp2
    go_ret
    exact ⟨ret_bool (decide_eq_false (ne_of_len HL.out HL'.out hnn)).symm, 0, rfl⟩

theorem implSameHistory_calls (A A' : Option Addr) (n n' c c' : Nat) (vs ts : List VerZ) (w : World) (h : RdVz w A n vs) (h' : RdVz w A' n' ts) (hn : n ≤ 1048576) (hn' : n' ≤ 1048576) (hs : Short vs) (hs' : Short ts) :
    Calls Try.prog 23 #[.slice A n c, .slice A' n' c'] w fun e w' => e = .returned (.bool (decide (vs = ts))) ∧ Below w.heap.size w w' := by
  obtain ⟨rs, h, rfl⟩ := h
  obtain ⟨rs', h', rfl⟩ := h'
  exact implSameHistoryR_calls A A' n n' c c' rs rs' w h h' hn hn' (hs.of h) (hs'.of h')
theorem specSameHistory_calls (A A' : Option Addr) (n n' c c' : Nat) (vs ts : List VerZ) (w : World) (h : RdVz w A n vs) (h' : RdVz w A' n' ts) (hn : n ≤ 1048576) (hn' : n' ≤ 1048576) (hs : Short vs) (hs' : Short ts) :
    Calls Try.prog 21 #[.slice A n c, .slice A' n' c'] w fun e w' => e = .returned (.bool (decide (vs = ts))) ∧ ∃ m, w' = w.drewN m := by
  obtain ⟨rs, h, rfl⟩ := h
  obtain ⟨rs', h', rfl⟩ := h'
  exact specSameHistoryR_calls A A' n n' c c' rs rs' w h h' hn hn' (hs.of h) (hs'.of h')

end Go.Proofs.Ytmcdafaadodekaa
