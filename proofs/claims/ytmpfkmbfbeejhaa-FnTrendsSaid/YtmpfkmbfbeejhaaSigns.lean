/- SameSigns of the program and of the reference, and cmp.Compare at int64. -/
import Derived.Test.YtmpfkmbfbeejhaaSer
import Derived.Test.YtmpfkmbfbeejhaaPlainSer
namespace Go.Proofs.Ytmpfkmbfbeejhaa
open Go.RowKit
set_option linter.unusedVariables false

theorem isNaN_calls (x : Int) (w : World) : Calls Try.prog 75 #[.int .i64 x] w fun e w' => e = .returned (.bool false) ∧ w = w' := by
  go_enter Try.func75, Try.ntmps75
  go_wp2
  all_goals go_ret
  all_goals exact ⟨by simp, rfl⟩

set_option maxHeartbeats 400000 in
theorem cmpI_calls (x y : Int) (w : World) : Calls Try.prog 48 #[.int .i64 x, .int .i64 y] w fun e w' => e = .returned (.int .i64 (cmpZ x y)) ∧ w = w' := by
  rcases cmpZ_cases x y with ⟨h, e⟩ | ⟨h, e⟩ | ⟨h, e⟩
  · have E := hide e
    clear e
    go_enter Try.func48, Try.ntmps48
    go_wp2_with (go_at_call 75; refine (isNaN_calls _ _).mono ?_; rintro e w' ⟨rfl, rfl⟩)
    go_ret
    exact ⟨ret_int E.out.symm, rfl⟩
  · subst h
    have E := hide e
    clear e
    go_enter Try.func48, Try.ntmps48
    go_wp2_with (go_at_call 75; refine (isNaN_calls _ _).mono ?_; rintro e w' ⟨rfl, rfl⟩)
    go_ret
    exact ⟨ret_int E.out.symm, rfl⟩
  · have E := hide e
    clear e
    go_enter Try.func48, Try.ntmps48
    go_wp2_with (go_at_call 75; refine (isNaN_calls _ _).mono ?_; rintro e w' ⟨rfl, rfl⟩)
    go_ret
    exact ⟨ret_int E.out.symm, rfl⟩

/-- What SameSigns returns. -/
def sgC (xs ys : List Int) : Int := if okSer xs && okSer ys then (if xs.length = ys.length then 0 else 7) else 1
def sgA (xs ys : List Int) : Int := if sgC xs ys = 0 then ((sgZ xs ys (xs.length - 1)).1 : Int) else 0
def sgB (xs ys : List Int) : Int := if sgC xs ys = 0 then ((sgZ xs ys (xs.length - 1)).2 : Int) else 0
def sgT (xs ys : List Int) : Value := .tuple #[.int .i64 (sgA xs ys), .int .i64 (sgB xs ys), .int .i64 (sgC xs ys)]
theorem sgT_bad {xs ys : List Int} (h : okSer xs = false ∨ okSer ys = false) : sgT xs ys = .tuple #[.int .i64 0, .int .i64 0, .int .i64 1] := by
  rcases h with h | h <;> simp [sgT, sgA, sgB, sgC, h]
theorem sgT_len {xs ys : List Int} (h : okSer xs = true) (h' : okSer ys = true) (hl : xs.length ≠ ys.length) : sgT xs ys = .tuple #[.int .i64 0, .int .i64 0, .int .i64 7] := by
  simp [sgT, sgA, sgB, sgC, h, h', hl]
theorem sgT_ok {xs ys : List Int} {n k s o : Nat} (h : okSer xs = true) (h' : okSer ys = true) (hl : xs.length = n) (hl' : ys.length = n) (hk : k + 1 = n) (hs : sgZ xs ys k = (s, o)) : sgT xs ys = .tuple #[.int .i64 s, .int .i64 o, .int .i64 0] := by
  have : xs.length - 1 = k := by omega
  have e : xs.length = ys.length := by omega
  simp [sgT, sgA, sgB, sgC, h, h', ← e, this, hs]
theorem ok_at {xs : List Int} {k : Nat} {x : Int} (h : okSer xs = true) (hx : xs[k]? = some x) : 0 ≤ x ∧ x ≤ 1000000 := by
  simp only [okSer, Bool.and_eq_true, List.all_eq_true] at h
  exact withinB_iff.1 (h.2 x (List.mem_of_getElem? hx))

set_option maxHeartbeats 2000000 in
theorem implSameSigns_calls (A B : Option Addr) (n m c d : Nat) (xs ys : List Int) (w : World) (h : RdI w A n xs) (h' : RdI w B m ys) (hn : n ≤ 1048576) (hm : m ≤ 1048576) :
    Calls Try.prog 17 #[.slice A n c, .slice B m d] w fun e w' => e = .returned (.tuple #[.int .i64 (sgA xs ys), .int .i64 (sgB xs ys), .int .i64 (sgC xs ys)]) ∧ ∃ k, w' = w.drewN k := by
  have HL := hide h.len
  have HL' := hide h'.len
  cases hok : okSer xs
  · go_enter Try.func17, Try.ntmps17
    go_wp2_with (go_at_call 53; refine (implValidSeries_calls _ _ _ _ _ h hn).mono ?_; rintro e w' ⟨rfl, rfl⟩)
    go_ret3
    exact ⟨congrArg Ending.returned (sgT_bad (.inl hok)).symm, 0, rfl⟩
  · cases hok' : okSer ys
    · go_enter Try.func17, Try.ntmps17
      go_wp2_with fail
      refine (implValidSeries_calls _ _ _ _ _ h hn).mono ?_
      rintro e w' ⟨rfl, rfl⟩
      go_wp2_with fail
      refine (implValidSeries_calls _ _ _ _ _ h' hm).mono ?_
      rintro e w' ⟨rfl, rfl⟩
      go_wp2
      go_ret3
      exact ⟨congrArg Ending.returned (sgT_bad (.inr hok')).symm, 0, rfl⟩
    · by_cases hnm : n = m
      · subst hnm
        have h1 : 1 ≤ n := by have := (ok_len hok).1; have := HL.out; omega
        go_enter Try.func17, Try.ntmps17
        go_wp2_with fail
        refine (implValidSeries_calls _ _ _ _ _ h hn).mono ?_
        rintro e w' ⟨rfl, rfl⟩
        go_wp2_with fail
        refine (implValidSeries_calls _ _ _ _ _ h' hm).mono ?_
        rintro e w' ⟨rfl, rfl⟩
        go_wp2
        have HOK := hide hok
        have HOK' := hide hok'
        clear hok hok'
        go_loopw [7, 8, 9] (fun s o i wr => ∃ (k s' o' : Nat), k + 1 ≤ n ∧ i = .int .i64 (k + 1 : Nat) ∧ s = .int .i64 s' ∧ o = .int .i64 o' ∧ Hid (sgZ xs ys k = (s', o')) ∧ s' ≤ k ∧ o' ≤ k ∧ ∃ j, wr = w.drewN j) (fun _ _ i _ => n - (intOf i).toNat)
        case atStart => exact ⟨0, 0, 0, by omega, rfl, rfl, rfl, rfl, by omega, by omega, 0, rfl⟩
        case round =>
          obtain ⟨k, s', o', hk, rfl, rfl, rfl, hsg, hs1, ho1, j, rfl⟩ := hrel
          by_cases hlt : k + 1 < n
          · obtain ⟨b, off, x, rfl, hbl, hx, hc, hx1, hx2⟩ := h.at hlt
            obtain ⟨b0, off0, x', hbo, _, hx', hc0, hx1', hx2'⟩ := h.at (k := k) (by omega)
            obtain ⟨rfl, rfl⟩ : b = b0 ∧ off = off0 := by simpa using hbo
            obtain ⟨b', off', y, rfl, hbl', hy, hc', hy1, hy2⟩ := h'.at hlt
            obtain ⟨b1, off1, y', hbo', _, hy', hc1, hy1', hy2'⟩ := h'.at (k := k) (by omega)
            obtain ⟨rfl, rfl⟩ : b' = b1 ∧ off' = off1 := by simpa using hbo'
            clear hbo hbo'
            have HS := hide (sgZ_step hsg.out hx.out hx'.out hy.out hy'.out)
            have hp := cmpZ_prod x x' y y'
            have hw : IntKind.i64.wrap (cmpZ x x' * cmpZ y y') = cmpZ x x' * cmpZ y y' := IntWalk.i64_in _ (by omega)
            by_cases e1 : cmpZ x x' * cmpZ y y' = 1
            · have E1 := hide e1
              have f1 : (cmpZ x x' * cmpZ y y' == 1) = true := by simpa using e1
              clear e1 hp
              go_wp2
              go_quiet ((go_at_call 48; first | exact quiet_eq (cmpI_calls _ _ _) | exact quiet_eq2 (cmpI_calls _ _ _)))
              clear hw
              go_wp2
              go_roundw
              case rel => exact ⟨k + 1, s' + 1, o', by omega, by go_num, by go_num, rfl, (by unfold Hid; rw [HS.out, if_pos E1.out]), by omega, by omega, (by first | exact ⟨_, rfl⟩ | exact drewN2 _ _ _)⟩
              case measure => simp [intOf]; omega
            · by_cases e2 : cmpZ x x' * cmpZ y y' = -1
              · have E1 := hide e1
                have E2 := hide e2
                have f1 : (cmpZ x x' * cmpZ y y' == 1) = false := by simpa using e1
                have f2 : (cmpZ x x' * cmpZ y y' == -1) = true := by simpa using e2
                clear e1 e2 hp
                go_wp2
                go_quiet ((go_at_call 48; first | exact quiet_eq (cmpI_calls _ _ _) | exact quiet_eq2 (cmpI_calls _ _ _)))
                clear hw
                go_wp2
                go_roundw
                case rel => exact ⟨k + 1, s', o' + 1, by omega, by go_num, rfl, by go_num, (by unfold Hid; rw [HS.out, if_neg E1.out, if_pos E2.out]), by omega, by omega, (by first | exact ⟨_, rfl⟩ | exact drewN2 _ _ _)⟩
                case measure => simp [intOf]; omega
              · have E1 := hide e1
                have E2 := hide e2
                have f1 : (cmpZ x x' * cmpZ y y' == 1) = false := by simpa using e1
                have f2 : (cmpZ x x' * cmpZ y y' == -1) = false := by simpa using e2
                clear e1 e2 hp
                go_wp2
                go_quiet ((go_at_call 48; first | exact quiet_eq (cmpI_calls _ _ _) | exact quiet_eq2 (cmpI_calls _ _ _)))
                clear hw
                go_wp2
                go_roundw
                case rel => exact ⟨k + 1, s', o', by omega, by go_num, rfl, rfl, (by unfold Hid; rw [HS.out, if_neg E1.out, if_neg E2.out]), by omega, by omega, (by first | exact ⟨_, rfl⟩ | exact drewN2 _ _ _)⟩
                case measure => simp [intOf]; omega
          · have hkn : k + 1 = n := by omega
            have HK := hide hkn
            clear hkn
            go_wp2
            go_ret3
            exact ⟨congrArg Ending.returned (sgT_ok HOK.out HOK'.out HL.out HL'.out HK.out hsg.out).symm, _, rfl⟩
      · have hne : ((n : Int) != m) = true := by simp; omega
        go_enter Try.func17, Try.ntmps17
        go_wp2_with fail
        refine (implValidSeries_calls _ _ _ _ _ h hn).mono ?_
        rintro e w' ⟨rfl, rfl⟩
        go_wp2_with fail
        refine (implValidSeries_calls _ _ _ _ _ h' hm).mono ?_
        rintro e w' ⟨rfl, rfl⟩
        go_wp2
        go_ret3
        exact ⟨congrArg Ending.returned (sgT_len hok hok' (by rw [HL.out, HL'.out]; exact hnm)).symm, 0, rfl⟩

end Go.Proofs.Ytmpfkmbfbeejhaa
