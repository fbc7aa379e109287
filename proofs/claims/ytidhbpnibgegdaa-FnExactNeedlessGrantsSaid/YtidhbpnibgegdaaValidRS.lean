/- spec.l28Roles, spec.ValidRoles. -/
import Derived.Test.YtidhbpnibgegdaaValidR
namespace Go.Proofs.Ytidhbpnibgegdaa
open Go.RowKit
set_option linter.unusedVariables false

/-- What the reference has tested of the j-th role. -/
def RowOk (rs : List RoleZ) (j : Nat) : Prop := ∀ r, rs[j]? = some r → nameB r.name = true ∧ upB (namesR rs) j = true ∧ (∀ u ∈ r.under, hasR rs u = true) ∧ SortB r.under
theorem rows_ok {rs : List RoleZ} (h12 : rs.length ≤ 12) (h : ∀ j, j < rs.length → RowOk rs j) : RolesOk rs := by
  have hnames : namesB (namesR rs) = true := by
    refine names_good (names_len rs) fun j hj => ?_
    have hx : rs[j]? = some rs[j] := List.getElem?_eq_getElem hj
    have := h j hj _ hx
    refine ⟨?_, this.2.1⟩
    rw [getD_of (names_at hx)]
    exact this.1
  refine ⟨h12, hnames, fun r hr => ?_⟩
  obtain ⟨j, hj⟩ := List.mem_iff_getElem?.1 hr
  have := h j (List.getElem?_eq_some_iff.1 hj).1 r hj
  refine ⟨namesB_iff.2 ⟨fun u hu => ?_, this.2.2.2⟩, this.2.2.1⟩
  exact (namesB_iff.1 hnames).1 u (has_mem.1 (this.2.2.1 u hu))
theorem rows_not {rs : List RoleZ} {j : Nat} {r : RoleZ} (hr : rs[j]? = some r) (h : nameB r.name = false ∨ upB (namesR rs) j = false) : rolesB rs = false := by
  refine roles_bad fun hk => ?_
  have h1 := hk.2.1
  rw [names_bad (names_at hr) h] at h1
  cases h1
theorem rows_not2 {rs : List RoleZ} {j : Nat} {r : RoleZ} (hr : rs[j]? = some r) {k : Nat} {u : ByteArray} (hu : r.under[k]? = some u) (h : hasR rs u = false ∨ upB r.under k = false) : rolesB rs = false := by
  refine roles_bad fun hk => ?_
  have h1 := hk.2.2 r (List.mem_of_getElem? hr)
  rcases h with h | h
  · rw [h1.2 u (List.mem_of_getElem? hu)] at h; cases h
  · rw [sortB_up (namesB_iff.1 h1.1).2 (List.getElem?_eq_some_iff.1 hu).1] at h; cases h
theorem loops_bad {rs : List RoleZ} {k : Nat} (hk : k < rs.length) (h : noLoop rs k = false) : rolesB rs = false := by
  rw [← Bool.not_eq_true, rolesB_iff]
  intro hb
  rw [hb.2 k hk] at h
  cases h

set_option maxRecDepth 100000 in
set_option maxHeartbeats 8000000 in
theorem l28Roles_calls (A : Option Addr) (n c : Nat) (rs : List RoleZ) (w : World) (h : RdRz w A n rs) (hn : n ≤ 1048576) :
    Calls Try.prog 54 #[.slice A n c] w fun e w' => e = .returned (.bool (rolesB rs)) ∧ Below w.heap.size w w' := by
  have HL := hide h.len
  by_cases h12 : (12 : Int) < n
  · have HN := hide (roles_bad (rs := rs) (fun hk => by have := hk.1; have := HL.out; omega))
    go_enter Try.func54, Try.ntmps54
    go_wp2
    go_ret
    exact ⟨ret_bool HN.out.symm, Below.refl _ _⟩
  go_enter Try.func54, Try.ntmps54
  go_wp2
  go_loopw [3] (fun i wr => ∃ (K m : Nat), K ≤ n ∧ i = .int .i64 K ∧ Hid (∀ j, j < K → RowOk rs j) ∧ wr = w.drewN m) (fun i _ => n - (intOf i).toNat)
  case atStart => exact ⟨0, 0, Nat.zero_le _, rfl, fun j hj => absurd hj (by omega), rfl⟩
  case round =>
    obtain ⟨K, m, hK, rfl, HC, rfl⟩ := hrel
    by_cases hlt : K < n
    · obtain ⟨b, off, nm, Aq, nu, cq, us, rfl, hbl, hx, hc, hc2, hme, hst, hnq⟩ := h.at hlt
      have HN1 : Hid (∀ k, Calls Try.prog 93 #[.string nm] (w.drewN k) fun e w' => e = .returned (.bool (nameB nm)) ∧ w.drewN k = w') := fun k => l01Name_calls nm _ hme
      rcases b_cases (nameB nm) with hB | hB
      · have HN := hide (rows_not hx.out (.inl hB))
        rw [hB] at HN1
        clear hB
        go_wp2
        go_quiet (first | exact quiet_eq (HN1.out _) | exact quiet_eq2 (HN1.out _))
        go_wp2
        go_ret
        exact ⟨ret_bool HN.out.symm, (by first | exact below_drewN (Below.refl _ _) _ | exact below_drewN (below_drewN (Below.refl _ _) _) _ | exact below_drewN (below_drewN (below_drewN (Below.refl _ _) _) _) _)⟩
      have HB := hide hB
      rw [hB] at HN1
      clear hB
      rcases b_cases (upB (namesR rs) K) with hu | hu
      · -- it does not come behind the one before it
        obtain ⟨k', rfl⟩ : ∃ k', K = k' + 1 := by
          cases K with
          | zero => cases hu
          | succ k' => exact ⟨k', rfl⟩
        have HN := hide (rows_not hx.out (.inr hu))
        have hd : decide ((0 : Int) < ((k' + 1 : Nat) : Int)) = true := decide_eq_true (by omega)
        obtain ⟨_, _, p, _, _, _, _, hA, _, hy, hp, _, _, _, _⟩ := h.at (k := k') (by omega)
        obtain ⟨rfl, rfl⟩ : b = _ ∧ off = _ := by injection hA with hA; injection hA; exact ⟨‹_›, ‹_›⟩
        clear hA
        have hul := (upB_at (names_at hy.out) (names_at hx.out)).symm.trans hu
        clear hu
        rcases str_ways p nm with ⟨q1, q2, q3, q4, q5, q6, q7⟩ | ⟨q1, q2, q3, q4, q5, q6, q7⟩ | ⟨q1, q2, q3, q4, q5, q6, q7⟩
        · exfalso
          have hul' : strLess p nm = false := hul
          rw [q5] at hul'
          cases hul'
        all_goals
          clear q2 q3 q4 q5 q6 q7 hul
          go_wp2
          go_quiet (first | exact quiet_eq (HN1.out _) | exact quiet_eq2 (HN1.out _))
          go_wp2
          go_ret
          exact ⟨ret_bool HN.out.symm, (by first | exact below_drewN (Below.refl _ _) _ | exact below_drewN (below_drewN (Below.refl _ _) _) _ | exact below_drewN (below_drewN (below_drewN (Below.refl _ _) _) _) _)⟩
      have HU := hide hu
      have hways : (decide (0 < K) = false) ∨ (decide (0 < K) = true ∧ 1 ≤ K ∧ ∃ p : ByteArray, w.cell? ⟨b, off + (K - 1) * 2, none⟩ = some (.string p) ∧ Op.bytesLess p.toList nm.toList = true) := by
        cases K with
        | zero => left; rfl
        | succ k' =>
          right
          obtain ⟨_, _, p, _, _, _, _, hA, _, hy, hp, _, _, _, _⟩ := h.at (k := k') (by omega)
          obtain ⟨rfl, rfl⟩ : b = _ ∧ off = _ := by injection hA with hA; injection hA; exact ⟨‹_›, ‹_›⟩
          have hul := (upB_at (names_at hy.out) (names_at hx.out)).symm.trans hu
          exact ⟨decide_eq_true (by omega), by omega, p, by simpa using hp, hul⟩
      clear hu
      have HST := hide hst
      have HUL := hide hst.2.1
      clear hst
      rcases hways with hd | ⟨hd, hK1, p, hcp, hpl⟩
      all_goals
        go_wp2
        go_quiet (first | exact quiet_eq (HN1.out _) | exact quiet_eq2 (HN1.out _))
        clear hc hd
        try clear hcp hpl
        go_wp2
        go_loopw [4] (fun i wr => ∃ (J m : Nat), J ≤ nu ∧ i = .int .i64 J ∧ Hid ((∀ u ∈ us.take J, hasR rs u = true) ∧ SortB (us.take J)) ∧ wr = w.drewN m) (fun i _ => nu - (intOf i).toNat)
        case atStart => exact ⟨0, _, Nat.zero_le _, rfl, by simp [Hid, SortB], (by first | rfl | exact World.drewN_drewN _ _ _)⟩
        case round =>
          obtain ⟨J, m2, hJ, rfl, HC2, rfl⟩ := hrel
          by_cases hj : J < nu
          · obtain ⟨b3, off3, u, rfl, hbl3, hu, hcu, hsu⟩ := RdK.atB HST.out hj
            have HF : Hid (∀ k, Calls Try.prog 64 #[.slice (some ⟨b, off, none⟩) n c, .string u] (w.drewN k) fun e w' => e = .returned (.int .i64 (findI rs u)) ∧ w.drewN k = w') := fun k => l28Find_calls _ n c rs u _ (h.drewN k) hn
            rcases b_cases (hasR rs u) with hh | hh
            · have HN := hide (rows_not2 hx.out hu.out (.inl hh))
              rw [findI_no hh] at HF
              clear hh
              go_wp2
              go_quiet (first | exact quiet_eq (HF.out _) | exact quiet_eq2 (HF.out _))
              go_wp2
              go_ret
              exact ⟨ret_bool HN.out.symm, (by first | exact below_drewN (Below.refl _ _) _ | exact below_drewN (below_drewN (Below.refl _ _) _) _ | exact below_drewN (below_drewN (below_drewN (Below.refl _ _) _) _) _)⟩
            rw [findI_yes hh] at HF
            obtain ⟨f, hf⟩ : ∃ f, f = findN rs u := ⟨_, rfl⟩
            rw [← hf] at HF
            have hf0 : decide ((f : Int) < 0) = false := by simp
            clear hf
            have HH := hide hh
            clear hh
            rcases b_cases (upB us J) with hup | hup
            · obtain ⟨k', rfl⟩ : ∃ k', J = k' + 1 := by
                cases J with
                | zero => cases hup
                | succ k' => exact ⟨k', rfl⟩
              have HN := hide (rows_not2 hx.out hu.out (.inr hup))
              have hd2 : decide ((0 : Int) < ((k' + 1 : Nat) : Int)) = true := decide_eq_true (by omega)
              obtain ⟨_, _, p2, hA, _, hy, hp2, _⟩ := RdK.atB HST.out (show k' < nu by omega)
              obtain ⟨rfl, rfl⟩ : b3 = _ ∧ off3 = _ := by injection hA with hA; injection hA; exact ⟨‹_›, ‹_›⟩
              clear hA
              have hul := (upB_at hy.out hu.out).symm.trans hup
              clear hup
              rcases str_ways p2 u with ⟨q1, q2, q3, q4, q5, q6, q7⟩ | ⟨q1, q2, q3, q4, q5, q6, q7⟩ | ⟨q1, q2, q3, q4, q5, q6, q7⟩
              · exfalso
                rw [q5] at hul
                cases hul
              all_goals
                clear q2 q3 q4 q5 q6 q7 hul
                go_wp2
                go_quiet (first | exact quiet_eq (HF.out _) | exact quiet_eq2 (HF.out _))
                go_wp2
                go_ret
                exact ⟨ret_bool HN.out.symm, (by first | exact below_drewN (Below.refl _ _) _ | exact below_drewN (below_drewN (Below.refl _ _) _) _ | exact below_drewN (below_drewN (below_drewN (Below.refl _ _) _) _) _)⟩
            have HNX : Hid ((∀ u ∈ us.take (J + 1), hasR rs u = true) ∧ SortB (us.take (J + 1))) := by
              refine ⟨fun x hx => ?_, sortB_take hu.out HC2.out.2 hup⟩
              rw [take_snoc hu.out] at hx
              rcases List.mem_append.1 hx with hx | hx
              · exact HC2.out.1 x hx
              · simp only [List.mem_singleton] at hx
                subst hx
                exact HH.out
            have hways2 : (decide (0 < J) = false) ∨ (decide (0 < J) = true ∧ 1 ≤ J ∧ ∃ p : ByteArray, w.cell? ⟨b3, off3 + (J - 1), none⟩ = some (.string p) ∧ Op.bytesLess p.toList u.toList = true) := by
              cases J with
              | zero => left; rfl
              | succ k' =>
                right
                obtain ⟨_, _, p2, hA, _, hy, hp2, _⟩ := RdK.atB HST.out (show k' < nu by omega)
                obtain ⟨rfl, rfl⟩ : b3 = _ ∧ off3 = _ := by injection hA with hA; injection hA; exact ⟨‹_›, ‹_›⟩
                have hul := (upB_at hy.out hu.out).symm.trans hup
                exact ⟨decide_eq_true (by omega), by omega, p2, by simpa using hp2, hul⟩
            clear hup
            rcases hways2 with hd2 | ⟨hd2, hJ1, p2, hcp2, hpl2⟩
            all_goals
              go_wp2
              go_quiet (first | exact quiet_eq (HF.out _) | exact quiet_eq2 (HF.out _))
              go_wp2
              go_roundw
              case rel => exact ⟨J + 1, _, by omega, by go_num, HNX, (by first | rfl | exact World.drewN_drewN _ _ _)⟩
              case measure => simp [intOf]; omega
          · have hJn : J = nu := by omega
            have HNX : Hid (∀ j, j < K + 1 → RowOk rs j) := by
              refine upto_snoc HC.out fun r hr => ?_
              rw [hx.out] at hr
              injection hr with hr
              subst hr
              have h2 := HC2.out
              rw [List.take_of_length_le (by rw [HUL.out]; omega)] at h2
              exact ⟨HB.out, HU.out, h2.1, h2.2⟩
            clear hJn
            go_wp2
            go_roundw
            case rel => exact ⟨K + 1, _, by omega, by go_num, HNX, rfl⟩
            case measure => simp [intOf]; omega
    · have hok : RolesOk rs := rows_ok (by have := HL.out; omega) (fun j hj => HC.out j (by have := HL.out; omega))
      have HUF : Hid (∀ r ∈ rs, ∀ u ∈ r.under, hasR rs u = true) := fun r hr u hu => roles_under hok hr hu
      have HOK := hide hok
      have hbm := below_drewN (Below.refl w.heap.size w) m
      obtain ⟨wo, hwo⟩ : ∃ wo, wo = w.drewN m := ⟨_, rfl⟩
      rw [← hwo] at hbm
      rw [← hwo]
      clear hok HC hwo
      go_wp2
      go_loopw [5] (fun i wr => ∃ (K : Nat), K ≤ n ∧ i = .int .i64 K ∧ Hid (∀ j, j < K → noLoop rs j = true) ∧ Below w.heap.size w wr) (fun i _ => n - (intOf i).toNat)
      case atStart => exact ⟨0, Nat.zero_le _, rfl, fun j hj => absurd hj (by omega), hbm⟩
      case round =>
        clear hbm
        obtain ⟨K, hK, rfl, HC, hb⟩ := hrel
        by_cases hlt : K < n
        · have HM := hide (l28Under_calls A n c rs K wr (h.below hb (Nat.le_refl _)) hn HUF.out)
          have HLK : Hid (K < rs.length) := by have := HL.out; unfold Hid; omega
          go_wp2_with fail
          refine HM.out.mono ?_
          clear HM
          rintro e w1 ⟨A', c', rfl, hown, hb1⟩
          have hrd : RdK kBo w1 A' n (underB rs K) := ⟨Rd.of_own hown, by rw [under_len]; exact HL.out, fun _ _ => trivial⟩
          obtain ⟨b2, off2, x, rfl, hbl2, hx, hcx⟩ := hrd.atBo hlt
          have hno : noLoop rs K = !x := by unfold noLoop; rw [List.getD, hx.out]; rfl
          have hbn := hb.trans (hb1.mono hb.size)
          clear hown hrd
          cases x
          · have HN := hide (upto_snoc HC.out hno)
            clear hno
            go_wp2
            go_roundw
            case rel => exact ⟨K + 1, by omega, by go_num, HN, hbn⟩
            case measure => simp [intOf]; omega
          · have HN := hide (loops_bad HLK.out hno)
            clear hno
            go_wp2
            go_ret
            exact ⟨ret_bool HN.out.symm, hbn⟩
        · have HN : Hid (rolesB rs = true) := rolesB_iff.2 ⟨HOK.out, fun k hk => HC.out k (by have := HL.out; omega)⟩
          go_wp2
          go_ret
          exact ⟨ret_bool HN.out.symm, hb⟩

theorem specValidRoles_calls (A : Option Addr) (n c : Nat) (rs : List RoleZ) (w : World) (h : RdRz w A n rs) (hn : n ≤ 1048576) (hs : ShortR rs) :
    Calls Try.prog 15 #[.slice A n c] w fun e w' => e = .returned (.bool (rolesB rs)) ∧ Below w.heap.size w w' := by
  have HM := hide (l28Roles_calls A n c rs w h hn)
  clear h
  go_enter Try.func15, Try.ntmps15
  go_wp2_with fail
  refine HM.out.mono ?_
  rintro e w1 ⟨rfl, hb1⟩
  go_wp2
  go_ret
  exact ⟨rfl, hb1⟩

end Go.Proofs.Ytidhbpnibgegdaa
