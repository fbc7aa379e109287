/- RolesUnder and IsAllowedTo of the program and of the reference. -/
import Derived.Test.YtidhbpnibgegdaaHas
namespace Go.Proofs.Ytidhbpnibgegdaa
open Go.RowKit
set_option linter.unusedVariables false

def ruC (rs : List RoleZ) (nm : ByteArray) : Int := namedZ (rolesB rs) rs nm
def ruV (rs : List RoleZ) (nm : ByteArray) : List ByteArray := if rolesB rs = true ∧ hasR rs nm = true then underZ rs nm else []
theorem named_bad (rs : List RoleZ) (nm : ByteArray) : namedZ false rs nm = 1 := rfl
theorem named_no {rs : List RoleZ} {nm : ByteArray} (h : hasR rs nm = false) : namedZ true rs nm = 3 := by unfold namedZ; rw [h]; rfl
theorem named_ok {rs : List RoleZ} {nm : ByteArray} (h : hasR rs nm = true) : namedZ true rs nm = 0 := by unfold namedZ; rw [h]; rfl
theorem ruV_no {rs : List RoleZ} {nm : ByteArray} (h : rolesB rs = false ∨ hasR rs nm = false) : ruV rs nm = [] := by
  unfold ruV
  rw [if_neg]
  rintro ⟨h1, h2⟩
  rcases h with h | h
  · rw [h] at h1; cases h1
  · rw [h] at h2; cases h2
theorem ruV_ok {rs : List RoleZ} {nm : ByteArray} (h1 : rolesB rs = true) (h2 : hasR rs nm = true) : ruV rs nm = underZ rs nm := by
  unfold ruV
  rw [if_pos ⟨h1, h2⟩]
/-- The names under a role are names of roles: their bytes are as many as one may have. -/
theorem fineU {w : World} {A : Option Addr} {n : Nat} {rs : List RoleZ} (h : RdRz w A n rs) (hs : SortB (namesR rs)) (nm : ByteArray) : ∀ x ∈ underZ rs nm, x.size ≤ 9223372036854775807 := fun x hx => fineR h x (has_mem.1 ((underZ_mem hs).1 hx).1)

/-- What a function that gives names and a code leaves. -/
def NCPost (xs : List ByteArray) (c : Int) (w : World) (e : Ending) (w' : World) : Prop :=
  ∃ A' n' c', e = .returned (.tuple #[.slice A' n' c', .int .i64 c]) ∧ FrK kB w' w.heap.size w'.heap.size 9 A' n' xs ∧ n' ≤ 1048576 ∧ Below w.heap.size w w'
theorem NCPost.none {xs : List ByteArray} {c c0 : Int} {w w' : World} (hx : xs = []) (hc : c = c0) (hb : Below w.heap.size w w') : NCPost xs c w (.returned (.tuple #[.slice Option.none 0 0, .int .i64 c0])) w' := by
  subst hx hc
  exact ⟨Option.none, 0, 0, rfl, FrK.nil, by omega, hb⟩

set_option maxHeartbeats 1000000 in
theorem implRolesUnder_calls (A : Option Addr) (n c : Nat) (rs : List RoleZ) (nm : ByteArray) (w : World) (h : RdRz w A n rs) (hq : nm.size ≤ 9223372036854775807) (hn : n ≤ 1048576) (hq' : nm.size ≤ 1048576) (hs : ShortR rs) :
    Calls Try.prog 20 #[.slice A n c, .string nm] w (NCPost (ruV rs nm) (ruC rs nm) w) := by
  have HM := hide (implValidRoles_calls A n c rs w h hn hs)
  have HC : Hid (ruC rs nm = namedZ (rolesB rs) rs nm) := rfl
  rcases b_cases (rolesB rs) with hr | hr
  · have HV := hide (ruV_no (nm := nm) (.inl hr))
    rw [hr] at HM HC
    clear hr
    go_enter Try.func20, Try.ntmps20
    go_wp2_with fail
    refine HM.out.mono ?_
    rintro e w1 ⟨rfl, hb1⟩
    have HN := hide (named_calls false A n c rs nm w1 (h.below hb1 (Nat.le_refl _)) hn)
    rw [named_bad] at HN HC
    go_wp2_with fail
    refine HN.out.mono ?_
    rintro e w2 ⟨rfl, hb2⟩
    go_wp2
    go_ret2
    exact NCPost.none HV.out HC.out (hb1.trans (hb2.mono hb1.size))
  rw [hr] at HM HC
  rcases b_cases (hasR rs nm) with hh | hh
  · have HV := hide (ruV_no (rs := rs) (.inr hh))
    have HNN := hide (named_no hh)
    clear hr hh
    go_enter Try.func20, Try.ntmps20
    go_wp2_with fail
    refine HM.out.mono ?_
    rintro e w1 ⟨rfl, hb1⟩
    have HN := hide (named_calls true A n c rs nm w1 (h.below hb1 (Nat.le_refl _)) hn)
    rw [HNN.out] at HN HC
    go_wp2_with fail
    refine HN.out.mono ?_
    rintro e w2 ⟨rfl, hb2⟩
    go_wp2
    go_ret2
    exact NCPost.none HV.out HC.out (hb1.trans (hb2.mono hb1.size))
  · have HV := hide (ruV_ok hr hh)
    have HNN := hide (named_ok hh)
    have HOK := hide (roles_ok hr)
    have HH := hide hh
    clear hr hh
    go_enter Try.func20, Try.ntmps20
    go_wp2_with fail
    refine HM.out.mono ?_
    rintro e w1 ⟨rfl, hb1⟩
    have HN := hide (named_calls true A n c rs nm w1 (h.below hb1 (Nat.le_refl _)) hn)
    rw [HNN.out] at HN HC
    go_wp2_with fail
    refine HN.out.mono ?_
    rintro e w2 ⟨rfl, hb2⟩
    have hb := hb1.trans (hb2.mono hb1.size)
    have HU := hide (under_calls A n c rs nm w2 (h.below hb (Nat.le_refl _)) HOK.out HH.out)
    go_wp2_with fail
    refine HU.out.mono ?_
    rintro e w3 ⟨A', n', c', rfl, hown, hl, hb3⟩
    have HO := hide (And.intro hown hl)
    clear hown hl
    go_wp2
    go_ret2
    refine ⟨A', n', c', ret_two rfl (congrArg (Value.int .i64) HC.out.symm), ?_, ?_, hb.trans (hb3.mono hb.size)⟩
    · rw [HV.out]
      exact (FrK.of_own (K := kB) HO.out.1 HO.out.2 (fineU h HOK.out.sort nm)).mono hb.size (Nat.le_refl _)
    · have := underZ_len HOK.out nm
      rw [HO.out.2] at this
      omega

set_option maxHeartbeats 4000000 in
theorem specRolesUnder_calls (A : Option Addr) (n c : Nat) (rs : List RoleZ) (nm : ByteArray) (w : World) (h : RdRz w A n rs) (hq : nm.size ≤ 9223372036854775807) (hn : n ≤ 1048576) (hq' : nm.size ≤ 1048576) (hs : ShortR rs) :
    Calls Try.prog 19 #[.slice A n c, .string nm] w (NCPost (ruV rs nm) (ruC rs nm) w) := by
  have HL := hide h.len
  have HM := hide (l28Roles_calls A n c rs w h hn)
  have HC : Hid (ruC rs nm = namedZ (rolesB rs) rs nm) := rfl
  rcases b_cases (rolesB rs) with hr | hr
  · have HV := hide (ruV_no (nm := nm) (.inl hr))
    rw [hr, named_bad] at HC
    rw [hr] at HM
    clear hr
    go_enter Try.func19, Try.ntmps19
    go_wp2_with fail
    refine HM.out.mono ?_
    rintro e w1 ⟨rfl, hb1⟩
    go_wp2
    go_ret2
    exact NCPost.none HV.out HC.out hb1
  rw [hr] at HM HC
  rcases b_cases (hasR rs nm) with hh | hh
  · have HV := hide (ruV_no (rs := rs) (.inr hh))
    rw [named_no hh] at HC
    have HFN := hide (findI_no hh)
    clear hr hh
    go_enter Try.func19, Try.ntmps19
    go_wp2_with fail
    refine HM.out.mono ?_
    rintro e w1 ⟨rfl, hb1⟩
    have HF := hide (l28Find_calls A n c rs nm w1 (h.below hb1 (Nat.le_refl _)) hn)
    rw [HFN.out] at HF
    go_wp2_with fail
    refine HF.out.mono ?_
    rintro e w2 ⟨rfl, rfl⟩
    go_wp2
    go_ret2
    exact NCPost.none HV.out HC.out hb1
  have HV := hide (ruV_ok hr hh)
  rw [named_ok hh] at HC
  have HOK := hide (roles_ok hr)
  have HFN := hide (findI_yes hh)
  have HU : Hid (underZ rs nm = pickR rs (underB rs (findN rs nm))) := rfl
  have hft : findN rs nm < n := by have := hasR_iff.1 hh; rwa [h.len] at this
  clear hr hh
  generalize findN rs nm = f at *
  go_enter Try.func19, Try.ntmps19
  go_wp2_with fail
  refine HM.out.mono ?_
  clear HM
  rintro e w1 ⟨rfl, hb1⟩
  have HF := hide (l28Find_calls A n c rs nm w1 (h.below hb1 (Nat.le_refl _)) hn)
  rw [HFN.out] at HF
  go_wp2_with fail
  refine HF.out.mono ?_
  clear HF HFN
  rintro e w2 ⟨rfl, rfl⟩
  have HL2 := hide (l28Under_calls A n c rs f w1 (h.below hb1 (Nat.le_refl _)) hn (fun r hr u hu => roles_under HOK.out hr hu))
  go_wp2_with fail
  refine HL2.out.mono ?_
  clear HL2
  rintro e w2 ⟨A', c', rfl, hown, hb2⟩
  have hb := hb1.trans (hb2.mono hb1.size)
  have hrd : RdK kBo w2 A' n (underB rs f) := ⟨Rd.of_own hown, by rw [under_len]; exact HL.out, fun _ _ => trivial⟩
  have HRD := hide hrd
  have hown0 := World.ownsRow_lit (base := w2.heap.size) (e := 9) (size := 1) w2 #[] 0 (Nat.le_refl _) (by simp) rfl
  have hba := (Below.refl w2.heap.size w2).alloc (Nat.le_refl _) (.cells #[] 9)
  have h2 := h.below hb (Nat.le_refl _)
  clear hown hrd h
  obtain ⟨wo, rfl⟩ : ∃ wo : World, wo = w2 := ⟨_, rfl⟩
  go_wp2
  go_loopw [8, 9] (fun v i wr => ∃ (J m c3 : Nat) (A3 : Option Addr), J ≤ n ∧ m ≤ J ∧ i = .int .i64 J ∧ v = .slice A3 m c3 ∧ Hid (wr.ownsRow wo.heap.size 9 1 (.slice A3 m c3) m (cK kB (pickK rs (underB rs f) J)) ∧ (pickK rs (underB rs f) J).length = m) ∧ Below wo.heap.size wo wr) (fun _ i _ => n - (intOf i).toNat)
  case atStart => exact ⟨0, 0, _, _, Nat.zero_le _, Nat.le_refl _, rfl, rfl, by simpa [Hid, cK, pickK] using hown0, hba⟩
  case round =>
    clear hown0 hba
    obtain ⟨J, m, c3, A3, hJ, hmJ, rfl, rfl, HO, hb3⟩ := hrel
    by_cases hlt : J < n
    · obtain ⟨b, off, nm2, Aq, nq, cq, us, rfl, hbl, hx, hc, _, _, _, _⟩ := (h2.below hb3 (Nat.le_refl _)).at hlt
      obtain ⟨b2, off2, q, rfl, hbl2, hq2, hcq⟩ := (HRD.out.below hb3 (Nat.le_refl _)).atBo hlt
      have HE := hide (pickK_snoc hx.out hq2.out)
      have hsz := hb3.size
      cases q
      · have HE2 : Hid (pickK rs (underB rs f) (J + 1) = pickK rs (underB rs f) J) := by unfold Hid; rw [HE.out]; simp
        go_wp2
        go_roundw
        case rel => exact ⟨J + 1, m, c3, A3, by omega, by omega, by go_num, rfl, by rw [HE2.out]; exact HO, hb3⟩
        case measure => simp [intOf]; omega
      · have HE2 : Hid (pickK rs (underB rs f) (J + 1) = pickK rs (underB rs f) J ++ [nm2]) := HE.out
        have HO1 := hide HO.out.1
        go_wp2_with (at_builtin; refine appB rfl _ _ rfl wo.heap.size (.slice A3 m c3) m (pickK rs (underB rs f) J) nm2 rfl HO1.out (by first | rfl | (simp; rfl)) (by omega) (by omega) ?_; intro v4 w4 hown4 hb4 hz4; obtain ⟨A4, c4, rfl⟩ := own_slice hown4)
        go_roundw
        case rel => exact ⟨J + 1, m + 1, c4, A4, by omega, by omega, by go_num, rfl, by rw [HE2.out]; exact ⟨hown4, by rw [List.length_append, HO.out.2]; rfl⟩, hb3.trans hb4⟩
        case measure => simp [intOf]; omega
    · have hJn : J = n := by omega
      have HE : Hid (pickK rs (underB rs f) J = underZ rs nm) := by
        unfold Hid
        rw [HU.out, hJn]
        exact pickK_all (by rw [HL.out]; exact Nat.le_refl _)
      clear hJn
      have hsz := hb.size
      go_wp2
      go_ret2
      refine ⟨A3, m, c3, ret_two rfl (congrArg (Value.int .i64) HC.out.symm), ?_, by omega, hb.trans (hb3.mono hb.size)⟩
      rw [HV.out, ← HE.out]
      refine (FrK.of_own (K := kB) HO.out.1 HO.out.2 ?_).mono hsz (Nat.le_refl _)
      rw [HE.out]
      exact fineU h2 HOK.out.sort nm

/-! ### IsAllowedTo -/
def allowB (rs : List RoleZ) (gs : List GrantZ) (nm o : ByteArray) (a : Int) : Bool := grantsB rs gs && hasR rs nm && hasG rs gs nm o a

set_option maxHeartbeats 2000000 in
theorem implIsAllowedTo_calls (A : Option Addr) (n c : Nat) (rs : List RoleZ) (A1 : Option Addr) (n1 c1 : Nat) (gs : List GrantZ) (nm o : ByteArray) (a : Int) (w : World) (h : RdRz w A n rs) (h1 : RdK kGrant w A1 n1 gs) (_ : nm.size ≤ 9223372036854775807) (_ : o.size ≤ 9223372036854775807) (_ : I64 a) (hn : n ≤ 1048576) (hn1 : n1 ≤ 1048576) (_ : nm.size ≤ 1048576) (_ : o.size ≤ 1048576) (hs : ShortR rs) :
    Calls Try.prog 31 #[.slice A n c, .slice A1 n1 c1, .string nm, .string o, .int .i64 a] w fun e w' => e = .returned (.bool (allowB rs gs nm o a)) ∧ Below w.heap.size w w' := by
  have HM := hide (implValidGrants_calls A n c rs A1 n1 c1 gs w h h1 hn hn1 hs)
  have HZ : Hid (allowB rs gs nm o a = (grantsB rs gs && hasR rs nm && hasG rs gs nm o a)) := rfl
  rcases b_cases (grantsB rs gs) with hg | hg
  · rw [hg] at HM HZ
    clear hg
    go_enter Try.func31, Try.ntmps31
    go_wp2_with fail
    refine HM.out.mono ?_
    rintro e w1 ⟨rfl, hb1⟩
    have HN := hide (named_calls false A n c rs nm w1 (h.below hb1 (Nat.le_refl _)) hn)
    rw [named_bad] at HN
    go_wp2_with fail
    refine HN.out.mono ?_
    rintro e w2 ⟨rfl, hb2⟩
    go_wp2
    go_ret
    exact ⟨ret_bool (by rw [HZ.out]; rfl), hb1.trans (hb2.mono hb1.size)⟩
  rw [hg] at HM HZ
  rcases b_cases (hasR rs nm) with hh | hh
  · rw [hh] at HZ
    have HNN := hide (named_no hh)
    clear hg hh
    go_enter Try.func31, Try.ntmps31
    go_wp2_with fail
    refine HM.out.mono ?_
    rintro e w1 ⟨rfl, hb1⟩
    have HN := hide (named_calls true A n c rs nm w1 (h.below hb1 (Nat.le_refl _)) hn)
    rw [HNN.out] at HN
    go_wp2_with fail
    refine HN.out.mono ?_
    rintro e w2 ⟨rfl, hb2⟩
    go_wp2
    go_ret
    exact ⟨ret_bool (by rw [HZ.out]; rfl), hb1.trans (hb2.mono hb1.size)⟩
  · rw [hh] at HZ
    have HNN := hide (named_ok hh)
    have HOK := hide (roles_ok (grants_roles hg))
    have HGH : Hid (∀ x ∈ gs, hasR rs x.role = true) := fun x hx => grants_has hg hx
    have HH := hide hh
    clear hg hh
    go_enter Try.func31, Try.ntmps31
    go_wp2_with fail
    refine HM.out.mono ?_
    rintro e w1 ⟨rfl, hb1⟩
    have HN := hide (named_calls true A n c rs nm w1 (h.below hb1 (Nat.le_refl _)) hn)
    rw [HNN.out] at HN
    go_wp2_with fail
    refine HN.out.mono ?_
    rintro e w2 ⟨rfl, hb2⟩
    have hb := hb1.trans (hb2.mono hb1.size)
    have HU := hide (has_calls A n c rs A1 n1 c1 gs nm o a w2 (h.below hb (Nat.le_refl _)) (h1.below hb (Nat.le_refl _)) HOK.out HGH.out hn1 HH.out)
    generalize hasG rs gs nm o a = q at HU HZ
    go_wp2_with fail
    refine HU.out.mono ?_
    rintro e w3 ⟨rfl, hb3⟩
    go_wp2
    go_ret
    exact ⟨ret_bool (by rw [HZ.out]; rfl), hb.trans (hb3.mono hb.size)⟩

set_option maxHeartbeats 2000000 in
theorem specIsAllowedTo_calls (A : Option Addr) (n c : Nat) (rs : List RoleZ) (A1 : Option Addr) (n1 c1 : Nat) (gs : List GrantZ) (nm o : ByteArray) (a : Int) (w : World) (h : RdRz w A n rs) (h1 : RdK kGrant w A1 n1 gs) (_ : nm.size ≤ 9223372036854775807) (_ : o.size ≤ 9223372036854775807) (_ : I64 a) (hn : n ≤ 1048576) (hn1 : n1 ≤ 1048576) (_ : nm.size ≤ 1048576) (_ : o.size ≤ 1048576) (hs : ShortR rs) :
    Calls Try.prog 30 #[.slice A n c, .slice A1 n1 c1, .string nm, .string o, .int .i64 a] w fun e w' => e = .returned (.bool (allowB rs gs nm o a)) ∧ Below w.heap.size w w' := by
  have HM := hide (l28Ok_calls A n c rs A1 n1 c1 gs w h h1 hn hn1)
  have HZ : Hid (allowB rs gs nm o a = (grantsB rs gs && hasR rs nm && (isActB a && mayB rs gs (findN rs nm) o a))) := rfl
  rcases b_cases (grantsB rs gs) with hg | hg
  · rw [hg] at HM HZ
    clear hg
    go_enter Try.func30, Try.ntmps30
    go_wp2_with fail
    refine HM.out.mono ?_
    rintro e w1 ⟨rfl, hb1⟩
    go_wp2
    go_ret
    exact ⟨ret_bool (by rw [HZ.out]; rfl), hb1⟩
  rw [hg] at HM HZ
  rcases b_cases (hasR rs nm) with hh | hh
  · rw [hh] at HZ
    have HFN := hide (findI_no hh)
    clear hg hh
    go_enter Try.func30, Try.ntmps30
    go_wp2_with fail
    refine HM.out.mono ?_
    rintro e w1 ⟨rfl, hb1⟩
    have HF := hide (l28Find_calls A n c rs nm w1 (h.below hb1 (Nat.le_refl _)) hn)
    rw [HFN.out] at HF
    go_wp2_with fail
    refine HF.out.mono ?_
    rintro e w2 ⟨rfl, rfl⟩
    go_wp2
    go_ret
    exact ⟨ret_bool (by rw [HZ.out]; rfl), hb1⟩
  rw [hh] at HZ
  have HFN := hide (findI_yes hh)
  have HOK := hide (roles_ok (grants_roles hg))
  have HGH : Hid (∀ x ∈ gs, hasR rs x.role = true) := fun x hx => grants_has hg hx
  clear hg hh
  generalize findN rs nm = f at *
  rcases b_cases (isActB a) with ha | ha
  · rw [ha] at HZ
    have HA := hide ha
    clear ha
    go_enter Try.func30, Try.ntmps30
    go_wp2_with fail
    refine HM.out.mono ?_
    rintro e w1 ⟨rfl, hb1⟩
    have HF := hide (l28Find_calls A n c rs nm w1 (h.below hb1 (Nat.le_refl _)) hn)
    rw [HFN.out] at HF
    go_wp2_with fail
    refine HF.out.mono ?_
    rintro e w2 ⟨rfl, rfl⟩
    go_wp2_with fail
    refine (l28Action_calls a _).mono ?_
    rw [HA.out]
    rintro e w2 ⟨rfl, rfl⟩
    go_wp2
    go_ret
    exact ⟨ret_bool (by rw [HZ.out]; rfl), hb1⟩
  · rw [ha] at HZ
    have HA := hide ha
    clear ha
    go_enter Try.func30, Try.ntmps30
    go_wp2_with fail
    refine HM.out.mono ?_
    rintro e w1 ⟨rfl, hb1⟩
    have HF := hide (l28Find_calls A n c rs nm w1 (h.below hb1 (Nat.le_refl _)) hn)
    rw [HFN.out] at HF
    go_wp2_with fail
    refine HF.out.mono ?_
    rintro e w2 ⟨rfl, rfl⟩
    go_wp2_with fail
    refine (l28Action_calls a _).mono ?_
    rw [HA.out]
    rintro e w2 ⟨rfl, rfl⟩
    go_wp2_with fail
    refine HF.out.mono ?_
    rintro e w2 ⟨rfl, rfl⟩
    have HU := hide (l28May_calls A n c rs A1 n1 c1 gs f o a w1 (h.below hb1 (Nat.le_refl _)) (h1.below hb1 (Nat.le_refl _)) HOK.out HGH.out hn hn1)
    generalize mayB rs gs f o a = q at HU HZ
    go_wp2_with fail
    refine HU.out.mono ?_
    rintro e w3 ⟨rfl, hb3⟩
    go_wp2
    go_ret
    exact ⟨ret_bool (by rw [HZ.out]; rfl), hb1.trans (hb3.mono hb1.size)⟩

end Go.Proofs.Ytidhbpnibgegdaa
