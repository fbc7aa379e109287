/- rightsOf, RightsOf of the program. -/
import Derived.Test.YtidhbpnibgegdaaAllow
namespace Go.Proofs.Ytidhbpnibgegdaa
open Go.RowKit
set_option linter.unusedVariables false

theorem own_mono2 {w : World} {base base' : Nat} {e : TypeId} {size : Nat} {v : Value} {n : Nat} {xs : List Value} (h : w.ownsRow base e size v n xs) (h1 : base' ≤ base) : w.ownsRow base' e size v n xs := by
  refine ⟨h.1, ?_⟩
  rcases h.2 with hn | ⟨g, cap, cur, rfl, hb, rest⟩
  · exact .inl hn
  · exact .inr ⟨g, cap, cur, rfl, by omega, rest⟩
theorem objs_take {gs : List GrantZ} {k : Nat} {x : GrantZ} (h : gs[k]? = some x) : (gs.take (k + 1)).map GrantZ.object = (gs.take k).map GrantZ.object ++ [x.object] := by rw [take_snoc h]; simp
/-- What the first so many objects give, and of the next one the first so many actions. -/
def rgK (rs : List RoleZ) (gs : List GrantZ) (nm : ByteArray) (k : Nat) : List GrantZ := ((objZ gs).take k).flatMap fun o => actsZ (mayB rs gs (findN rs nm) o) nm o 3
theorem rgK_zero (rs : List RoleZ) (gs : List GrantZ) (nm : ByteArray) : rgK rs gs nm 0 = [] := rfl
theorem rgK_snoc {rs : List RoleZ} {gs : List GrantZ} {nm : ByteArray} {k : Nat} {o : ByteArray} (h : (objZ gs)[k]? = some o) : rgK rs gs nm (k + 1) = rgK rs gs nm k ++ actsZ (mayB rs gs (findN rs nm) o) nm o 3 := flatMap_snoc h
theorem rgK_all {rs : List RoleZ} {gs : List GrantZ} {nm : ByteArray} {k : Nat} (h : (objZ gs).length ≤ k) : rgK rs gs nm k = rightsZ rs gs nm := by
  unfold rgK rightsZ
  rw [List.take_of_length_le h]
theorem rgK_len (rs : List RoleZ) (gs : List GrantZ) (nm : ByteArray) (k : Nat) : (rgK rs gs nm k).length ≤ 3 * k := rights_len rs gs nm k
theorem acts_zero (p : Int → Bool) (nm o : ByteArray) : actsZ p nm o 0 = [] := rfl
theorem act_in {i : Nat} (h : i < 3) : isActB ((i : Int) + 1) = true := isActB_iff.2 ⟨by omega, by omega⟩
theorem fineO {w : World} {A : Option Addr} {n : Nat} {gs : List GrantZ} (h : RdK kGrant w A n gs) : ∀ o ∈ objZ gs, o.size ≤ 9223372036854775807 := by
  intro o ho
  obtain ⟨x, hx, rfl⟩ := (objZ_all.2.1 o).1 ho
  exact (h.2.2 x hx).2.1
theorem rights_fine {rs : List RoleZ} {gs : List GrantZ} {nm : ByteArray} (hn : nm.size ≤ 9223372036854775807) (ho : ∀ o ∈ objZ gs, o.size ≤ 9223372036854775807) : ∀ x ∈ rightsZ rs gs nm, kGrant.fine x := by
  intro x hx
  unfold rightsZ at hx
  obtain ⟨o, hoo, hx⟩ := List.mem_flatMap.1 hx
  unfold actsZ at hx
  obtain ⟨i, hi, rfl⟩ := List.mem_map.1 hx
  have := List.mem_range.1 (List.mem_filter.1 hi).1
  exact ⟨hn, ho o hoo, by show -9223372036854775808 ≤ (i : Int) + 1; omega, by show (i : Int) + 1 ≤ 9223372036854775807; omega⟩
/-- What a function that gives grants leaves. -/
def GrasPost (xs : List GrantZ) (w : World) (e : Ending) (w' : World) : Prop :=
  ∃ A' n' c', e = .returned (.slice A' n' c') ∧ w'.ownsRow w.heap.size 49 3 (.slice A' n' c') n' (cK kGrant xs) ∧ xs.length = n' ∧ Below w.heap.size w w'

set_option maxRecDepth 100000 in
set_option maxHeartbeats 4000000 in
theorem rightsOf_calls (A : Option Addr) (n c : Nat) (rs : List RoleZ) (A1 : Option Addr) (n1 c1 : Nat) (gs : List GrantZ) (nm : ByteArray) (w : World) (h : RdRz w A n rs) (h1 : RdK kGrant w A1 n1 gs) (hok : RolesOk rs) (hg : ∀ x ∈ gs, hasR rs x.role = true) (hn1 : n1 ≤ 48) (hh : hasR rs nm = true) :
    Calls Try.prog 84 #[.slice A n c, .slice A1 n1 c1, .string nm] w (GrasPost (rightsZ rs gs nm) w) := by
  have HL1 := hide h1.2.1
  have HOK := hide hok
  have HG := hide hg
  have HH := hide hh
  have HFO := hide (fineO h1)
  have hol := (objZ_all (gs := gs)).2.2
  rw [h1.2.1] at hol
  have hown0 := World.ownsRow_nil w w.heap.size 9 1
  clear hok hg hh
  go_enter Try.func84, Try.ntmps84
  go_wp2
  go_loopw [7, 16] (fun v i wr => ∃ (J c3 : Nat) (A3 : Option Addr), J ≤ n1 ∧ i = .int .i64 J ∧ v = .slice A3 J c3 ∧ Hid (wr.ownsRow w.heap.size 9 1 (.slice A3 J c3) J (cK kB ((gs.take J).map GrantZ.object))) ∧ Below w.heap.size w wr) (fun _ i _ => n1 - (intOf i).toNat)
  case atStart => exact ⟨0, 0, none, Nat.zero_le _, rfl, rfl, by simpa [Hid, cK] using hown0, Below.refl _ _⟩
  case round =>
    clear hown0
    obtain ⟨J, c3, A3, hJ, rfl, rfl, HO, hb⟩ := hrel
    by_cases hlt : J < n1
    · obtain ⟨b, off, f0, f1, f2, rfl, hbl, hx, hc0, hc1, hc2, hs0, hs1, hs2, hs3⟩ := (h1.below hb (Nat.le_refl _)).atGrant hlt
      have HE := hide (objs_take hx.out)
      have hsz := hb.size
      have hba := (Below.refl wr.heap.size wr).alloc (Nat.le_refl _) (.cells #[.string f0, .string f1, .int .i64 f2] 49)
      have HOA := hide (own_below HO.out hba (Nat.le_refl _))
      have HBA := hide hba
      clear hba
      go_wp2_with (at_builtin; refine appB rfl _ _ rfl w.heap.size (.slice A3 J c3) J ((gs.take J).map GrantZ.object) f1 rfl HOA.out (by first | rfl | (simp; rfl)) (by omega) (by simp; omega) ?_; intro v4 w4 hown4 hb4 hz4; obtain ⟨A4, c4, rfl⟩ := own_slice hown4)
      go_roundw
      case rel => exact ⟨J + 1, c4, A4, by omega, by go_num, rfl, by rw [HE.out]; exact hown4, (hb.trans (HBA.out.mono hb.size)).trans hb4⟩
      case measure => simp [intOf]; omega
    · have hJn : J = n1 := by omega
      have HE : Hid ((gs.take J).map GrantZ.object = gs.map GrantZ.object) := by unfold Hid; rw [List.take_of_length_le (by rw [HL1.out]; omega)]
      have hown := HO.out
      rw [HE.out] at hown
      have hsz := hb.size
      have HS := hide (sortB_calls A3 J c3 w.heap.size _ wr hown (by omega) hsz)
      clear hown HO HE hJn
      obtain ⟨wo, rfl⟩ : ∃ wo : World, wo = wr := ⟨_, rfl⟩
      go_wp2_with fail
      refine HS.out.mono ?_
      clear HS
      rintro e w2 ⟨rfl, ys, hown2, hperm, hrise, hb2⟩
      have hbx := hb.trans hb2
      have HCo := hide (compactB_calls A3 J c3 w.heap.size ys w2 hown2 hrise (by omega))
      have hyl : ys.length = J := by
        have := hown2.1
        rw [cK_len] at this
        simpa [kB] using this
      have HP := hide (And.intro hperm hyl)
      clear hown2 hperm hrise hyl
      go_wp2_with fail
      refine HCo.out.mono ?_
      clear HCo
      rintro e w3 ⟨m3, zs, rfl, hown3, hzl, hzs, hzm, hm3, hb3⟩
      have HZ : Hid (objZ gs = zs) := by
        refine sortB_ext objZ_all.1 hzs (fun x => ?_)
        rw [objZ_all.2.1, hzm, HP.out.1.mem_iff, List.mem_map]
      have hm48 : m3 ≤ 48 := by have := HP.out.2; omega
      have hbz := hbx.trans hb3
      have hR : RdK kB w3 A3 m3 (objZ gs) := ⟨by rw [HZ.out]; exact Rd.of_own hown3, by rw [HZ.out]; exact hzl, HFO.out⟩
      have HR := hide hR
      have HML := hide hR.2.1
      clear hown3 hzl hzs hzm hR hm3
      have hownG := World.ownsRow_nil w3 w3.heap.size 49 3
      obtain ⟨W3, rfl⟩ : ∃ W3 : World, W3 = w3 := ⟨_, rfl⟩
      go_wp2
      -- the objects
      go_loopw [10, 31] (fun v i wr => ∃ (J m c5 : Nat) (A5 : Option Addr), J ≤ m3 ∧ m ≤ 3 * J ∧ i = .int .i64 J ∧ v = .slice A5 m c5 ∧ Hid (wr.ownsRow W3.heap.size 49 3 (.slice A5 m c5) m (cK kGrant (rgK rs gs nm J)) ∧ (rgK rs gs nm J).length = m) ∧ Below W3.heap.size W3 wr) (fun _ i _ => m3 - (intOf i).toNat)
      case atStart => exact ⟨0, 0, 0, none, Nat.zero_le _, by omega, rfl, rfl, ⟨by simpa [rgK_zero, cK] using hownG, rfl⟩, Below.refl _ _⟩
      case round =>
        clear hownG
        obtain ⟨K, m, c5, A5, hK, hmK, rfl, rfl, HO, hb4⟩ := hrel
        by_cases hlk : K < m3
        · obtain ⟨b, off, o, rfl, hbl, hx, hc, hso⟩ := RdK.atB HR.out hlk
          have hc' := (hb4.cell (p := ⟨b, off + K, none⟩) hbl).trans hc
          obtain ⟨R, hR⟩ : ∃ R, R = rgK rs gs nm K := ⟨_, rfl⟩
          have HSN := hide (rgK_snoc (rs := rs) (nm := nm) hx.out)
          rw [← hR] at HO HSN
          clear hR
          obtain ⟨w5, rfl⟩ : ∃ w5 : World, w5 = wr := ⟨_, rfl⟩
          go_wp2
          clear hc'
          -- the actions
          go_loopw [10, 13] (fun v i wr => ∃ (I m c5 : Nat) (A5 : Option Addr), I ≤ 3 ∧ m ≤ 3 * K + I ∧ i = .int .i64 ((I : Int) + 1) ∧ v = .slice A5 m c5 ∧ Hid (wr.ownsRow W3.heap.size 49 3 (.slice A5 m c5) m (cK kGrant (R ++ actsZ (mayB rs gs (findN rs nm) o) nm o I)) ∧ (R ++ actsZ (mayB rs gs (findN rs nm) o) nm o I).length = m) ∧ Below W3.heap.size W3 wr) (fun _ i _ => 4 - (intOf i).toNat)
          case atStart => exact ⟨0, m, c5, A5, by omega, by omega, rfl, rfl, by rw [acts_zero, List.append_nil]; exact HO, hb4⟩
          case round =>
            clear HO hb4
            obtain ⟨I, m', c6, A6, hI, hmI, rfl, rfl, HO, hb5⟩ := hrel
            by_cases hli : I < 3
            · have hbw := hbz.trans (hb5.mono hbz.size)
              have HA := hide (act_in hli)
              have HM := hide (has_calls A n c rs A1 n1 c1 gs nm o ((I : Int) + 1) wr (h.below hbw (Nat.le_refl _)) (h1.below hbw (Nat.le_refl _)) HOK.out HG.out (by omega) HH.out)
              have HZ2 : Hid (hasG rs gs nm o ((I : Int) + 1) = mayB rs gs (findN rs nm) o ((I : Int) + 1)) := by unfold Hid hasG; rw [HA.out, Bool.true_and]
              rw [HZ2.out] at HM
              have HSA := hide (actsZ_snoc (mayB rs gs (findN rs nm) o) nm o I)
              have hsz5 := hb5.size
              rcases b_cases (mayB rs gs (findN rs nm) o ((I : Int) + 1)) with hq | hq
              · have HE2 : Hid (actsZ (mayB rs gs (findN rs nm) o) nm o (I + 1) = actsZ (mayB rs gs (findN rs nm) o) nm o I) := by unfold Hid; rw [HSA.out, hq]; simp
                rw [hq] at HM
                clear hq
                go_wp2_with fail
                refine HM.out.mono ?_
                clear HM
                rintro e w6 ⟨rfl, hb6⟩
                have HO2 := hide (And.intro (own_below HO.out.1 hb6 (Nat.le_refl _)) HO.out.2)
                go_wp2
                go_roundw
                case rel => exact ⟨I + 1, m', c6, A6, by omega, by omega, by go_num, rfl, by rw [HE2.out]; exact HO2, hb5.trans (hb6.mono hb5.size)⟩
                case measure => simp [intOf]; omega
              · have HE2 : Hid (R ++ actsZ (mayB rs gs (findN rs nm) o) nm o (I + 1) = R ++ actsZ (mayB rs gs (findN rs nm) o) nm o I ++ [⟨nm, o, (I : Int) + 1⟩]) := by unfold Hid; rw [HSA.out, hq, List.append_assoc]; rfl
                rw [hq] at HM
                clear hq
                go_wp2_with fail
                refine HM.out.mono ?_
                clear HM
                rintro e w6 ⟨rfl, hb6⟩
                have HO2 := hide (own_below HO.out.1 hb6 (Nat.le_refl _))
                have hbw6 := hb5.trans (hb6.mono hb5.size)
                have hsz6 := hbw6.size
                go_wp2_with (at_builtin; refine appGrant rfl _ _ rfl W3.heap.size (.slice A6 m' c6) m' (R ++ actsZ (mayB rs gs (findN rs nm) o) nm o I) ⟨nm, o, (I : Int) + 1⟩ rfl HO2.out (by first | rfl | (simp; rfl)) (by omega) (by omega) ?_; intro v7 w7 hown7 hb7 hz7; obtain ⟨A7, c7, rfl⟩ := own_slice hown7)
                go_roundw
                case rel => exact ⟨I + 1, m' + 1, c7, A7, by omega, by omega, by go_num, rfl, by rw [HE2.out]; exact ⟨hown7, by rw [List.length_append, HO.out.2]; rfl⟩, hbw6.trans hb7⟩
                case measure => simp [intOf]; omega
            · have hI3 : I = 3 := by omega
              have HE2 : Hid (rgK rs gs nm (K + 1) = R ++ actsZ (mayB rs gs (findN rs nm) o) nm o I) := by unfold Hid; rw [HSN.out, hI3]
              clear hI3
              go_wp2
              go_roundw
              case rel => exact ⟨K + 1, m', c6, A6, by omega, by omega, by go_num, rfl, by rw [HE2.out]; exact HO, hb5⟩
              case measure => simp [intOf]; omega
        · have hKm : K = m3 := by omega
          have HE2 : Hid (rgK rs gs nm K = rightsZ rs gs nm) := rgK_all (by rw [HML.out]; omega)
          clear hKm
          go_wp2
          go_ret
          have h3 := HO.out
          rw [HE2.out] at h3
          exact ⟨A5, m, c5, rfl, own_mono2 h3.1 hbz.size, h3.2, hbz.trans (hb4.mono hbz.size)⟩

/-- A code, and the rights where it is 0. -/
def rgC (rs : List RoleZ) (gs : List GrantZ) (nm : ByteArray) : Int := namedZ (grantsB rs gs) rs nm
def rgV (rs : List RoleZ) (gs : List GrantZ) (nm : ByteArray) : List GrantZ := if grantsB rs gs = true ∧ hasR rs nm = true then rightsZ rs gs nm else []
theorem rgV_no {rs : List RoleZ} {gs : List GrantZ} {nm : ByteArray} (h : grantsB rs gs = false ∨ hasR rs nm = false) : rgV rs gs nm = [] := by
  unfold rgV
  rw [if_neg]
  rintro ⟨h1, h2⟩
  rcases h with h | h
  · rw [h] at h1; cases h1
  · rw [h] at h2; cases h2
theorem rgV_ok {rs : List RoleZ} {gs : List GrantZ} {nm : ByteArray} (h1 : grantsB rs gs = true) (h2 : hasR rs nm = true) : rgV rs gs nm = rightsZ rs gs nm := by
  unfold rgV
  rw [if_pos ⟨h1, h2⟩]
/-- What a function that gives grants and a code leaves. -/
def GCPost (xs : List GrantZ) (c : Int) (w : World) (e : Ending) (w' : World) : Prop :=
  ∃ A' n' c', e = .returned (.tuple #[.slice A' n' c', .int .i64 c]) ∧ FrK kGrant w' w.heap.size w'.heap.size 49 A' n' xs ∧ n' ≤ 1048576 ∧ Below w.heap.size w w'
theorem GCPost.none {xs : List GrantZ} {c c0 : Int} {w w' : World} (hx : xs = []) (hc : c = c0) (hb : Below w.heap.size w w') : GCPost xs c w (.returned (.tuple #[.slice Option.none 0 0, .int .i64 c0])) w' := by
  subst hx hc
  exact ⟨Option.none, 0, 0, rfl, FrK.nil, by omega, hb⟩
theorem rights_small {rs : List RoleZ} {gs : List GrantZ} (nm : ByteArray) (h : gs.length ≤ 48) : (rightsZ rs gs nm).length ≤ 144 := by
  have h1 := rgK_len rs gs nm (objZ gs).length
  rw [rgK_all (Nat.le_refl _)] at h1
  have h2 := (objZ_all (gs := gs)).2.2
  omega

set_option maxHeartbeats 2000000 in
theorem implRightsOf_calls (A : Option Addr) (n c : Nat) (rs : List RoleZ) (A1 : Option Addr) (n1 c1 : Nat) (gs : List GrantZ) (nm : ByteArray) (w : World) (h : RdRz w A n rs) (h1 : RdK kGrant w A1 n1 gs) (hqf : nm.size ≤ 9223372036854775807) (hn : n ≤ 1048576) (hn1 : n1 ≤ 1048576) (_ : nm.size ≤ 1048576) (hs : ShortR rs) :
    Calls Try.prog 45 #[.slice A n c, .slice A1 n1 c1, .string nm] w (GCPost (rgV rs gs nm) (rgC rs gs nm) w) := by
  have HM := hide (implValidGrants_calls A n c rs A1 n1 c1 gs w h h1 hn hn1 hs)
  have HC : Hid (rgC rs gs nm = namedZ (grantsB rs gs) rs nm) := rfl
  rcases b_cases (grantsB rs gs) with hg | hg
  · have HV := hide (rgV_no (nm := nm) (.inl hg))
    rw [hg, named_bad] at HC
    rw [hg] at HM
    clear hg
    go_enter Try.func45, Try.ntmps45
    go_wp2_with fail
    refine HM.out.mono ?_
    rintro e w1 ⟨rfl, hb1⟩
    have HN := hide (named_calls false A n c rs nm w1 (h.below hb1 (Nat.le_refl _)) hn)
    rw [named_bad] at HN
    go_wp2_with fail
    refine HN.out.mono ?_
    rintro e w2 ⟨rfl, hb2⟩
    go_wp2
    go_ret2
    exact GCPost.none HV.out HC.out (hb1.trans (hb2.mono hb1.size))
  rw [hg] at HM HC
  rcases b_cases (hasR rs nm) with hh | hh
  · have HV := hide (rgV_no (gs := gs) (.inr hh))
    have HNN := hide (named_no hh)
    rw [HNN.out] at HC
    clear hg hh
    go_enter Try.func45, Try.ntmps45
    go_wp2_with fail
    refine HM.out.mono ?_
    rintro e w1 ⟨rfl, hb1⟩
    have HN := hide (named_calls true A n c rs nm w1 (h.below hb1 (Nat.le_refl _)) hn)
    rw [HNN.out] at HN
    go_wp2_with fail
    refine HN.out.mono ?_
    rintro e w2 ⟨rfl, hb2⟩
    go_wp2
    go_ret2
    exact GCPost.none HV.out HC.out (hb1.trans (hb2.mono hb1.size))
  · have HV := hide (rgV_ok hg hh)
    have HNN := hide (named_ok hh)
    rw [HNN.out] at HC
    have HOK := hide (roles_ok (grants_roles hg))
    have HGH : Hid (∀ x ∈ gs, hasR rs x.role = true) := fun x hx => grants_has hg hx
    have h48 : n1 ≤ 48 := by rw [← h1.2.1]; exact grants_len hg
    have HGL := hide (grants_len hg)
    have HH := hide hh
    clear hg hh
    go_enter Try.func45, Try.ntmps45
    go_wp2_with fail
    refine HM.out.mono ?_
    rintro e w1 ⟨rfl, hb1⟩
    have HN := hide (named_calls true A n c rs nm w1 (h.below hb1 (Nat.le_refl _)) hn)
    rw [HNN.out] at HN
    go_wp2_with fail
    refine HN.out.mono ?_
    rintro e w2 ⟨rfl, hb2⟩
    have hb := hb1.trans (hb2.mono hb1.size)
    have HU := hide (rightsOf_calls A n c rs A1 n1 c1 gs nm w2 (h.below hb (Nat.le_refl _)) (h1.below hb (Nat.le_refl _)) HOK.out HGH.out h48 HH.out)
    go_wp2_with fail
    refine HU.out.mono ?_
    rintro e w3 ⟨A', n', c', rfl, hown, hl, hb3⟩
    have HO := hide (And.intro hown hl)
    clear hown hl
    go_wp2
    go_ret2
    refine ⟨A', n', c', ret_two rfl (congrArg (Value.int .i64) HC.out.symm), ?_, ?_, hb.trans (hb3.mono hb.size)⟩
    · rw [HV.out]
      exact (FrK.of_own (K := kGrant) HO.out.1 HO.out.2 (rights_fine hqf (fineO h1))).mono hb.size (Nat.le_refl _)
    · have h3 := rights_small (rs := rs) nm HGL.out
      rw [HO.out.2] at h3
      omega

end Go.Proofs.Ytidhbpnibgegdaa
