/- LeastRole of the reference. -/
import Derived.Test.YtidhbpnibgegdaaLeast
namespace Go.Proofs.Ytidhbpnibgegdaa
open Go.RowKit
set_option linter.unusedVariables false

set_option maxRecDepth 100000 in
set_option maxHeartbeats 4000000 in
theorem specLeastRole_calls (A : Option Addr) (n c : Nat) (rs : List RoleZ) (A1 : Option Addr) (n1 c1 : Nat) (gs : List GrantZ) (o : ByteArray) (a : Int) (w : World) (h : RdRz w A n rs) (h1 : RdK kGrant w A1 n1 gs) (ho : o.size ≤ 9223372036854775807) (ha : I64 a) (hn : n ≤ 1048576) (hn1 : n1 ≤ 1048576) (ho' : o.size ≤ 1048576) (hs : ShortR rs) :
    Calls Try.prog 42 #[.slice A n c, .slice A1 n1 c1, .string o, .int .i64 a] w fun e w' => e = .returned (.tuple #[.string (lrV rs gs o a), .int .i64 (lrC rs gs o a)]) ∧ Below w.heap.size w w' := by
  have HL := hide h.len
  have HM := hide (l28Ok_calls A n c rs A1 n1 c1 gs w h h1 hn hn1)
  have HWC : Hid (whC rs gs a = if grantsB rs gs = true then (if isActB a = true then 0 else 2) else 1) := rfl
  rcases b_cases (grantsB rs gs) with hg | hg
  · rw [hg] at HM HWC
    have HV := hide (lr_bad (rs := rs) (gs := gs) (o := o) (a := a) (by rw [HWC.out]; simp))
    rw [HWC.out] at HV
    clear hg
    go_enter Try.func42, Try.ntmps42
    go_wp2_with fail
    refine HM.out.mono ?_
    rintro e w1 ⟨rfl, hb1⟩
    go_wp2
    go_ret2
    exact ⟨ret_two (congrArg Value.string HV.out.1.symm) (congrArg (Value.int .i64) HV.out.2.symm), hb1⟩
  rw [hg] at HM HWC
  rcases b_cases (isActB a) with hact | hact
  · have HA := hide hact
    rw [hact] at HWC
    have HV := hide (lr_bad (rs := rs) (gs := gs) (o := o) (a := a) (by rw [HWC.out]; simp))
    rw [HWC.out] at HV
    clear hg hact
    go_enter Try.func42, Try.ntmps42
    go_wp2_with fail
    refine HM.out.mono ?_
    rintro e w1 ⟨rfl, hb1⟩
    go_wp2_with fail
    refine (l28Action_calls a _).mono ?_
    rw [HA.out]
    rintro e w2 ⟨rfl, rfl⟩
    go_wp2
    go_ret2
    exact ⟨ret_two (congrArg Value.string HV.out.1.symm) (congrArg (Value.int .i64) HV.out.2.symm), hb1⟩
  have HA := hide hact
  have HC : Hid (whC rs gs a = 0) := by rw [hact] at HWC; exact HWC.out
  have HWV := hide (whV_ok (o := o) hg hact)
  have HOK := hide (roles_ok (grants_roles hg))
  have HGH : Hid (∀ x ∈ gs, hasR rs x.role = true) := fun x hx => grants_has hg hx
  have HAT : Hid (∀ {k : Nat} {r : RoleZ}, rs[k]? = some r → hasG rs gs r.name o a = mayB rs gs k o a) := fun hr => hasG_at (roles_ok (grants_roles hg)).sort hr o hact
  have h48 : n1 ≤ 48 := by rw [← h1.2.1]; exact grants_len hg
  clear hg hact HWC
  go_enter Try.func42, Try.ntmps42
  go_wp2_with fail
  refine HM.out.mono ?_
  clear HM
  rintro e w1 ⟨rfl, hb1⟩
  go_wp2_with fail
  refine (l28Action_calls a _).mono ?_
  rw [HA.out]
  rintro e w2 ⟨rfl, rfl⟩
  have h2 := h.below hb1 (Nat.le_refl _)
  have h12 := h1.below hb1 (Nat.le_refl _)
  clear h h1
  obtain ⟨wo, rfl⟩ : ∃ wo : World, wo = w1 := ⟨_, rfl⟩
  go_wp2
  go_loopw [10, 11, 12] (fun vb vl i wr => ∃ (K : Nat) (B L : Int), K ≤ n ∧ i = .int .i64 K ∧ vb = .int .i64 B ∧ vl = .int .i64 L ∧ Hid ((B = -1 ∧ whoZ (rs.take K) (fun nm => hasG rs gs nm o a) = []) ∨ ∃ (j : Nat) (r : RoleZ), B = j ∧ j < n ∧ rs[j]? = some r ∧ lrO (rgN rs gs) (whoZ (rs.take K) (fun nm => hasG rs gs nm o a)) = some r.name ∧ L = (rgN rs gs r.name : Int)) ∧ Below wo.heap.size wo wr) (fun _ _ i _ => n - (intOf i).toNat)
  case atStart => exact ⟨0, -1, 0, Nat.zero_le _, rfl, rfl, rfl, .inl ⟨rfl, rfl⟩, Below.refl _ _⟩
  case round =>
    obtain ⟨K, B, L, hK, rfl, rfl, rfl, HI, hb⟩ := hrel
    by_cases hlt : K < n
    · obtain ⟨b, off, nm, Aq, nq, cq, us, hA, hbl, hx, hc, _, _, _, _⟩ := (h2.below hb (Nat.le_refl _)).at hlt
      have HM := hide (l28May_calls A n c rs A1 n1 c1 gs K o a wr (h2.below hb (Nat.le_refl _)) (h12.below hb (Nat.le_refl _)) HOK.out HGH.out hn hn1)
      have HE := hide (whoZ_snoc (q := fun nm => hasG rs gs nm o a) hx.out)
      have hat := HAT.out hx.out
      simp only at hat
      rw [← hat] at HM
      clear hat hc hA
      rcases b_cases (hasG rs gs nm o a) with hq | hq
      · have HE2 : Hid (whoZ (rs.take (K + 1)) (fun nm => hasG rs gs nm o a) = whoZ (rs.take K) (fun nm => hasG rs gs nm o a)) := by unfold Hid; rw [HE.out]; simp [hq]
        rw [hq] at HM
        clear hq
        go_wp2_with fail
        refine HM.out.mono ?_
        clear HM
        rintro e w2 ⟨rfl, hb2⟩
        go_wp2
        go_roundw
        case rel => exact ⟨K + 1, B, L, by omega, by go_num, rfl, rfl, by rw [HE2.out]; exact HI, hb.trans (hb2.mono hb.size)⟩
        case measure => simp [intOf]; omega
      have HE2 : Hid (whoZ (rs.take (K + 1)) (fun nm => hasG rs gs nm o a) = whoZ (rs.take K) (fun nm => hasG rs gs nm o a) ++ [nm]) := by unfold Hid; rw [HE.out]; simp [hq]
      have HF := hide (lrO_snoc (rgN rs gs) (whoZ (rs.take K) (fun nm => hasG rs gs nm o a)) nm)
      rw [← HE2.out] at HF
      rw [hq] at HM
      clear hq
      go_wp2_with fail
      refine HM.out.mono ?_
      clear HM
      rintro e w2 ⟨rfl, hb2⟩
      have hbw2 := hb.trans (hb2.mono hb.size)
      have HU := hide (l28Rights_calls A n c rs A1 n1 c1 gs K nm w2 (h2.below hbw2 (Nat.le_refl _)) (h12.below hbw2 (Nat.le_refl _)) HOK.out HGH.out hn h48 (find_at HOK.out.sort hx.out) (has_mem.2 (List.mem_map.2 ⟨_, List.mem_of_getElem? hx.out, rfl⟩)))
      go_wp2_with fail
      refine HU.out.mono ?_
      clear HU
      rintro e w3 ⟨A3, n3, c3, rfl, hown3, hl3, hb3⟩
      clear hown3
      have hbx := hbw2.trans (hb3.mono hbw2.size)
      have HN3 : Hid (rgN rs gs nm = n3) := hl3
      have hn3 : (n3 : Int) ≤ 144 := by have := rights_small (rs := rs) nm (show gs.length ≤ 48 by rw [h12.2.1]; exact h48); omega
      clear hl3
      rcases HI.out with ⟨rfl, hwz⟩ | ⟨j, r, rfl, hj, hr, hlo, rfl⟩
      · have HI2 : Hid (((K : Int) = -1 ∧ whoZ (rs.take (K + 1)) (fun nm => hasG rs gs nm o a) = []) ∨ ∃ (j : Nat) (r : RoleZ), (K : Int) = j ∧ j < n ∧ rs[j]? = some r ∧ lrO (rgN rs gs) (whoZ (rs.take (K + 1)) (fun nm => hasG rs gs nm o a)) = some r.name ∧ (n3 : Int) = (rgN rs gs r.name : Int)) :=
          .inr ⟨K, ⟨nm, us⟩, rfl, hlt, hx.out, by rw [HF.out, hwz]; rfl, by rw [HN3.out]⟩
        clear hwz
        go_wp2
        go_roundw
        case rel => exact ⟨K + 1, K, n3, by omega, by go_num, rfl, rfl, HI2, hbx⟩
        case measure => simp [intOf]; omega
      · obtain ⟨N, hN⟩ : ∃ N, N = rgN rs gs r.name := ⟨_, rfl⟩
        have HNN := hide hN
        have hjn : ¬ ((j : Int) < 0) := by omega
        have HR := hide hr
        have HLO := hide hlo
        rw [← hN]
        clear hr hlo hN
        by_cases hcmp : (n3 : Int) < (N : Int)
        · have HI2 : Hid (((K : Int) = -1 ∧ whoZ (rs.take (K + 1)) (fun nm => hasG rs gs nm o a) = []) ∨ ∃ (j : Nat) (r : RoleZ), (K : Int) = j ∧ j < n ∧ rs[j]? = some r ∧ lrO (rgN rs gs) (whoZ (rs.take (K + 1)) (fun nm => hasG rs gs nm o a)) = some r.name ∧ (n3 : Int) = (rgN rs gs r.name : Int)) :=
            .inr ⟨K, ⟨nm, us⟩, rfl, hlt, hx.out, by rw [HF.out, HLO.out]; exact stepL_yes (by rw [HN3.out, ← HNN.out]; omega), by rw [HN3.out]⟩
          go_wp2
          go_roundw
          case rel => exact ⟨K + 1, K, n3, by omega, by go_num, rfl, rfl, HI2, hbx⟩
          case measure => simp [intOf]; omega
        · have HI2 : Hid (((j : Int) = -1 ∧ whoZ (rs.take (K + 1)) (fun nm => hasG rs gs nm o a) = []) ∨ ∃ (j' : Nat) (r : RoleZ), (j : Int) = j' ∧ j' < n ∧ rs[j']? = some r ∧ lrO (rgN rs gs) (whoZ (rs.take (K + 1)) (fun nm => hasG rs gs nm o a)) = some r.name ∧ (N : Int) = (rgN rs gs r.name : Int)) :=
            .inr ⟨j, r, rfl, hj, HR.out, by rw [HF.out, HLO.out]; exact stepL_no (by rw [HN3.out, ← HNN.out]; omega), by rw [HNN.out]⟩
          go_wp2
          go_roundw
          case rel => exact ⟨K + 1, j, N, by omega, by go_num, rfl, rfl, HI2, hbx⟩
          case measure => simp [intOf]; omega
    · have hKn : K = n := by omega
      have HTK : Hid (rs.take K = rs) := List.take_of_length_le (by rw [HL.out]; omega)
      have hbw := hb1.trans (hb.mono hb1.size)
      rcases HI.out with ⟨rfl, hwz⟩ | ⟨j, r, rfl, hj, hr, hlo, rfl⟩
      · have HV := hide (lr_none (o := o) HC.out (by rw [HWV.out]; rwa [HTK.out] at hwz))
        clear hwz hKn
        go_wp2
        go_ret2
        exact ⟨ret_two (congrArg Value.string HV.out.1.symm) (congrArg (Value.int .i64) HV.out.2.symm), hbw⟩
      · have HV := hide (lr_some (o := o) HC.out (by rw [HWV.out]; rwa [HTK.out] at hlo))
        obtain ⟨b, off, nm, Aq, nq, cq, us, hA, hbl, hx, hc, _, _, _, _⟩ := (h2.below hb (Nat.le_refl _)).at hj
        have hrn : r.name = nm := by rw [hx.out] at hr; injection hr with hr; rw [← hr]
        rw [hrn] at HV
        subst hA
        have hjn : ¬ ((j : Int) < 0) := by omega
        generalize rgN rs gs r.name = N
        clear hr hlo hKn hrn
        go_wp2
        go_ret2
        exact ⟨ret_two (congrArg Value.string HV.out.1.symm) (congrArg (Value.int .i64) HV.out.2.symm), hbw⟩

end Go.Proofs.Ytidhbpnibgegdaa
