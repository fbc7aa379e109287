/- ValidRoles of the program and of the reference. -/
import Derived.Test.YtidhbpnibgegdaaUnder
import Derived.Test.YtidhbpnibgegdaaUnderS
namespace Go.Proofs.Ytidhbpnibgegdaa
open Go.RowKit
set_option linter.unusedVariables false

theorem roles_bad {rs : List RoleZ} (h : ¬ RolesOk rs) : rolesB rs = false := by
  rw [← Bool.not_eq_true]
  exact fun e => h (roles_ok e)
theorem roles_end {rs : List RoleZ} (h : RolesOk rs) : rolesB rs = !(namesR rs).any (fun nm => inB (underZ rs nm) nm) := by
  rw [Bool.eq_iff_iff, rolesB_iff]
  simp only [Bool.not_eq_true', List.any_eq_false]
  constructor
  · rintro ⟨_, hl⟩ nm hm
    obtain ⟨r, hr, rfl⟩ := List.mem_map.1 hm
    obtain ⟨k, hk⟩ := List.mem_iff_getElem?.1 hr
    have := hl k (List.getElem?_eq_some_iff.1 hk).1
    rw [noLoop_name h hk] at this
    simpa using this
  · intro hl
    refine ⟨h, fun k hk => ?_⟩
    have hx : rs[k]? = some rs[k] := List.getElem?_eq_getElem hk
    rw [noLoop_name h hx]
    have := hl rs[k].name (List.mem_map_of_mem (List.getElem_mem hk))
    simpa using this
theorem names_take {rs : List RoleZ} {k : Nat} {r : RoleZ} (h : rs[k]? = some r) : (namesR rs).take (k + 1) = (namesR rs).take k ++ [r.name] :=
  take_snoc (by simp [namesR, h])
theorem names_len (rs : List RoleZ) : (namesR rs).length = rs.length := by simp [namesR]
theorem names_at {rs : List RoleZ} {k : Nat} {r : RoleZ} (h : rs[k]? = some r) : (namesR rs)[k]? = some r.name := by simp [namesR, h]

theorem fineR {w : World} {A : Option Addr} {n : Nat} {rs : List RoleZ} (h : RdRz w A n rs) : ∀ nm ∈ namesR rs, nm.size ≤ 9223372036854775807 := by
  intro nm hm
  obtain ⟨r, hr, rfl⟩ := List.mem_map.1 hm
  obtain ⟨k, hk⟩ := List.mem_iff_getElem?.1 hr
  have hlt := (List.getElem?_eq_some_iff.1 hk).1
  obtain ⟨_, _, nm2, _, _, _, us2, _, _, hx2, _, _, hs2, _⟩ := h.at (show k < n by have := h.len; omega)
  have := hx2.out
  rw [hk] at this
  injection this with this
  subst this
  exact hs2

theorem validClos1_calls (A : Option Addr) (n c b off : Nat) (rs : List RoleZ) (nm : ByteArray) (w : World) (h : RdRz w A n rs) (hn : n ≤ 1048576) (hc : w.cell? ⟨b, off, none⟩ = some (.slice A n c)) :
    Calls Try.prog 58 #[.string nm, .pointer (some ⟨b, off, none⟩)] w fun e w' => e = .returned (.bool (!hasR rs nm)) ∧ Below w.heap.size w w' := by
  have HM := hide (roleAt_calls A n c rs nm w h hn)
  have HF := hide (findI_neg rs nm)
  go_enter Try.func58, Try.ntmps58
  go_wp2_with fail
  refine HM.out.mono ?_
  rintro e w1 ⟨rfl, hb1⟩
  generalize findI rs nm = i at *
  go_wp2
  go_ret
  exact ⟨ret_bool HF.out, hb1⟩

theorem validClos2_calls (A : Option Addr) (n c b off : Nat) (rs : List RoleZ) (nm : ByteArray) (w : World) (h : RdRz w A n rs) (hok : RolesOk rs) (hh : hasR rs nm = true) (hc : w.cell? ⟨b, off, none⟩ = some (.slice A n c)) :
    Calls Try.prog 60 #[.string nm, .pointer (some ⟨b, off, none⟩)] w fun e w' => e = .returned (.bool (inB (underZ rs nm) nm)) ∧ Below w.heap.size w w' := by
  have HM := hide (under_calls A n c rs nm w h hok hh)
  have HFI := hide (fineR h)
  have HK := hide (hok)
  clear hok hh
  go_enter Try.func60, Try.ntmps60
  go_wp2_with fail
  refine HM.out.mono ?_
  clear HM
  rintro e w1 ⟨A', n', c', rfl, hown, hl, hb1⟩
  have hn' : n' ≤ 1048576 := by
    rw [← hl]
    have h1 := pickK_len rs (underB rs (findN rs nm)) rs.length
    rw [pickK_all (Nat.le_refl _)] at h1
    have := HK.out.1
    unfold underZ
    omega
  have HC := hide (containsB_calls A' n' c' (underZ rs nm) nm w1 ⟨Rd.of_own hown, hl, fun x hx => HFI.out x (has_mem.1 ((underZ_mem HK.out.sort).1 hx).1)⟩ hn')
  clear hown hl hn'
  go_wp2_with fail
  refine HC.out.mono ?_
  rintro e w2 ⟨rfl, rfl⟩
  go_wp2
  go_ret
  exact ⟨rfl, hb1⟩

set_option maxHeartbeats 4000000 in
theorem implValidRoles_calls (A : Option Addr) (n c : Nat) (rs : List RoleZ) (w : World) (h : RdRz w A n rs) (hn : n ≤ 1048576) (hs : ShortR rs) :
    Calls Try.prog 17 #[.slice A n c] w fun e w' => e = .returned (.bool (rolesB rs)) ∧ Below w.heap.size w w' := by
  have HL := hide h.len
  have HLN := hide ((names_len rs).trans h.len)
  have HFI := hide (fineR h)
  obtain ⟨W0, hW0⟩ : ∃ W0, W0 = w.alloc (.cells #[.slice A n c] 25) := ⟨_, rfl⟩
  have hB : Below w.heap.size w W0 := by rw [hW0]; exact (Below.refl _ _).alloc (Nat.le_refl _) _
  have hbox : W0.cell? ⟨w.heap.size, 0, none⟩ = some (.slice A n c) := by rw [hW0]; simp
  have hz0 : w.heap.size < W0.heap.size := by rw [hW0]; simp
  have h0 := h.below hB (Nat.le_refl _)
  have hown0 := World.ownsRow_nil W0 W0.heap.size 9 1
  have HO0 := hide hown0
  clear hown0
  go_enter Try.func17, Try.ntmps17
  go_wp2_with fail
  rw [← hW0]
  clear hW0
  go_wp2_with fail
  go_loopw [3, 10] (fun v i wr => ∃ (J c3 : Nat) (A3 : Option Addr), J ≤ n ∧ i = .int .i64 J ∧ v = .slice A3 J c3 ∧ Hid (wr.ownsRow W0.heap.size 9 1 (.slice A3 J c3) J (cK kB ((namesR rs).take J))) ∧ Below W0.heap.size W0 wr) (fun _ i _ => n - (intOf i).toNat)
  case atStart => exact ⟨0, 0, none, Nat.zero_le _, rfl, rfl, by simpa [Hid, cK] using HO0.out, Below.refl _ _⟩
  case round =>
    clear HO0
    obtain ⟨J, c3, A3, hJ, rfl, rfl, HO, hb⟩ := hrel
    by_cases hlt : J < n
    · obtain ⟨b, off, nm, Aq, nq, cq, us, rfl, hbl, hx, hc, hc2, hme, hst, hnq⟩ := (h0.below hb (Nat.le_refl _)).at hlt
      have HE := hide (names_take hx.out)
      have hsz := hb.size
      have hba := (Below.refl wr.heap.size wr).alloc (Nat.le_refl _) (.cells #[.string nm, .slice Aq nq cq] 70)
      have HOA := hide (own_below HO.out hba (Nat.le_refl _))
      have HBA := hide hba
      clear hst hba
      go_wp2_with (at_builtin; refine appB rfl _ _ rfl W0.heap.size (.slice A3 J c3) J ((namesR rs).take J) nm rfl HOA.out (by first | rfl | (simp; rfl)) (by omega) (by simp; omega) ?_; intro v4 w4 hown4 hb4 hz4)
      obtain ⟨A4, c4, rfl⟩ := own_slice hown4
      go_roundw
      case rel => exact ⟨J + 1, c4, A4, by omega, by go_num, rfl, by rw [HE.out]; exact hown4, (hb.trans (HBA.out.mono hb.size)).trans hb4⟩
      case measure => simp [intOf]; omega
    · have hJn : J = n := by omega
      have hownN := HO.out
      rw [List.take_of_length_le (by rw [HLN.out]; omega), hJn] at hownN
      have hR : RdK kB wr A3 n (namesR rs) := ⟨Rd.of_own hownN, HLN.out, HFI.out⟩
      have hcb := (hb.cell (p := ⟨w.heap.size, 0, none⟩) hz0).trans hbox
      have hbw := hB.trans (hb.mono (Nat.le_of_lt hz0))
      subst hJn
      have HR := hide hR
      clear HO hownN hR
      by_cases h12 : (12 : Int) < J
      · have HN := hide (roles_bad (rs := rs) (fun hk => by have := hk.1; have := HL.out; omega))
        go_wp2
        go_ret
        exact ⟨ret_bool HN.out.symm, hbw⟩
      have HM := hide (areNames_calls A3 J c3 (namesR rs) wr HR.out hn)
      rcases b_cases (namesB (namesR rs)) with hnb | hnb
      · have HN := hide (roles_bad (rs := rs) (fun hk => by rw [hk.2.1] at hnb; cases hnb))
        rw [hnb] at HM
        clear hnb
        go_wp2_with fail
        refine HM.out.mono ?_
        rintro e w1 ⟨rfl, hb1⟩
        go_wp2
        go_ret
        exact ⟨ret_bool HN.out.symm, hbw.trans (hb1.mono hbw.size)⟩
      rw [hnb] at HM
      have HNB := hide hnb
      clear hnb
      obtain ⟨wo, rfl⟩ : ∃ wo : World, wo = wr := ⟨_, rfl⟩
      go_wp2_with fail
      refine HM.out.mono ?_
      clear HM
      rintro e w1 ⟨rfl, hb1⟩
      have hb1' := hb.trans (hb1.mono hb.size)
      have hcb1 := (hb1'.cell (p := ⟨w.heap.size, 0, none⟩) hz0).trans hbox
      have HR1 := hide (HR.out.below hb1 (Nat.le_refl _))
      clear HR hcb hbw hb
      obtain ⟨W1, rfl⟩ : ∃ W1 : World, W1 = w1 := ⟨_, rfl⟩
      go_wp2
      go_loopw [30] (fun i wr => ∃ (K : Nat), K ≤ J ∧ i = .int .i64 K ∧ Hid (∀ r ∈ rs.take K, namesB r.under = true ∧ ∀ u ∈ r.under, hasR rs u = true) ∧ Below W1.heap.size W1 wr) (fun i _ => J - (intOf i).toNat)
      case atStart => exact ⟨0, Nat.zero_le _, rfl, by simp [Hid], Below.refl _ _⟩
      case round =>
        clear hcb1
        obtain ⟨K, hK, rfl, HC, hb⟩ := hrel
        have hb2 := hb1'.trans (hb.mono hb1'.size)
        have hbw := hB.trans (hb2.mono (Nat.le_of_lt hz0))
        have hcb := (hb2.cell (p := ⟨w.heap.size, 0, none⟩) hz0).trans hbox
        by_cases hlt : K < J
        · obtain ⟨b, off, nm, Aq, nq, cq, us, rfl, hbl, hx, hc, hc2, hme, hst, hnq⟩ := (h0.below hb2 (Nat.le_refl _)).at hlt
          have hmem := List.mem_of_getElem? hx.out
          have hba := (Below.refl wr.heap.size wr).alloc (Nat.le_refl _) (.cells #[.string nm, .slice Aq nq cq] 70)
          have HBA := hide hba
          have hsta := hst.below hba (Nat.le_refl _)
          have hq1 : nq ≤ 1048576 := by have h1 := hs _ hmem; have h2 := hst.2.1; simp only at h1; omega
          have HM := hide (areNames_calls Aq nq cq us _ hsta hq1)
          have hcr : (wr.alloc (.cells #[.string nm, .slice Aq nq cq] 70)).cell? ⟨wr.heap.size, 1, none⟩ = some (.slice Aq nq cq) := by simp
          have HCR := hide hcr
          have HST := hide hst
          clear hst hsta hba hcr
          rcases b_cases (namesB us) with hnb | hnb
          · have HN := hide (roles_bad (rs := rs) (fun hk => by rw [(hk.2.2 _ hmem).1] at hnb; cases hnb))
            rw [hnb] at HM
            clear hnb hmem
            go_wp2_with fail
            refine HM.out.mono ?_
            clear HM
            rintro e w3 ⟨rfl, hb3⟩
            have hcr3 := (hb3.cell (p := ⟨wr.heap.size, 1, none⟩) (by simp)).trans HCR.out
            go_wp2
            go_ret
            exact ⟨ret_bool HN.out.symm, (hbw.trans (HBA.out.mono hbw.size)).trans (hb3.mono (Nat.le_trans hbw.size HBA.out.size))⟩
          · have HNB2 := hide hnb
            rw [hnb] at HM
            clear hnb
            go_wp2_with fail
            refine HM.out.mono ?_
            clear HM
            rintro e w3 ⟨rfl, hb3⟩
            have hcr3 := (hb3.cell (p := ⟨wr.heap.size, 1, none⟩) (by simp)).trans HCR.out
            have hb3' := HBA.out.trans (hb3.mono HBA.out.size)
            have hb4 := hb2.trans (hb3'.mono hb2.size)
            have hcb3 := (hb4.cell (p := ⟨w.heap.size, 0, none⟩) hz0).trans hbox
            have h3 := h0.below hb4 (Nat.le_refl _)
            have HC3 := hide (containsFB_calls Aq nq cq us 58 #[.pointer (some ⟨w.heap.size, 0, none⟩)] (fun s => !hasR rs s) w3 (HST.out.below hb3' (Nat.le_refl _)) hq1 Try.call58 (by
              intro W s hW hm hsz
              rw [cat1]
              refine validClos1_calls _ _ _ _ _ rs s W (h3.below hW (Nat.le_refl _)) hn ((hW.cell (p := ⟨w.heap.size, 0, none⟩) ?_).trans hcb3)
              have := hb4.size
              show w.heap.size < w3.heap.size
              omega))
            have HB3 := hide (hb.trans (hb3'.mono hb.size))
            have HBW3 := hide (hbw.trans (hb3'.mono hbw.size))
            clear h3 hcb3 hb3
            rcases b_cases (us.any (fun s => !hasR rs s)) with ha | ha
            · have HN : Hid (∀ r ∈ rs.take (K + 1), namesB r.under = true ∧ ∀ u ∈ r.under, hasR rs u = true) := by
                unfold Hid
                rw [take_snoc hx.out]
                intro r hr
                rcases List.mem_append.1 hr with hr | hr
                · exact HC.out r hr
                · simp only [List.mem_singleton] at hr
                  subst hr
                  refine ⟨HNB2.out, fun u hu => ?_⟩
                  have := List.any_eq_false.1 ha u hu
                  simpa using this
              rw [ha] at HC3
              clear ha hmem hb4 hb3'
              go_wp2_with fail
              refine HC3.out.mono ?_
              clear HC3
              rintro e w4 ⟨rfl, hb5⟩
              go_wp2
              go_roundw
              case rel => exact ⟨K + 1, by omega, by go_num, HN, HB3.out.trans (hb5.mono HB3.out.size)⟩
              case measure => simp [intOf]; omega
            · have HN := hide (roles_bad (rs := rs) (fun hk => by
                obtain ⟨u, hu, hf⟩ := List.any_eq_true.1 ha
                rw [(hk.2.2 _ hmem).2 u hu] at hf
                cases hf))
              rw [ha] at HC3
              clear ha hmem hb4 hb3'
              go_wp2_with fail
              refine HC3.out.mono ?_
              clear HC3
              rintro e w4 ⟨rfl, hb5⟩
              go_wp2
              go_ret
              exact ⟨ret_bool HN.out.symm, HBW3.out.trans (hb5.mono HBW3.out.size)⟩
        · have hKJ : K = J := by omega
          have hok : RolesOk rs := by
            have h1 := HC.out
            rw [List.take_of_length_le (by rw [HL.out]; omega)] at h1
            exact ⟨by have := HL.out; omega, HNB.out, h1⟩
          have HE := hide (roles_end hok)
          have HRN := HR1.out.below hb (Nat.le_refl _)
          have h3 := h0.below hb2 (Nat.le_refl _)
          have HC3 := hide (containsFB_calls A3 J c3 (namesR rs) 60 #[.pointer (some ⟨w.heap.size, 0, none⟩)] (fun nm => inB (underZ rs nm) nm) wr HRN hn Try.call60 (by
            intro W s hW hm hsz
            rw [cat1]
            refine validClos2_calls _ _ _ _ _ rs s W (h3.below hW (Nat.le_refl _)) hok (has_mem.2 hm) ((hW.cell (p := ⟨w.heap.size, 0, none⟩) ?_).trans hcb)
            have := hb2.size
            show w.heap.size < wr.heap.size
            omega))
          clear hok HRN h3 hKJ
          go_wp2_with fail
          refine HC3.out.mono ?_
          clear HC3
          rintro e w4 ⟨rfl, hb5⟩
          generalize (namesR rs).any (fun nm => inB (underZ rs nm) nm) = q at *
          go_wp2
          go_ret
          exact ⟨ret_bool HE.out.symm, hbw.trans (hb5.mono hbw.size)⟩

end Go.Proofs.Ytidhbpnibgegdaa
