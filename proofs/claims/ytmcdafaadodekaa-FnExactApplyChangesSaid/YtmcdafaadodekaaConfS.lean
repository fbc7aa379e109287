/- l27Names, l27Get, l27Conflicts of the reference. -/
import Derived.Test.YtmcdafaadodekaaNamesS
namespace Go.Proofs.Ytmcdafaadodekaa
open Go.RowKit
set_option linter.unusedVariables false

/-- What l27Names leaves: the names of all. -/
def NamPost (nms : List ByteArray) (w : World) (e : Ending) (w' : World) : Prop :=
  ∃ v m, e = .returned v ∧ w'.ownsRow w.heap.size 9 1 v m (cK kB nms) ∧ nms.length = m ∧ Below w.heap.size w w'
theorem foldZ_fine {all xs : List SetZ} (h1 : ∀ s ∈ all, s.fine) (h2 : ∀ s ∈ xs, s.fine) : ∀ s ∈ foldZ all xs, s.fine := fun s hs => by
  rcases foldZ_mem hs with h | h
  · exact h1 s h
  · exact h2 s h
theorem fine_take {ss : List SetZ} (h : ∀ s ∈ ss, s.fine) (k : Nat) : ∀ s ∈ ss.take k, s.fine := fun s hs => h s (List.mem_of_mem_take hs)
theorem sorted_nil : SortP ([] : List SetZ) := by simp [SortP]
/-- A row of the call's own, as a state. -/
theorem own_state {w : World} {base n c : Nat} {A : Option Addr} {ss : List SetZ} (h : w.ownsRow base 76 2 (.slice A n c) n (cK kSetting ss)) (hl : ss.length = n) (hx : ∀ s ∈ ss, s.fine) : RdS w A n ss := RdS.of_own h hl hx

set_option maxHeartbeats 4000000 in
theorem l27Names_calls (A0 : Option Addr) (n0 c0 : Nat) (A1 : Option Addr) (n1 c1 : Nat) (A2 : Option Addr) (n2 c2 : Nat) (s0 s1 s2 : List SetZ) (w : World) (h0 : RdS w A0 n0 s0) (h1 : RdS w A1 n1 s1) (h2 : RdS w A2 n2 s2) (hn0 : n0 ≤ 24) (hn1 : n1 ≤ 24) (hn2 : n2 ≤ 24) :
    Calls Try.prog 125 #[.slice A0 n0 c0, .slice A1 n1 c1, .slice A2 n2 c2] w (NamPost (namesZ s0 s1 s2) w) := by
  have HL0 := hide h0.2.1
  have HL1 := hide h1.2.1
  have HL2 := hide h2.2.1
  have HF0 := hide h0.2.2
  have HF1 := hide h1.2.2
  have HF2 := hide h2.2.2
  have hown0 := World.ownsRow_lit (base := w.heap.size) (e := 76) (size := 2) w #[] 0 (Nat.le_refl _) (by simp) rfl
  have hba := (Below.refl w.heap.size w).alloc (Nat.le_refl _) (.cells #[] 76)
  go_enter Try.func125, Try.ntmps125
  go_wp2
  go_loopw [7, 8] (fun v i wr => ∃ (k m : Nat), k ≤ n0 ∧ i = .int .i64 k ∧ m ≤ k + 0 ∧ wr.ownsRow w.heap.size 76 2 v m (cK kSetting (foldZ ([] : List SetZ) (s0.take k))) ∧ Hid ((foldZ ([] : List SetZ) (s0.take k)).length = m) ∧ Below w.heap.size w wr) (fun _ i _ => n0 - (intOf i).toNat)
  case atStart => exact ⟨0, 0, Nat.zero_le _, rfl, by omega, by simpa [cK, foldZ] using hown0, rfl, hba⟩
  case round =>
    clear hown0 hba
    obtain ⟨k, m, hk, rfl, hmk, hown, HM, hb⟩ := hrel
    have HO := hide hown
    clear hown
    have HFA := hide (foldZ_fine (all := ([] : List SetZ)) (by simp) (fine_take HF0.out k))
    have HSA := hide (foldZ_sort (all := ([] : List SetZ)) (xs := s0.take k) sorted_nil)
    by_cases hlt : k < n0
    · obtain ⟨b, off, s, v, rfl, hbl, hx, hc, hc2, hs1, hv1, hv2⟩ := (h0.below hb (Nat.le_refl _)).at hlt
      obtain ⟨A5, c5, rfl⟩ := own_slice HO.out
      have HC := hide (l27Set_calls A5 m c5 (foldZ ([] : List SetZ) (s0.take k)) s v wr (own_state HO.out HM.out HFA.out) (by omega) (sortP_iff.2 HSA.out))
      have HE := hide (foldZ_snoc (all := ([] : List SetZ)) hx.out)
      have HLE := hide (foldZ_len (all := ([] : List SetZ)) (xs := s0.take (k + 1)))
      go_wp2_with fail
      refine HC.out.mono ?_
      rintro e w1 ⟨v1, m1, rfl, hown1, hm1, hb1⟩
      have hbx := hb.trans (hb1.mono hb.size)
      have H1 := hide (And.intro (own_mono hown1 hb.size) hm1)
      have hm1le : m1 ≤ k + 1 + 0 := by
        have e1 := HLE.out
        rw [HE.out, hm1] at e1
        have e2 : (s0.take (k + 1)).length ≤ k + 1 := List.length_take_le _ _
        have e3 : ([] : List SetZ).length ≤ 0 := by simp
        omega
      clear hown1 hm1
      go_wp2
      go_roundw
      case rel => exact ⟨k + 1, m1, by omega, by go_num, by omega, by rw [HE.out]; exact H1.out.1, by unfold Hid; rw [HE.out]; exact H1.out.2, hbx⟩
      case measure => simp [intOf]; omega
    · have hkn : k = n0 := by omega
      have hO2 := HO.out
      have hM2 := HM.out
      have hA2 := HFA.out
      have hS2 := HSA.out
      rw [List.take_of_length_le (by rw [HL0.out]; omega)] at hO2 hM2 hA2 hS2
      clear HO HM HFA HSA
      have HO := hide hO2
      have HM := hide hM2
      have HFP1 := hide hA2
      have HSP1 := hide hS2
      have HFA := HFP1
      have HSA := HSP1
      have HPL1 : Hid ((foldZ ([] : List SetZ) s0).length ≤ 24) := by unfold Hid; rw [hM2]; omega
      have hmk : m ≤ 24 := by omega
      clear hO2 hM2 hA2 hS2 hkn
      go_wp2
      go_loopw [7, 9] (fun v i wr => ∃ (k m : Nat), k ≤ n1 ∧ i = .int .i64 k ∧ m ≤ k + 24 ∧ wr.ownsRow w.heap.size 76 2 v m (cK kSetting (foldZ (foldZ ([] : List SetZ) s0) (s1.take k))) ∧ Hid ((foldZ (foldZ ([] : List SetZ) s0) (s1.take k)).length = m) ∧ Below w.heap.size w wr) (fun _ i _ => n1 - (intOf i).toNat)
      case atStart => exact ⟨0, m, Nat.zero_le _, rfl, by omega, by simpa [foldZ] using HO.out, by simpa [foldZ, Hid] using HM.out, hb⟩
      case round =>
        clear HO HM hmk hb HFA HSA
        obtain ⟨k, m, hk, rfl, hmk, hown, HM, hb⟩ := hrel
        have HO := hide hown
        clear hown
        have HFA := hide (foldZ_fine (all := (foldZ ([] : List SetZ) s0)) HFP1.out (fine_take HF1.out k))
        have HSA := hide (foldZ_sort (all := (foldZ ([] : List SetZ) s0)) (xs := s1.take k) HSP1.out)
        by_cases hlt : k < n1
        · obtain ⟨b, off, s, v, rfl, hbl, hx, hc, hc2, hs1, hv1, hv2⟩ := (h1.below hb (Nat.le_refl _)).at hlt
          obtain ⟨A5, c5, rfl⟩ := own_slice HO.out
          have HC := hide (l27Set_calls A5 m c5 (foldZ (foldZ ([] : List SetZ) s0) (s1.take k)) s v wr (own_state HO.out HM.out HFA.out) (by omega) (sortP_iff.2 HSA.out))
          have HE := hide (foldZ_snoc (all := (foldZ ([] : List SetZ) s0)) hx.out)
          have HLE := hide (foldZ_len (all := (foldZ ([] : List SetZ) s0)) (xs := s1.take (k + 1)))
          go_wp2_with fail
          refine HC.out.mono ?_
          rintro e w1 ⟨v1, m1, rfl, hown1, hm1, hb1⟩
          have hbx := hb.trans (hb1.mono hb.size)
          have H1 := hide (And.intro (own_mono hown1 hb.size) hm1)
          have hm1le : m1 ≤ k + 1 + 24 := by
            have e1 := HLE.out
            rw [HE.out, hm1] at e1
            have e2 : (s1.take (k + 1)).length ≤ k + 1 := List.length_take_le _ _
            have e3 : (foldZ ([] : List SetZ) s0).length ≤ 24 := HPL1.out
            omega
          clear hown1 hm1
          go_wp2
          go_roundw
          case rel => exact ⟨k + 1, m1, by omega, by go_num, by omega, by rw [HE.out]; exact H1.out.1, by unfold Hid; rw [HE.out]; exact H1.out.2, hbx⟩
          case measure => simp [intOf]; omega
        · have hkn : k = n1 := by omega
          have hO2 := HO.out
          have hM2 := HM.out
          have hA2 := HFA.out
          have hS2 := HSA.out
          rw [List.take_of_length_le (by rw [HL1.out]; omega)] at hO2 hM2 hA2 hS2
          clear HO HM HFA HSA
          have HO := hide hO2
          have HM := hide hM2
          have HFP2 := hide hA2
          have HSP2 := hide hS2
          have HFA := HFP2
          have HSA := HSP2
          have HPL2 : Hid ((foldZ (foldZ ([] : List SetZ) s0) s1).length ≤ 48) := by unfold Hid; rw [hM2]; omega
          have hmk : m ≤ 48 := by omega
          clear hO2 hM2 hA2 hS2 hkn
          go_wp2
          go_loopw [7, 10] (fun v i wr => ∃ (k m : Nat), k ≤ n2 ∧ i = .int .i64 k ∧ m ≤ k + 48 ∧ wr.ownsRow w.heap.size 76 2 v m (cK kSetting (foldZ (foldZ (foldZ ([] : List SetZ) s0) s1) (s2.take k))) ∧ Hid ((foldZ (foldZ (foldZ ([] : List SetZ) s0) s1) (s2.take k)).length = m) ∧ Below w.heap.size w wr) (fun _ i _ => n2 - (intOf i).toNat)
          case atStart => exact ⟨0, m, Nat.zero_le _, rfl, by omega, by simpa [foldZ] using HO.out, by simpa [foldZ, Hid] using HM.out, hb⟩
          case round =>
            clear HO HM hmk hb HFA HSA
            obtain ⟨k, m, hk, rfl, hmk, hown, HM, hb⟩ := hrel
            have HO := hide hown
            clear hown
            have HFA := hide (foldZ_fine (all := (foldZ (foldZ ([] : List SetZ) s0) s1)) HFP2.out (fine_take HF2.out k))
            have HSA := hide (foldZ_sort (all := (foldZ (foldZ ([] : List SetZ) s0) s1)) (xs := s2.take k) HSP2.out)
            by_cases hlt : k < n2
            · obtain ⟨b, off, s, v, rfl, hbl, hx, hc, hc2, hs1, hv1, hv2⟩ := (h2.below hb (Nat.le_refl _)).at hlt
              obtain ⟨A5, c5, rfl⟩ := own_slice HO.out
              have HC := hide (l27Set_calls A5 m c5 (foldZ (foldZ (foldZ ([] : List SetZ) s0) s1) (s2.take k)) s v wr (own_state HO.out HM.out HFA.out) (by omega) (sortP_iff.2 HSA.out))
              have HE := hide (foldZ_snoc (all := (foldZ (foldZ ([] : List SetZ) s0) s1)) hx.out)
              have HLE := hide (foldZ_len (all := (foldZ (foldZ ([] : List SetZ) s0) s1)) (xs := s2.take (k + 1)))
              go_wp2_with fail
              refine HC.out.mono ?_
              rintro e w1 ⟨v1, m1, rfl, hown1, hm1, hb1⟩
              have hbx := hb.trans (hb1.mono hb.size)
              have H1 := hide (And.intro (own_mono hown1 hb.size) hm1)
              have hm1le : m1 ≤ k + 1 + 48 := by
                have e1 := HLE.out
                rw [HE.out, hm1] at e1
                have e2 : (s2.take (k + 1)).length ≤ k + 1 := List.length_take_le _ _
                have e3 : (foldZ (foldZ ([] : List SetZ) s0) s1).length ≤ 48 := HPL2.out
                omega
              clear hown1 hm1
              go_wp2
              go_roundw
              case rel => exact ⟨k + 1, m1, by omega, by go_num, by omega, by rw [HE.out]; exact H1.out.1, by unfold Hid; rw [HE.out]; exact H1.out.2, hbx⟩
              case measure => simp [intOf]; omega
            · have hkn : k = n2 := by omega
              have hO2 := HO.out
              have hM2 := HM.out
              have hA2 := HFA.out
              have hS2 := HSA.out
              rw [List.take_of_length_le (by rw [HL2.out]; omega)] at hO2 hM2 hA2 hS2
              clear HO HM HFA HSA
              have HO := hide hO2
              have HM := hide hM2
              have HFP3 := hide hA2
              have HSP3 := hide hS2
              have HFA := HFP3
              have HSA := HSP3
              have HPL3 : Hid ((foldZ (foldZ (foldZ ([] : List SetZ) s0) s1) s2).length ≤ 72) := by unfold Hid; rw [hM2]; omega
              have hmk : m ≤ 72 := by omega
              clear hO2 hM2 hA2 hS2 hkn
              obtain ⟨wo, rfl⟩ : ∃ wo : World, wo = wr := ⟨_, rfl⟩
              have HX := hide (fun base => World.ownsRow_lit (base := base) (e := 9) (size := 1) wo #[] 0)
              obtain ⟨A5, c5, rfl⟩ := own_slice HO.out
              have HR := hide (own_state HO.out HM.out HFA.out)
              have hb5 : Below wo.heap.size wo (wo.alloc (.cells #[] 9)) := (Below.refl _ _).alloc (Nat.le_refl _) _
              have HB5 := hide hb5
              have hown5 := HX.out wo.heap.size (Nat.le_refl _) (by simp) rfl
              clear HX hb5
              go_wp2
              go_loopw [11, 12] (fun v i wr => ∃ (j : Nat), j ≤ m ∧ i = .int .i64 j ∧ wr.ownsRow wo.heap.size 9 1 v j (cK kB (((foldZ (foldZ (foldZ ([] : List SetZ) s0) s1) s2).take j).map SetZ.name)) ∧ Below wo.heap.size wo wr) (fun _ i _ => m - (intOf i).toNat)
              case atStart => exact ⟨0, Nat.zero_le _, rfl, by simpa [cK] using hown5, HB5.out⟩
              case round =>
                clear hown5
                obtain ⟨j, hj, rfl, hown, hb2⟩ := hrel
                have HO2 := hide hown
                clear hown
                have hsz2 := hb2.size
                by_cases hlt : j < m
                · obtain ⟨b, off, s, v, rfl, hbl, hx, hc, hc2, hs1, hv1, hv2⟩ := (HR.out.below hb2 (Nat.le_refl _)).at hlt
                  have HE : Hid (((foldZ (foldZ (foldZ ([] : List SetZ) s0) s1) s2).take (j + 1)).map SetZ.name = ((foldZ (foldZ (foldZ ([] : List SetZ) s0) s1) s2).take j).map SetZ.name ++ [s]) := by unfold Hid; rw [take_snoc hx.out]; simp
                  go_wp2_with (at_builtin; refine appB rfl _ _ rfl wo.heap.size u11 j _ s rfl HO2.out rfl (by omega) (by omega) ?_; intro v4 w4 hown4 hb4 hz4)
                  go_roundw
                  case rel => exact ⟨j + 1, by omega, by go_num, by rw [HE.out]; exact hown4, hb2.trans hb4⟩
                  case measure => simp [intOf]; omega
                · have hjn : j = m := by omega
                  have HE : Hid (namesZ s0 s1 s2 = ((foldZ (foldZ (foldZ ([] : List SetZ) s0) s1) s2).take j).map SetZ.name) := by unfold Hid namesZ; rw [List.take_of_length_le (by rw [HM.out]; omega)]
                  go_wp2
                  go_ret
                  refine ⟨_, j, rfl, by rw [HE.out]; exact own_mono HO2.out hb.size, ?_, hb.trans (hb2.mono hb.size)⟩
                  rw [HE.out, List.length_map, List.length_take, HM.out]; omega

/-- The setting of a name, or the empty one. -/
def getS (ss : List SetZ) (nm : ByteArray) : SetZ := match getZ ss nm with | some s => s | none => ⟨⟨#[]⟩, 0⟩
theorem getS_some {ss : List SetZ} (hs : SortedZ ss) {k : Nat} {nm : ByteArray} {v : Int} (h : ss[k]? = some ⟨nm, v⟩) : getS ss nm = ⟨nm, v⟩ := by
  unfold getS; have := getZ_at hs h; simp only at this; rw [this]
theorem getS_none {ss : List SetZ} {nm : ByteArray} (h : hasZ ss nm = false) : getS ss nm = ⟨⟨#[]⟩, 0⟩ := by unfold getS; rw [getZ_none.2 h]
theorem getS_eq {a b : List SetZ} (ha : stateB a = true) (hb : stateB b = true) {nm : ByteArray} (hn : nm.size ≠ 0) : getS a nm = getS b nm ↔ valZ a nm = valZ b nm := by
  unfold getS valZ
  rcases h1 : getZ a nm with _ | x <;> rcases h2 : getZ b nm with _ | y
  · simp
  · have := set_val (state_mem hb (getZ_name h2).2)
    have e := (getZ_name h2).1
    simp only
    constructor
    · intro h3; rw [← e, ← h3] at hn; exact absurd rfl hn
    · intro h3; omega
  · have := set_val (state_mem ha (getZ_name h1).2)
    have e := (getZ_name h1).1
    simp only
    constructor
    · intro h3; rw [← e, h3] at hn; exact absurd rfl hn
    · intro h3; omega
  · have e1 := (getZ_name h1).1
    have e2 := (getZ_name h2).1
    simp only
    constructor
    · rintro rfl; rfl
    · intro h3; cases x; cases y; simp only at e1 e2 h3; subst e1 e2 h3; rfl
theorem getS_ne {ss : List SetZ} (h : stateB ss = true) {nm : ByteArray} (hn : nm.size ≠ 0) : (getS ss nm).name.size ≠ 0 ↔ 0 ≤ valZ ss nm := by
  unfold getS valZ
  rcases h1 : getZ ss nm with _ | x
  · simp; rfl
  · have e := (getZ_name h1).1
    have := set_val (state_mem h (getZ_name h1).2)
    simp only [e]
    exact ⟨fun _ => this.1, fun _ => hn⟩
theorem getS_val {ss : List SetZ} {nm : ByteArray} (h : 0 ≤ valZ ss nm) : getS ss nm = ⟨nm, valZ ss nm⟩ := by
  unfold getS valZ at *
  rcases h1 : getZ ss nm with _ | x
  · rw [h1] at h; simp at h
  · have e := (getZ_name h1).1
    cases x; simp only at e; subst e; rfl
theorem getS_fine {ss : List SetZ} (h : ∀ s ∈ ss, s.fine) (nm : ByteArray) : (getS ss nm).fine := by
  unfold getS
  rcases h1 : getZ ss nm with _ | x
  · exact ⟨by simp only; show (0 : Nat) ≤ _; omega, by simp only; omega, by simp only; omega⟩
  · exact h x (getZ_name h1).2

set_option maxHeartbeats 1000000 in
theorem l27Get_calls (A : Option Addr) (n c : Nat) (ss : List SetZ) (nm : ByteArray) (w : World) (h : RdS w A n ss) (hn : n ≤ 1048576) (hs : SortedZ ss) :
    Calls Try.prog 126 #[.slice A n c, .string nm] w fun e w' => e = .returned (.agg #[.string (getS ss nm).name, .int .i64 (getS ss nm).value]) ∧ Below w.heap.size w w' := by
  have HL := hide h.2.1
  have HS := hide hs
  clear hs
  have hba : Below w.heap.size w (w.alloc (.cells #[.string ⟨#[]⟩, .int .i64 0] 76)) := (Below.refl _ _).alloc (Nat.le_refl _) _
  go_enter Try.func126, Try.ntmps126
  go_wp2_with fail
  refine (l27At_calls _ _ _ ss nm _ (h.below hba (Nat.le_refl _)) hn).mono ?_
  rintro e w1 ⟨r, rfl, hr, rfl⟩
  rcases hr with ⟨rfl, hh⟩ | ⟨k, v, rfl, hh⟩
  · have HE := hide (getS_none hh)
    clear hh
    go_wp2
    refine bodyPost_ret (v := .agg #[.string ⟨#[]⟩, .int .i64 0]) (by simp [results, Try.results126, go_sem]) rfl ⟨by rw [HE.out], ?_⟩
    first | exact hba | exact (hba.setCell (by simp) _) | exact ((hba.setCell (by simp) _).setCell (by simp) _)
  · have HE := hide (getS_some HS.out hh)
    have hk : k < n := by have h1 := (List.getElem?_eq_some_iff.1 hh).1; rw [HL.out] at h1; exact h1
    obtain ⟨b, off, s, v2, rfl, hbl, hx, hc, hc2, hs1, hv1, hv2⟩ := (h.below hba (Nat.le_refl _)).at hk
    obtain ⟨rfl, rfl⟩ : s = nm ∧ v2 = v := by
      have := hx.out
      rw [hh] at this
      have h2 := Option.some.inj this
      injection h2 with h3 h4
      exact ⟨h3.symm, h4.symm⟩
    clear hh
    go_wp2
    refine bodyPost_ret (v := .agg #[.string s, .int .i64 v2]) (by simp [results, Try.results126, go_sem]) rfl ⟨by rw [HE.out], ?_⟩
    first | exact hba | exact (Below.refl _ _).alloc (Nat.le_refl _) _ | exact (hba.setCell (by simp) _) | exact ((hba.setCell (by simp) _).setCell (by simp) _)

end Go.Proofs.Ytmcdafaadodekaa
