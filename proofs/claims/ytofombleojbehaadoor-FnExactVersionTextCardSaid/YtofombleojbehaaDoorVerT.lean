/- A version as text: plain, and VersionText of the reference. -/
import Derived.Test.YtofombleojbehaaDoorVerTo
import Derived.Test.YtofombleojbehaaDoorState
import Derived.Test.YtofombleojbehaaDoorMemo
import Derived.Test.YtofombleojbehaaDoorDec
import Derived.Test.YtofombleojbehaaDoorSealZ
import Derived.Deep.RegionHeld3
namespace Go.Proofs.YtofombleojbehaaDoor
open Go.RowKit
set_option linter.unusedVariables false

def verB (v : VerZ) : Bool := withinB v.number 1 32 && withinB v.parent 0 (v.number - 1) && memoB v.memo && stateB v.state
/-- A setting in a version's text. -/
def partZ (s : SetZ) : ByteArray := ⟨#[32]⟩ ++ s.name ++ ⟨#[61]⟩ ++ decZ s.value
def headZ (n p : Int) : ByteArray := decZ n ++ ⟨#[60]⟩ ++ decZ p
def partsZ (h : ByteArray) (ss : List SetZ) : ByteArray := ss.foldl (fun a s => a ++ partZ s) h
def memZ (m : ByteArray) : ByteArray := if m.size = 0 then ⟨#[]⟩ else ⟨#[32, 35, 32]⟩ ++ m
def verT (v : VerZ) : ByteArray := if verB v = true then partsZ (headZ v.number v.parent) v.state ++ memZ v.memo else ⟨#[]⟩
theorem parts_snoc (h : ByteArray) (ss : List SetZ) (s : SetZ) : partsZ h (ss ++ [s]) = partsZ h ss ++ partZ s := by
  unfold partsZ; rw [List.foldl_append, List.foldl_cons, List.foldl_nil]
theorem parts_step {h : ByteArray} {ss : List SetZ} {k : Nat} {s : SetZ} (hx : ss[k]? = some s) : partsZ h (ss.take (k + 1)) = partsZ h (ss.take k) ++ partZ s := by
  rw [take_snoc hx, parts_snoc]
theorem verT_bad {v : VerZ} (h : verB v = false) : verT v = ⟨#[]⟩ := by unfold verT; rw [if_neg (by rw [h]; simp)]
theorem verT_good {v : VerZ} (h : verB v = true) : verT v = partsZ (headZ v.number v.parent) v.state ++ memZ v.memo := by unfold verT; rw [if_pos h]
theorem app_empty (a : ByteArray) : a ++ ⟨#[]⟩ = a := bs_inj (by simp [bs])
theorem state_name {ss : List SetZ} (h : stateB ss = true) : ∀ s ∈ ss, s.name.size ≤ 10 := by
  intro s hs
  obtain ⟨k, hk⟩ := List.mem_iff_getElem?.1 hs
  have hl := (List.getElem?_eq_some_iff.1 hk).1
  unfold stateB at h
  rw [Bool.and_eq_true] at h
  have h1 := List.all_eq_true.1 h.1 k (List.mem_range.2 hl)
  rcases b_cases (setB s.name s.value) with hb | hb
  · rw [step_set hk hb] at h1; exact absurd h1 (by simp)
  · unfold setB nameB at hb
    simp only [Bool.and_eq_true] at hb
    exact of_decide_eq_true hb.1.1.1.2
theorem state_len {ss : List SetZ} (h : stateB ss = true) : ss.length ≤ 24 := by
  unfold stateB at h
  rw [Bool.and_eq_true] at h
  exact of_decide_eq_true h.2
theorem memo_len {s : ByteArray} (h : memoB s = true) : s.size ≤ 20 := by
  unfold memoB at h
  simp only [Bool.and_eq_true] at h
  first | exact of_decide_eq_true h.1 | exact of_decide_eq_true h.2
theorem ret_strE {s : ByteArray} {t : ByteArray} (h : s = t) : Ending.returned (.string s) = .returned (.string t) := by rw [h]
theorem size_lit1 : (⟨#[32]⟩ : ByteArray).size = 1 ∧ (⟨#[61]⟩ : ByteArray).size = 1 ∧ (⟨#[60]⟩ : ByteArray).size = 1 ∧ (⟨#[32, 35, 32]⟩ : ByteArray).size = 3 := ⟨rfl, rfl, rfl, rfl⟩
theorem part_size {s : SetZ} (h : s.name.size ≤ 10) (hv : I64 s.value) : (partZ s).size ≤ 32 := by
  have := itoa_len hv
  obtain ⟨a1, a2, _, _⟩ := size_lit1
  unfold partZ
  simp only [ByteArray.size_append]
  omega

theorem mem_empty {m : ByteArray} (h : m.size = 0) : m.toList.isEmpty = true := by
  rw [toList_bs, List.eq_nil_of_length_eq_zero (show (bs m).length = 0 by rw [bs_len]; exact h)]; rfl
theorem mem_some {m : ByteArray} (h : ¬ m.size = 0) : m.toList.isEmpty = false := by
  rw [toList_bs, List.isEmpty_eq_false_iff]
  intro e
  exact h (by rw [← bs_len, e]; rfl)

set_option maxRecDepth 100000 in
set_option maxHeartbeats 8000000 in
theorem specVersionText_calls (nu pa : Int) (me : ByteArray) (A : Option Addr) (n c : Nat) (st : List SetZ) (w : World) (h : RdS w A n st) (hnu : I64 nu) (hpa : I64 pa) (hme : me.size ≤ 9223372036854775807) (hn : n ≤ 1048576) :
    Calls Tryd.prog 15 #[.agg #[.int .i64 nu, .int .i64 pa, .string me, .slice A n c]] w fun e w' => e = .returned (.string (verT ⟨nu, pa, me, st⟩)) ∧ Below w.heap.size w w' := by
  have HL := hide h.2.1
  have HVB : Hid (verB ⟨nu, pa, me, st⟩ = (withinB nu 1 32 && withinB pa 0 (nu - 1) && memoB me && stateB st)) := rfl
  have HBAD : Hid (verB ⟨nu, pa, me, st⟩ = false → verT ⟨nu, pa, me, st⟩ = ⟨#[]⟩) := verT_bad
  have HGOOD : Hid (verB ⟨nu, pa, me, st⟩ = true → verT ⟨nu, pa, me, st⟩ = partsZ (headZ nu pa) st ++ memZ me) := verT_good
  obtain ⟨W0, hW0⟩ : ∃ W0, W0 = w.alloc (.cells #[.int .i64 nu, .int .i64 pa, .string me, .slice A n c] 29) := ⟨_, rfl⟩
  have hB : Below w.heap.size w W0 := by rw [hW0]; exact (Below.refl _ _).alloc (Nat.le_refl _) _
  have e0 : W0.cell? ⟨w.heap.size, 0, none⟩ = some (.int .i64 nu) := by rw [hW0]; simp
  have e1 : W0.cell? ⟨w.heap.size, 1, none⟩ = some (.int .i64 pa) := by rw [hW0]; simp
  have e2 : W0.cell? ⟨w.heap.size, 2, none⟩ = some (.string me) := by rw [hW0]; simp
  have e3 : W0.cell? ⟨w.heap.size, 3, none⟩ = some (.slice A n c) := by rw [hW0]; simp
  have hz : w.heap.size < W0.heap.size := by rw [hW0]; simp
  have HI : Hid (∀ n l h W, Calls Tryd.prog 51 #[.int .i64 n, .int .i64 l, .int .i64 h] W fun e w' => e = .returned (.bool (withinB n l h)) ∧ W = w') := l00In_calls
  have HM := hide (l27Memo_calls me W0 hme)
  have HS := hide (l27State_calls A n c st W0 (h.below hB (Nat.le_refl _)) hn)
  rcases b_cases (withinB nu 1 32) with h1 | h1
  · have HV := hide (HBAD.out (by rw [HVB.out, h1]; rfl))
    have HC := hide h1
    clear h1
    go_enter Tryd.func15, Tryd.ntmps15
    go_wp2_with fail
    rw [← hW0]
    clear hW0
    refine (HI.out _ _ _ _).mono ?_
    rw [HC.out]
    rintro e w1 ⟨rfl, rfl⟩
    go_wp2
    go_ret
    exact ⟨ret_strE HV.out.symm, hB⟩
  have HC1 := hide h1
  have hnu1 : 1 ≤ nu ∧ nu ≤ 32 := by
    unfold withinB at h1
    simp only [Bool.and_eq_true] at h1
    exact ⟨of_decide_eq_true h1.1, of_decide_eq_true h1.2⟩
  rcases b_cases (withinB pa 0 (nu - 1)) with h2 | h2
  · have HV := hide (HBAD.out (by rw [HVB.out, h1, h2]; rfl))
    have HC := hide h2
    clear h1 h2
    go_enter Tryd.func15, Tryd.ntmps15
    go_wp2_with fail
    rw [← hW0]
    clear hW0
    refine (HI.out _ _ _ _).mono ?_
    rw [HC1.out]
    rintro e w1 ⟨rfl, rfl⟩
    go_wp2_with fail
    refine (HI.out _ _ _ _).mono ?_
    rw [HC.out]
    rintro e w1 ⟨rfl, rfl⟩
    go_wp2
    go_ret
    exact ⟨ret_strE HV.out.symm, hB⟩
  have HC2 := hide h2
  rcases b_cases (memoB me) with h3 | h3
  · have HV := hide (HBAD.out (by rw [HVB.out, h1, h2, h3]; rfl))
    rw [h3] at HM
    clear h1 h2 h3
    go_enter Tryd.func15, Tryd.ntmps15
    go_wp2_with fail
    rw [← hW0]
    clear hW0
    refine (HI.out _ _ _ _).mono ?_
    rw [HC1.out]
    rintro e w1 ⟨rfl, rfl⟩
    go_wp2_with fail
    refine (HI.out _ _ _ _).mono ?_
    rw [HC2.out]
    rintro e w1 ⟨rfl, rfl⟩
    go_wp2_with fail
    refine HM.out.mono ?_
    rintro e w1 ⟨rfl, rfl⟩
    go_wp2
    go_ret
    exact ⟨ret_strE HV.out.symm, hB⟩
  rcases b_cases (stateB st) with h4 | h4
  · have HV := hide (HBAD.out (by rw [HVB.out, h1, h2, h3, h4]; rfl))
    rw [h3] at HM
    rw [h4] at HS
    clear h1 h2 h3 h4
    go_enter Tryd.func15, Tryd.ntmps15
    go_wp2_with fail
    rw [← hW0]
    clear hW0
    refine (HI.out _ _ _ _).mono ?_
    rw [HC1.out]
    rintro e w1 ⟨rfl, rfl⟩
    go_wp2_with fail
    refine (HI.out _ _ _ _).mono ?_
    rw [HC2.out]
    rintro e w1 ⟨rfl, rfl⟩
    go_wp2_with fail
    refine HM.out.mono ?_
    rintro e w1 ⟨rfl, rfl⟩
    go_wp2_with fail
    refine HS.out.mono ?_
    rintro e w2 ⟨rfl, k, rfl⟩
    go_wp2
    go_ret
    exact ⟨ret_strE HV.out.symm, below_drewN hB _⟩
  have HV := hide (HGOOD.out (by rw [HVB.out, h1, h2, h3, h4]; rfl))
  have HNM := hide (state_name h4)
  have hn24 := state_len h4
  rw [HL.out] at hn24
  have hm20 := memo_len h3
  rw [h3] at HM
  rw [h4] at HS
  clear h1 h2 h3 h4 HVB HBAD HGOOD
  go_enter Tryd.func15, Tryd.ntmps15
  go_wp2_with fail
  rw [← hW0]
  clear hW0
  refine (HI.out _ _ _ _).mono ?_
  rw [HC1.out]
  rintro e w1 ⟨rfl, rfl⟩
  go_wp2_with fail
  refine (HI.out _ _ _ _).mono ?_
  rw [HC2.out]
  rintro e w1 ⟨rfl, rfl⟩
  go_wp2_with fail
  refine HM.out.mono ?_
  rintro e w1 ⟨rfl, rfl⟩
  go_wp2_with fail
  refine HS.out.mono ?_
  rintro e w2 ⟨rfl, k0, rfl⟩
  obtain ⟨Wd, hWd⟩ : ∃ Wd, Wd = W0.drewN k0 := ⟨_, rfl⟩
  have hBd : Below w.heap.size w Wd := by rw [hWd]; exact below_drewN hB _
  have d0 : Wd.cell? ⟨w.heap.size, 0, none⟩ = some (.int .i64 nu) := by rw [hWd]; exact e0
  have d1 : Wd.cell? ⟨w.heap.size, 1, none⟩ = some (.int .i64 pa) := by rw [hWd]; exact e1
  have d2 : Wd.cell? ⟨w.heap.size, 2, none⟩ = some (.string me) := by rw [hWd]; exact e2
  have d3 : Wd.cell? ⟨w.heap.size, 3, none⟩ = some (.slice A n c) := by rw [hWd]; exact e3
  have hzd : w.heap.size < Wd.heap.size := by rw [hWd]; exact hz
  have hRd : RdS Wd A n st := h.below hBd (Nat.le_refl _)
  have hpa1 : I64 pa := hpa
  have H1 : Hid (∀ w, Calls Tryd.prog 54 #[.int .i64 nu] w fun e w' => e = .returned (.string (decZ nu)) ∧ Below w.heap.size w w') := fun w => l01Dec_calls nu w hnu
  have H2 : Hid (∀ w, Calls Tryd.prog 54 #[.int .i64 pa] w fun e w' => e = .returned (.string (decZ pa)) ∧ Below w.heap.size w w') := fun w => l01Dec_calls pa w hpa
  have s1 := itoa_len hnu
  have s2 := itoa_len hpa
  obtain ⟨l1, l2, l3, l4⟩ := size_lit1
  have c1 := fun w : World => run_string_add_sum (P := Tryd.prog) w (decZ nu) ⟨#[60]⟩ (by omega)
  have c2 := fun w : World => run_string_add_sum (P := Tryd.prog) w (decZ nu ++ ⟨#[60]⟩) (decZ pa) (by rw [ByteArray.size_append]; omega)
  have hhs : (headZ nu pa).size ≤ 50 := by unfold headZ; simp only [ByteArray.size_append]; omega
  have HHD : Hid (headZ nu pa = decZ nu ++ ⟨#[60]⟩ ++ decZ pa) := rfl
  clear HI HM HS HC1 HC2 e0 e1 e2 e3 hz hB h hpa1 l1 l2 l3 l4
  go_wp2
  rw [← hWd]
  clear hWd
  go_region_held3 (fun w' => w'.cell? ⟨w.heap.size, 0, none⟩ = some (.int .i64 nu) ∧ w'.cell? ⟨w.heap.size, 1, none⟩ = some (.int .i64 pa))
    (first | exact ⟨d0, d1⟩ | exact ⟨(hb1.cell (p := ⟨w.heap.size, 0, none⟩) hzd).trans d0, (hb1.cell (p := ⟨w.heap.size, 1, none⟩) hzd).trans d1⟩ | exact ⟨(hb2.cell (p := ⟨w.heap.size, 0, none⟩) (Nat.lt_of_lt_of_le hzd hb1.size)).trans ((hb1.cell (p := ⟨w.heap.size, 0, none⟩) hzd).trans d0), (hb2.cell (p := ⟨w.heap.size, 1, none⟩) (Nat.lt_of_lt_of_le hzd hb1.size)).trans ((hb1.cell (p := ⟨w.heap.size, 1, none⟩) hzd).trans d1)⟩)
    (first
      | ((with_reducible refine (H1.out _).mono ?_); rintro e w1 ⟨rfl, hb1⟩)
      | ((with_reducible refine (H2.out _).mono ?_); rintro e w2 ⟨rfl, hb2⟩)
      | fail)
  all_goals
    have hb3 : Below Wd.heap.size Wd w2 := (by first | exact ((Below.refl _ Wd).drew.trans hb1).trans (hb2.mono (by have := hb1.size; simpa using this)) | exact (((Below.refl _ Wd).drew.trans hb1).drew).trans (hb2.mono (by have := hb1.size; simpa using this)))
    clear hb1 hb2
    rw [← HHD.out]
    clear HHD c1 c2
    go_wp2
    have HHS := hide hhs
    generalize headZ nu pa = hd at *
    clear hhs s1 s2 H1 H2 d0 d1
    go_loopw [3, 4] (fun tx i wr => ∃ (K : Nat) (ob : ByteArray), K ≤ n ∧ i = .int .i64 K ∧ tx = .string ob ∧ ob.size ≤ 50 + 32 * K ∧ Hid (ob = partsZ hd (st.take K)) ∧ Below Wd.heap.size Wd wr) (fun _ i _ => n - (intOf i).toNat)
    case atStart => exact ⟨0, hd, Nat.zero_le _, rfl, rfl, HHS.out, rfl, hb3⟩
    case round =>
      obtain ⟨K, ob, hK, rfl, rfl, hos, HOB, hb⟩ := hrel
      have k2 := (hb.cell (p := ⟨w.heap.size, 2, none⟩) hzd).trans d2
      have k3 := (hb.cell (p := ⟨w.heap.size, 3, none⟩) hzd).trans d3
      by_cases hlt : K < n
      · obtain ⟨b, off, sn, sv, rfl, hbl, hx, f0, f1, _, hv1, hv2⟩ := (hRd.below hb (Nat.le_refl _)).at hlt
        have hsn := HNM.out _ (List.mem_of_getElem? hx.out)
        simp only at hsn
        have hv : I64 sv := ⟨hv1, hv2⟩
        have HM : Hid (∀ W, Calls Tryd.prog 54 #[.int .i64 sv] W fun e w' => e = .returned (.string (decZ sv)) ∧ Below W.heap.size W w') := fun W => l01Dec_calls sv W hv
        have s1 := itoa_len hv
        have hps := part_size (s := ⟨sn, sv⟩) hsn hv
        have HN : Hid (ob ++ partZ ⟨sn, sv⟩ = partsZ hd (st.take (K + 1))) := by unfold Hid; rw [parts_step hx.out, HOB.out]
        have HPZ : Hid (partZ ⟨sn, sv⟩ = ⟨#[32]⟩ ++ sn ++ ⟨#[61]⟩ ++ decZ sv) := rfl
        obtain ⟨l1, l2, _, _⟩ := size_lit1
        have c1 := fun w : World => run_string_add_sum (P := Tryd.prog) w ⟨#[32]⟩ sn (by omega)
        have c2 := fun w : World => run_string_add_sum (P := Tryd.prog) w (⟨#[32]⟩ ++ sn) ⟨#[61]⟩ (by rw [ByteArray.size_append]; omega)
        have c3 := fun w : World => run_string_add_sum (P := Tryd.prog) w (⟨#[32]⟩ ++ sn ++ ⟨#[61]⟩) (decZ sv) (by rw [ByteArray.size_append, ByteArray.size_append]; omega)
        have c4 := fun w : World => run_string_add_sum (P := Tryd.prog) w ob (⟨#[32]⟩ ++ sn ++ ⟨#[61]⟩ ++ decZ sv) (by rw [← HPZ.out]; omega)
        have hos2 : (ob ++ partZ ⟨sn, sv⟩).size ≤ 50 + 32 * (K + 1) := by rw [ByteArray.size_append]; omega
        have hi1 : (0 : Int) ≤ (K : Int) := by omega
        have hi2 : (K : Int) < (n : Int) := by omega
        have hzr : w.heap.size < wr.heap.size := Nat.lt_of_lt_of_le hzd hb.size
        rw [HPZ.out] at HN hos2
        clear l1 l2 hps HPZ hx s1
        go_wp2
        go_region_held3 (fun w' => w'.cell? ⟨w.heap.size, 3, none⟩ = some (.slice (some ⟨b, off, none⟩) n c) ∧ w'.cell? ⟨b, off + K * 2, none⟩ = some (.string sn) ∧ w'.cell? ⟨b, off + K * 2 + 1, none⟩ = some (.int .i64 sv))
          (first | exact ⟨k3, f0, f1⟩ | exact ⟨(hb4.cell (p := ⟨w.heap.size, 3, none⟩) hzr).trans k3, (hb4.cell (p := ⟨b, off + K * 2, none⟩) hbl).trans f0, (hb4.cell (p := ⟨b, off + K * 2 + 1, none⟩) hbl).trans f1⟩)
          (first
            | ((with_reducible refine (HM.out _).mono ?_); rintro e w4 ⟨rfl, hb4⟩)
            | fail)
        all_goals
          have hb5 : Below Wd.heap.size Wd w4 := hb.trans (((Below.refl _ wr).drew.trans hb4).mono hb.size)
          clear hb4 c1 c2 c3 c4
          go_wp2
          go_roundw
          case rel => exact ⟨K + 1, _, by omega, by go_num, rfl, hos2, HN.out, hb5⟩
          case measure => simp [intOf]; omega
      · have hKn : K = n := by omega
        subst hKn
        have HOB2 : Hid (ob = partsZ hd st) := by
          have := HOB.out
          rw [List.take_of_length_le (by rw [HL.out]; exact Nat.le_refl _)] at this
          exact this
        by_cases hm0 : me.size = 0
        · have HME : Hid (memZ me = ⟨#[]⟩) := by unfold Hid memZ; rw [if_pos hm0]
          have g1 := mem_empty hm0
          clear hm0
          go_wp2
          go_ret
          exact ⟨ret_strE (by rw [HV.out, HME.out, app_empty, HOB2.out]), hBd.trans (hb.mono hBd.size)⟩
        · have HME : Hid (memZ me = ⟨#[32, 35, 32]⟩ ++ me) := by unfold Hid memZ; rw [if_neg hm0]
          have g1 := mem_some hm0
          obtain ⟨_, _, _, l4⟩ := size_lit1
          have c1 := fun w : World => run_string_add_sum (P := Tryd.prog) w ⟨#[32, 35, 32]⟩ me (by omega)
          have c2 := fun w : World => run_string_add_sum (P := Tryd.prog) w ob (⟨#[32, 35, 32]⟩ ++ me) (by rw [ByteArray.size_append]; omega)
          clear hm0 l4
          go_wp2
          go_ret
          exact ⟨ret_strE (by rw [HV.out, HME.out, HOB2.out]), hBd.trans (hb.mono hBd.size)⟩

end Go.Proofs.YtofombleojbehaaDoor
