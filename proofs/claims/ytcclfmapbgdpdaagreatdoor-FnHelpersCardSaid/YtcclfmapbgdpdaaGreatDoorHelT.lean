/- FillTasks, MostFilled, HelpersFor, IdleHelpers of the program. -/
import Derived.Test.YtcclfmapbgdpdaaGreatDoorFillT
import Derived.Test.YtcclfmapbgdpdaaGreatDoorValH
namespace Go.Proofs.YtcclfmapbgdpdaaGreatDoor
open Go.RowKit
set_option linter.unusedVariables false

theorem hlps_sk {hs : List HlpZ} (h : hlpsB hs = true) : SkOk hs := fun x hx => hlp_sk (listN_mem h x hx)
theorem tsks_sk {ts : List HlpZ} (h : tsksB ts = true) : SkOk ts := fun x hx => hlp_sk (listN_mem h x hx)
theorem hlps_len {hs : List HlpZ} (h : hlpsB hs = true) : hs.length ≤ 10 := listN_len h
theorem tsks_len {ts : List HlpZ} (h : tsksB ts = true) : ts.length ≤ 8 := listN_len h
/-- The first error of helpers and tasks. -/
def helpC (hs ts : List HlpZ) : Int := if (hlpsB hs && tsksB ts) = true then 0 else 1
def mostV (hs ts : List HlpZ) : Int := if helpC hs ts = 0 then (mostZ (helpZ hs) ts [] : Nat) else 0
def ftC (hs ts : List HlpZ) : Int := if helpC hs ts = 0 then (if (fitZ (helpZ hs) ts []).isSome then 0 else 3) else 1
def ftV (hs ts : List HlpZ) : List Int := if helpC hs ts = 0 then (fitZ (helpZ hs) ts []).getD [] else []
theorem helpC_ok {hs ts : List HlpZ} (h : helpC hs ts = 0) : hlpsB hs = true ∧ tsksB ts = true := by
  unfold helpC at h
  split at h
  · next h1 => rwa [Bool.and_eq_true] at h1
  · exact absurd h (by decide)
theorem helpC_two (hs ts : List HlpZ) : helpC hs ts = 0 ∨ helpC hs ts = 1 := by unfold helpC; split <;> simp

theorem helped_calls (A B : Option Addr) (n c m d : Nat) (hs ts : List HlpZ) (w : World) (h : RdK kHlp w A n hs) (h' : RdK kHlp w B m ts) (hn : n ≤ 1048576) (hm : m ≤ 1048576) :
    Calls Tryz.prog 111 #[.slice A n c, .slice B m d] w fun e w' => e = .returned (.int .i64 (helpC hs ts)) ∧ Below w.heap.size w w' := by
  have HV := hide (implValidHelpers_calls A n c hs w h hn)
  have HT := hide (fun W (hW : RdK kHlp W B m ts) => implValidTasks_calls B m d ts W hW hm)
  have HC : Hid (helpC hs ts = if (hlpsB hs && tsksB ts) = true then 0 else 1) := rfl
  have H2 := hide h'
  generalize hlpsB hs = a at *
  generalize tsksB ts = b at *
  generalize helpC hs ts = z at *
  clear h h'
  go_enter Tryz.func111, Tryz.ntmps111
  go_wp2_with fail
  refine HV.out.mono ?_
  rintro e w1 ⟨rfl, hb1⟩
  cases a
  · go_wp2
    go_ret
    exact ⟨ret_int (by rw [HC.out]; rfl), hb1⟩
  · go_wp2_with fail
    refine (HT.out w1 (H2.out.below hb1 (Nat.le_refl _))).mono ?_
    rintro e w2 ⟨rfl, hb2⟩
    have hb12 := hb1.trans (hb2.mono hb1.size)
    cases b
    · go_wp2
      go_ret
      exact ⟨ret_int (by rw [HC.out]; rfl), hb12⟩
    · go_wp2
      go_ret
      exact ⟨ret_int (by rw [HC.out]; rfl), hb12⟩

theorem implMostFilled_calls (A B : Option Addr) (n c m d : Nat) (hs ts : List HlpZ) (w : World) (h : RdK kHlp w A n hs) (h' : RdK kHlp w B m ts) (hn : n ≤ 1048576) (hm : m ≤ 1048576) (hmd : m ≤ d) :
    Calls Tryz.prog 38 #[.slice A n c, .slice B m d] w fun e w' => e = .returned (.tuple #[.int .i64 (mostV hs ts), .int .i64 (helpC hs ts)]) ∧ Below w.heap.size w w' := by
  have HP := hide (helped_calls A B n c m d hs ts w h h' hn hm)
  have HH := hide (And.intro h h')
  clear h h'
  rcases helpC_two hs ts with h0 | h0
  · obtain ⟨v1, v2⟩ := helpC_ok h0
    have hl1 := hlps_len v1
    have hl2 := tsks_len v2
    have e1 := HH.out.1.2.1
    have e2 := HH.out.2.2.1
    have HM := hide (fun W (h1 : RdK kHlp W A n hs) (h2 : RdK kHlp W B m ts) => mostFilled_calls A n c hs (by omega) (hlps_sk v1) ts B m d [] W h1 h2 hmd (by omega) (tsks_sk v2) (by simp))
    have HV : Hid (mostV hs ts = (mostZ (helpZ hs) ts [] : Nat)) := by unfold Hid mostV; rw [if_pos h0]
    rw [h0] at HP
    rw [HV.out, h0]
    have e0 : ((bitsOf [] : Nat) : Int) = 0 := rfl
    rw [e0] at HM
    clear h0 v1 v2 hl1 hl2 e1 e2 HV e0
    go_enter Tryz.func38, Tryz.ntmps38
    go_wp2_with fail
    refine HP.out.mono ?_
    rintro e w1 ⟨rfl, hb1⟩
    go_wp2_with fail
    refine (HM.out w1 (HH.out.1.below hb1 (Nat.le_refl _)) (HH.out.2.below hb1 (Nat.le_refl _))).mono ?_
    rintro e w2 ⟨rfl, hb2⟩
    go_wp2
    go_ret2
    exact ⟨rfl, hb1.trans (hb2.mono hb1.size)⟩
  · have HV : Hid (mostV hs ts = 0) := by unfold Hid mostV; rw [if_neg (by rw [h0]; decide)]
    rw [h0] at HP
    rw [HV.out, h0]
    clear h0 HV
    go_enter Tryz.func38, Tryz.ntmps38
    go_wp2_with fail
    refine HP.out.mono ?_
    rintro e w1 ⟨rfl, hb1⟩
    go_wp2
    go_ret2
    exact ⟨rfl, hb1⟩

/-- What FillTasks leaves. -/
def FtPost (V : List Int) (C : Int) (w : World) (e : Ending) (w' : World) : Prop :=
  ∃ A' n' c', e = .returned (.tuple #[.slice A' n' c', .int .i64 C]) ∧ RdI w' A' n' V ∧ n' ≤ c' ∧ Below w.heap.size w w'
theorem implFillTasks_calls (A B : Option Addr) (n c m d : Nat) (hs ts : List HlpZ) (w : World) (h : RdK kHlp w A n hs) (h' : RdK kHlp w B m ts) (hn : n ≤ 1048576) (hm : m ≤ 1048576) :
    Calls Tryz.prog 37 #[.slice A n c, .slice B m d] w (FtPost (ftV hs ts) (ftC hs ts) w) := by
  have HP := hide (helped_calls A B n c m d hs ts w h h' hn hm)
  have HH := hide (And.intro h h')
  clear h h'
  rcases helpC_two hs ts with h0 | h0
  · obtain ⟨v1, v2⟩ := helpC_ok h0
    have hl1 := hlps_len v1
    have hl2 := tsks_len v2
    have e1 := HH.out.1.2.1
    have e2 := HH.out.2.2.1
    have HM := hide (fun W (h1 : RdK kHlp W A n hs) (h2 : RdK kHlp W B m ts) => fill_calls A n c hs (by omega) (hlps_sk v1) B m d ts (by omega) (tsks_sk v2) ts [] [] none 0 0 W rfl rfl h1 h2 ⟨Rd.nil, by simp⟩ (Nat.le_refl _) (by simp))
    have HV : Hid (ftV hs ts = (fitZ (helpZ hs) ts []).getD []) := by unfold Hid ftV; rw [if_pos h0]
    have HC : Hid (ftC hs ts = if (fitZ (helpZ hs) ts []).isSome = true then 0 else 3) := by unfold Hid ftC; rw [if_pos h0]
    unfold FilPost at HM
    rw [h0] at HP
    generalize fitZ (helpZ hs) ts [] = o at *
    generalize ftV hs ts = V at *
    generalize ftC hs ts = C at *
    clear h0 v1 v2 hl1 hl2 e1 e2
    go_enter Tryz.func37, Tryz.ntmps37
    go_wp2_with fail
    refine HP.out.mono ?_
    rintro e w1 ⟨rfl, hb1⟩
    go_wp2_with fail
    refine (HM.out w1 (HH.out.1.below hb1 (Nat.le_refl _)) (HH.out.2.below hb1 (Nat.le_refl _))).mono ?_
    rintro e w2 ⟨A2, n2, c2, rfl, h2, hc2, hb2⟩
    have HB := hide (hb1.trans (hb2.mono hb1.size))
    have H2 := hide h2
    clear h2 hb1 hb2 HM HP
    rcases o with _ | r
    · simp only [show (none : Option (List Int)).isSome = false from rfl]
      clear H2
      go_wp2
      go_ret2
      rw [HV.out, HC.out]
      exact ⟨none, 0, 0, rfl, ⟨Rd.nil, by simp⟩, Nat.le_refl _, HB.out⟩
    · simp only [show (some r : Option (List Int)).isSome = true from rfl]
      go_wp2
      go_ret2
      rw [HV.out, HC.out]
      exact ⟨A2, n2, c2, rfl, H2.out, hc2, HB.out⟩
  · have HV : Hid (ftV hs ts = []) := by unfold Hid ftV; rw [if_neg (by rw [h0]; decide)]
    have HC : Hid (ftC hs ts = 1) := by unfold Hid ftC; rw [if_neg (by rw [h0]; decide)]
    rw [h0] at HP
    rw [HV.out, HC.out]
    clear h0 HV HC
    go_enter Tryz.func37, Tryz.ntmps37
    go_wp2_with fail
    refine HP.out.mono ?_
    rintro e w1 ⟨rfl, hb1⟩
    go_wp2
    go_ret2
    exact ⟨none, 0, 0, rfl, ⟨Rd.nil, by simp⟩, Nat.le_refl _, hb1⟩

theorem implHelpersFor_calls (A : Option Addr) (n c : Nat) (hs : List HlpZ) (s : ByteArray) (p m : Int) (w : World) (h : RdK kHlp w A n hs) (hs1 : s.size ≤ 1048576) (hv : hlpsB hs = true) (ht : hlpB ⟨s, p, m⟩ = true) :
    Calls Tryz.prog 39 #[.slice A n c, .agg #[.string s, .int .i64 p, .int .i64 m]] w fun e w' => ∃ A' n' c', e = .returned (.tuple #[.slice A' n' c', .int .i64 0]) ∧ RdI w' A' n' (helpZ hs ⟨s, p, m⟩) ∧ n' ≤ 10 ∧ Below w.heap.size w w' := by
  have hl := hlps_len hv
  rw [h.2.1] at hl
  obtain ⟨w0, hw0⟩ : ∃ w0, w0 = w.alloc (.cells #[.string s, .int .i64 p, .int .i64 m] 67) := ⟨_, rfl⟩
  have hb0 : Below w.heap.size w w0 := by rw [hw0]; exact (Below.refl _ _).alloc (Nat.le_refl _) _
  have hz0 : w.heap.size < w0.heap.size := by rw [hw0]; simp
  have HA : Hid (At3 67 w0 w.heap.size (.string s) (.int .i64 p) (.int .i64 m)) := by rw [hw0]; exact At3.new _ _ _ _ _
  have HV := hide (implValidHelpers_calls A n c hs w0 (h.below hb0 (Nat.le_refl _)) (by omega))
  rw [hv] at HV
  have HT := hide (fun W => validTask_calls s p m W hs1)
  rw [ht] at HT
  have hnl := h.2.1
  have HF := hide (fun W (hW : RdK kHlp W A n hs) => helpersFor_calls A n c hs s p m W hW (by omega) (hlps_sk hv) (hlp_sk ht))
  have HH := hide h
  have HB0 := hide hb0
  have HLE : Hid ((helpZ hs ⟨s, p, m⟩).length ≤ 10) := by unfold Hid helpZ; have := idxK_len (fun h => canB h ⟨s, p, m⟩) hs hs.length; omega
  obtain ⟨p0, p1, p2, _⟩ := HA.out.out
  clear h hv ht hb0 hnl
  go_enter Tryz.func39, Tryz.ntmps39
  go_wp2_with fail
  rw [← hw0]
  clear hw0 p0 p1 p2
  refine HV.out.mono ?_
  rintro e w1 ⟨rfl, hb1⟩
  have HB1 := hide (HB0.out.trans (hb1.mono HB0.out.size))
  have HA1 := hide (HA.out.below hb1 hz0)
  have hz1 := Nat.lt_of_lt_of_le hz0 hb1.size
  obtain ⟨p0, p1, p2, _⟩ := HA1.out.out
  clear hb1 HV HA
  go_wp2_with fail
  refine (HT.out w1).mono ?_
  rintro e w2 ⟨rfl, hb2⟩
  have HB2 := hide (HB1.out.trans (hb2.mono HB1.out.size))
  clear p0 p1 p2
  obtain ⟨p0, p1, p2, _⟩ := (HA1.out.below hb2 hz1).out
  clear hb2 HA1 HB1
  go_wp2_with fail
  refine (HF.out w2 (HH.out.below HB2.out (Nat.le_refl _))).mono ?_
  rintro e w3 ⟨A3, n3, c3, rfl, hown, hlen, hb3⟩
  have HR := hide (show RdI w3 A3 n3 (helpZ hs ⟨s, p, m⟩) from RdI.of_own hown (idxK_fine _ _ _ (by have := HH.out.2.1; omega)))
  have HB3 := hide (HB2.out.trans (hb3.mono HB2.out.size))
  have hn3 : n3 ≤ 10 := by rw [← hlen]; exact HLE.out
  clear hown hb3 HF hlen p0 p1 p2
  go_wp2
  go_ret2
  exact ⟨A3, n3, c3, rfl, HR.out, hn3, HB3.out⟩

end Go.Proofs.YtcclfmapbgdpdaaGreatDoor
