/- ReadDecimal of the program, l01Number of the reference. -/
import Derived.Test.YtcclfmapbgdpdaaGreatDoorNumZ
import Derived.Test.YtcclfmapbgdpdaaGreatDoorDec
import Derived.Test.YtcclfmapbgdpdaaGreatDoorShelp
import Derived.Lib.UnsafeStr
namespace Go.Proofs.YtcclfmapbgdpdaaGreatDoor
open Go.RowKit
set_option linter.unusedVariables false

theorem bytes_below (w : World) (tp : TypeId) (t : ByteArray) : Below w.heap.size w (Lib.bytesWorld w tp t) := by
  exact Lib.below_freeze ((Below.refl w.heap.size w).drew.alloc (Nat.le_refl _) _) (Nat.le_refl _) _

set_option maxRecDepth 100000 in
set_option maxHeartbeats 2000000 in
theorem readDecimal_calls (s : ByteArray) (w : World) (hT : TabP w) (hE : TabE w) (hs : s.size ≤ 1048576) :
    Calls Tryz.prog 78 #[.string s] w fun e w' => e = .returned (.tuple #[.int .i64 (numV (bs s)), .bool (numB (bs s))]) ∧ Below w.heap.size w w' := by
  obtain ⟨⟨tp, pv, hvar⟩, _⟩ := hE
  have HT : Hid (Calls Tryz.prog 156 #[.string s, .string ⟨#[45]⟩] w fun e w' => e = .returned (.string ⟨(digsL (bs s)).toArray⟩) ∧ w' = w) := by
    have := Tryz.strings_TrimPrefix s ⟨#[45]⟩ w
    rw [show Lib.trimPrefix s.data.toList ([45] : List UInt8) = digsL (bs s) from trim_digs (bs s)] at this
    exact this
  have hsz : (⟨(digsL (bs s)).toArray⟩ : ByteArray).size = (digsL (bs s)).length := rfl
  have hle : (digsL (bs s)).length ≤ s.size := by
    rw [← bs_len]; unfold digsL; split
    · rw [List.length_tail]; omega
    · exact Nat.le_refl _
  have HLAW := hide (fun h1 h2 => read_law (l := bs s) h1 h2)
  have HBAD : Hid (¬ (1 ≤ (digsL (bs s)).length ∧ (digsL (bs s)).length ≤ 18) → numB (bs s) = false) := numB_len
  generalize hD : (⟨(digsL (bs s)).toArray⟩ : ByteArray) = D at *
  generalize hk : (digsL (bs s)).length = k at *
  clear hD hk
  by_cases h1 : k = 0
  · have hb := HBAD.out (by omega)
    have HV := hide (numV_bad hb)
    have HB := hide hb
    have g1 : decide ((k : Int) < 1) = true := by simp; omega
    clear hb h1 HLAW HBAD hvar
    go_enter Tryz.func78, Tryz.ntmps78
    go_wp2_with fail
    refine HT.out.mono ?_
    rintro e w1 ⟨rfl, rfl⟩
    go_wp2
    go_ret2
    exact ⟨ret_two (congrArg (Value.int .i64) HV.out.symm) (congrArg Value.bool HB.out.symm), Below.refl _ _⟩
  by_cases h2 : 18 < k
  · have hb := HBAD.out (by omega)
    have HV := hide (numV_bad hb)
    have HB := hide hb
    have g1 : decide ((k : Int) < 1) = false := by simp; omega
    have g2 : decide ((18 : Int) < (k : Int)) = true := by simp; omega
    clear hb h1 h2 HLAW HBAD hvar
    go_enter Tryz.func78, Tryz.ntmps78
    go_wp2_with fail
    refine HT.out.mono ?_
    rintro e w1 ⟨rfl, rfl⟩
    go_wp2
    go_ret2
    exact ⟨ret_two (congrArg (Value.int .i64) HV.out.symm) (congrArg Value.bool HB.out.symm), Below.refl _ _⟩
  have g1 : decide ((k : Int) < 1) = false := by simp; omega
  have g2 : decide ((18 : Int) < (k : Int)) = false := by simp; omega
  rcases HLAW.out (by omega) (by omega) with ⟨hp, hb⟩ | ⟨v, hv, hp, hw⟩
  · have HV := hide (numV_bad hb)
    have HB := hide hb
    have HP := hide (Tryz.strconv_ParseInt_10_at64_syntax_var s (by omega) hp tp pv w hvar)
    clear hp hb HLAW HBAD h1 h2 hvar
    go_enter Tryz.func78, Tryz.ntmps78
    go_wp2_with fail
    refine HT.out.mono ?_
    rintro e w1 ⟨rfl, rfl⟩
    go_wp2_with fail
    refine HP.out.mono ?_
    rintro e w2 ⟨N, rfl, _, _, hb2⟩
    go_wp2
    go_ret2
    exact ⟨ret_two (congrArg (Value.int .i64) HV.out.symm) (congrArg Value.bool HB.out.symm), hb2⟩
  · have HP : Hid (Calls Tryz.prog 157 #[.string s, .int .i64 10, .int .i64 64] w fun e w' => e = .returned (.tuple #[.int .i64 v, .nilIface]) ∧ Below w.heap.size w w') := by
      refine (Tryz.strconv_ParseInt_10_at64_ok s (by omega) v hp w).mono ?_
      rintro e w' ⟨rfl, rfl | ⟨t, rfl⟩⟩
      · exact ⟨rfl, Below.refl _ _⟩
      · exact ⟨rfl, bytes_below _ _ _⟩
    have HM : Hid (∀ W, Below w.heap.size w W → Calls Tryz.prog 79 #[.int .i64 v] W fun e w' => e = .returned (.string (decZ v)) ∧ Below W.heap.size W w') := fun W hW => decimal_calls v W (hT.here hW) hv
    rcases hw with ⟨he, hb, hv2⟩ | ⟨he, hb⟩
    · have HB := hide hb
      have HV := hide hv2
      have g3 := (str_eq (show decZ v = s from bs_inj (by rw [bs_decZ]; exact he))).1
      clear hp hb HLAW HBAD h1 h2 hvar he hv2
      go_enter Tryz.func78, Tryz.ntmps78
      go_wp2_with fail
      refine HT.out.mono ?_
      rintro e w1 ⟨rfl, rfl⟩
      go_wp2_with fail
      refine HP.out.mono ?_
      rintro e w2 ⟨rfl, hb2⟩
      go_wp2_with fail
      refine (HM.out _ hb2).mono ?_
      rintro e w3 ⟨rfl, hb3⟩
      go_wp2
      go_ret2
      exact ⟨ret_two (congrArg (Value.int .i64) HV.out.symm) (congrArg Value.bool HB.out.symm), hb2.trans (hb3.mono hb2.size)⟩
    · have HV := hide (numV_bad hb)
      have HB := hide hb
      have g3 := (str_ne (show decZ v ≠ s from fun e => he (by rw [← bs_decZ, e]))).1
      clear hp hb HLAW HBAD h1 h2 hvar he
      go_enter Tryz.func78, Tryz.ntmps78
      go_wp2_with fail
      refine HT.out.mono ?_
      rintro e w1 ⟨rfl, rfl⟩
      go_wp2_with fail
      refine HP.out.mono ?_
      rintro e w2 ⟨rfl, hb2⟩
      go_wp2_with fail
      refine (HM.out _ hb2).mono ?_
      rintro e w3 ⟨rfl, hb3⟩
      go_wp2
      go_ret2
      exact ⟨ret_two (congrArg (Value.int .i64) HV.out.symm) (congrArg Value.bool HB.out.symm), hb2.trans (hb3.mono hb2.size)⟩

end Go.Proofs.YtcclfmapbgdpdaaGreatDoor
