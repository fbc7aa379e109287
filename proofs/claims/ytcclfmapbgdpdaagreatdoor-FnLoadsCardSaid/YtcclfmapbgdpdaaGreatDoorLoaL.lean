/- ListText of the program at a few numbers. -/
import Derived.Test.YtcclfmapbgdpdaaGreatDoorMg
import Derived.Test.YtcclfmapbgdpdaaGreatDoorDec
import Derived.Test.YtcclfmapbgdpdaaGreatDoorJoinZ
import Derived.Test.YtcclfmapbgdpdaaGreatDoorShelp
import Derived.Test.YtcclfmapbgdpdaaGreatDoorContF
namespace Go.Proofs.YtcclfmapbgdpdaaGreatDoor
open Go.RowKit
set_option linter.unusedVariables false

/-- Numbers joined by commas. -/
def lisT (xs : List Int) : ByteArray := ⟨(Lib.join ((xs.map decZ).map (·.data.toList)) [44]).toArray⟩
theorem bs_lisT (xs : List Int) : bs (lisT xs) = Lib.join (xs.map Lib.itoa) [44] := by
  show Lib.join ((xs.map decZ).map (·.data.toList)) [44] = _
  rw [List.map_map]
  rfl

theorem isValue_calls (x : Int) (w : World) (hx : -1000000 ≤ x ∧ x ≤ 1000000) : Calls Tryz.prog 199 #[.int .i64 x] w fun e w' => e = .returned (.bool true) ∧ w = w' := by
  have H := hide (within_calls x (-1000000000000) 1000000000000 w)
  rw [withinB_iff.2 ⟨by omega, by omega⟩] at H
  go_enter Tryz.func199, Tryz.ntmps199
  go_wp2_with fail
  refine H.out.mono ?_
  rintro e w' ⟨rfl, rfl⟩
  go_wp2
  go_ret
  exact ⟨rfl, rfl⟩
theorem list1_calls (x : Int) (w : World) (hx : -1000000 ≤ x ∧ x ≤ 1000000) : Calls Tryz.prog 198 #[.int .i64 x] w fun e w' => e = .returned (.bool false) ∧ Below w.heap.size w w' := by
  have H := hide (isValue_calls x w hx)
  go_enter Tryz.func198, Tryz.ntmps198
  go_wp2_with fail
  refine H.out.mono ?_
  rintro e w' ⟨rfl, rfl⟩
  go_wp2
  go_ret
  exact ⟨rfl, Below.refl _ _⟩
set_option maxRecDepth 100000 in
set_option maxHeartbeats 4000000 in
theorem listText_calls (A : Option Addr) (n c : Nat) (xs : List Int) (w : World) (hT : TabP w) (h : RdI w A n xs) (hl : 1 ≤ n ∧ n ≤ 12) (hx : ∀ x ∈ xs, -1000000 ≤ x ∧ x ≤ 1000000) :
    Calls Tryz.prog 148 #[.slice A n c] w fun e w' => e = .returned (.string (lisT xs)) ∧ Below w.heap.size w w' := by
  have HL := hide h.len
  have CF := hide (containsFI_none A n c xs 198 #[] w h (by omega) Tryz.call198 (fun W x _ hm => by simpa using list1_calls x W (hx x hm)))
  have HH := hide h
  clear h hx
  go_enter Tryz.func148, Tryz.ntmps148
  go_wp2_with fail
  refine CF.out.mono ?_
  rintro e w2 ⟨rfl, hbb0⟩
  have HH2 := hide (HH.out.below hbb0 (Nat.le_refl _))
  have hown0 := World.ownsRow_nil w2 w2.heap.size 9 1
  have k1 : ¬ n = 0 := by omega
  have k2 : ((n : Int) == 0) = false := by simp; omega
  clear CF HH
  go_wp2_with fail
  clear k1 k2
  go_loopw [3, 5, 18] (fun v p i wr => ∃ (K : Nat), K ≤ n ∧ i = .int .i64 K ∧ wr.ownsRow w2.heap.size 9 1 v K (cK kB ((xs.take K).map decZ)) ∧ Below w2.heap.size w2 wr) (fun _ _ i _ => n - (intOf i).toNat)
  case atStart => exact ⟨0, Nat.zero_le _, rfl, by simpa [cK] using hown0, Below.refl _ _⟩
  case round =>
    clear hown0
    obtain ⟨K, hK, rfl, hown, hb⟩ := hrel
    have HO2 := hide hown
    clear hown
    by_cases hlt : K < n
    · obtain ⟨b, off, x, rfl, hbl, hx, hc, hx1, hx2⟩ := (HH2.out.below hb (Nat.le_refl _)).at hlt
      have HD := hide (decimal_calls x wr ((hT.here hbb0).here hb) ⟨hx1, hx2⟩)
      have HE : Hid ((xs.take (K + 1)).map decZ = (xs.take K).map decZ ++ [decZ x]) := by unfold Hid; rw [take_snoc hx]; simp
      generalize decZ x = dx at *
      clear hx
      go_wp2_with fail
      refine HD.out.mono ?_
      rintro e w5 ⟨rfl, hb2⟩
      have hsz := hb.size
      have hsz2 := hb2.size
      go_wp2_with (at_builtin; refine appB rfl _ _ rfl w2.heap.size u3 K _ dx rfl (own_below HO2.out hb2 (Nat.le_refl _)) (by first | rfl | (simp; rfl)) (by omega) (by omega) ?_; intro v4 w4 hown4 hb4 hz4)
      go_roundw
      case rel => exact ⟨K + 1, by omega, by go_num, by rw [HE.out]; exact hown4, (hb.trans (hb2.mono hsz)).trans hb4⟩
      case measure => simp [intOf]; omega
    · obtain rfl : K = n := by omega
      have hown := HO2.out
      rw [List.take_of_length_le (by rw [HL.out]; omega)] at hown
      obtain ⟨A6, c6, rfl⟩ := own_slice hown
      obtain ⟨g, rfl, hgb⟩ := own_addrB hown (by omega)
      have hcap := own_cap hown
      have hdl : (xs.map decZ).length = K := by rw [List.length_map]; exact HL.out
      have hsm : ∀ x ∈ xs.map decZ, x.size ≤ 20 := by
        intro x hx
        obtain ⟨y, hy, rfl⟩ := List.mem_map.1 hx
        exact itoa_len (HH2.out.2 y hy)
      have hR : RdK kB wr (some ⟨g, 0, none⟩) K (xs.map decZ) := RdK.of_own (K := kB) hown hdl (fun x hx => by have := hsm x hx; show x.size ≤ 9223372036854775807; omega)
      have hgs : g < wr.heap.size := by
        obtain ⟨b, off, x, hA, hb, _⟩ := hR.atB (show 0 < K by omega)
        injection hA with hA
        injection hA with h1 _
        omega
      have HJ : Hid (Calls Tryz.prog 80 #[.slice (some ⟨g, 0, none⟩) K c6, .string ⟨#[44]⟩] wr fun e w' => e = .returned (.string (lisT xs)) ∧ Below wr.heap.size wr w') := by
        have := Tryz.strings_Join g 0 c6 (xs.map decZ) ⟨#[44]⟩ wr (by
          intro j x hx
          have hj := (List.getElem?_eq_some_iff.1 hx).1
          rw [hdl] at hj
          obtain ⟨b, off, y, hA, hb, hy, hc, _⟩ := hR.atB hj
          injection hA with hA
          injection hA with h1 h2
          subst h1
          subst h2
          rw [hy.out] at hx
          rw [← Option.some.inj hx]
          exact hc) hgs (by rw [hdl]; omega) (by rw [hdl]; omega) (by
          have := join_len 44 20 ((xs.map decZ).map (·.data.toList)) (by
            intro x hx
            obtain ⟨y, hy, rfl⟩ := List.mem_map.1 hx
            exact hsm y hy)
          rw [List.length_map, hdl] at this
          exact Nat.le_trans this (by omega))
        rw [hdl] at this
        exact this
      clear HO2 hown hR hdl hsm
      go_wp2_with fail
      refine HJ.out.mono ?_
      rintro e w3 ⟨rfl, hb3⟩
      go_wp2
      go_ret
      exact ⟨rfl, hbb0.trans ((hb.trans (hb3.mono hb.size)).mono hbb0.size)⟩

end Go.Proofs.YtcclfmapbgdpdaaGreatDoor
