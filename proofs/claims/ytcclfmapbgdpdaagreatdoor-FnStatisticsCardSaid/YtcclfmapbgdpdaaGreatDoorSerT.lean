/- SeriesText of the program and of the reference. -/
import Derived.Test.YtcclfmapbgdpdaaGreatDoorSer
import Derived.Test.YtcclfmapbgdpdaaGreatDoorDec
import Derived.Test.YtcclfmapbgdpdaaGreatDoorJoinZ
import Derived.Test.YtcclfmapbgdpdaaGreatDoorShelp
import Derived.Test.YtcclfmapbgdpdaaGreatDoorStB
import Derived.Deep.RegionHeld3
namespace Go.Proofs.YtcclfmapbgdpdaaGreatDoor
open Go.RowKit
set_option linter.unusedVariables false

/-- A series as text, none where it isn't valid. -/
def serV (xs : List Int) : ByteArray := if okSer xs = true then serT xs else ⟨#[]⟩
theorem serV_bad {xs : List Int} (h : okSer xs = false) : serV xs = ⟨#[]⟩ := by unfold serV; rw [if_neg (by rw [h]; simp)]
theorem serV_ok {xs : List Int} (h : okSer xs = true) : serV xs = serT xs := by unfold serV; rw [if_pos h]
theorem serT_zero : serT [] = ⟨#[]⟩ := rfl
theorem serT_first {xs : List Int} {x : Int} (h : xs[0]? = some x) : serT (xs.take 1) = ⟨#[]⟩ ++ decZ x := by
  rw [take_snoc h]
  refine bs_inj ?_
  rw [bs_app]
  unfold serT
  rw [List.take_zero, List.nil_append, List.map_cons, List.map_nil, joinS_one]
  rfl
theorem serT_next {xs : List Int} {k : Nat} {x : Int} (h : xs[k]? = some x) (hk : 0 < k) : serT (xs.take (k + 1)) = serT (xs.take k) ++ ⟨#[32]⟩ ++ decZ x := by
  unfold serT
  rw [List.map_take, List.map_take]
  exact joinS_take (by rw [List.getElem?_map, h]; rfl) hk



set_option maxRecDepth 100000 in
set_option maxHeartbeats 4000000 in
theorem implSeriesText_calls (A : Option Addr) (n c : Nat) (xs : List Int) (w : World) (hT : TabP w) (h : RdI w A n xs) (hn : n ≤ 1048576) :
    Calls Tryz.prog 13 #[.slice A n c] w fun e w' => e = .returned (.string (serV xs)) ∧ Below w.heap.size w w' := by
  have HO := hide (implValidSeries_calls A n c xs w h hn)
  rcases b_cases (okSer xs) with hq | hq
  · have HV := hide (serV_bad hq)
    rw [hq] at HO
    clear hq
    go_enter Tryz.func13, Tryz.ntmps13
    go_wp2_with fail
    refine HO.out.mono ?_
    rintro e w2 ⟨rfl, rfl⟩
    go_wp2
    go_ret
    exact ⟨ret_str HV.out.symm, Below.refl _ _⟩
  · have HV := hide (serV_ok hq)
    have HL := hide h.len
    have hl := ok_len hq
    rw [HL.out] at hl
    rw [hq] at HO
    clear hq
    have hown0 := World.ownsRow_nil w w.heap.size 9 1
    go_enter Tryz.func13, Tryz.ntmps13
    go_wp2_with fail
    refine HO.out.mono ?_
    rintro e w2 ⟨rfl, rfl⟩
    go_wp2
    go_loopw [3, 5, 11] (fun v p i wr => ∃ (K : Nat), K ≤ n ∧ i = .int .i64 K ∧ wr.ownsRow w.heap.size 9 1 v K (cK kB ((xs.take K).map decZ)) ∧ Below w.heap.size w wr) (fun _ _ i _ => n - (intOf i).toNat)
    case atStart => exact ⟨0, Nat.zero_le _, rfl, by simpa [cK] using hown0, Below.refl _ _⟩
    case round =>
      clear hown0
      obtain ⟨K, hK, rfl, hown, hb⟩ := hrel
      have HO2 := hide hown
      clear hown
      by_cases hlt : K < n
      · obtain ⟨b, off, x, rfl, hbl, hx, hc, hx1, hx2⟩ := (h.below hb (Nat.le_refl _)).at hlt
        have HD := hide (decimal_calls x wr (hT.here hb) ⟨hx1, hx2⟩)
        have HE : Hid ((xs.take (K + 1)).map decZ = (xs.take K).map decZ ++ [decZ x]) := by unfold Hid; rw [take_snoc hx]; simp
        generalize decZ x = dx at *
        clear hx
        go_wp2_with fail
        refine HD.out.mono ?_
        rintro e w2 ⟨rfl, hb2⟩
        have hsz := hb.size
        have hsz2 := hb2.size
        go_wp2_with (at_builtin; refine appB rfl _ _ rfl w.heap.size u3 K _ dx rfl (own_below HO2.out hb2 (Nat.le_refl _)) (by first | rfl | (simp; rfl)) (by omega) (by omega) ?_; intro v4 w4 hown4 hb4 hz4)
        go_roundw
        case rel => exact ⟨K + 1, by omega, by go_num, by rw [HE.out]; exact hown4, (hb.trans (hb2.mono hsz)).trans hb4⟩
        case measure => simp [intOf]; omega
      · obtain rfl : K = n := by omega
        have hown := HO2.out
        rw [List.take_of_length_le (by rw [HL.out]; omega)] at hown
        obtain ⟨A6, c6, rfl⟩ := own_slice hown
        obtain ⟨g, rfl, hgb⟩ := own_addrB hown (by omega)
        have hcap := own_cap hown
        have hdl : (xs.map decZ).length = K := by rw [List.length_map]; exact HL.out
        have hsm : ∀ x ∈ xs.map decZ, x.size ≤ 20 := by
          intro x hx
          obtain ⟨y, hy, rfl⟩ := List.mem_map.1 hx
          exact itoa_len (h.2 y hy)
        have hR : RdK kB wr (some ⟨g, 0, none⟩) K (xs.map decZ) := RdK.of_own (K := kB) hown hdl (fun x hx => by have := hsm x hx; show x.size ≤ 9223372036854775807; omega)
        have hgs : g < wr.heap.size := by
          obtain ⟨b, off, x, hA, hb, _⟩ := hR.atB (show 0 < K by omega)
          injection hA with hA
          injection hA with h1 _
          omega
        have HJ : Hid (Calls Tryz.prog 80 #[.slice (some ⟨g, 0, none⟩) K c6, .string ⟨#[32]⟩] wr fun e w' => e = .returned (.string (serT xs)) ∧ Below wr.heap.size wr w') := by
          have := Tryz.strings_Join g 0 c6 (xs.map decZ) ⟨#[32]⟩ wr (by
            intro j x hx
            have hj := (List.getElem?_eq_some_iff.1 hx).1
            rw [hdl] at hj
            obtain ⟨b, off, y, hA, hb, hy, hc, _⟩ := hR.atB hj
            injection hA with hA
            injection hA with h1 h2
            subst h1
            subst h2
            rw [hy.out] at hx
            rw [← Option.some.inj hx]
            exact hc) hgs (by rw [hdl]; omega) (by rw [hdl]; omega) (by
            have := join_len 32 20 ((xs.map decZ).map (·.data.toList)) (by
              intro x hx
              obtain ⟨y, hy, rfl⟩ := List.mem_map.1 hx
              exact hsm y hy)
            rw [List.length_map, hdl] at this
            exact Nat.le_trans this (by omega))
          rw [hdl] at this
          exact this
        clear HO2 hown hR hdl hsm
        go_wp2_with fail
        refine HJ.out.mono ?_
        rintro e w3 ⟨rfl, hb3⟩
        go_wp2
        go_ret
        exact ⟨ret_str HV.out.symm, hb.trans (hb3.mono hb.size)⟩

end Go.Proofs.YtcclfmapbgdpdaaGreatDoor
