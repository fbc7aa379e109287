/- ReadSeries of the program and of the reference. -/
import Derived.Test.YtcclfmapbgdpdaaGreatDoorSerT
import Derived.Test.YtcclfmapbgdpdaaGreatDoorNum
import Derived.Test.YtcclfmapbgdpdaaGreatDoorNumS
import Derived.Test.YtcclfmapbgdpdaaGreatDoorSplitS
import Derived.Test.YtcclfmapbgdpdaaGreatDoorAppI
import Derived.Test.YtcclfmapbgdpdaaGreatDoorFresh
namespace Go.Proofs.YtcclfmapbgdpdaaGreatDoor
open Go.RowKit
set_option linter.unusedVariables false

/-- The numbers of the parts of a text. -/
def numsZ (W : List ByteArray) : List Int := W.map fun w => numV (bs w)
def rsC (s : ByteArray) : Bool := (splitS 32 s).all (fun w => numB (bs w)) && okSer (numsZ (splitS 32 s))
def rsV (s : ByteArray) : List Int := if rsC s = true then numsZ (splitS 32 s) else []
theorem rs_bad {s : ByteArray} (h : ((splitS 32 s).all (fun w => numB (bs w)) && okSer (numsZ (splitS 32 s))) = false) : rsC s = false ∧ rsV s = [] := by
  have e : rsC s = false := h
  exact ⟨e, by unfold rsV; rw [if_neg (by rw [e]; simp)]⟩
theorem rs_good {s : ByteArray} (h : ((splitS 32 s).all (fun w => numB (bs w)) && okSer (numsZ (splitS 32 s))) = true) : rsC s = true ∧ rsV s = numsZ (splitS 32 s) := by
  have e : rsC s = true := h
  exact ⟨e, by unfold rsV; rw [if_pos e]⟩
theorem nums_I64 (W : List ByteArray) : ∀ x ∈ numsZ W, I64 x := by
  intro x hx
  obtain ⟨w, _, rfl⟩ := List.mem_map.1 hx
  exact numV_I64 _
theorem nums_snoc {W : List ByteArray} {k : Nat} {y : ByteArray} (h : W[k]? = some y) : numsZ (W.take (k + 1)) = numsZ (W.take k) ++ [numV (bs y)] := by
  unfold numsZ; rw [take_snoc h, List.map_append]; rfl
/-- A reader of a series gives a list of its own and whether it was one. -/
def SerBPost (V : List Int) (C : Bool) (w : World) (e : Ending) (w' : World) : Prop :=
  ∃ A n c, e = .returned (.tuple #[.slice A n c, .bool C]) ∧ FrI w' w.heap.size w'.heap.size 2 A n V ∧ n ≤ 1048576 ∧ Below w.heap.size w w'
theorem serb_none {V : List Int} {C : Bool} {w w' : World} (h : C = false ∧ V = []) (hb : Below w.heap.size w w') : SerBPost V C w (.returned (.tuple #[.slice none 0 0, .bool false])) w' := by
  obtain ⟨rfl, rfl⟩ := h
  exact ⟨none, 0, 0, rfl, FrI.nil, by omega, hb⟩

theorem own_mono4 {w : World} {base base' : Nat} {e : TypeId} {size : Nat} {v : Value} {n : Nat} {xs : List Value} (h : w.ownsRow base e size v n xs) (h1 : base' ≤ base) : w.ownsRow base' e size v n xs := by
  refine ⟨h.1, ?_⟩
  rcases h.2 with hv | ⟨g, cap, cur, hv, hb, hg⟩
  · exact .inl hv
  · exact .inr ⟨g, cap, cur, hv, Nat.le_trans h1 hb, hg⟩



set_option maxRecDepth 100000 in
set_option maxHeartbeats 4000000 in
theorem implReadSeries_calls (s : ByteArray) (w : World) (HT : TabPME w) (h0 : s.size ≤ 9223372036854775807) (hs : s.size ≤ 1048576) :
    Calls Tryz.prog 12 #[.string s] w (SerBPost (rsV s) (rsC s) w) := by
  obtain ⟨hT, hE⟩ := HT
  have HSP := hide (split_calls s w hT.2 hs)
  have hle := splitS_le 32 s
  have HPT : Hid (∀ p ∈ splitS 32 s, p.size ≤ s.size) := splitS_part 32 s
  have HBD : Hid (((splitS 32 s).all (fun w => numB (bs w)) && okSer (numsZ (splitS 32 s))) = false → rsC s = false ∧ rsV s = []) := rs_bad
  have HGD : Hid (((splitS 32 s).all (fun w => numB (bs w)) && okSer (numsZ (splitS 32 s))) = true → rsC s = true ∧ rsV s = numsZ (splitS 32 s)) := rs_good
  have HIF : Hid (serT (numsZ (splitS 32 s)) = s ↔ (splitS 32 s).all (fun w => numB (bs w)) = true) := ser_read s
  generalize splitS 32 s = W at *
  have hown0 := World.ownsRow_nil w w.heap.size 2 1
  go_enter Tryz.func12, Tryz.ntmps12
  go_wp2_with fail
  refine HSP.out.mono ?_
  rintro e w2 ⟨A, n, c, rfl, hown, hlen, hb2⟩
  have HLN := hide hlen
  have HRW : Hid (RdK kB w2 A n W) := RdK.of_own (K := kB) hown hlen (fun x hx => by have := HPT.out x hx; show x.size ≤ 9223372036854775807; omega)
  have hn : n ≤ 1048577 := by omega
  clear hown hlen HSP hle
  have hz2 := hb2.size
  have hown0 := World.ownsRow_nil w2 w2.heap.size 2 1
  have HNU : Hid (∀ (t : ByteArray) W, Below w.heap.size w W → t.size ≤ 1048576 → Calls Tryz.prog 78 #[.string t] W fun e w' => e = .returned (.tuple #[.int .i64 (numV (bs t)), .bool (numB (bs t))]) ∧ Below W.heap.size W w') := fun t W hW ht => readDecimal_calls t W (hT.here hW).1 (hE.here hW) ht
  go_wp2
  go_loopw [4, 6, 7, 8, 12] (fun v p q r i wr => ∃ (K : Nat), K ≤ n ∧ i = .int .i64 K ∧ wr.ownsRow w2.heap.size 2 1 v K (cI (numsZ (W.take K))) ∧ Below w2.heap.size w2 wr) (fun _ _ _ _ i _ => n - (intOf i).toNat)
  case atStart => exact ⟨0, Nat.zero_le _, rfl, by simpa [cI, numsZ] using hown0, Below.refl _ _⟩
  case round =>
    clear hown0
    obtain ⟨K, hK, rfl, hown, hb⟩ := hrel
    have HO := hide hown
    have hbb := hb2.trans (hb.mono hz2)
    clear hown
    by_cases hlt : K < n
    · obtain ⟨b, off, y, rfl, hbl, hy, hc, hys⟩ := (HRW.out.below hb (Nat.le_refl _)).atB hlt
      have hy2 := HPT.out y (List.mem_of_getElem? hy.out)
      have HN1 := hide (HNU.out y wr hbb (by omega))
      have HE : Hid (numsZ (W.take (K + 1)) = numsZ (W.take K) ++ [numV (bs y)]) := nums_snoc hy.out
      generalize numV (bs y) = nv at *
      generalize numB (bs y) = nb at *
      clear hy
      have hsz := hb.size
      go_wp2_with fail
      refine HN1.out.mono ?_
      rintro e w3 ⟨rfl, hb3⟩
      have hsz3 := hb3.size
      go_wp2_with (at_builtin; refine appI rfl _ _ rfl w2.heap.size u4 K _ nv rfl (own_below HO.out hb3 (Nat.le_refl _)) (by first | rfl | (simp; rfl)) (by omega) (by omega) ?_; intro v4 w4 hown4 hb4 hz4)
      go_roundw
      case rel => exact ⟨K + 1, by omega, by go_num, by rw [HE.out]; exact hown4, (hb.trans (hb3.mono hsz)).trans hb4⟩
      case measure => simp [intOf]; omega
    · obtain rfl : K = n := by omega
      have hown := HO.out
      rw [List.take_of_length_le (by rw [HLN.out]; omega)] at hown
      obtain ⟨A6, c6, rfl⟩ := own_slice hown
      have hRI : RdI wr A6 K (numsZ W) := RdI.of_own hown (nums_I64 W)
      have HOK := hide (implValidSeries_big A6 K c6 (numsZ W) wr hRI (by omega))
      rcases b_cases (okSer (numsZ W)) with hq | hq
      · have HV := hide (HBD.out (by rw [hq, Bool.and_false]))
        rw [hq] at HOK
        clear hq hown hRI HO
        go_wp2_with fail
        refine HOK.out.mono ?_
        rintro e w3 ⟨rfl, rfl⟩
        go_wp2
        go_ret2
        exact serb_none HV.out hbb
      · have hk60 := (ok_len hq).2
        rw [hRI.len] at hk60
        have HST := hide (implSeriesText_calls A6 K c6 (numsZ W) wr ((hT.here hbb).1) hRI (by omega))
        rw [serV_ok hq] at HST
        have HOW := hide hown
        rw [hq] at HOK
        rcases b_cases (W.all (fun w => numB (bs w))) with ha | ha
        · have HV := hide (HBD.out (by rw [ha]; rfl))
          have g3 := (str_ne (show serT (numsZ W) ≠ s from fun e => by rw [HIF.out.1 e] at ha; exact absurd ha (by simp))).1
          clear hq hown hRI HO ha HIF HGD HBD
          generalize serT (numsZ W) = st at *
          go_wp2_with fail
          refine HOK.out.mono ?_
          rintro e w3 ⟨rfl, rfl⟩
          go_wp2_with fail
          refine HST.out.mono ?_
          rintro e w4 ⟨rfl, hb4⟩
          go_wp2
          go_ret2
          exact serb_none HV.out (hbb.trans (hb4.mono hbb.size))
        · have HV := hide (HGD.out (by rw [ha, hq]; rfl))
          have g3 := (str_eq (HIF.out.2 ha)).1
          clear hq hown hRI HO ha HIF HGD HBD
          generalize serT (numsZ W) = st at *
          go_wp2_with fail
          refine HOK.out.mono ?_
          rintro e w3 ⟨rfl, rfl⟩
          go_wp2_with fail
          refine HST.out.mono ?_
          rintro e w4 ⟨rfl, hb4⟩
          go_wp2
          go_ret2
          exact ⟨A6, K, c6, by rw [HV.out.1]; rfl, by rw [HV.out.2]; exact FrI.of_own (own_mono4 (own_below HOW.out hb4 (Nat.le_refl _)) hz2) (nums_I64 W), by omega, hbb.trans (hb4.mono hbb.size)⟩

end Go.Proofs.YtcclfmapbgdpdaaGreatDoor
