/- swapRange and rotate of the stable sort, over int64, from a world of the sort's to a world of the sort's. -/
import Derived.Test.YtmpfkmbfbeejhaaRows
import Derived.Test.YtmpfkmbfbeejhaaSymZ
import Derived.Shelf.SlSortCmp.Kit1
import Derived.Sort.WalkB2
import Derived.Sort.WalkB12
import Derived.Deep.LoopGhost
namespace Go.Proofs.Ytmpfkmbfbeejhaa
open Go.Shelf Go.RowKit Go.Lib Go.Sort
set_option linter.unusedVariables false
variable {α : Type} [Inhabited α]

theorem get_mid {d : Array α} {A B : List α} {x : α} {k : Nat} (h : d.toList = A ++ x :: B) (hk : k = A.length) : d[k]! = x := by
  have : d.toList[k]? = some x := by rw [h]; exact at_mid A B x hk
  rw [Array.getElem?_toList] at this
  rw [Array.getElem!_eq_getD, Array.getD_eq_getD_getElem?, this]; rfl
theorem swp_list {d : Array α} {A M B : List α} {x y : α} {i j : Nat} (h : d.toList = A ++ x :: (M ++ y :: B)) (hi : i = A.length) (hj : j = A.length + 1 + M.length) : (swp d i j).toList = A ++ y :: (M ++ x :: B) := by
  have e1 := get_mid h hi
  have h2 : d.toList = (A ++ x :: M) ++ y :: B := by rw [h]; simp
  have e2 := get_mid h2 (k := j) (by rw [hj]; simp; omega)
  unfold swp
  rw [e1, e2, Array.toList_setIfInBounds, Array.toList_setIfInBounds, h, set_mid A _ x y hi]
  have h3 : A ++ y :: (M ++ y :: B) = (A ++ y :: M) ++ y :: B := by simp
  rw [h3, set_mid _ B y x (by rw [hj]; simp; omega)]
  simp
/-- What an exchange wants of the world. -/
theorem swap_facts {enc : α → Value} {w0 W : World} {blk off : Nat} {dk d0 : Array α} (S : SW enc w0 blk off dk W) (R : Row1 enc w0 blk off d0) (hs : dk.size = d0.size) {i j : Nat} (hi : i < dk.size) (hj : j < dk.size) :
    ∃ x y u, W.cell? ⟨blk, off + i, none⟩ = some (enc x) ∧ W.cell? ⟨blk, off + j, none⟩ = some (enc y) ∧ W.frozen? ⟨blk, off + i, none⟩ = false ∧ W.frozen? ⟨blk, off + j, none⟩ = false ∧
      (W.setCell ⟨blk, off + i, none⟩ (enc y)).cell? ⟨blk, off + j, none⟩ = some u ∧ Hid (SW enc w0 blk off (swp dk i j) ((W.setCell ⟨blk, off + i, none⟩ (enc y)).setCell ⟨blk, off + j, none⟩ (enc x)).drew) := by
  obtain ⟨u, hu⟩ := S.c2 R hs i j hi hj (enc dk[j]!)
  exact ⟨dk[i]!, dk[j]!, u, S.c1 R hs i hi, S.c1 R hs j hj, S.f1 R hs i hi, S.f1 R hs j hj, hu, S.swapped R i j hi hj⟩

set_option maxHeartbeats 4000000 in
set_option maxRecDepth 1000000 in
theorem swapRange_calls (enc : α → Value) (g : Nat) (cb : Array Value) (blk off cap : Nat) (d0 d : Array α) (w0 w : World) (P U Q V S : List α)
    (R : Row1 enc w0 blk off d0) (hs : d0.size = d.size) (SS : SW enc w0 blk off d w) (hd : d.toList = P ++ U ++ Q ++ V ++ S) (hUV : U.length = V.length) (hsz : d.size < 1048576) (a b n : Nat) (ha : a = P.length) (hb : b = P.length + U.length + Q.length) (hn : n = U.length) :
    Calls Try.prog 148 #[.slice (some ⟨blk, off, none⟩) d.size cap, .int .i64 a, .int .i64 b, .int .i64 n, .func (.func g) #[] cb] w fun e w' => e = .returned (.tuple #[]) ∧ ∃ d', d'.toList = P ++ V ++ Q ++ U ++ S ∧ d'.size = d.size ∧ SW enc w0 blk off d' w' := by
  have hcl0 := R.hO.cells
  simp only [Value.cells] at hcl0
  have hst := R.hO.store Try.prog
  have mixed : Try.prog.follows .mixedOrders = true := by kernel_rfl
  have hl : d.size = P.length + U.length + Q.length + V.length + S.length := by rw [← Array.length_toList, hd]; simp; omega
  have S0 : Hid (SW enc w0 blk off d w) := SS
  have HD := hide hd
  have HH := hide (And.intro ha (And.intro hb (And.intro hn (And.intro hUV hl))))
  clear SS hd ha hb hn hUV hl
  go_enter Try.func148, Try.ntmps148
  go_wp2
  go_loopw [10] (fun i wr => ∃ (k : Nat) (dk : Array α), k ≤ n ∧ i = .int .i64 k ∧ dk.size = d.size ∧ Hid (dk.toList = P ++ V.take k ++ U.drop k ++ Q ++ U.take k ++ V.drop k ++ S) ∧ Hid (SW enc w0 blk off dk wr)) (fun i _ => n - (intOf i).toNat)
  case atStart => exact ⟨0, d, Nat.zero_le _, rfl, rfl, by simpa [Hid] using HD.out, S0⟩
  case round =>
    clear S0
    obtain ⟨k, dk, hk, rfl, hsk, HK, S1⟩ := hrel
    by_cases hlt : k < n
    · obtain ⟨ha, hb, hn, hUV, hl⟩ := HH.out
      have hi : a + k < dk.size := by omega
      have hj : b + k < dk.size := by omega
      obtain ⟨U1, x, U2, hUe, hU1⟩ := cut_at U (k := k) (by omega)
      obtain ⟨V1, y, V2, hVe, hV1⟩ := cut_at V (k := k) (by omega)
      have hUl := congrArg List.length hUe
      simp only [List.length_append, List.length_cons] at hUl
      have eK : dk.toList = (P ++ V1) ++ x :: ((U2 ++ Q ++ U1) ++ y :: (V2 ++ S)) := by
        rw [HK.out, hUe, hVe, ← hU1, List.take_left, List.drop_left, hU1, ← hV1, List.take_left, List.drop_left]
        simp
      have eN : Hid ((swp dk (a + k) (b + k)).toList = P ++ V.take (k + 1) ++ U.drop (k + 1) ++ Q ++ U.take (k + 1) ++ V.drop (k + 1) ++ S) := by
        unfold Hid
        rw [swp_list eK (by simp; omega) (by simp; omega), hUe, hVe]
        have t1 : (V1 ++ y :: V2).take (k + 1) = V1 ++ [y] := by rw [take_snoc (at_mid V1 V2 y hV1.symm), ← hV1, List.take_left]
        have t2 : (U1 ++ x :: U2).take (k + 1) = U1 ++ [x] := by rw [take_snoc (at_mid U1 U2 x hU1.symm), ← hU1, List.take_left]
        have t3 : (V1 ++ y :: V2).drop (k + 1) = V2 := by rw [show V1 ++ y :: V2 = (V1 ++ [y]) ++ V2 by simp]; exact List.drop_left' (by simp; omega)
        have t4 : (U1 ++ x :: U2).drop (k + 1) = U2 := by rw [show U1 ++ x :: U2 = (U1 ++ [x]) ++ U2 by simp]; exact List.drop_left' (by simp; omega)
        rw [t1, t2, t3, t4]
        simp
      obtain ⟨x', y', u, c1, c2, f1, f2, c3, S2⟩ := swap_facts S1.out R (by omega) hi hj
      obtain ⟨iN, hiN⟩ : ∃ q, q = a + k := ⟨_, rfl⟩
      obtain ⟨jN, hjN⟩ : ∃ q, q = b + k := ⟨_, rfl⟩
      rw [← hiN] at c1 f1 c3 S2
      rw [← hjN] at c2 f2 c3 S2
      have ea : ((a : Int) + (k : Int)).toNat = iN := by omega
      have pa : (0 : Int) ≤ (a : Int) + (k : Int) := by omega
      have ba : (a : Int) + (k : Int) < (d.size : Int) := by omega
      have ra : IntKind.i64.wrap ((a : Int) + (k : Int)) = (a : Int) + (k : Int) := by rw [IntKind.wrap_i64]; omega
      have ec : ((b : Int) + (k : Int)).toNat = jN := by omega
      have pc : (0 : Int) ≤ (b : Int) + (k : Int) := by omega
      have bc : (b : Int) + (k : Int) < (d.size : Int) := by omega
      have rc : IntKind.i64.wrap ((b : Int) + (k : Int)) = (b : Int) + (k : Int) := by rw [IntKind.wrap_i64]; omega
      have eN2 : Hid ((swp dk iN jN).toList = P ++ V.take (k + 1) ++ U.drop (k + 1) ++ Q ++ U.take (k + 1) ++ V.drop (k + 1) ++ S) := by rw [hiN, hjN]; exact eN
      have hK1 : k + 1 ≤ n := by omega
      clear S1 HK eK eN hiN hjN hi hj hUe hVe hU1 hV1 hUl ha hb hn hUV hl
      go_wp2_with fail
      go_big_region_o
      clear c1 c2 c3 f1 f2
      generalize ((wr.setCell ⟨blk, off + iN, none⟩ (enc y')).setCell ⟨blk, off + jN, none⟩ (enc x')).drew = w2 at S2 ⊢
      clear ea ec
      go_wp2
      go_roundw
      case rel => exact ⟨k + 1, swp dk iN jN, hK1, by go_num, by rw [size_swp]; exact hsk, eN2, S2⟩
      case measure => simp [intOf]; omega
    · obtain rfl : k = n := by omega
      have e1 : dk.toList = P ++ V ++ Q ++ U ++ S := by
        obtain ⟨ha, hb, hn, hUV, hl⟩ := HH.out
        rw [HK.out, List.take_of_length_le (by omega), List.drop_eq_nil_of_le (by omega), List.take_of_length_le (by omega), List.drop_eq_nil_of_le (by omega)]
        simp
      go_wp2
      go_end0
      exact ⟨rfl, dk, e1, hsk, S1.out⟩

theorem wrap_small {r : Int} (h : 0 ≤ r ∧ r < 1048576) : wrap64 r = r := by unfold wrap64; omega

set_option maxHeartbeats 4000000 in
set_option maxRecDepth 1000000 in
theorem rotate_calls (enc : α → Value) (g : Nat) (cb : Array Value) (blk off cap : Nat) (d0 d : Array α) (w0 w : World) (P A B S : List α)
    (R : Row1 enc w0 blk off d0) (hs : d0.size = d.size) (SS : SW enc w0 blk off d w) (hd : d.toList = P ++ A ++ B ++ S) (hA : A ≠ []) (hB : B ≠ []) (hsz : d.size < 1048576) (a m b : Nat) (ha : a = P.length) (hm : m = P.length + A.length) (hb : b = m + B.length) :
    Calls Try.prog 129 #[.slice (some ⟨blk, off, none⟩) d.size cap, .int .i64 a, .int .i64 m, .int .i64 b, .func (.func g) #[] cb] w fun e w' => e = .returned (.tuple #[]) ∧ ∃ d', d'.toList = P ++ B ++ A ++ S ∧ d'.size = d.size ∧ SW enc w0 blk off d' w' := by
  have hl : d.size = P.length + A.length + B.length + S.length := by rw [← Array.length_toList, hd]; simp; omega
  have hA1 := List.length_pos_iff.2 hA
  have hB1 := List.length_pos_iff.2 hB
  have S0 : Hid (SW enc w0 blk off d w) := SS
  have HD := hide hd
  have mixed : Try.prog.follows .mixedOrders = true := by kernel_rfl
  have SRC := hide fun (dk : Array α) (w : World) (P U Q V S : List α) (hz : dk.size = d.size) (SS : SW enc w0 blk off dk w) (hd : dk.toList = P ++ U ++ Q ++ V ++ S) (hUV : U.length = V.length) (a b n : Nat) (ha : a = P.length) (hb : b = P.length + U.length + Q.length) (hn : n = U.length) => hz ▸ swapRange_calls enc g cb blk off cap d0 dk w0 w P U Q V S R (by omega) SS hd hUV (by omega) a b n ha hb hn
  have e2 : (m : Int) - (a : Int) = (A.length : Int) := by omega
  have e3 : (b : Int) - (m : Int) = (B.length : Int) := by omega
  have hmd : m < d.size := by omega
  have e0 : A.length < 1048576 := by omega
  have e1 : B.length < 1048576 := by omega
  clear SS hd hA hB
  obtain ⟨Al, hAl⟩ : ∃ q, q = A.length := ⟨_, rfl⟩
  obtain ⟨Bl, hBl⟩ : ∃ q, q = B.length := ⟨_, rfl⟩
  rw [← hAl] at e0 e2
  rw [← hBl] at e1 e3
  have HH := hide (And.intro ha (And.intro hm (And.intro hb (And.intro hl (And.intro hAl (And.intro hBl (And.intro hA1 hB1)))))))
  clear ha hm hb hl hAl hBl hA1 hB1
  go_enter Try.func129, Try.ntmps129
  go_wp2
  go_loopw [10, 11] (fun p q wr => ∃ (i j : Nat) (dk : Array α) (X A' B' Y : List α), p = .int .i64 i ∧ q = .int .i64 j ∧ dk.size = d.size ∧ Hid (dk.toList = P ++ X ++ A' ++ B' ++ Y ++ S ∧ X ++ B' ++ A' ++ Y = B ++ A ∧ i = A'.length ∧ j = B'.length ∧ 0 < i ∧ 0 < j ∧ m = P.length + X.length + i) ∧ Hid (SW enc w0 blk off dk wr)) (fun p q _ => (intOf p).toNat + (intOf q).toNat)
  case atStart =>
    have hst : ∃ q : Unit, True := ⟨(), trivial⟩
    refine ⟨Al, Bl, d, [], A, B, [], by first | rfl | (simp [*]), by first | rfl | (simp [*]), rfl, ?_, S0⟩
    clear e0 e1 e2 e3
    obtain ⟨h1, h2, h3, h4, h5, h6, h7, h8⟩ := HH.out
    exact ⟨by simpa using HD.out, by simp, h5, h6, by omega, by omega, by simp; omega⟩
  case round =>
    clear S0 e0 e1
    obtain ⟨i, j, dk, X, A', B', Y, rfl, rfl, hsk, HK, S1⟩ := hrel
    obtain ⟨k1, k2, k3, k4, k5, k6, k7⟩ := HK.out
    have hl := congrArg List.length k1
    simp only [Array.length_toList, List.length_append] at hl
    obtain ⟨q, hq⟩ : ∃ q, q + i = m := ⟨m - i, by omega⟩
    have w2 : (m : Int) - (i : Int) = (q : Int) := by omega
    by_cases hij : i = j
    · have SC := hide (SRC.out dk wr (P ++ X) A' [] B' (Y ++ S) hsk S1.out (by rw [k1]; simp) (by omega) q m i (by simp; omega) (by simp; omega) k3)
      have EF : Hid (P ++ X ++ B' ++ [] ++ A' ++ (Y ++ S) = P ++ B ++ A ++ S) := by
        unfold Hid
        have : P ++ X ++ B' ++ [] ++ A' ++ (Y ++ S) = P ++ (X ++ B' ++ A' ++ Y) ++ S := by simp
        rw [this, k2]; simp
      have g0 : ((i : Int) != (j : Int)) = false := by simp; omega
      have g1 : ((i : Int) == (j : Int)) = true := by simp; omega
      have w1 : q < 1048576 := by omega
      clear k1 k2 k3 k4 k5 k6 k7 hl hij HK hq
      go_wp2_with fail
      refine SC.out.mono ?_
      rintro e w3 ⟨rfl, d', h1, h2, h3⟩
      have HF := hide (And.intro (h1.trans EF.out) (And.intro h2 h3))
      clear h1 h2 h3
      go_wp2
      go_end0
      exact ⟨rfl, d', HF.out.1, HF.out.2.1, HF.out.2.2⟩
    · have g0 : ((i : Int) != (j : Int)) = true := by simp; omega
      have g1 : ((i : Int) == (j : Int)) = false := by simp; omega
      by_cases hgt : j < i
      · obtain ⟨A1, A2, rfl, hA1⟩ := cut_two A' (k := j) (by omega)
        have hA2 : A2.length = i - j := by rw [k3]; simp; omega
        obtain ⟨r, hr⟩ : ∃ r, r + j = i := ⟨i - j, by omega⟩
        have SC := hide (SRC.out dk wr (P ++ X) A1 A2 B' (Y ++ S) hsk S1.out (by rw [k1]; simp) (by omega) q m j (by simp; omega) (by simp; omega) hA1.symm)
        have EF : Hid (P ++ X ++ B' ++ A2 ++ A1 ++ (Y ++ S) = P ++ (X ++ B') ++ A2 ++ A1 ++ Y ++ S ∧ (X ++ B') ++ A1 ++ A2 ++ Y = B ++ A ∧ r = A2.length ∧ j = A1.length ∧ 0 < r ∧ 0 < j ∧ m = P.length + (X ++ B').length + r) := ⟨by simp, by rw [← k2]; simp, by omega, by omega, by omega, by omega, by simp; omega⟩
        have w3 : (i : Int) - (j : Int) = (r : Int) := by omega
        have hr5 : (0 : Int) ≤ (r : Int) ∧ (r : Int) < 1048576 := by omega
        have g2 : (j : Int) < (i : Int) := by omega
        have HM : Hid (r + j < i + j) := by unfold Hid; omega
        have w1 : q < 1048576 := by omega
        have hr4 : r < 1048576 := by omega
        clear k1 k2 k3 k4 k5 k6 k7 hl hij HK hA1 hA2 hq hr
        go_wp2_with fail
        refine SC.out.mono ?_
        rintro e w9 ⟨rfl, d', h1, h2, h3⟩
        have HF := hide (And.intro (h1.trans EF.out.1) EF.out.2)
        have HS := hide (And.intro h2 h3)
        clear h1 h2 h3
        go_wp2
        go_roundw
        case rel => exact ⟨r, j, d', X ++ B', A2, A1, Y, rfl, rfl, HS.out.1, HF.out, HS.out.2⟩
        case measure => simp only [intOf, Int.toNat_natCast]; exact HM.out
      · obtain ⟨r, hr⟩ : ∃ r, r + i = j := ⟨j - i, by omega⟩
        obtain ⟨B1, B2, rfl, hB1⟩ := cut_two B' (k := r) (by omega)
        have hB2 : B2.length = i := by simp at k4; omega
        obtain ⟨z, hz⟩ : ∃ z, z = m + r := ⟨_, rfl⟩
        have SC := hide (SRC.out dk wr (P ++ X) A' B1 B2 (Y ++ S) hsk S1.out (by rw [k1]; simp) (by omega) q z i (by simp; omega) (by simp; omega) k3)
        have EF : Hid (P ++ X ++ B2 ++ B1 ++ A' ++ (Y ++ S) = P ++ X ++ B2 ++ B1 ++ (A' ++ Y) ++ S ∧ X ++ B1 ++ B2 ++ (A' ++ Y) = B ++ A ∧ i = B2.length ∧ r = B1.length ∧ 0 < i ∧ 0 < r ∧ m = P.length + X.length + i) := ⟨by simp, by rw [← k2]; simp, by omega, by omega, by omega, by omega, by omega⟩
        have w3 : (m : Int) + (j : Int) - (i : Int) = (z : Int) := by omega
        have w5 : (j : Int) - (i : Int) = (r : Int) := by omega
        have w6 : m + j < 2097152 := by omega
        have w7 : z < 1048576 := by omega
        have g2 : ¬ (j : Int) < (i : Int) := by omega
        have HM : Hid (i + r < i + j) := by unfold Hid; omega
        have w1 : q < 1048576 := by omega
        have hr4 : r < 1048576 := by omega
        have hr5 : (0 : Int) ≤ (r : Int) ∧ (r : Int) < 1048576 := by omega
        clear k1 k2 k3 k4 k5 k6 k7 hl hij HK hB1 hB2 hq hr hgt hz
        go_wp2_with fail
        refine SC.out.mono ?_
        rintro e w9 ⟨rfl, d', h1, h2, h3⟩
        have HF := hide (And.intro (h1.trans EF.out.1) EF.out.2)
        have HS := hide (And.intro h2 h3)
        clear h1 h2 h3
        go_wp2
        go_roundw
        case rel => exact ⟨i, r, d', X, B2, B1, A' ++ Y, rfl, rfl, HS.out.1, HF.out, HS.out.2⟩
        case measure => simp only [intOf, Int.toNat_natCast]; exact HM.out

end Go.Proofs.Ytmpfkmbfbeejhaa
