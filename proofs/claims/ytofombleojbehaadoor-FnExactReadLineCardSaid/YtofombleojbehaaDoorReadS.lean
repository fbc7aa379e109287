/- ReadLine of the reference. -/
import Derived.Test.YtofombleojbehaaDoorReadL
import Derived.Test.YtofombleojbehaaDoorNumS
namespace Go.Proofs.YtofombleojbehaaDoor
open Go.RowKit
set_option linter.unusedVariables false

/-- The text of the words between. -/
def midT (W : List ByteArray) (K : Nat) : ByteArray := joinS ((W.take K).drop 2)
theorem mid_start (W : List ByteArray) : midT W 2 = ⟨#[]⟩ := by
  unfold midT
  rw [List.drop_eq_nil_of_le (by rw [List.length_take]; omega)]; rfl
theorem mid_first {W : List ByteArray} {y : ByteArray} (h : W[2]? = some y) : midT W 3 = y := by
  unfold midT
  have h2 := (List.getElem?_eq_some_iff.1 h).1
  rw [take_snoc h, List.drop_append_of_le_length (by rw [List.length_take]; omega), List.drop_eq_nil_of_le (by rw [List.length_take]; omega), List.nil_append, joinS_one]
theorem mid_next {W : List ByteArray} {K : Nat} {y : ByteArray} (hK : 2 < K) (h : W[K]? = some y) : midT W (K + 1) = midT W K ++ ⟨#[32]⟩ ++ y := by
  unfold midT
  have h2 := (List.getElem?_eq_some_iff.1 h).1
  rw [take_snoc h, List.drop_append_of_le_length (by rw [List.length_take]; omega), joinS_snoc]
  intro e
  have := congrArg List.length e
  rw [List.length_drop, List.length_take] at this
  simp at this
  omega

set_option maxRecDepth 100000 in
set_option maxHeartbeats 8000000 in
theorem specReadLine_calls (s : ByteArray) (w : World) (hs : s.size ≤ 1048576) :
    Calls Tryd.prog 47 #[.string s] w (LinBPost (readV s) (readC s) w) := by
  obtain ⟨W1, hW1⟩ : ∃ W1, W1 = w.alloc (.cells #[.int .i64 0, .int .i64 0, .string ⟨#[]⟩, .int .i64 0] 37) := ⟨_, rfl⟩
  have hB1 : Below w.heap.size w W1 := by rw [hW1]; exact (Below.refl _ _).alloc (Nat.le_refl _) _
  have HR1 : Hid (At4 W1 w.heap.size (.int .i64 0) (.int .i64 0) (.string ⟨#[]⟩) (.int .i64 0)) := by rw [hW1]; exact At4.new _ _ _ _ _
  have hz1 : w.heap.size < W1.heap.size := by rw [hW1]; simp
  have HSP : Hid (Calls Tryd.prog 89 #[.string s, .int .u8 32] W1 (PartsPost (splitS 32 s) W1)) := l01Split_calls s 32 W1 hs
  have hle := splitS_le 32 s
  have HPT : Hid (∀ p ∈ splitS 32 s, p.size ≤ s.size) := splitS_part 32 s
  have HSH : Hid ((splitS 32 s).length < 4 → readC s = false ∧ readV s = ⟨0, 0, ⟨#[]⟩, 0⟩) := read_short
  have HBD : Hid ((rdN (splitS 32 s) && lineB (rdX (splitS 32 s))) = false → readC s = false ∧ readV s = ⟨0, 0, ⟨#[]⟩, 0⟩) := read_bad
  have HGD : Hid (4 ≤ (splitS 32 s).length → (rdN (splitS 32 s) && lineB (rdX (splitS 32 s))) = true → readC s = true ∧ readV s = rdX (splitS 32 s)) := read_good
  have HMS : Hid ((rdX (splitS 32 s)).text.size ≤ s.size) := mid_size
  generalize splitS 32 s = W at *
  go_enter Tryd.func47, Tryd.ntmps47
  go_wp2_with fail
  rw [← hW1]
  clear hW1
  refine HSP.out.mono ?_
  rintro e w2 ⟨A, n, c, rfl, hown, hlen, hb2⟩
  have hB2 := hB1.trans (hb2.mono hB1.size)
  have HR2 : Hid (At4 w2 w.heap.size (.int .i64 0) (.int .i64 0) (.string ⟨#[]⟩) (.int .i64 0)) := HR1.out.below hb2 hz1
  have HO := hide hown
  have HLN := hide hlen
  have hle2 : n ≤ s.size + 1 := by omega
  clear hown hlen hle HSP
  by_cases h4 : n < 4
  · have HV := hide (HSH.out (by rw [HLN.out]; exact h4))
    have g1 : decide ((n : Int) < 4) = true := by simp; omega
    obtain ⟨q0, q1, q2, q3, f0, f1, f2, f3⟩ := HR2.out.out
    clear h4
    go_wp2
    refine bodyPost_ret (v := .tuple #[.agg #[.int .i64 0, .int .i64 0, .string ⟨#[]⟩, .int .i64 0], .bool false]) (by simp [results, Tryd.results47, go_sem, *]) rfl ?_
    exact linb_of HV.out (below_set4 hB2 (Nat.le_refl _))
  obtain ⟨m, rfl⟩ : ∃ m, n = m + 4 := ⟨n - 4, by omega⟩
  clear h4
  obtain ⟨g, rfl, hgb⟩ := own_addrB HO.out (by omega)
  have HRW : Hid (RdK kB w2 (some ⟨g, 0, none⟩) (m + 4) W) := RdK.of_own (K := kB) HO.out HLN.out (fun x hx => by have := HPT.out x hx; show x.size ≤ 9223372036854775807; omega)
  have hgs : g < w2.heap.size := by
    obtain ⟨b, off, x, hA, hb, _⟩ := HRW.out.atB (show 0 < m + 4 by omega)
    injection hA with hA
    injection hA with h1 _
    omega
  obtain ⟨b0, o0, a, hA0, _, ha, ca, _⟩ := HRW.out.atB (show 0 < m + 4 by omega)
  obtain ⟨rfl, rfl⟩ : g = b0 ∧ 0 = o0 := by injection hA0 with hA; injection hA; exact ⟨‹_›, ‹_›⟩
  obtain ⟨b1, o1, b, hA1, _, hb, cb, _⟩ := HRW.out.atB (show 1 < m + 4 by omega)
  obtain ⟨rfl, rfl⟩ : g = b1 ∧ 0 = o1 := by injection hA1 with hA; injection hA; exact ⟨‹_›, ‹_›⟩
  obtain ⟨b2, o2, l, hA2, _, hl, cl, _⟩ := HRW.out.atB (show m + 3 < m + 4 by omega)
  obtain ⟨rfl, rfl⟩ : g = b2 ∧ 0 = o2 := by injection hA2 with hA; injection hA; exact ⟨‹_›, ‹_›⟩
  simp only [Nat.zero_add] at ca cb cl
  clear hA0 hA1 hA2
  have ha2 := HPT.out a (List.mem_of_getElem? ha.out)
  have hb22 := HPT.out b (List.mem_of_getElem? hb.out)
  have hl2 := HPT.out l (List.mem_of_getElem? hl.out)
  have HXE : Hid (rdX W = ⟨numV (bs a), numV (bs b), midT W (m + 3), numV (bs l)⟩) := by
    unfold Hid rdX
    rw [HLN.out, getD_at ha.out, getD_at hb.out, show m + 4 - 1 = m + 3 by omega, getD_at hl.out]
    rfl
  have HNE : Hid (rdN W = (numB (bs a) && numB (bs b) && numB (bs l))) := by
    unfold Hid rdN
    rw [HLN.out, getD_at ha.out, getD_at hb.out, show m + 4 - 1 = m + 3 by omega, getD_at hl.out]
  have HCA : Hid (Calls Tryd.prog 94 #[.string a] w2 fun e w' => e = .returned (.tuple #[.int .i64 (numV (bs a)), .bool (numB (bs a))]) ∧ w' = w2) := l01Number_calls a w2 (by omega)
  have HCB : Hid (Calls Tryd.prog 94 #[.string b] w2 fun e w' => e = .returned (.tuple #[.int .i64 (numV (bs b)), .bool (numB (bs b))]) ∧ w' = w2) := l01Number_calls b w2 (by omega)
  have HCL : Hid (Calls Tryd.prog 94 #[.string l] w2 fun e w' => e = .returned (.tuple #[.int .i64 (numV (bs l)), .bool (numB (bs l))]) ∧ w' = w2) := l01Number_calls l w2 (by omega)
  have HG4 := hide (HGD.out (by rw [HLN.out]; omega))
  have hms := HMS.out
  rw [HXE.out] at HBD HG4 hms
  rw [HNE.out] at HBD HG4
  simp only at hms
  clear HGD HMS HXE HNE HSH ha hb hl
  generalize numV (bs a) = va at *
  generalize numV (bs b) = vb at *
  generalize numV (bs l) = vl at *
  generalize numB (bs a) = na at *
  generalize numB (bs b) = nb at *
  generalize numB (bs l) = nl at *
  go_wp2_with fail
  refine HCA.out.mono ?_
  rintro e w3 ⟨rfl, rfl⟩
  go_wp2_with fail
  refine HCB.out.mono ?_
  rintro e w4 ⟨rfl, rfl⟩
  go_wp2_with fail
  refine HCL.out.mono ?_
  rintro e w5 ⟨rfl, rfl⟩
  clear HCA HCB HCL ca cb cl
  go_wp2
  go_loopw [12, 13] (fun tx i wr => ∃ (K : Nat) (tb : ByteArray), 2 ≤ K ∧ K ≤ m + 3 ∧ i = .int .i64 K ∧ tx = .string tb ∧ tb.size ≤ K * 1048577 ∧ Hid (tb = midT W K) ∧ wr = w5) (fun _ i _ => m + 3 - (intOf i).toNat)
  case atStart => exact ⟨2, ⟨#[]⟩, Nat.le_refl _, by omega, rfl, rfl, Nat.zero_le _, (mid_start W).symm, rfl⟩
  case round =>
    obtain ⟨K, tb, hK2, hK, rfl, rfl, htb, HTB, rfl⟩ := hrel
    by_cases hlt : K < m + 3
    · obtain ⟨b3, o3, y, hA3, _, hy, cy, hys⟩ := HRW.out.atB (show K < m + 4 by omega)
      obtain ⟨rfl, rfl⟩ : g = b3 ∧ 0 = o3 := by injection hA3 with hA; injection hA; exact ⟨‹_›, ‹_›⟩
      simp only [Nat.zero_add] at cy
      clear hA3
      have hy2 := HPT.out y (List.mem_of_getElem? hy.out)
      by_cases hk : K = 2
      · subst hk
        have HN : Hid (tb ++ y = midT W 3) := by
          rw [HTB.out, mid_start]
          exact (bs_inj (by rw [bs_app]; rfl)).trans (mid_first hy.out).symm
        have c1 := fun w : World => run_string_add_sum (P := Tryd.prog) w tb y (by omega)
        have hsz : (tb ++ y).size ≤ 3 * 1048577 := by rw [ByteArray.size_append]; omega
        go_wp2
        go_roundw
        case rel => exact ⟨3, tb ++ y, by omega, by omega, by go_num, rfl, hsz, HN, by first | rfl | trivial⟩
        case measure => simp [intOf]
      · have HN : Hid (tb ++ ⟨#[32]⟩ ++ y = midT W (K + 1)) := by
          unfold Hid
          rw [HTB.out]
          exact (mid_next (by omega) hy.out).symm
        have e32 : (⟨#[32]⟩ : ByteArray).size = 1 := rfl
        have c1 := fun w : World => run_string_add_sum (P := Tryd.prog) w tb ⟨#[32]⟩ (by omega)
        have c2 := fun w : World => run_string_add_sum (P := Tryd.prog) w (tb ++ ⟨#[32]⟩) y (by rw [ByteArray.size_append]; omega)
        have hsz : (tb ++ ⟨#[32]⟩ ++ y).size ≤ (K + 1) * 1048577 := by rw [ByteArray.size_append, ByteArray.size_append]; omega
        clear e32
        have g2 : decide ((2 : Int) < (K : Int)) = true := by simp; omega
        clear hk
        go_wp2
        go_roundw
        case rel => exact ⟨K + 1, tb ++ ⟨#[32]⟩ ++ y, by omega, by omega, by go_num, rfl, hsz, HN, by first | rfl | trivial⟩
        case measure => simp [intOf]; omega
    · have hkn : K = m + 3 := by omega
      subst hkn
      rw [← HTB.out] at HBD HG4 hms
      clear HTB
      obtain ⟨W4, hW4⟩ : ∃ W4, W4 = wr.alloc (.cells #[.int .i64 va, .int .i64 vb, .string tb, .int .i64 vl] 37) := ⟨_, rfl⟩
      have hw : Below wr.heap.size wr W4 := by rw [hW4]; exact (Below.refl _ _).alloc (Nat.le_refl _) _
      have hB4 := hB2.trans (hw.mono hB2.size)
      have HA4 : Hid (At4 W4 wr.heap.size (.int .i64 va) (.int .i64 vb) (.string tb) (.int .i64 vl)) := by rw [hW4]; exact At4.new _ _ _ _ _
      have hq2 : w.heap.size < wr.heap.size := Nat.lt_of_lt_of_le hz1 hb2.size
      have HQ4 := hide (HR2.out.below hw hq2)
      have hx4 : wr.heap.size < W4.heap.size := by rw [hW4]; simp
      have hq4 : w.heap.size < W4.heap.size := by omega
      have HO1 : Hid (Calls Tryd.prog 63 #[.pointer (some ⟨wr.heap.size, 0, none⟩)] W4 fun e w' => e = .returned (.bool (lineB ⟨va, vb, tb, vl⟩)) ∧ Below W4.heap.size W4 w') := by
        obtain ⟨d0, d1, d2, d3, _⟩ := HA4.out.out
        exact l25One_calls ⟨va, vb, tb, vl⟩ wr.heap.size 0 W4 (by show tb.size ≤ 1048576; omega) hx4 d0 d1 d2 d3
      obtain ⟨q0, q1, q2, q3, f0, f1, f2, f3⟩ := HQ4.out.out
      obtain ⟨u0, u1, u2, u3, s0, s1, s2, s3⟩ := HR2.out.out
      clear HRW HO hw hb2
      cases na
      case false =>
        have HV := hide (HBD.out (by simp))
        clear HBD HG4
        go_wp2
        refine bodyPost_ret (v := .tuple #[.agg #[.int .i64 0, .int .i64 0, .string ⟨#[]⟩, .int .i64 0], .bool false]) (by simp [results, Tryd.results47, go_sem, *]) rfl ?_
        exact linb_of HV.out ((below_set4 hB2 (Nat.le_refl _)).alloc (by simp; omega) _)
      cases nb
      case false =>
        have HV := hide (HBD.out (by simp))
        clear HBD HG4
        go_wp2
        refine bodyPost_ret (v := .tuple #[.agg #[.int .i64 0, .int .i64 0, .string ⟨#[]⟩, .int .i64 0], .bool false]) (by simp [results, Tryd.results47, go_sem, *]) rfl ?_
        exact linb_of HV.out ((below_set4 hB2 (Nat.le_refl _)).alloc (by simp; omega) _)
      cases nl
      case false =>
        have HV := hide (HBD.out (by simp))
        clear HBD HG4
        go_wp2
        refine bodyPost_ret (v := .tuple #[.agg #[.int .i64 0, .int .i64 0, .string ⟨#[]⟩, .int .i64 0], .bool false]) (by simp [results, Tryd.results47, go_sem, *]) rfl ?_
        exact linb_of HV.out ((below_set4 hB2 (Nat.le_refl _)).alloc (by simp; omega) _)
      rcases b_cases (lineB ⟨va, vb, tb, vl⟩) with hg | hg
      · have HV := hide (HBD.out (by rw [hg]; rfl))
        rw [hg] at HO1
        clear hg HBD HG4
        go_wp2_with fail
        rw [← hW4]
        refine HO1.out.mono ?_
        rintro e w6 ⟨rfl, hb6⟩
        clear q0 q1 q2 q3 f0 f1 f2 f3
        obtain ⟨q0, q1, q2, q3, f0, f1, f2, f3⟩ := (HQ4.out.below hb6 hq4).out
        have hB6 := hB4.trans (hb6.mono hB4.size)
        go_wp2
        refine bodyPost_ret (v := .tuple #[.agg #[.int .i64 0, .int .i64 0, .string ⟨#[]⟩, .int .i64 0], .bool false]) (by simp [results, Tryd.results47, go_sem, *]) rfl ?_
        exact linb_of HV.out (below_set4 hB6 (Nat.le_refl _))
      · have HV := hide (HG4.out (by rw [hg]; rfl))
        rw [hg] at HO1
        clear hg HBD HG4
        go_wp2_with fail
        rw [← hW4]
        refine HO1.out.mono ?_
        rintro e w6 ⟨rfl, hb6⟩
        clear q0 q1 q2 q3 f0 f1 f2 f3
        obtain ⟨q0, q1, q2, q3, f0, f1, f2, f3⟩ := (HQ4.out.below hb6 hq4).out
        obtain ⟨y0, y1, y2, y3, _, _, _, _⟩ := (HA4.out.below hb6 hx4).out
        have hB6 := hB4.trans (hb6.mono hB4.size)
        go_wp2
        refine bodyPost_ret (v := .tuple #[.agg #[.int .i64 va, .int .i64 vb, .string tb, .int .i64 vl], .bool true]) (by simp [results, Tryd.results47, go_sem, *]) rfl ?_
        exact linb_of HV.out (below_set4 hB6 (Nat.le_refl _))

end Go.Proofs.YtofombleojbehaaDoor
