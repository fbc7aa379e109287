/- l27Conflicts of the reference. -/
import Derived.Test.YtmcdafaadodekaaConfS
import Derived.Laws.StructEq
namespace Go.Proofs.Ytmcdafaadodekaa
open Go.RowKit
set_option linter.unusedVariables false

/-- The three ways in which two settings stand. -/
theorem pair3 (xn yn : ByteArray) (xv yv : Int) : ((⟨xn, xv⟩ : SetZ) = ⟨yn, yv⟩ ∧ (xn.toList == yn.toList) = true ∧ (xv == yv) = true) ∨ ((⟨xn, xv⟩ : SetZ) ≠ ⟨yn, yv⟩ ∧ (xn.toList == yn.toList) = false) ∨ ((⟨xn, xv⟩ : SetZ) ≠ ⟨yn, yv⟩ ∧ (xn.toList == yn.toList) = true ∧ (xv == yv) = false) := by
  by_cases c1 : xn = yn
  · subst c1
    by_cases c2 : xv = yv
    · subst c2; exact .inl ⟨rfl, by simp, by simp⟩
    · exact .inr (.inr ⟨fun h => c2 (congrArg SetZ.value h), by simp, by simpa using c2⟩)
  · exact .inr (.inl ⟨fun h => c1 (congrArg SetZ.name h), (str_ne c1).1⟩)
theorem confB_eq {s0 s1 s2 : List SetZ} (g0 : stateB s0 = true) (g1 : stateB s1 = true) (g2 : stateB s2 = true) {nm : ByteArray} (hn : nm.size ≠ 0) :
    confB s0 s1 s2 nm = (decide (getS s0 nm ≠ getS s1 nm) && decide (getS s0 nm ≠ getS s2 nm) && decide (getS s1 nm ≠ getS s2 nm)) := by
  have h1 := getS_eq g0 g1 hn
  have h2 := getS_eq g0 g2 hn
  have h3 := getS_eq g1 g2 hn
  unfold confB
  rw [Bool.eq_iff_iff]
  simp only [Bool.and_eq_true, decide_eq_true_eq, ne_eq, h1, h2, h3]
  constructor
  · rintro ⟨⟨a, b⟩, c⟩
    exact ⟨⟨fun e => b e.symm, fun e => c e.symm⟩, a⟩
  · rintro ⟨⟨a, b⟩, c⟩
    exact ⟨⟨c, fun e => a e.symm⟩, fun e => b e.symm⟩
theorem names_ne {s0 s1 s2 : List SetZ} (g0 : stateB s0 = true) (g1 : stateB s1 = true) (g2 : stateB s2 = true) {nm : ByteArray} (h : nm ∈ namesZ s0 s1 s2) : nm.size ≠ 0 := by
  rcases namesZ_mem.1 h with h | h | h
  · exact name_ne g0 h
  · exact name_ne g1 h
  · exact name_ne g2 h
theorem names_fine {s0 s1 s2 : List SetZ} (f0 : ∀ s ∈ s0, s.fine) (f1 : ∀ s ∈ s1, s.fine) (f2 : ∀ s ∈ s2, s.fine) : ∀ nm ∈ namesZ s0 s1 s2, kB.fine nm := fun nm h => by
  rcases namesZ_mem.1 h with h | h | h
  · exact fine_of_mem f0 h
  · exact fine_of_mem f1 h
  · exact fine_of_mem f2 h
theorem getS_split (ss : List SetZ) (nm : ByteArray) : ∃ xn xv, getS ss nm = ⟨xn, xv⟩ := ⟨_, _, rfl⟩
theorem conf_no {s0 s1 s2 : List SetZ} {nms : List ByteArray} {k : Nat} {nm : ByteArray} (h : nms[k]? = some nm) (hq : confB s0 s1 s2 nm = false) : (nms.take (k + 1)).filter (confB s0 s1 s2) = (nms.take k).filter (confB s0 s1 s2) := by
  rw [confZ_take h, hq]; simp
theorem conf_yes {s0 s1 s2 : List SetZ} {nms : List ByteArray} {k : Nat} {nm : ByteArray} (h : nms[k]? = some nm) (hq : confB s0 s1 s2 nm = true) : (nms.take (k + 1)).filter (confB s0 s1 s2) = (nms.take k).filter (confB s0 s1 s2) ++ [nm] := by
  rw [confZ_take h, hq]; rfl
/-- Two cells of a new block. -/
theorem box2 {w w' : World} {a b : Value} {e : TypeId} (hb : Below (w.alloc (.cells #[a, b] e)).heap.size (w.alloc (.cells #[a, b] e)) w') : w'.cell? ⟨w.heap.size, 0, none⟩ = some a ∧ w'.cell? ⟨w.heap.size, 1, none⟩ = some b :=
  ⟨(hb.cell (p := ⟨w.heap.size, 0, none⟩) (by simp)).trans (by simp [go_sem]), (hb.cell (p := ⟨w.heap.size, 1, none⟩) (by simp)).trans (by simp [go_sem])⟩

set_option maxHeartbeats 8000000 in
theorem l27Conflicts_calls (A0 : Option Addr) (n0 c0 : Nat) (A1 : Option Addr) (n1 c1 : Nat) (A2 : Option Addr) (n2 c2 : Nat) (s0 s1 s2 : List SetZ) (w : World) (h0 : RdS w A0 n0 s0) (h1 : RdS w A1 n1 s1) (h2 : RdS w A2 n2 s2) (g0 : stateB s0 = true) (g1 : stateB s1 = true) (g2 : stateB s2 = true) :
    Calls Try.prog 100 #[.slice A0 n0 c0, .slice A1 n1 c1, .slice A2 n2 c2] w (NamPost (confZ s0 s1 s2) w) := by
  have l0 := state_len g0
  have l1 := state_len g1
  have l2 := state_len g2
  rw [h0.2.1] at l0
  rw [h1.2.1] at l1
  rw [h2.2.1] at l2
  have HC := hide (l27Names_calls A0 n0 c0 A1 n1 c1 A2 n2 c2 s0 s1 s2 w h0 h1 h2 l0 l1 l2)
  have HFN := hide (names_fine h0.2.2 h1.2.2 h2.2.2)
  have HNE := hide (fun (nm : ByteArray) (h : nm ∈ namesZ s0 s1 s2) => names_ne g0 g1 g2 h)
  have HCB := hide (fun (nm : ByteArray) (h : nm.size ≠ 0) => confB_eq g0 g1 g2 h)
  have HS0 := hide (state_sorted g0)
  have HS1 := hide (state_sorted g1)
  have HS2 := hide (state_sorted g2)
  have HNL := hide (namesZ_len s0 s1 s2)
  rw [h0.2.1, h1.2.1, h2.2.1] at HNL
  clear g0 g1 g2
  go_enter Try.func100, Try.ntmps100
  go_wp2_with fail
  refine HC.out.mono ?_
  clear HC
  rintro e w1 ⟨v1, m, rfl, hown1, hm, hb1⟩
  have hm72 : m ≤ 72 := by have := HNL.out; rw [hm] at this; omega
  have HM := hide hm
  obtain ⟨A5, c5, rfl⟩ := own_slice hown1
  have HR := hide (RdK.of_own (K := kB) hown1 hm HFN.out)
  clear hown1 hm
  have hown0 := World.ownsRow_lit (base := w1.heap.size) (e := 9) (size := 1) w1 #[] 0 (Nat.le_refl _) (by simp) rfl
  have hba := (Below.refl w1.heap.size w1).alloc (Nat.le_refl _) (.cells #[] 9)
  obtain ⟨wo, rfl⟩ : ∃ wo : World, wo = w1 := ⟨_, rfl⟩
  go_wp2
  go_loopw [8, 9, 10, 11, 12] (fun v i p q r wr => ∃ (j k : Nat), j ≤ m ∧ i = .int .i64 j ∧ k ≤ j ∧ wr.ownsRow wo.heap.size 9 1 v k (cK kB (((namesZ s0 s1 s2).take j).filter (confB s0 s1 s2))) ∧ Hid ((((namesZ s0 s1 s2).take j).filter (confB s0 s1 s2)).length = k) ∧ Below wo.heap.size wo wr) (fun _ i _ _ _ _ => m - (intOf i).toNat)
  case atStart => exact ⟨0, 0, Nat.zero_le _, rfl, by omega, by simpa [cK] using hown0, rfl, hba⟩
  case round =>
    clear hown0 hba
    obtain ⟨j, k, hj, rfl, hkj, hown, HK, hb⟩ := hrel
    have HO := hide hown
    clear hown
    have hbx := hb1.trans (hb.mono hb1.size)
    by_cases hlt : j < m
    · obtain ⟨b, off, nm, rfl, hbl, hx, hc, hs1⟩ := RdK.atB HR.out hlt
      have hmem := List.mem_of_getElem? hx.out
      have HQ := hide (HCB.out nm (HNE.out nm hmem))
      obtain ⟨xn, xv, hX⟩ := getS_split s0 nm
      obtain ⟨yn, yv, hY⟩ := getS_split s1 nm
      obtain ⟨zn, zv, hZ⟩ := getS_split s2 nm
      rw [hX, hY, hZ] at HQ
      have HC0 : Hid (∀ W, Below w.heap.size w W → Calls Try.prog 126 #[.slice A0 n0 c0, .string nm] W fun e w' => e = .returned (.agg #[.string xn, .int .i64 xv]) ∧ Below W.heap.size W w') := fun W hW => by
        have := l27Get_calls A0 n0 c0 s0 nm W (h0.below hW (Nat.le_refl _)) (by omega) HS0.out
        rw [hX] at this
        exact this
      have HC1 : Hid (∀ W, Below w.heap.size w W → Calls Try.prog 126 #[.slice A1 n1 c1, .string nm] W fun e w' => e = .returned (.agg #[.string yn, .int .i64 yv]) ∧ Below W.heap.size W w') := fun W hW => by
        have := l27Get_calls A1 n1 c1 s1 nm W (h1.below hW (Nat.le_refl _)) (by omega) HS1.out
        rw [hY] at this
        exact this
      have HC2 : Hid (∀ W, Below w.heap.size w W → Calls Try.prog 126 #[.slice A2 n2 c2, .string nm] W fun e w' => e = .returned (.agg #[.string zn, .int .i64 zv]) ∧ Below W.heap.size W w') := fun W hW => by
        have := l27Get_calls A2 n2 c2 s2 nm W (h2.below hW (Nat.le_refl _)) (by omega) HS2.out
        rw [hZ] at this
        exact this
      have HCN : Hid (∀ W, Below wo.heap.size wo W → W.cell? ⟨b, off + j, none⟩ = some (.string nm)) := fun W hW => (hW.cell (p := ⟨b, off + j, none⟩) hbl).trans hc
      clear hX hY hZ hc hmem
      have hc := HCN.out _ hb
      go_wp2_with fail
      refine (HC0.out _ hbx).mono ?_
      rintro e w2 ⟨rfl, hb2⟩
      have A2' := (Below.refl w2.heap.size w2).alloc (Nat.le_refl _) (.cells #[.string xn, .int .i64 xv] 76)
      have R2 := hide (hb2.trans (A2'.mono hb2.size))
      have hc := HCN.out _ (hb.trans (R2.out.mono hb.size))
      have hz2 := hb2.size
      clear A2' hb2
      go_wp2_with fail
      refine (HC1.out _ (hbx.trans (R2.out.mono hbx.size))).mono ?_
      rintro e w3 ⟨rfl, hb3⟩
      obtain ⟨p0, p1⟩ := box2 hb3
      have hz3 : w2.heap.size < w3.heap.size := by have := hb3.size; simp at this; omega
      have r3 := R2.out.trans (hb3.mono R2.out.size)
      have A3' := (Below.refl w3.heap.size w3).alloc (Nat.le_refl _) (.cells #[.string yn, .int .i64 yv] 76)
      have R3 := hide (r3.trans (A3'.mono r3.size))
      have hc := HCN.out _ (hb.trans (R3.out.mono hb.size))
      have P01 := hide (And.intro ((A3'.cell (p := ⟨w2.heap.size, 0, none⟩) hz3).trans p0) ((A3'.cell (p := ⟨w2.heap.size, 1, none⟩) hz3).trans p1))
      clear A3' hb3 r3
      go_wp2_with fail
      refine (HC2.out _ (hbx.trans (R3.out.mono hbx.size))).mono ?_
      rintro e w4 ⟨rfl, hb4⟩
      obtain ⟨p2, p3⟩ := box2 hb4
      have p0 := (hb4.cell (p := ⟨w2.heap.size, 0, none⟩) (by simp; omega)).trans P01.out.1
      have p1 := (hb4.cell (p := ⟨w2.heap.size, 1, none⟩) (by simp; omega)).trans P01.out.2
      have r4 := R3.out.trans (hb4.mono R3.out.size)
      have A4' := (Below.refl w4.heap.size w4).alloc (Nat.le_refl _) (.cells #[.string zn, .int .i64 zv] 76)
      have R4 := hide (r4.trans (A4'.mono r4.size))
      have hc := HCN.out _ (hb.trans (R4.out.mono hb.size))
      have hz4 : w3.heap.size < w4.heap.size := by have := hb4.size; simp at this; omega
      have p0 := (A4'.cell (p := ⟨w2.heap.size, 0, none⟩) (Nat.lt_trans hz3 hz4)).trans p0
      have p1 := (A4'.cell (p := ⟨w2.heap.size, 1, none⟩) (Nat.lt_trans hz3 hz4)).trans p1
      have p2 := (A4'.cell (p := ⟨w3.heap.size, 0, none⟩) hz4).trans p2
      have p3 := (A4'.cell (p := ⟨w3.heap.size, 1, none⟩) hz4).trans p3
      have hzo := hb.size
      have hz5 := r4.size
      have ho2 := hide (own_below HO.out R4.out (Nat.le_refl _))
      have hbz := hide (hb.trans (R4.out.mono hb.size))
      clear A4' hb4 r4 R2 R3 P01 HC0 HC1 HC2
      rcases pair3 xn yn xv yv with ⟨e1, f1, f2⟩ | ⟨e1, f1⟩ | ⟨e1, f1, f2⟩
      case inl =>
        have E1 := hide e1
        clear e1
        have HN := hide (conf_no hx.out (HQ.out.trans (by simp [E1.out])))
        go_wp2
        go_roundw
        case rel => exact ⟨j + 1, k, by omega, by go_num, by omega, by rw [HN.out]; exact ho2.out, by unfold Hid; rw [HN.out]; exact HK.out, hbz.out⟩
        case measure => simp [intOf]; omega
      all_goals
        have E1 := hide e1
        clear e1
        rcases pair3 xn zn xv zv with ⟨e2, f3, f4⟩ | ⟨e2, f3⟩ | ⟨e2, f3, f4⟩
        case inl =>
          have E2 := hide e2
          clear e2
          have HN := hide (conf_no hx.out (HQ.out.trans (by simp [E2.out])))
          go_wp2
          go_roundw
          case rel => exact ⟨j + 1, k, by omega, by go_num, by omega, by rw [HN.out]; exact ho2.out, by unfold Hid; rw [HN.out]; exact HK.out, hbz.out⟩
          case measure => simp [intOf]; omega
        all_goals
          have E2 := hide e2
          clear e2
          rcases pair3 yn zn yv zv with ⟨e3, f5, f6⟩ | ⟨e3, f5⟩ | ⟨e3, f5, f6⟩
          case inl =>
            have E3 := hide e3
            clear e3
            have HN := hide (conf_no hx.out (HQ.out.trans (by simp [E3.out])))
            go_wp2
            go_roundw
            case rel => exact ⟨j + 1, k, by omega, by go_num, by omega, by rw [HN.out]; exact ho2.out, by unfold Hid; rw [HN.out]; exact HK.out, hbz.out⟩
            case measure => simp [intOf]; omega
          all_goals
            have E3 := hide e3
            clear e3
            have HN := hide (conf_yes hx.out (HQ.out.trans (by simp [E1.out, E2.out, E3.out])))
            go_wp2_with (at_builtin; refine appB rfl _ _ rfl wo.heap.size u8 k _ nm rfl ho2.out (by first | rfl | (simp; rfl)) (by omega) (by simp; omega) ?_; intro v5 w5 hown5 hb5 hz6)
            go_roundw
            case rel => exact ⟨j + 1, k + 1, by omega, by go_num, by omega, by rw [HN.out]; exact hown5, by unfold Hid; rw [HN.out, List.length_append, HK.out]; rfl, hbz.out.trans hb5⟩
            case measure => simp [intOf]; omega
    · have hjn : j = m := by omega
      have HE : Hid (confZ s0 s1 s2 = ((namesZ s0 s1 s2).take j).filter (confB s0 s1 s2)) := by unfold Hid confZ; rw [List.take_of_length_le (by rw [HM.out]; omega)]
      go_wp2
      go_ret
      exact ⟨_, k, rfl, by rw [HE.out]; exact own_mono HO.out hb1.size, by rw [HE.out]; exact HK.out, hbx⟩

end Go.Proofs.Ytmcdafaadodekaa
