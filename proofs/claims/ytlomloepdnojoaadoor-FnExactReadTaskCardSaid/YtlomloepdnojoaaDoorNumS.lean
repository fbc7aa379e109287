/- l01Digit, l01Number of the reference. Printed by gen_num.py. -/
import Derived.Test.YtlomloepdnojoaaDoorNumZ
namespace Go.Proofs.YtlomloepdnojoaaDoor
open Go.RowKit
set_option linter.unusedVariables false

theorem digs_neg {l : List UInt8} (h : isNegL l = true) : digsL l = l.drop 1 := by unfold digsL; rw [if_pos h, List.drop_one]
theorem digs_pos {l : List UInt8} (h : isNegL l = false) : digsL l = l.drop 0 := by unfold digsL; rw [if_neg (by rw [h]; simp)]; rfl
theorem neg_at {l : List UInt8} {c : UInt8} (h : l[0]? = some c) : isNegL l = decide (c = 45) := by
  unfold isNegL; rw [List.head?_eq_getElem?, h]; simp
/-- What is read ahead of place K. -/
def NumTo (l : List UInt8) (a K U : Nat) : Prop := valF 0 ((l.take K).drop a) = U ∧ ((l.take K).drop a).all digN = true ∧ U < 10 ^ (K - a)
theorem num_start (l : List UInt8) (a : Nat) : NumTo l a a 0 := by
  unfold NumTo
  rw [List.drop_eq_nil_of_le (by rw [List.length_take]; omega), Nat.sub_self]
  exact ⟨rfl, rfl, by decide⟩
theorem num_step {l : List UInt8} {a K U : Nat} {c : UInt8} (h : NumTo l a K U) (ha : a ≤ K) (hx : l[K]? = some c) (hc : digN c = true) : NumTo l a (K + 1) (10 * U + (c.toNat - 48)) := by
  have hk := (List.getElem?_eq_some_iff.1 hx).1
  obtain ⟨h1, h2, h3⟩ := h
  have e : (l.take (K + 1)).drop a = (l.take K).drop a ++ [c] := by
    rw [take_snoc hx, List.drop_append_of_le_length (by rw [List.length_take]; omega)]
  have hd := hc
  unfold digN at hd
  rw [Bool.and_eq_true] at hd
  have d2 := of_decide_eq_true hd.2
  unfold NumTo
  rw [e, valF_snoc, h1, List.all_append, h2]
  refine ⟨rfl, by simpa using hc, ?_⟩
  rw [show K + 1 - a = (K - a) + 1 by omega, Nat.pow_succ]
  omega
theorem num_small {l : List UInt8} {a K U : Nat} (h : NumTo l a K U) (hk : K - a ≤ 17) : U < 100000000000000000 := by
  have h1 : 10 ^ (K - a) ≤ 10 ^ 17 := Nat.pow_le_pow_right (by decide) hk
  have e : (10 : Nat) ^ 17 = 100000000000000000 := by decide
  have := h.2.2
  omega
theorem num_small18 {l : List UInt8} {a K U : Nat} (h : NumTo l a K U) (hk : K - a ≤ 18) : U < 1000000000000000000 := by
  have h1 : 10 ^ (K - a) ≤ 10 ^ 18 := Nat.pow_le_pow_right (by decide) hk
  have e : (10 : Nat) ^ 18 = 1000000000000000000 := by decide
  have := h.2.2
  omega
theorem num_bad {l : List UInt8} {a K : Nat} {c : UInt8} (e : digsL l = l.drop a) (ha : a ≤ K) (hx : l[K]? = some c) (hc : digN c = false) : numB l = false ∧ numV l = 0 := by
  have h : (digsL l).all digN = false := by
    rw [e, List.all_eq_false]
    refine ⟨c, ?_, by rw [hc]; simp⟩
    refine List.mem_of_getElem? (i := K - a) ?_
    rw [List.getElem?_drop, show a + (K - a) = K by omega, hx]
  have hb : numB l = false := by unfold numB; rw [h, Bool.and_false]
  exact ⟨hb, numV_bad hb⟩
theorem num_short {l : List UInt8} {a : Nat} (e : digsL l = l.drop a) (h : l.length = a ∨ 18 < l.length - a) : numB l = false ∧ numV l = 0 := by
  have hb : numB l = false := numB_len (by rw [e, List.length_drop]; omega)
  exact ⟨hb, numV_bad hb⟩
theorem num_zero {l : List UInt8} {a : Nat} (e : digsL l = l.drop a) (h : l[a]? = some 48) (hl : 1 < l.length) : numB l = false ∧ numV l = 0 := by
  have hb : numB l = false := by
    unfold numB
    rw [e, List.head?_drop, h, decide_eq_true rfl, decide_eq_true hl]
    simp
  exact ⟨hb, numV_bad hb⟩
theorem num_end {l : List UInt8} {a U : Nat} {c : UInt8} (e : digsL l = l.drop a) (h : NumTo l a l.length U) (ha : a < l.length) (h18 : l.length - a ≤ 18) (hx : l[a]? = some c) (hz : c ≠ 48 ∨ l.length ≤ 1) : numB l = true ∧ numV l = if isNegL l = true then -(U : Int) else (U : Int) := by
  obtain ⟨h1, h2, h3⟩ := h
  rw [List.take_length] at h1 h2
  have hb : numB l = true := by
    unfold numB
    rw [e, List.head?_drop, hx, h2, List.length_drop, decide_eq_true (show 1 ≤ l.length - a by omega), decide_eq_true h18]
    rcases hz with hz | hz
    · rw [decide_eq_false (show ¬ some c = some 48 from fun e => hz (Option.some.inj e))]; rfl
    · rw [decide_eq_false (show ¬ 1 < l.length by omega)]; simp
  refine ⟨hb, ?_⟩
  unfold numV
  rw [if_pos hb, e, h1]

set_option maxRecDepth 100000 in
set_option maxHeartbeats 4000000 in
theorem l01Number_calls (s : ByteArray) (w : World) (hs : s.size ≤ 1048576) :
    Calls Tryd.prog 123 #[.string s] w fun e w' => e = .returned (.tuple #[.int .i64 (numV (bs s)), .bool (numB (bs s))]) ∧ w' = w := by
  have HL : Hid ((bs s).length = s.size) := bs_len s
  by_cases h0 : s.size = 0
  · have HB : Hid (numB (bs s) = false ∧ numV (bs s) = 0) := by
      have e : bs s = [] := List.eq_nil_of_length_eq_zero (by rw [HL.out]; exact h0)
      rw [e]; exact ⟨rfl, rfl⟩
    have g1 : ((s.size : Int) == 0) = true := by rw [h0]; rfl
    have g2 : decide ((0 : Int) < (s.size : Int)) = false := by rw [h0]; rfl
    clear h0
    go_enter Tryd.func123, Tryd.ntmps123
    go_wp2
    go_ret2
    exact ⟨ret_two (congrArg (Value.int .i64) HB.out.2.symm) (congrArg Value.bool HB.out.1.symm), rfl⟩
  have hpos : 0 < s.size := by omega
  have g0 : decide ((0 : Int) < (s.size : Int)) = true := by simp; omega
  clear h0
  obtain ⟨c0, hc0, hx0⟩ := bs_at s hpos
  have HDG : Hid (∀ (c : UInt8) W, Calls Tryd.prog 158 #[.int .u8 (c.toNat : Int)] W fun e w' => e = .returned (.bool (digN c)) ∧ w' = W) := fun c W => (l01Digit_calls c W).mono (by rintro e w' ⟨rfl, rfl⟩; exact ⟨rfl, rfl⟩)
  by_cases hc : c0 = 45
  · subst hc
    have HN0 : Hid (isNegL (bs s) = true) := by unfold Hid; rw [neg_at hx0.out]; rfl
    have HE : Hid (digsL (bs s) = (bs s).drop 1) := digs_neg HN0.out
    by_cases h1 : s.size = 1
    · have HB := hide (num_short HE.out (.inl (by rw [HL.out]; exact h1)))
      have g1 : ((s.size : Int) == 1) = true := by rw [h1]; rfl
      clear h1
      go_enter Tryd.func123, Tryd.ntmps123
      go_wp2
      go_ret2
      exact ⟨ret_two (congrArg (Value.int .i64) HB.out.2.symm) (congrArg Value.bool HB.out.1.symm), rfl⟩
    have g1 : ((s.size : Int) == 1) = false := by simp; omega
    by_cases h2 : 18 < s.size - 1
    · have HB := hide (num_short HE.out (.inr (by rw [HL.out]; exact h2)))
      have g2 : decide ((18 : Int) < (s.size : Int) - 1) = true := by simp; omega
      clear h2
      go_enter Tryd.func123, Tryd.ntmps123
      go_wp2
      go_ret2
      exact ⟨ret_two (congrArg (Value.int .i64) HB.out.2.symm) (congrArg Value.bool HB.out.1.symm), rfl⟩
    have g2 : decide ((18 : Int) < (s.size : Int) - 1) = false := by simp; omega
    obtain ⟨c1, hc1, hx1⟩ := bs_at s (show 1 < s.size by omega)
    by_cases hz : c1 = 48
    · have HB := hide (num_zero HE.out (hz ▸ hx1.out) (by rw [HL.out]; omega))
      have g3 : ((c1.toNat : Int) == 48) = true := by rw [hz]; rfl
      have g4 : decide ((1 : Int) < (s.size : Int)) = true := by simp; omega
      clear hz
      go_enter Tryd.func123, Tryd.ntmps123
      go_wp2
      go_ret2
      exact ⟨ret_two (congrArg (Value.int .i64) HB.out.2.symm) (congrArg Value.bool HB.out.1.symm), rfl⟩
    have g3 : ((c1.toNat : Int) == 48) = false := by
      simp only [beq_eq_false_iff_ne, ne_eq]
      intro e
      exact hz (UInt8.toNat_inj.1 (by rw [show (48 : UInt8).toNat = 48 from rfl]; omega))
    have HEND : Hid (∀ U, NumTo (bs s) 1 s.size U → numB (bs s) = true ∧ numV (bs s) = -(U : Int)) := by
      intro U hu
      rw [← HL.out] at hu
      have := num_end HE.out hu (by rw [HL.out]; omega) (by rw [HL.out]; omega) hx1.out (.inl hz)
      rw [HN0.out] at this
      simpa using this
    clear hz
    go_enter Tryd.func123, Tryd.ntmps123
    go_wp2
    go_loopw [5, 6] (fun n i wr => ∃ (K U : Nat), 1 ≤ K ∧ K ≤ s.size ∧ i = .int .i64 K ∧ n = .int .i64 U ∧ U < 1000000000000000000 ∧ Hid (NumTo (bs s) 1 K U) ∧ wr = w) (fun _ i _ => s.size - (intOf i).toNat)
    case atStart => exact ⟨1, 0, Nat.le_refl _, by omega, rfl, rfl, by omega, num_start _ _, rfl⟩
    case round =>
      obtain ⟨K, U, hKa, hK, rfl, rfl, hU, HI, rfl⟩ := hrel
      by_cases hlt : K < s.size
      · obtain ⟨c, hsc, hx⟩ := bs_at s hlt
        have hU17 := num_small HI.out (by omega)
        have hclt := c.toNat_lt
        rcases b_cases (digN c) with hd | hd
        · have HB := hide (num_bad HE.out hKa hx.out hd)
          have HC := hide (HDG.out c wr)
          rw [hd] at HC
          clear hd
          go_wp2_with fail
          refine HC.out.mono ?_
          rintro e w1 ⟨rfl, rfl⟩
          go_wp2
          go_ret2
          exact ⟨ret_two (congrArg (Value.int .i64) HB.out.2.symm) (congrArg Value.bool HB.out.1.symm), rfl⟩
        · have HN := hide (num_step HI.out hKa hx.out hd)
          have HC := hide (HDG.out c wr)
          rw [hd] at HC
          obtain ⟨d, hd1, hd2⟩ : ∃ d : Nat, (c.toNat : Int) - 48 = (d : Int) ∧ d ≤ 9 ∧ c.toNat - 48 = d := ⟨c.toNat - 48, by
            unfold digN at hd
            rw [Bool.and_eq_true] at hd
            have := of_decide_eq_true hd.1
            have := of_decide_eq_true hd.2
            omega⟩
          rw [hd2.2] at HN
          have hd9 := hd2.1
          have hdd := hd1
          clear hd hd2
          go_wp2_with fail
          refine HC.out.mono ?_
          rintro e w1 ⟨rfl, rfl⟩
          go_wp2
          go_roundw
          case rel => exact ⟨K + 1, 10 * U + d, by omega, by omega, by go_num, by go_num, by omega, HN.out, by first | rfl | trivial⟩
          case measure => simp [intOf]; omega
      · have hKn : K = s.size := by omega
        subst hKn
        have HB := hide (HEND.out U HI.out)
        go_wp2
        go_ret2
        exact ⟨ret_two (congrArg (Value.int .i64) HB.out.2.symm) (congrArg Value.bool HB.out.1.symm), rfl⟩
  have gm : ((c0.toNat : Int) == 45) = false := by
    simp only [beq_eq_false_iff_ne, ne_eq]
    intro e
    exact hc (UInt8.toNat_inj.1 (by rw [show (45 : UInt8).toNat = 45 from rfl]; omega))
  have HN0 : Hid (isNegL (bs s) = false) := by unfold Hid; rw [neg_at hx0.out]; exact decide_eq_false hc
  have HE : Hid (digsL (bs s) = (bs s).drop 0) := digs_pos HN0.out
  clear hc
  have g1 : ((s.size : Int) == 0) = false := by rw [beq_eq_false_iff_ne]; omega
  by_cases h2 : 18 < s.size - 0
  · have HB := hide (num_short HE.out (.inr (by rw [HL.out]; exact h2)))
    have g2 : decide ((18 : Int) < (s.size : Int)) = true := by simp; omega
    clear h2
    go_enter Tryd.func123, Tryd.ntmps123
    go_wp2
    go_ret2
    exact ⟨ret_two (congrArg (Value.int .i64) HB.out.2.symm) (congrArg Value.bool HB.out.1.symm), rfl⟩
  have g2 : decide ((18 : Int) < (s.size : Int)) = false := by simp; omega
  by_cases hz : c0 = 48
  · have g3 : ((c0.toNat : Int) == 48) = true := by rw [hz]; rfl
    by_cases h3 : 1 < s.size
    · have HB := hide (num_zero HE.out (hz ▸ hx0.out) (by rw [HL.out]; exact h3))
      have g4 : decide ((1 : Int) < (s.size : Int)) = true := by simp; omega
      clear hz h3
      go_enter Tryd.func123, Tryd.ntmps123
      go_wp2
      go_ret2
      exact ⟨ret_two (congrArg (Value.int .i64) HB.out.2.symm) (congrArg Value.bool HB.out.1.symm), rfl⟩
    have g4 : decide ((1 : Int) < (s.size : Int)) = false := by simp; omega
    have HEND : Hid (∀ U, NumTo (bs s) 0 s.size U → numB (bs s) = true ∧ numV (bs s) = (U : Int)) := by
      intro U hu
      rw [← HL.out] at hu
      have := num_end HE.out hu (by rw [HL.out]; omega) (by rw [HL.out]; omega) hx0.out (.inr (by rw [HL.out]; omega))
      rw [HN0.out] at this
      simpa using this
    clear hz h3
    go_enter Tryd.func123, Tryd.ntmps123
    go_wp2
    go_loopw [5, 6] (fun n i wr => ∃ (K U : Nat), 0 ≤ K ∧ K ≤ s.size ∧ i = .int .i64 K ∧ n = .int .i64 U ∧ U < 1000000000000000000 ∧ Hid (NumTo (bs s) 0 K U) ∧ wr = w) (fun _ i _ => s.size - (intOf i).toNat)
    case atStart => exact ⟨0, 0, Nat.le_refl _, by omega, rfl, rfl, by omega, num_start _ _, rfl⟩
    case round =>
      obtain ⟨K, U, hKa, hK, rfl, rfl, hU, HI, rfl⟩ := hrel
      by_cases hlt : K < s.size
      · obtain ⟨c, hsc, hx⟩ := bs_at s hlt
        have hU17 := num_small HI.out (by omega)
        have hclt := c.toNat_lt
        rcases b_cases (digN c) with hd | hd
        · have HB := hide (num_bad HE.out hKa hx.out hd)
          have HC := hide (HDG.out c wr)
          rw [hd] at HC
          clear hd
          go_wp2_with fail
          refine HC.out.mono ?_
          rintro e w1 ⟨rfl, rfl⟩
          go_wp2
          go_ret2
          exact ⟨ret_two (congrArg (Value.int .i64) HB.out.2.symm) (congrArg Value.bool HB.out.1.symm), rfl⟩
        · have HN := hide (num_step HI.out hKa hx.out hd)
          have HC := hide (HDG.out c wr)
          rw [hd] at HC
          obtain ⟨d, hd1, hd2⟩ : ∃ d : Nat, (c.toNat : Int) - 48 = (d : Int) ∧ d ≤ 9 ∧ c.toNat - 48 = d := ⟨c.toNat - 48, by
            unfold digN at hd
            rw [Bool.and_eq_true] at hd
            have := of_decide_eq_true hd.1
            have := of_decide_eq_true hd.2
            omega⟩
          rw [hd2.2] at HN
          have hd9 := hd2.1
          have hdd := hd1
          clear hd hd2
          go_wp2_with fail
          refine HC.out.mono ?_
          rintro e w1 ⟨rfl, rfl⟩
          go_wp2
          go_roundw
          case rel => exact ⟨K + 1, 10 * U + d, by omega, by omega, by go_num, by go_num, by omega, HN.out, by first | rfl | trivial⟩
          case measure => simp [intOf]; omega
      · have hKn : K = s.size := by omega
        subst hKn
        have HB := hide (HEND.out U HI.out)
        go_wp2
        go_ret2
        exact ⟨ret_two (congrArg (Value.int .i64) HB.out.2.symm) (congrArg Value.bool HB.out.1.symm), rfl⟩
  have g3 : ((c0.toNat : Int) == 48) = false := by
    simp only [beq_eq_false_iff_ne, ne_eq]
    intro e
    exact hz (UInt8.toNat_inj.1 (by rw [show (48 : UInt8).toNat = 48 from rfl]; omega))
  have HEND : Hid (∀ U, NumTo (bs s) 0 s.size U → numB (bs s) = true ∧ numV (bs s) = (U : Int)) := by
    intro U hu
    rw [← HL.out] at hu
    have := num_end HE.out hu (by rw [HL.out]; omega) (by rw [HL.out]; omega) hx0.out (.inl hz)
    rw [HN0.out] at this
    simpa using this
  clear hz
  go_enter Tryd.func123, Tryd.ntmps123
  go_wp2
  go_loopw [5, 6] (fun n i wr => ∃ (K U : Nat), 0 ≤ K ∧ K ≤ s.size ∧ i = .int .i64 K ∧ n = .int .i64 U ∧ U < 1000000000000000000 ∧ Hid (NumTo (bs s) 0 K U) ∧ wr = w) (fun _ i _ => s.size - (intOf i).toNat)
  case atStart => exact ⟨0, 0, Nat.le_refl _, by omega, rfl, rfl, by omega, num_start _ _, rfl⟩
  case round =>
    obtain ⟨K, U, hKa, hK, rfl, rfl, hU, HI, rfl⟩ := hrel
    by_cases hlt : K < s.size
    · obtain ⟨c, hsc, hx⟩ := bs_at s hlt
      have hU17 := num_small HI.out (by omega)
      have hclt := c.toNat_lt
      rcases b_cases (digN c) with hd | hd
      · have HB := hide (num_bad HE.out hKa hx.out hd)
        have HC := hide (HDG.out c wr)
        rw [hd] at HC
        clear hd
        go_wp2_with fail
        refine HC.out.mono ?_
        rintro e w1 ⟨rfl, rfl⟩
        go_wp2
        go_ret2
        exact ⟨ret_two (congrArg (Value.int .i64) HB.out.2.symm) (congrArg Value.bool HB.out.1.symm), rfl⟩
      · have HN := hide (num_step HI.out hKa hx.out hd)
        have HC := hide (HDG.out c wr)
        rw [hd] at HC
        obtain ⟨d, hd1, hd2⟩ : ∃ d : Nat, (c.toNat : Int) - 48 = (d : Int) ∧ d ≤ 9 ∧ c.toNat - 48 = d := ⟨c.toNat - 48, by
          unfold digN at hd
          rw [Bool.and_eq_true] at hd
          have := of_decide_eq_true hd.1
          have := of_decide_eq_true hd.2
          omega⟩
        rw [hd2.2] at HN
        have hd9 := hd2.1
        have hdd := hd1
        clear hd hd2
        go_wp2_with fail
        refine HC.out.mono ?_
        rintro e w1 ⟨rfl, rfl⟩
        go_wp2
        go_roundw
        case rel => exact ⟨K + 1, 10 * U + d, by omega, by omega, by go_num, by go_num, by omega, HN.out, by first | rfl | trivial⟩
        case measure => simp [intOf]; omega
    · have hKn : K = s.size := by omega
      subst hKn
      have HB := hide (HEND.out U HI.out)
      go_wp2
      go_ret2
      exact ⟨ret_two (congrArg (Value.int .i64) HB.out.2.symm) (congrArg Value.bool HB.out.1.symm), rfl⟩

end Go.Proofs.YtlomloepdnojoaaDoor
