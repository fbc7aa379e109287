/- IsPrefix of the program and of the reference. -/
import Derived.Test.YtofombleojbehaaDoorLogS
namespace Go.Proofs.YtofombleojbehaaDoor
open Go.RowKit
set_option linter.unusedVariables false

section
variable {α : Type} {K : Kind α} {w : World} {A : Option Addr} {n m : Nat} {xs : List α}
theorem RdK.first (h : RdK K w A n xs) (hm : m ≤ n) : RdK K w A m (xs.take m) := by
  refine ⟨⟨by rw [cK_len, List.length_take, h.2.1, Nat.min_eq_left hm], fun h0 => ?_⟩, by rw [List.length_take, h.2.1, Nat.min_eq_left hm], fun x hx => h.2.2 x (List.mem_of_mem_take hx)⟩
  obtain ⟨b, off, e, hb, hc⟩ := h.1.2 (by omega)
  refine ⟨b, off, e, hb, fun j u hj => hc j u ?_⟩
  have e1 : cK K xs = cK K (xs.take m) ++ cK K (xs.drop m) := by rw [← cK_append, List.take_append_drop]
  rw [e1, List.getElem?_append_left (List.getElem?_eq_some_iff.1 hj).1]
  exact hj
end

/-- Is one log the first part of another one? -/
def prefB (a b : List LineZ) : Bool := validL a && validL b && decide (a.length ≤ b.length) && decide (a = b.take a.length)
theorem pref_1 {a b : List LineZ} (h : validL a = false) : prefB a b = false := by unfold prefB; rw [h]; rfl
theorem pref_2 {a b : List LineZ} (h : validL b = false) : prefB a b = false := by unfold prefB; rw [h]; simp
theorem pref_3 {a b : List LineZ} {n m : Nat} (ha : a.length = n) (hb : b.length = m) (h : m < n) : prefB a b = false := by
  unfold prefB
  rw [decide_eq_false (by omega : ¬ a.length ≤ b.length)]; simp
theorem pref_4 {a b : List LineZ} {n m : Nat} (h1 : validL a = true) (h2 : validL b = true) (ha : a.length = n) (hb : b.length = m) (h : n ≤ m) : prefB a b = decide (a = b.take n) := by
  unfold prefB
  rw [h1, h2, decide_eq_true (by omega : a.length ≤ b.length), ha]; rfl

set_option maxHeartbeats 2000000 in
theorem implIsPrefix_calls (A0 : Option Addr) (n0 c0 : Nat) (a : List LineZ) (A1 : Option Addr) (n1 c1 : Nat) (b : List LineZ) (w : World) (hT : TabPM w) (h0 : RdK kLine w A0 n0 a) (h1 : RdK kLine w A1 n1 b) (hn0 : n0 ≤ 1048576) (hn1 : n1 ≤ 1048576) (hx0 : MidL a) (hx1 : MidL b) (hc0 : n0 ≤ c0) (hc1 : n1 ≤ c1) :
    Calls Tryd.prog 33 #[.slice A0 n0 c0, .slice A1 n1 c1] w fun e w' => e = .returned (.bool (prefB a b)) ∧ Below w.heap.size w w' := by
  have HM0 := hide (implValidLog_calls A0 n0 c0 a w hT h0 hn0 hx0)
  have HM1 : Hid (∀ W, Below w.heap.size w W → Calls Tryd.prog 28 #[.slice A1 n1 c1] W fun e w' => e = .returned (.bool (validL b)) ∧ Below W.heap.size W w') := fun W hW => implValidLog_calls A1 n1 c1 b W (hT.here hW) (h1.below hW (Nat.le_refl _)) hn1 hx1
  have HL0 := hide h0.2.1
  have HL1 := hide h1.2.1
  rcases b_cases (validL a) with hv | hv
  · have HZ := hide (pref_1 (b := b) hv)
    rw [hv] at HM0
    clear hv
    go_enter Tryd.func33, Tryd.ntmps33
    go_wp2_with fail
    refine HM0.out.mono ?_
    rintro e w1 ⟨rfl, hb1⟩
    go_wp2
    go_ret
    exact ⟨ret_bool HZ.out.symm, hb1⟩
  rcases b_cases (validL b) with hv1 | hv1
  · have HZ := hide (pref_2 (a := a) hv1)
    rw [hv] at HM0
    rw [hv1] at HM1
    clear hv hv1
    go_enter Tryd.func33, Tryd.ntmps33
    go_wp2_with fail
    refine HM0.out.mono ?_
    rintro e w1 ⟨rfl, hb1⟩
    go_wp2_with fail
    refine (HM1.out w1 hb1).mono ?_
    rintro e w2 ⟨rfl, hb2⟩
    go_wp2
    go_ret
    exact ⟨ret_bool HZ.out.symm, hb1.trans (hb2.mono hb1.size)⟩
  by_cases hlen : n0 ≤ n1
  · have HZ := hide (pref_4 hv hv1 HL0.out HL1.out hlen)
    have d1 : decide ((n0 : Int) ≤ (n1 : Int)) = true := by simp; omega
    have HR : Hid (∀ W, Below w.heap.size w W → Calls Tryd.prog 77 #[.slice A0 n0 c0, .slice A1 n0 c1] W fun e w' => e = .returned (.bool (decide (a = b.take n0))) ∧ Below W.heap.size W w') := fun W hW => equalLine_calls A0 A1 n0 n0 c0 c1 a (b.take n0) W (h0.below hW (Nat.le_refl _)) ((h1.first hlen).below hW (Nat.le_refl _)) hn0 hn0
    rw [hv] at HM0
    rw [hv1] at HM1
    clear hv hv1
    have hi1 : (0 : Int) ≤ (n0 : Int) := by omega
    have hi2 : (n0 : Int) ≤ (c1 : Int) := by omega
    go_enter Tryd.func33, Tryd.ntmps33
    go_wp2_with fail
    refine HM0.out.mono ?_
    rintro e w1 ⟨rfl, hb1⟩
    go_wp2_with fail
    refine (HM1.out w1 hb1).mono ?_
    rintro e w2 ⟨rfl, hb2⟩
    have hb12 := hb1.trans (hb2.mono hb1.size)
    go_wp2_with fail
    refine (HR.out w2 hb12).mono ?_
    rintro e w3 ⟨rfl, hb3⟩
    go_wp2
    go_ret
    exact ⟨ret_bool HZ.out.symm, hb12.trans (hb3.mono hb12.size)⟩
  · have HZ := hide (pref_3 HL0.out HL1.out (by omega))
    have d1 : decide ((n0 : Int) ≤ (n1 : Int)) = false := by simp; omega
    rw [hv] at HM0
    rw [hv1] at HM1
    clear hv hv1
    go_enter Tryd.func33, Tryd.ntmps33
    go_wp2_with fail
    refine HM0.out.mono ?_
    rintro e w1 ⟨rfl, hb1⟩
    go_wp2_with fail
    refine (HM1.out w1 hb1).mono ?_
    rintro e w2 ⟨rfl, hb2⟩
    go_wp2
    go_ret
    exact ⟨ret_bool HZ.out.symm, hb1.trans (hb2.mono hb1.size)⟩

set_option maxHeartbeats 4000000 in
theorem specIsPrefix_calls (A0 : Option Addr) (n0 c0 : Nat) (a : List LineZ) (A1 : Option Addr) (n1 c1 : Nat) (b : List LineZ) (w : World) (h0 : RdK kLine w A0 n0 a) (h1 : RdK kLine w A1 n1 b) (hn0 : n0 ≤ 1048576) (hn1 : n1 ≤ 1048576) (hx0 : MidL a) (hx1 : MidL b) (hc0 : n0 ≤ c0) (hc1 : n1 ≤ c1) :
    Calls Tryd.prog 32 #[.slice A0 n0 c0, .slice A1 n1 c1] w fun e w' => e = .returned (.bool (prefB a b)) ∧ Below w.heap.size w w' := by
  have HM0 := hide (l25Ok_calls A0 n0 c0 a w h0 hn0 hx0)
  have HM1 : Hid (∀ W, Below w.heap.size w W → Calls Tryd.prog 75 #[.slice A1 n1 c1] W fun e w' => e = .returned (.bool (validL b)) ∧ Below W.heap.size W w') := fun W hW => l25Ok_calls A1 n1 c1 b W (h1.below hW (Nat.le_refl _)) hn1 hx1
  have HL0 := hide h0.2.1
  have HL1 := hide h1.2.1
  rcases b_cases (validL a) with hv | hv
  · have HZ := hide (pref_1 (b := b) hv)
    rw [hv] at HM0
    clear hv
    go_enter Tryd.func32, Tryd.ntmps32
    go_wp2_with fail
    refine HM0.out.mono ?_
    rintro e w1 ⟨rfl, hb1⟩
    go_wp2
    go_ret
    exact ⟨ret_bool HZ.out.symm, hb1⟩
  rcases b_cases (validL b) with hv1 | hv1
  · have HZ := hide (pref_2 (a := a) hv1)
    rw [hv] at HM0
    rw [hv1] at HM1
    clear hv hv1
    go_enter Tryd.func32, Tryd.ntmps32
    go_wp2_with fail
    refine HM0.out.mono ?_
    rintro e w1 ⟨rfl, hb1⟩
    go_wp2_with fail
    refine (HM1.out w1 hb1).mono ?_
    rintro e w2 ⟨rfl, hb2⟩
    go_wp2
    go_ret
    exact ⟨ret_bool HZ.out.symm, hb1.trans (hb2.mono hb1.size)⟩
  by_cases hlen : n0 ≤ n1
  case neg =>
    have HZ := hide (pref_3 HL0.out HL1.out (by omega))
    have d1 : decide ((n1 : Int) < (n0 : Int)) = true := by simp; omega
    rw [hv] at HM0
    rw [hv1] at HM1
    clear hv hv1
    go_enter Tryd.func32, Tryd.ntmps32
    go_wp2_with fail
    refine HM0.out.mono ?_
    rintro e w1 ⟨rfl, hb1⟩
    go_wp2_with fail
    refine (HM1.out w1 hb1).mono ?_
    rintro e w2 ⟨rfl, hb2⟩
    go_wp2
    go_ret
    exact ⟨ret_bool HZ.out.symm, hb1.trans (hb2.mono hb1.size)⟩
  have HZ := hide (pref_4 hv hv1 HL0.out HL1.out hlen)
  have d1 : decide ((n1 : Int) < (n0 : Int)) = false := by simp; omega
  rw [hv] at HM0
  rw [hv1] at HM1
  clear hv hv1
  go_enter Tryd.func32, Tryd.ntmps32
  go_wp2_with fail
  refine HM0.out.mono ?_
  rintro e w1 ⟨rfl, hb1⟩
  go_wp2_with fail
  refine (HM1.out w1 hb1).mono ?_
  rintro e w2 ⟨rfl, hb2⟩
  have hb12 := hb1.trans (hb2.mono hb1.size)
  have k0 := h0.below hb12 (Nat.le_refl _)
  have k1 := h1.below hb12 (Nat.le_refl _)
  clear h0 h1
  go_wp2
  go_loopw [5] (fun i wr => ∃ (k : Nat), k ≤ n0 ∧ i = .int .i64 k ∧ Hid (a.take k = b.take k) ∧ Below w2.heap.size w2 wr) (fun i _ => n0 - (intOf i).toNat)
  case atStart => exact ⟨0, Nat.zero_le _, rfl, by simp [Hid], Below.refl _ _⟩
  case round =>
    obtain ⟨k, hk, rfl, HC, hb⟩ := hrel
    by_cases hlt : k < n0
    · obtain ⟨bb, off, f0, f1, f2, f3, rfl, hbl, hx, hc0, hc1, hc2, hc3, _, _, _, _, _, _, _⟩ := (k0.below hb (Nat.le_refl _)).atLine hlt
      obtain ⟨b', off', g0, g1, g2, g3, rfl, hbl', hy, hd0, hd1, hd2, hd3, _, _, _, _, _, _, _⟩ := (k1.below hb (Nat.le_refl _)).atLine (show k < n1 by omega)
      have HBX := hide (hb12.trans (hb.mono hb12.size))
      have hxy : (k : Int) < (n1 : Int) := by omega
      have HNE : Hid ((⟨f0, f1, f2, f3⟩ : LineZ) ≠ ⟨g0, g1, g2, g3⟩ → prefB a b = false) := by
        intro h
        rw [HZ.out, decide_eq_false_iff_not]
        intro e
        have : a[k]? = (b.take n0)[k]? := by rw [e]
        rw [List.getElem?_take, if_pos hlt, hx.out, hy.out] at this
        exact h (Option.some.inj this)
      by_cases c0 : f0 = g0
      case neg =>
        have e0 : (f0 == g0) = false := by simpa using c0
        have HN := hide (HNE.out (by simp [c0]))
        clear c0
        go_wp2
        go_quiet (fail)
        go_wp2
        go_ret
        exact ⟨ret_bool HN.out.symm, below_drewN HBX.out nq⟩
      by_cases c1 : f1 = g1
      case neg =>
        have e1 : (f1 == g1) = false := by simpa using c1
        have e0 : (f0 == g0) = true := by simpa using c0
        have HN := hide (HNE.out (by simp [c1]))
        clear c0 c1
        go_wp2
        go_quiet (fail)
        go_wp2
        go_ret
        exact ⟨ret_bool HN.out.symm, below_drewN HBX.out nq⟩
      by_cases c2 : f2 = g2
      case neg =>
        obtain ⟨e2, e2'⟩ := str_ne c2
        have e0 : (f0 == g0) = true := by simpa using c0
        have e1 : (f1 == g1) = true := by simpa using c1
        have HN := hide (HNE.out (by simp [c2]))
        clear c0 c1 c2
        go_wp2
        go_quiet (fail)
        go_wp2
        go_ret
        exact ⟨ret_bool HN.out.symm, below_drewN HBX.out nq⟩
      by_cases c3 : f3 = g3
      case neg =>
        have e3 : (f3 == g3) = false := by simpa using c3
        have e0 : (f0 == g0) = true := by simpa using c0
        have e1 : (f1 == g1) = true := by simpa using c1
        obtain ⟨e2, e2'⟩ := str_eq c2
        have HN := hide (HNE.out (by simp [c3]))
        clear c0 c1 c2 c3
        go_wp2
        go_quiet (fail)
        go_wp2
        go_ret
        exact ⟨ret_bool HN.out.symm, below_drewN HBX.out nq⟩
      have e0 : (f0 == g0) = true := by simpa using c0
      have e1 : (f1 == g1) = true := by simpa using c1
      obtain ⟨e2, e2'⟩ := str_eq c2
      have e3 : (f3 == g3) = true := by simpa using c3
      have HE : Hid (a.take (k + 1) = b.take (k + 1)) := by unfold Hid; rw [take_snoc hx.out, take_snoc hy.out, HC.out, c0, c1, c2, c3]
      clear c0 c1 c2 c3
      go_wp2
      go_quiet (fail)
      go_wp2
      go_roundw
      case rel => exact ⟨k + 1, by omega, by go_num, HE, below_drewN hb nq⟩
      case measure => simp [intOf]; omega
    · have hkn : k = n0 := by omega
      have HE : Hid (prefB a b = true) := by
        unfold Hid
        rw [HZ.out, decide_eq_true_eq, ← hkn, ← HC.out, List.take_of_length_le (by rw [HL0.out]; omega)]
      clear hkn
      go_wp2
      go_ret
      exact ⟨ret_bool HE.out.symm, hb12.trans (hb.mono hb12.size)⟩

end Go.Proofs.YtofombleojbehaaDoor
