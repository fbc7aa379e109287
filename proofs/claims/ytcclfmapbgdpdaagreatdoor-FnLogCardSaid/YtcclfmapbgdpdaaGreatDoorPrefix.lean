/- IsPrefix of the program and of the reference. -/
import Derived.Test.YtcclfmapbgdpdaaGreatDoorLogS
namespace Go.Proofs.YtcclfmapbgdpdaaGreatDoor
open Go.RowKit
set_option linter.unusedVariables false

section
variable {α : Type} {K : Kind α} {w : World} {A : Option Addr} {n m : Nat} {xs : List α}
theorem RdK.first (h : RdK K w A n xs) (hm : m ≤ n) : RdK K w A m (xs.take m) := by
  refine ⟨⟨by rw [cK_len, List.length_take, h.2.1, Nat.min_eq_left hm], fun h0 => ?_⟩, by rw [List.length_take, h.2.1, Nat.min_eq_left hm], fun x hx => h.2.2 x (List.mem_of_mem_take hx)⟩
  obtain ⟨b, off, e, hb, hc⟩ := h.1.2 (by omega)
  refine ⟨b, off, e, hb, fun j u hj => hc j u ?_⟩
  have e1 : cK K xs = cK K (xs.take m) ++ cK K (xs.drop m) := by rw [← cK_append, List.take_append_drop]
  rw [e1, List.getElem?_append_left (List.getElem?_eq_some_iff.1 hj).1]
  exact hj
end

/-- Is one log the first part of another one? -/
def prefB (a b : List LineZ) : Bool := validL a && validL b && decide (a.length ≤ b.length) && decide (a = b.take a.length)
theorem pref_1 {a b : List LineZ} (h : validL a = false) : prefB a b = false := by unfold prefB; rw [h]; rfl
theorem pref_2 {a b : List LineZ} (h : validL b = false) : prefB a b = false := by unfold prefB; rw [h]; simp
theorem pref_3 {a b : List LineZ} {n m : Nat} (ha : a.length = n) (hb : b.length = m) (h : m < n) : prefB a b = false := by
  unfold prefB
  rw [decide_eq_false (by omega : ¬ a.length ≤ b.length)]; simp
theorem pref_4 {a b : List LineZ} {n m : Nat} (h1 : validL a = true) (h2 : validL b = true) (ha : a.length = n) (hb : b.length = m) (h : n ≤ m) : prefB a b = decide (a = b.take n) := by
  unfold prefB
  rw [h1, h2, decide_eq_true (by omega : a.length ≤ b.length), ha]; rfl

set_option maxHeartbeats 2000000 in
theorem implIsPrefix_calls (A0 : Option Addr) (n0 c0 : Nat) (a : List LineZ) (A1 : Option Addr) (n1 c1 : Nat) (b : List LineZ) (w : World) (hT : TabPM w) (h0 : RdK kLine w A0 n0 a) (h1 : RdK kLine w A1 n1 b) (hn0 : n0 ≤ 1048576) (hn1 : n1 ≤ 1048576) (hx0 : MidL a) (hx1 : MidL b) (hc0 : n0 ≤ c0) (hc1 : n1 ≤ c1) :
    Calls Tryz.prog 26 #[.slice A0 n0 c0, .slice A1 n1 c1] w fun e w' => e = .returned (.bool (prefB a b)) ∧ Below w.heap.size w w' := by
  have HM0 := hide (implValidLog_calls A0 n0 c0 a w hT h0 hn0 hx0)
  have HM1 : Hid (∀ W, Below w.heap.size w W → Calls Tryz.prog 25 #[.slice A1 n1 c1] W fun e w' => e = .returned (.bool (validL b)) ∧ Below W.heap.size W w') := fun W hW => implValidLog_calls A1 n1 c1 b W (hT.here hW) (h1.below hW (Nat.le_refl _)) hn1 hx1
  have HL0 := hide h0.2.1
  have HL1 := hide h1.2.1
  rcases b_cases (validL a) with hv | hv
  · have HZ := hide (pref_1 (b := b) hv)
    rw [hv] at HM0
    clear hv
    go_enter Tryz.func26, Tryz.ntmps26
    go_wp2_with fail
    refine HM0.out.mono ?_
    rintro e w1 ⟨rfl, hb1⟩
    go_wp2
    go_ret
    exact ⟨ret_bool HZ.out.symm, hb1⟩
  rcases b_cases (validL b) with hv1 | hv1
  · have HZ := hide (pref_2 (a := a) hv1)
    rw [hv] at HM0
    rw [hv1] at HM1
    clear hv hv1
    go_enter Tryz.func26, Tryz.ntmps26
    go_wp2_with fail
    refine HM0.out.mono ?_
    rintro e w1 ⟨rfl, hb1⟩
    go_wp2_with fail
    refine (HM1.out w1 hb1).mono ?_
    rintro e w2 ⟨rfl, hb2⟩
    go_wp2
    go_ret
    exact ⟨ret_bool HZ.out.symm, hb1.trans (hb2.mono hb1.size)⟩
  by_cases hlen : n0 ≤ n1
  · have HZ := hide (pref_4 hv hv1 HL0.out HL1.out hlen)
    have d1 : decide ((n0 : Int) ≤ (n1 : Int)) = true := by simp; omega
    have HR : Hid (∀ W, Below w.heap.size w W → Calls Tryz.prog 98 #[.slice A0 n0 c0, .slice A1 n0 c1] W fun e w' => e = .returned (.bool (decide (a = b.take n0))) ∧ Below W.heap.size W w') := fun W hW => equalLine_calls A0 A1 n0 n0 c0 c1 a (b.take n0) W (h0.below hW (Nat.le_refl _)) ((h1.first hlen).below hW (Nat.le_refl _)) hn0 hn0
    rw [hv] at HM0
    rw [hv1] at HM1
    clear hv hv1
    have hi1 : (0 : Int) ≤ (n0 : Int) := by omega
    have hi2 : (n0 : Int) ≤ (c1 : Int) := by omega
    go_enter Tryz.func26, Tryz.ntmps26
    go_wp2_with fail
    refine HM0.out.mono ?_
    rintro e w1 ⟨rfl, hb1⟩
    go_wp2_with fail
    refine (HM1.out w1 hb1).mono ?_
    rintro e w2 ⟨rfl, hb2⟩
    have hb12 := hb1.trans (hb2.mono hb1.size)
    go_wp2_with fail
    refine (HR.out w2 hb12).mono ?_
    rintro e w3 ⟨rfl, hb3⟩
    go_wp2
    go_ret
    exact ⟨ret_bool HZ.out.symm, hb12.trans (hb3.mono hb12.size)⟩
  · have HZ := hide (pref_3 HL0.out HL1.out (by omega))
    have d1 : decide ((n0 : Int) ≤ (n1 : Int)) = false := by simp; omega
    rw [hv] at HM0
    rw [hv1] at HM1
    clear hv hv1
    go_enter Tryz.func26, Tryz.ntmps26
    go_wp2_with fail
    refine HM0.out.mono ?_
    rintro e w1 ⟨rfl, hb1⟩
    go_wp2_with fail
    refine (HM1.out w1 hb1).mono ?_
    rintro e w2 ⟨rfl, hb2⟩
    go_wp2
    go_ret
    exact ⟨ret_bool HZ.out.symm, hb1.trans (hb2.mono hb1.size)⟩


end Go.Proofs.YtcclfmapbgdpdaaGreatDoor
