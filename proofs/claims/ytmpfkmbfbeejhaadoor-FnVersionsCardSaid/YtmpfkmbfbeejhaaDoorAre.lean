/- areStates: a list of states in memory. -/
import Derived.Test.YtmpfkmbfbeejhaaDoorMg
import Derived.Test.YtmpfkmbfbeejhaaDoorVersioned
namespace Go.Proofs.YtmpfkmbfbeejhaaDoor
open Go.RowKit
set_option linter.unusedVariables false

/-- A state in memory. -/
structure StC where
  A : Option Addr
  n : Nat
  c : Nat
  state : List SetZ
/-- A slice of states that reads as rs. -/
def RdSS (w : World) (A : Option Addr) (n : Nat) (rs : List StC) : Prop := Rd w A n 1 (rs.map fun r => .slice r.A r.n r.c) ∧ rs.length = n ∧ ∀ r ∈ rs, RdS w r.A r.n r.state ∧ r.n ≤ 1048576
section
variable {w w' : World} {A : Option Addr} {n : Nat} {rs : List StC}
theorem RdSS.below {B : Nat} (h : RdSS w A n rs) (hb : Below B w w') (hB : w.heap.size ≤ B) : RdSS w' A n rs := ⟨h.1.below hb hB, h.2.1, fun r hr => ⟨(h.2.2 r hr).1.below hb hB, (h.2.2 r hr).2⟩⟩
theorem RdSS.at {k : Nat} (h : RdSS w A n rs) (hk : k < n) :
    ∃ b off A1 n1 c1 st, A = some ⟨b, off, none⟩ ∧ b < w.heap.size ∧ Hid (rs[k]? = some ⟨A1, n1, c1, st⟩) ∧ w.cell? ⟨b, off + k, none⟩ = some (.slice A1 n1 c1) ∧ RdS w A1 n1 st ∧ n1 ≤ 1048576 := by
  obtain ⟨b, off, u, e, hb, hu, hc⟩ := h.1.at1 hk
  have hl : k < rs.length := by rw [h.2.1]; exact hk
  have hx := List.getElem?_eq_getElem hl
  rw [List.getElem?_map, hx] at hu
  simp only [Option.map_some, Option.some.injEq] at hu
  subst hu
  have hf := h.2.2 _ (List.getElem_mem hl)
  exact ⟨b, off, _, _, _, _, e, hb, hx, hc, hf.1, hf.2⟩
end
/-- A literal of states. -/
theorem RdSS.lit (w : World) (rs : List StC) (h : ∀ r ∈ rs, RdS w r.A r.n r.state ∧ r.n ≤ 1048576) (hl : rs.length ≤ 100) : RdSS (w.alloc (.cells (rs.map fun r => Value.slice r.A r.n r.c).toArray 26)) (some ⟨w.heap.size, 0, none⟩) rs.length rs := by
  have hb : Below w.heap.size w (w.alloc (.cells (rs.map fun r => Value.slice r.A r.n r.c).toArray 26)) := (Below.refl _ _).alloc (Nat.le_refl _) _
  have ho := World.ownsRow_lit (base := w.heap.size) (e := 26) (size := 1) w (rs.map fun r => Value.slice r.A r.n r.c).toArray rs.length (Nat.le_refl _) (by unfold maxLen; omega) (by simp)
  exact ⟨Rd.of_own (by simpa using ho), rfl, fun r hr => ⟨(h r hr).1.below hb (Nat.le_refl _), (h r hr).2⟩⟩

theorem areStates1_q (A : Option Addr) (n c : Nat) (ss : List SetZ) (q : Bool) (w : World) (h : RdS w A n ss) (hn : n ≤ 1048576) (hq : stateB ss = q) :
    Calls Tryd.prog 54 #[.slice A n c] w fun e w' => e = .returned (.bool (!q)) ∧ Below w.heap.size w w' := by
  have HC := hide (implValidState_calls A n c ss w h hn)
  rw [hq] at HC
  clear h hq
  go_enter Tryd.func54, Tryd.ntmps54
  go_wp2_with fail
  refine HC.out.mono ?_
  rintro e w1 ⟨rfl, hb⟩
  go_wp2
  go_ret
  exact ⟨rfl, hb⟩

set_option maxHeartbeats 1000000 in
theorem indexFuncSS_calls (A : Option Addr) (n c : Nat) (rs : List StC) (w : World) (h : RdSS w A n rs) (hn : n ≤ 1048576) :
    Calls Tryd.prog 73 #[.slice A n c, .func (.func 54) #[] #[]] w fun e w' => (∃ i : Int, e = .returned (.int .i64 i) ∧ decide (0 ≤ i) = rs.any (fun r => !stateB r.state)) ∧ Below w.heap.size w w' := by
  have HL := hide h.2.1
  go_enter Tryd.func73, Tryd.ntmps73
  go_wp2
  go_loopw [8] (fun i wr => ∃ (k : Nat), k ≤ n ∧ i = .int .i64 k ∧ Hid ((rs.take k).any (fun r => !stateB r.state) = false) ∧ Below w.heap.size w wr) (fun i _ => n - (intOf i).toNat)
  case atStart => exact ⟨0, Nat.zero_le _, rfl, by simp [Hid], Below.refl _ _⟩
  case round =>
    obtain ⟨k, hk, rfl, HC, hb⟩ := hrel
    by_cases hlt : k < n
    · obtain ⟨b, off, A1, n1, c1, st, rfl, hbl, hx, hc, hst, hn1⟩ := (h.below hb (Nat.le_refl _)).at hlt
      obtain ⟨q, hq⟩ : ∃ q, stateB st = q := ⟨_, rfl⟩
      have HQ := hide hq
      clear hq
      rcases b_cases q with rfl | rfl
      · have HN := hide (any_of_at (p := fun r : StC => !stateB r.state) hx.out (by simp only; rw [HQ.out]; rfl))
        go_wp2_with (go_at_call 54; refine (areStates1_q _ _ _ _ _ _ hst hn1 HQ.out).mono ?_; rintro e w1 ⟨rfl, hb1⟩)
        go_ret
        exact ⟨⟨_, rfl, by rw [HN.out]; simp⟩, hb.trans (hb1.mono hb.size)⟩
      · have HN := hide (any_take_snoc (p := fun r : StC => !stateB r.state) hx.out HC.out (by simp only; rw [HQ.out]; rfl))
        go_wp2_with (go_at_call 54; refine (areStates1_q _ _ _ _ _ _ hst hn1 HQ.out).mono ?_; rintro e w1 ⟨rfl, hb1⟩)
        go_roundw
        case rel => exact ⟨k + 1, by omega, by go_num, HN, hb.trans (hb1.mono hb.size)⟩
        case measure => simp [intOf]; omega
    · have hkn : k = n := by omega
      subst hkn
      go_wp2
      go_ret
      exact ⟨⟨_, rfl, by rw [any_of_takes HL.out HC.out]; rfl⟩, hb⟩

theorem areStates_calls (A : Option Addr) (n c : Nat) (rs : List StC) (q : Bool) (w : World) (h : RdSS w A n rs) (hn : n ≤ 1048576) (hq : rs.any (fun r => !stateB r.state) = !q) :
    Calls Tryd.prog 24 #[.slice A n c] w fun e w' => e = .returned (.bool q) ∧ Below w.heap.size w w' := by
  have HQ := hide hq
  clear hq
  have HI := hide (indexFuncSS_calls A n c rs w h hn)
  clear h
  have HC : Hid (Calls Tryd.prog 53 #[.slice A n c, .func (.func 54) #[] #[]] w fun e w' => e = .returned (.bool (!q)) ∧ Below w.heap.size w w') := by
    unfold Hid
    go_enter Tryd.func53, Tryd.ntmps53
    go_wp2_with fail
    refine HI.out.mono ?_
    rintro e w' ⟨⟨i, rfl, hi⟩, hb⟩
    have HX := hide (hi.trans HQ.out)
    clear hi
    go_wp2
    go_ret
    exact ⟨ret_bool HX.out, hb⟩
  go_enter Tryd.func24, Tryd.ntmps24
  go_wp2_with fail
  refine HC.out.mono ?_
  rintro e w1 ⟨rfl, hb⟩
  go_wp2
  go_ret
  exact ⟨by simp, hb⟩

end Go.Proofs.YtmpfkmbfbeejhaaDoor
