/- Gaps in a series: contracts of what FillGaps calls. -/
import Derived.Test.YtcclfmapbgdpdaaGreatDoorRows
import Derived.Test.YtcclfmapbgdpdaaGreatDoorFillZ
import Derived.Test.YtcclfmapbgdpdaaGreatDoorMg
namespace Go.Proofs.YtcclfmapbgdpdaaGreatDoor
open Go.RowKit
set_option linter.unusedVariables false

theorem appsI {w : World} {ops : Array Oper} {rest : List Oper} {o : Oper} {a : Act} {Q : Exit → Act → World → Prop} (hgd : o.guard = none) (s x : Operand)
    (ho : o.op = .call { callee := .builtin .append, args := #[s, x], argTypes := #[24, 24] })
    (base : Nat) (v : Value) (n : Nat) (xs : List Int) (hs : a.eval s = v) (hown : w.ownsRow base 2 1 v n (cK kI xs))
    (Ax : Option Addr) (m cx : Nat) (ys : List Int) (hx : a.eval x = .slice Ax m cx) (hy : Rd w Ax m 1 (cK kI ys)) (hn : n + m ≤ 1099511627776) (hbase : base ≤ w.heap.size)
    (h : ∀ v' w', w'.ownsRow base 2 1 v' (n + m) (cK kI (xs ++ ys)) → Below base w w' → w.heap.size ≤ w'.heap.size → wpList Tryz.prog ops Q rest (a.put o.dst v') w') : wpList Tryz.prog ops Q (o :: rest) a w :=
  appKs_gen kI hgd s x 24 ho base 2 (.int .i64 0) 8 Tryz.underlying24 Tryz.info2 rfl (by decide) (by omega) v n xs hs hown Ax m cx ys hx hy hn hbase h

theorem own_addr {w : World} {base : Nat} {e : TypeId} {size n : Nat} {v : Value} {xs : List Value} (h : w.ownsRow base e size v n xs) (hn : 1 ≤ n) : ∃ g c, v = .slice (some ⟨g, 0, none⟩) n c := by
  rcases h.2 with ⟨rfl, rfl⟩ | ⟨g, cap, cur, rfl, _⟩
  · omega
  · exact ⟨g, cap, rfl⟩


set_option maxHeartbeats 1000000 in
theorem cloneI_calls (A : Option Addr) (n c : Nat) (xs : List Int) (w : World) (h : RdI w A n xs) (hn : n ≤ 1048576) :
    Calls Tryz.prog 85 #[.slice A n c] w fun e w' => ∃ A' c', e = .returned (.slice A' n c') ∧ w'.ownsRow w.heap.size 2 1 (.slice A' n c') n (cI xs) ∧ Below w.heap.size w w' := by
  have heq := fun (w : World) (a : Option Addr) => Lib.run_eql_slice_nil (P := Tryz.prog) w 24 2 a n c 0 0 Tryz.underlying24
  rcases A with _ | ad
  · have h0 : n = 0 := by
      rcases Nat.eq_zero_or_pos n with h0 | h0
      · exact h0
      · obtain ⟨_, _, hA, _⟩ := h.1.2 h0
        cases hA
    subst h0
    have hs : xs = [] := List.eq_nil_of_length_eq_zero h.len
    subst hs
    have HO := hide (World.ownsRow_nil w w.heap.size 2 1)
    clear h
    go_enter Tryz.func85, Tryz.ntmps85
    go_wp2
    go_ret
    exact ⟨none, 0, rfl, HO.out, Below.refl _ _⟩
  · have hlit := World.ownsRow_lit (base := w.heap.size) (e := 2) (size := 1) w #[] 0 (Nat.le_refl _) (by simp) rfl
    have hba : Below w.heap.size w (w.alloc (.cells #[] 2)) := (Below.refl _ _).alloc (Nat.le_refl _) _
    have HO := hide (And.intro hlit (by rw [cK_kI]; exact h.1.below hba (Nat.le_refl _) : Rd (w.alloc (.cells #[] 2)) (some ad) n 1 (cK kI xs)))
    clear hlit h
    go_enter Tryz.func85, Tryz.ntmps85
    go_wp2_with (at_builtin; refine appsI rfl _ _ rfl w.heap.size (.slice (some ⟨w.heap.size, 0, none⟩) 0 0) 0 [] rfl HO.out.1 (some ad) n c xs rfl HO.out.2 (by omega) (by simp) ?_; intro v' w4 hown4 hb4 hz4)
    rw [Nat.zero_add, List.nil_append, cK_kI] at hown4
    obtain ⟨A', c', rfl⟩ := own_slice hown4
    go_ret
    exact ⟨A', c', rfl, hown4, hba.trans hb4⟩


set_option maxHeartbeats 1000000 in
theorem blend_calls (l i h : Nat) (y z : Int) (w : World) (hy : 0 ≤ y ∧ y ≤ 1000000) (hz : 0 ≤ z ∧ z ≤ 1000000) (h1 : l < i) (h2 : i < h) (h3 : h ≤ 60) :
    Calls Tryz.prog 87 #[.int .i64 l, .int .i64 y, .int .i64 h, .int .i64 z, .int .i64 i] w fun e w' => e = .returned (.int .i64 (y + nearZ ((z - y) * (i - l)) (h - l))) ∧ ∃ j, w' = w.drewN j := by
  obtain ⟨b1, b2, b3, b4⟩ := blend_bd hy hz h1 h2 h3
  have e1 : decide ((i : Int) ≤ l) = false := by simp; omega
  have e2 : decide ((h : Int) ≤ l) = false := by simp; omega
  have e3 : decide ((h : Int) ≤ i) = false := by simp; omega
  go_enter Tryz.func87, Tryz.ntmps87
  go_wp2_with fail
  refine (nearest_calls _ _ _ (by omega) (by omega) (by omega) (by omega)).mono ?_
  rintro e w' ⟨rfl, j, rfl⟩
  go_wp2
  go_ret
  exact ⟨rfl, _, rfl⟩

set_option maxHeartbeats 2000000 in
theorem l00Rises_calls (A : Option Addr) (m c : Nat) (ms : List Int) (lo hi : Int) (w : World) (h : RdI w A m ms) (hm : m ≤ 1048576) :
    Calls Tryz.prog 143 #[.slice A m c, .int .i64 lo, .int .i64 hi] w fun e w' => e = .returned (.bool (risB ms lo hi m)) ∧ ∃ j, w' = w.drewN j := by
  go_enter Tryz.func143, Tryz.ntmps143
  go_wp2
  go_loopw [7] (fun i wr => ∃ (k : Nat), k ≤ m ∧ i = .int .i64 k ∧ Hid (risB ms lo hi k = true) ∧ ∃ j, wr = w.drewN j) (fun i _ => m - (intOf i).toNat)
  case atStart => exact ⟨0, by omega, rfl, rfl, 0, rfl⟩
  case round =>
    obtain ⟨k, hk, rfl, HR, j, rfl⟩ := hrel
    by_cases hlt : k < m
    · obtain ⟨b, off, x, rfl, hbl, hx, hc, hx1, hx2⟩ := h.at hlt
      rcases b_cases (withinB x lo hi) with hwi | hwi
      · have hin : ∀ w, Calls Tryz.prog 162 #[.int .i64 x, .int .i64 lo, .int .i64 hi] w fun e w' => e = .returned (.bool false) ∧ w = w' := fun w => by have := l00In_calls x lo hi w; rwa [hwi] at this
        have HF : Hid (risB ms lo hi m = false) := by
          refine risB_mono (k := k + 1) (by omega) ?_
          rw [risB, getD_at hx.out, hwi, Bool.and_false, Bool.false_and]
        clear hwi
        go_wp2
        go_quiet ((go_at_call 162; first | exact quiet_eq (hin _) | exact quiet_eq2 (hin _)))
        go_wp2
        go_ret
        exact ⟨ret_bool HF.out.symm, (by first | exact ⟨_, rfl⟩ | exact drewN2 _ _ _)⟩
      · have hin : ∀ w, Calls Tryz.prog 162 #[.int .i64 x, .int .i64 lo, .int .i64 hi] w fun e w' => e = .returned (.bool true) ∧ w = w' := fun w => by have := l00In_calls x lo hi w; rwa [hwi] at this
        rcases k with _ | k
        · have hc0 : w.cell? ⟨b, off, none⟩ = some (.int .i64 x) := hc
          clear hc
          have HS : Hid (risB ms lo hi 1 = true) := by unfold Hid; rw [risB_step0 hx.out]; exact hwi
          clear hwi
          go_wp2
          go_quiet ((go_at_call 162; first | exact quiet_eq (hin _) | exact quiet_eq2 (hin _)))
          go_wp2
          go_roundw
          case rel => exact ⟨1, by omega, by go_num, HS, (by first | exact ⟨_, rfl⟩ | exact drewN2 _ _ _)⟩
          case measure => simp [intOf]; omega
        · obtain ⟨b0, off0, y, hbo, hbl', hy, hc', hy1, hy2⟩ := h.at (k := k) (by omega)
          obtain ⟨rfl, rfl⟩ : b = b0 ∧ off = off0 := by simpa using hbo
          clear hbo
          have hg : (0 : Int) < (k : Int) + 1 := by omega
          by_cases hle : x ≤ y
          · have HF : Hid (risB ms lo hi m = false) := by
              refine risB_mono (k := k + 2) (by omega) ?_
              rw [risB_step hx.out hy.out, decide_eq_false (by omega), Bool.and_false]
            clear hwi
            go_wp2
            go_quiet ((go_at_call 162; first | exact quiet_eq (hin _) | exact quiet_eq2 (hin _)))
            go_wp2
            go_ret
            exact ⟨ret_bool HF.out.symm, (by first | exact ⟨_, rfl⟩ | exact drewN2 _ _ _)⟩
          · have HS : Hid (risB ms lo hi (k + 2) = true) := by
              unfold Hid
              rw [risB_step hx.out hy.out, HR.out, hwi, decide_eq_true (by omega)]; rfl
            clear hwi
            go_wp2
            go_quiet ((go_at_call 162; first | exact quiet_eq (hin _) | exact quiet_eq2 (hin _)))
            go_wp2
            go_roundw
            case rel => exact ⟨k + 2, by omega, by go_num, HS, (by first | exact ⟨_, rfl⟩ | exact drewN2 _ _ _)⟩
            case measure => simp [intOf]; omega
    · have hkn : k = m := by omega
      subst hkn
      go_wp2
      go_ret
      exact ⟨ret_bool HR.out.symm, _, rfl⟩

end Go.Proofs.YtcclfmapbgdpdaaGreatDoor
