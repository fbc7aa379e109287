/- The laws' draws of states and histories; bytes of an input. -/
import Derived.Test.YtmpfkmbfbeejhaaDoorDrawH
namespace Go.Proofs.YtmpfkmbfbeejhaaDoor
open Go.RowKit
set_option linter.unusedVariables false

theorem r8Long_calls (A B : Option Addr) (n m c d : Nat) (w : World) :
    Calls Tryd.prog 4 #[.slice A n c, .slice B m d] w fun e w' => e = .returned (.bool (!decide (n ≤ 1048576) || !decide (m ≤ 1048576))) ∧ w = w' := by
  by_cases h1 : n ≤ 1048576
  · have g1 : decide ((1048576 : Int) < n) = false := decide_eq_false (by omega)
    by_cases h2 : m ≤ 1048576
    · have g2 : decide ((1048576 : Int) < m) = false := decide_eq_false (by omega)
      have HR : Hid (true = true ∧ (!decide (n ≤ 1048576) || !decide (m ≤ 1048576)) = false) := ⟨rfl, by simp [h1, h2]⟩
      clear h1 h2
      go_enter Tryd.func4, Tryd.ntmps4
      go_wp2
      go_ret
      exact ⟨by rw [HR.out.2]; rfl, rfl⟩
    · have g2 : decide ((1048576 : Int) < m) = true := decide_eq_true (by omega)
      have HR : Hid (true = true ∧ (!decide (n ≤ 1048576) || !decide (m ≤ 1048576)) = true) := ⟨rfl, by simp [h1, h2]⟩
      clear h1 h2
      go_enter Tryd.func4, Tryd.ntmps4
      go_wp2
      go_ret
      exact ⟨by rw [HR.out.2]; rfl, rfl⟩
  · have g1 : decide ((1048576 : Int) < n) = true := decide_eq_true (by omega)
    have HR : Hid (true = true ∧ (!decide (n ≤ 1048576) || !decide (m ≤ 1048576)) = true) := ⟨rfl, by simp [h1]⟩
    clear h1
    go_enter Tryd.func4, Tryd.ntmps4
    go_wp2
    go_ret
    exact ⟨by rw [HR.out.2]; rfl, rfl⟩

theorem RdY.at {w : World} {A : Option Addr} {n k : Nat} {bs : List Int} (h : RdY w A n bs) (hk : k < n) : ∃ b off v, A = some ⟨b, off, none⟩ ∧ b < w.heap.size ∧ w.cell? ⟨b, off + k, none⟩ = some (.int .u8 v) ∧ 0 ≤ v ∧ v ≤ 255 := by
  obtain ⟨b, off, u, hA, hb, hu, hc⟩ := h.1.at1 hk
  have hk2 : k < bs.length := by rw [h.len]; exact hk
  have hx := List.getElem?_eq_getElem hk2
  simp only [cY, List.getElem?_map, hx, Option.map_some, Option.some.injEq] at hu
  subst hu
  have := h.2 _ (List.getElem_mem hk2)
  exact ⟨b, off, _, hA, hb, hc, this.1, this.2⟩

set_option maxHeartbeats 1000000 in
theorem r8At_calls (A : Option Addr) (n c k : Nat) (m : Int) (bs : List Int) (w : World) (h : RdY w A n bs) (hn : n ≤ 1048576) (hk : k ≤ 1000) (hm : I64 m) :
    Calls Tryd.prog 11 #[.slice A n c, .int .i64 k, .int .i64 m] w fun e w' => ∃ x : Nat, e = .returned (.int .i64 (x : Int)) ∧ ((x : Int) < m ∨ x = 0) ∧ x ≤ 255 ∧ w = w' := by
  by_cases h1 : m ≤ 1
  · have g1 : decide (m ≤ 1) = true := decide_eq_true h1
    clear h
    go_enter Tryd.func11, Tryd.ntmps11
    go_wp2
    go_ret
    exact ⟨0, rfl, .inr rfl, by omega, rfl⟩
  · have g1 : decide (m ≤ 1) = false := decide_eq_false h1
    by_cases h2 : n ≤ k
    · have g2 : decide ((n : Int) ≤ (k : Int)) = true := decide_eq_true (by omega)
      clear h
      go_enter Tryd.func11, Tryd.ntmps11
      go_wp2
      go_ret
      exact ⟨0, rfl, .inr rfl, by omega, rfl⟩
    · have g2 : decide ((n : Int) ≤ (k : Int)) = false := decide_eq_false (by omega)
      obtain ⟨b, off, v, rfl, hb, hc, hv1, hv2⟩ := h.at (show k < n by omega)
      obtain ⟨q, hq, hqm⟩ := rem_nat (m := m) hv1 (by omega)
      have hqv : q ≤ 255 := by
        have e1 := Int.emod_add_mul_ediv v m
        have e2 := Int.mul_nonneg (show 0 ≤ m by omega) (Int.ediv_nonneg hv1 (show 0 ≤ m by omega))
        omega
      have HQ := hide (And.intro hq (And.intro hqm hqv))
      have i1 : (0 : Int) ≤ (k : Int) := by omega
      have i2 : (k : Int) < (n : Int) := by omega
      have hm0 : m ≠ 0 := by omega
      clear hq hqm h hqv
      go_enter Tryd.func11, Tryd.ntmps11
      go_wp2
      go_ret
      exact ⟨q, by rw [HQ.out.1]; rfl, .inl HQ.out.2.1, HQ.out.2.2, rfl⟩

theorem r8State_calls (n c : Nat) (A : Option Addr) (bs : List Int) (w : World) (h : RdY w A n bs) (hn : n ≤ 1048576) :
    Calls Tryd.prog 6 #[.slice A n c] w fun e w' => ∃ (A' : Option Addr) (m c' : Nat) (ss : List SetZ), e = .returned (.slice A' m c') ∧ RdS w' A' m ss ∧ Sm ss ∧ m ≤ 6 ∧ Below w.heap.size w w' := by
  have F := hide (l00From_calls n c A bs w h hn)
  clear h
  go_enter Tryd.func6, Tryd.ntmps6
  go_wp2_with fail
  refine F.out.mono ?_
  rintro e w1 ⟨rfl, s1, hb1, hz1⟩
  have D := hide (l27DrawState_calls w.heap.size n c 0 A w1 s1 (by omega))
  have HB1 := hide hb1
  clear s1 hb1
  go_wp2_with fail
  refine D.out.mono ?_
  rintro e w2 ⟨A', m, c', ss, a', rfl, hown, hl, hsm, ha', s2, r2⟩
  have HH : Hid (RdS w2 A' m ss ∧ Sm ss ∧ m ≤ 6 ∧ Below w.heap.size w w2) := ⟨own_state hown hl hsm.fine, hsm, by rw [← hl]; exact hsm.len, HB1.out.trans ⟨r2.os, r2.tape, r2.output, r2.size, fun k hk => r2.block k (by have := HB1.out.size; omega) (.inl hk)⟩⟩
  clear hown hl hsm s2 r2 ha'
  go_wp2
  go_ret
  exact ⟨A', m, c', ss, rfl, HH.out.1, HH.out.2.1, HH.out.2.2.1, HH.out.2.2.2⟩

theorem r8Changed_calls (n c : Nat) (A : Option Addr) (bs : List Int) (B : Option Addr) (l cb : Nat) (ts : List SetZ) (w : World) (h : RdY w A n bs) (hn : n ≤ 1048576) (hr : RdS w B l ts) (hts : Sm ts) :
    Calls Tryd.prog 7 #[.slice A n c, .slice B l cb] w fun e w' => ∃ (A' : Option Addr) (m c' : Nat) (ss : List SetZ), e = .returned (.slice A' m c') ∧ RdS w' A' m ss ∧ Sm ss ∧ m ≤ 6 ∧ Below w.heap.size w w' := by
  have F := hide (l00From_calls n c A bs w h hn)
  have HR := hide hr
  clear h hr
  go_enter Tryd.func7, Tryd.ntmps7
  go_wp2_with fail
  refine F.out.mono ?_
  rintro e w1 ⟨rfl, s1, hb1, hz1⟩
  have D := hide (l27Changed_calls w.heap.size n c 0 A B l cb ts w1 s1 (by omega) (HR.out.below hb1 (Nat.le_refl _)) hts)
  have HB1 := hide hb1
  clear s1 hb1
  go_wp2_with fail
  refine D.out.mono ?_
  rintro e w2 ⟨A', m, c', ss, a', rfl, hown, hl, hsm, ha', s2, r2⟩
  have HH : Hid (RdS w2 A' m ss ∧ Sm ss ∧ m ≤ 6 ∧ Below w.heap.size w w2) := ⟨own_state hown hl hsm.fine, hsm, by rw [← hl]; exact hsm.len, HB1.out.trans ⟨r2.os, r2.tape, r2.output, r2.size, fun k hk => r2.block k (by have := HB1.out.size; omega) (.inl hk)⟩⟩
  clear hown hl hsm s2 r2 ha'
  go_wp2
  go_ret
  exact ⟨A', m, c', ss, rfl, HH.out.1, HH.out.2.1, HH.out.2.2.1, HH.out.2.2.2⟩

theorem r8History_calls (n c : Nat) (A : Option Addr) (bs : List Int) (w : World) (h : RdY w A n bs) (hn : n ≤ 1048576) :
    Calls Tryd.prog 5 #[.slice A n c] w fun e w' => ∃ (A' : Option Addr) (m c' : Nat) (rs : List VerC), e = .returned (.slice A' m c') ∧ RdV w' A' m rs ∧ histB (zV rs) = true ∧ (∀ r ∈ rs, Sm r.state) ∧ m ≤ 5 ∧ Below w.heap.size w w' := by
  have F := hide (l00From_calls n c A bs w h hn)
  clear h
  go_enter Tryd.func5, Tryd.ntmps5
  go_wp2_with fail
  refine F.out.mono ?_
  rintro e w1 ⟨rfl, s1, hb1, hz1⟩
  have D := hide (l27Draw_calls w.heap.size n c 0 A w1 s1 (by omega))
  have HB1 := hide hb1
  clear s1 hb1
  go_wp2_with fail
  refine D.out.mono ?_
  rintro e w2 ⟨A', m, c', rs, a', rfl, hgr, hh, hm, ha', s2, r2⟩
  have HH : Hid (RdV w2 A' m rs ∧ histB (zV rs) = true ∧ (∀ r ∈ rs, Sm r.state) ∧ m ≤ 5 ∧ Below w.heap.size w w2) := ⟨hgr.rd, hh, fun r hr => (hgr.2.2 r hr).2.1, hm, HB1.out.trans ⟨r2.os, r2.tape, r2.output, r2.size, fun k hk => r2.block k (by have := HB1.out.size; omega) (.inl hk)⟩⟩
  clear hgr hh hm s2 r2 ha'
  go_wp2
  go_ret
  exact ⟨A', m, c', rs, rfl, HH.out.1, HH.out.2.1, HH.out.2.2.1, HH.out.2.2.2.1, HH.out.2.2.2.2⟩
theorem short_of {rs : List VerC} (h : ∀ r ∈ rs, Sm r.state) : Short (zV rs) := by
  intro v hv
  unfold zV at hv
  obtain ⟨r, hr, rfl⟩ := List.mem_map.1 hv
  have := (h r hr).len
  show r.state.length ≤ 1048576
  omega

end Go.Proofs.YtmpfkmbfbeejhaaDoor
