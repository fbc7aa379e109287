/- slices.Equal, slices.Grow, slices.Concat over grants. -/
import Derived.Test.YtidhbpnibgegdaaRightsI
import Derived.Lib.AppendZerosOnto
import Derived.Lib.SliceRun
namespace Go.Proofs.Ytidhbpnibgegdaa
open Go.RowKit
set_option linter.unusedVariables false

theorem ne_of_atG {ss ts : List GrantZ} {k : Nat} {x y : GrantZ} (hx : ss[k]? = some x) (hy : ts[k]? = some y) (h : x ≠ y) : ss ≠ ts := by
  rintro rfl
  rw [hx] at hy
  injection hy with hy
  exact h hy
set_option maxHeartbeats 1000000 in
theorem equalG_calls (A A' : Option Addr) (n n' c c' : Nat) (ss ts : List GrantZ) (w : World) (h : RdK kGrant w A n ss) (h' : RdK kGrant w A' n' ts) (hn : n ≤ 1048576) (hn' : n' ≤ 1048576) :
    Calls Try.prog 88 #[.slice A n c, .slice A' n' c'] w fun e w' => e = .returned (.bool (decide (ss = ts))) ∧ Below w.heap.size w w' := by
  have HL := hide h.2.1
  have HL' := hide h'.2.1
  by_cases hnn : n = n'
  · subst hnn
    go_enter Try.func88, Try.ntmps88
    go_wp2
    go_loopw [13] (fun i wr => ∃ (k : Nat), k ≤ n ∧ i = .int .i64 k ∧ Hid (ss.take k = ts.take k) ∧ Below w.heap.size w wr) (fun i _ => n - (intOf i).toNat)
    case atStart => exact ⟨0, Nat.zero_le _, rfl, by simp [Hid], Below.refl _ _⟩
    case round =>
      obtain ⟨k, hk, rfl, HC, hb⟩ := hrel
      by_cases hlt : k < n
      · obtain ⟨b, off, f0, f1, f2, hA, hbl, hx, hc0, hc1, hc2, _, _, _, _⟩ := (h.below hb (Nat.le_refl _)).atGrant hlt
        obtain ⟨b', off', g0, g1, g2, hA', hbl', hy, hd0, hd1, hd2, _, _, _, _⟩ := (h'.below hb (Nat.le_refl _)).atGrant hlt
        subst hA hA'
        by_cases c0 : f0 = g0
        case neg =>
          obtain ⟨e1, e1'⟩ := str_ne c0
          have HNE := hide (ne_of_atG hx.out hy.out (by simp [c0]))
          clear c0
          go_wp2
          go_quiet (fail)
          go_wp2
          go_ret
          exact ⟨ret_bool (decide_eq_false HNE.out).symm, below_drewN hb nq⟩
        by_cases c1 : f1 = g1
        case neg =>
          obtain ⟨e1, e1'⟩ := str_ne c1
          obtain ⟨e2, e2'⟩ := str_eq c0
          have HNE := hide (ne_of_atG hx.out hy.out (by simp [c1]))
          clear c0 c1
          go_wp2
          go_quiet (fail)
          go_wp2
          go_ret
          exact ⟨ret_bool (decide_eq_false HNE.out).symm, below_drewN hb nq⟩
        by_cases c2 : f2 = g2
        case neg =>
          have e3 : (f2 == g2) = false := by simpa using c2
          obtain ⟨e1, e1'⟩ := str_eq c1
          obtain ⟨e2, e2'⟩ := str_eq c0
          have HNE := hide (ne_of_atG hx.out hy.out (by simp [c2]))
          clear c0 c1 c2
          go_wp2
          go_quiet (fail)
          go_wp2
          go_ret
          exact ⟨ret_bool (decide_eq_false HNE.out).symm, below_drewN hb nq⟩
        have e3 : (f2 == g2) = true := by simpa using c2
        obtain ⟨e1, e1'⟩ := str_eq c1
        obtain ⟨e2, e2'⟩ := str_eq c0
        have HE : Hid (ss.take (k + 1) = ts.take (k + 1)) := by unfold Hid; rw [take_snoc hx.out, take_snoc hy.out, HC.out, c0, c1, c2]
        clear c0 c1 c2
        go_wp2
        go_quiet (fail)
        go_wp2
        go_roundw
        case rel => exact ⟨k + 1, by omega, by go_num, HE, below_drewN hb nq⟩
        case measure => simp [intOf]; omega
      · have hkn : k = n := by omega
        have HE : Hid (ss = ts) := by
          have := HC.out
          rwa [List.take_of_length_le (by rw [HL.out]; omega), List.take_of_length_le (by rw [HL'.out]; omega)] at this
        clear hkn
        go_wp2
        go_ret
        exact ⟨ret_bool (decide_eq_true HE.out).symm, hb⟩
  · have HNE : Hid (ss ≠ ts) := fun e => hnn (by rw [← HL.out, ← HL'.out, e])
    have hd : ((n : Int) != (n' : Int)) = true := by simp; omega
    go_enter Try.func88, Try.ntmps88
    go_wp2
    go_ret
    exact ⟨ret_bool (decide_eq_false HNE.out).symm, Below.refl _ _⟩

set_option maxRecDepth 100000 in
set_option maxHeartbeats 1000000 in
theorem growG_calls (n : Nat) (w : World) (hn : n ≤ 1048576) :
    Calls Try.prog 110 #[.slice none 0 0, .int .i64 n] w fun e w' => (∃ v, e = .returned v ∧ w'.ownsRow w.heap.size 49 3 v 0 []) ∧ Below w.heap.size w w' := by
  rcases Nat.eq_zero_or_pos n with h0 | h0
  · subst h0
    have HO := hide (World.ownsRow_nil w w.heap.size 49 3)
    go_enter Try.func110, Try.ntmps110
    go_wp2
    go_ret
    exact ⟨⟨_, rfl, HO.out⟩, Below.refl _ _⟩
  · obtain ⟨i0, hi, hz0, hz1, hz2⟩ := info_parts Try.infoGrant
    have hr := fun ty => Lib.run_append_grow_zeros (P := Try.prog) w 39 3 ty 49 i0 (.agg #[.string ⟨#[]⟩, .string ⟨#[]⟩, .int .i64 0]) .i64 .i64 Try.underlying39 Try.underlying3 hi hz0 none 0 0 [] (run_firstCells_none w.drew i0.size 0 0 0) n h0 (by rw [hz1]; omega) (by omega) (by omega) (by rw [hz2]; omega)
      (by rw [hz2]
          have : Builtin.nextslicecap (0 + n) 0 ≤ 2 * n + 64 := by
            unfold Builtin.nextslicecap
            split
            · omega
            · split
              · omega
              · omega
          omega)
    simp only [Nat.zero_add] at hr
    have hge := grownCap_ge w n 0 49
    have hle := grownCap_le_maxLen w n 0 49 (by unfold maxLen; omega)
    generalize grownCap w n 0 49 = G at hr hge hle
    have HOW : Hid ((w.drew.alloc (.cells (([] : List Value).toArray ++ Builtin.zeroCells (Value.agg #[.string ⟨#[]⟩, .string ⟨#[]⟩, .int .i64 0]).cells n ++ Builtin.zeroCells (Value.agg #[.string ⟨#[]⟩, .string ⟨#[]⟩, .int .i64 0]).cells (G - n)) 49)).ownsRow w.heap.size 49 3 (.slice (some ⟨w.heap.size, 0, none⟩) 0 G) 0 []) := by
      refine ⟨rfl, .inr ⟨w.heap.size, G, _, rfl, Nat.le_refl _, heap_alloc_new w.drew _, Nat.zero_le _, hle, ?_, by simp⟩⟩
      rw [Array.size_append, Array.size_append, size_zeroCells, size_zeroCells]
      have e : (Value.agg #[.string ⟨#[]⟩, .string ⟨#[]⟩, .int .i64 0]).cells.size = 3 := rfl
      rw [e]
      simp
      omega
    unfold maxLen at hle
    have HB : Hid (Below w.heap.size w (w.drew.alloc (.cells (([] : List Value).toArray ++ Builtin.zeroCells (Value.agg #[.string ⟨#[]⟩, .string ⟨#[]⟩, .int .i64 0]).cells n ++ Builtin.zeroCells (Value.agg #[.string ⟨#[]⟩, .string ⟨#[]⟩, .int .i64 0]).cells (G - n)) 49))) := (Below.refl _ _).drew.alloc (by simp) _
    generalize (w.drew.alloc (.cells (([] : List Value).toArray ++ Builtin.zeroCells (Value.agg #[.string ⟨#[]⟩, .string ⟨#[]⟩, .int .i64 0]).cells n ++ Builtin.zeroCells (Value.agg #[.string ⟨#[]⟩, .string ⟨#[]⟩, .int .i64 0]).cells (G - n)) 49)) = w1 at hr HOW HB
    have HR := hide hr
    clear hr
    go_enter Try.func110, Try.ntmps110
    go_wp2_with (at_builtin; refine Lib.wpList_append_run _ rfl _ _ _ _ rfl _ _ rfl rfl _ _ (HR.out _) ?_)
    go_ret
    exact ⟨⟨_, rfl, HOW.out⟩, HB.out⟩

set_option maxHeartbeats 2000000 in
/-- Two lists made one. -/
theorem concatG_calls (vb : Nat) (A : Option Addr) (n c : Nat) (gs : List GrantZ) (A' : Option Addr) (n' c' : Nat) (hs : List GrantZ) (w : World) (h : RdK kGrant w A n gs) (h' : RdK kGrant w A' n' hs) (hn : n ≤ 1000) (hn' : n' ≤ 1000) (hvl : vb < w.heap.size)
    (g0 : w.cell? ⟨vb, 0, none⟩ = some (.slice A n c)) (g1 : w.cell? ⟨vb, 1, none⟩ = some (.slice A' n' c')) :
    Calls Try.prog 85 #[.slice (some ⟨vb, 0, none⟩) 2 2] w (GrasPost (gs ++ hs) w) := by
  have HR := hide h.1
  have HR' := hide h'.1
  have HL := hide h.2.1
  have HL' := hide h'.2.1
  clear h h'
  go_enter Try.func85, Try.ntmps85
  go_wp2
  go_loop [3, 5, 11] (fun z s i => ∃ (k q : Nat), i = .int .i64 k ∧ z = .int .i64 q ∧ Hid ((k = 0 ∧ q = 0) ∨ (k = 1 ∧ q = n) ∨ (k = 2 ∧ q = n + n'))) (fun _ _ i => 2 - (intOf i).toNat)
  case atStart => exact ⟨0, 0, rfl, rfl, .inl ⟨rfl, rfl⟩⟩
  case round =>
    obtain ⟨k, q, rfl, rfl, HK⟩ := hrel
    rcases HK.out with ⟨rfl, rfl⟩ | ⟨rfl, rfl⟩ | ⟨rfl, rfl⟩
    · go_wp2
      go_round
      case rel => exact ⟨1, n, by go_num, by go_num, .inr (.inl ⟨rfl, rfl⟩)⟩
      case measure => simp [intOf]
    · go_wp2
      go_round
      case rel => exact ⟨2, q + n', by go_num, by go_num, .inr (.inr ⟨rfl, rfl⟩)⟩
      case measure => simp [intOf]
    · go_wp2_with fail
      refine (growG_calls (n + n') w (by omega)).mono ?_
      rintro e w1 ⟨⟨v1, rfl, hown1⟩, hb1⟩
      have HO1 := hide hown1
      clear hown1
      go_wp2
      go_loopw [6, 8, 27] (fun v s i wr => ∃ (j m : Nat) (xs : List GrantZ), i = .int .i64 j ∧ wr.ownsRow w.heap.size 49 3 v m (cK kGrant xs) ∧ Hid ((j = 0 ∧ m = 0 ∧ xs = []) ∨ (j = 1 ∧ m = n ∧ xs = gs) ∨ (j = 2 ∧ m = n + n' ∧ xs = gs ++ hs)) ∧ Below w.heap.size w wr) (fun _ _ i _ => 2 - (intOf i).toNat)
      case atStart => exact ⟨0, 0, [], rfl, by simpa [cK] using HO1.out, .inl ⟨rfl, rfl, rfl⟩, hb1⟩
      case round =>
        clear HO1
        obtain ⟨j, m, xs, rfl, hown, HJ, hb⟩ := hrel
        have hsz := hb.size
        have f0 := (hb.cell (p := ⟨vb, 0, none⟩) hvl).trans g0
        have f1 := (hb.cell (p := ⟨vb, 1, none⟩) hvl).trans g1
        have HRb := hide (HR.out.below hb (Nat.le_refl _))
        have HRb' := hide (HR'.out.below hb (Nat.le_refl _))
        rcases HJ.out with ⟨rfl, rfl, rfl⟩ | ⟨rfl, rfl, rfl⟩ | ⟨rfl, rfl, rfl⟩
        · have HO := hide hown
          clear hown
          go_wp2_with (at_builtin; refine appsGrant rfl _ _ rfl w.heap.size u6 0 [] rfl HO.out A n c gs rfl HRb.out (by omega) (by omega) ?_; intro v2 w2 hown2 hb2 hz2)
          go_roundw
          case rel => exact ⟨1, n, gs, by go_num, by simpa using hown2, .inr (.inl ⟨rfl, rfl, rfl⟩), hb.trans hb2⟩
          case measure => simp [intOf]
        · have HO := hide hown
          clear hown
          go_wp2_with (at_builtin; refine appsGrant rfl _ _ rfl w.heap.size u6 m xs rfl HO.out A' n' c' hs rfl HRb'.out (by omega) (by omega) ?_; intro v2 w2 hown2 hb2 hz2)
          go_roundw
          case rel => exact ⟨2, m + n', xs ++ hs, by go_num, hown2, .inr (.inr ⟨rfl, rfl, rfl⟩), hb.trans hb2⟩
          case measure => simp [intOf]
        · obtain ⟨A9, c9, rfl⟩ := own_slice hown
          have HO := hide hown
          clear hown
          go_wp2
          go_ret
          exact ⟨A9, _, c9, rfl, HO.out, by rw [List.length_append, HL.out, HL'.out], hb⟩

end Go.Proofs.Ytidhbpnibgegdaa
