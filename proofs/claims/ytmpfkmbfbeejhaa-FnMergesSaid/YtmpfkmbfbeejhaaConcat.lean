/- slices.Grow and slices.Concat over settings, of the program: a list of states made one. -/
import Derived.Test.YtmpfkmbfbeejhaaAre
import Derived.Test.YtmpfkmbfbeejhaaStSetting
import Derived.Lib.AppendZerosOnto
import Derived.Lib.SliceRun
namespace Go.Proofs.Ytmpfkmbfbeejhaa
open Go.RowKit
set_option linter.unusedVariables false

set_option maxRecDepth 100000 in
set_option maxHeartbeats 1000000 in
theorem growS_calls (n : Nat) (w : World) (hn : n ≤ 1048576) :
    Calls Try.prog 120 #[.slice none 0 0, .int .i64 n] w fun e w' => (∃ v, e = .returned v ∧ w'.ownsRow w.heap.size 77 2 v 0 []) ∧ Below w.heap.size w w' := by
  rcases Nat.eq_zero_or_pos n with h0 | h0
  · subst h0
    have HO := hide (World.ownsRow_nil w w.heap.size 77 2)
    go_enter Try.func120, Try.ntmps120
    go_wp2
    go_ret
    exact ⟨⟨_, rfl, HO.out⟩, Below.refl _ _⟩
  · obtain ⟨i0, hi, hz0, hz1, hz2⟩ := info_parts Try.infoSetting
    have hr := fun ty => Lib.run_append_grow_zeros (P := Try.prog) w 43 3 ty 77 i0 (.agg #[.string ⟨#[]⟩, .int .i64 0]) .i64 .i64 Try.underlying43 Try.underlying3 hi hz0 none 0 0 [] (run_firstCells_none w.drew i0.size 0 0 0) n h0 (by rw [hz1]; omega) (by omega) (by omega) (by rw [hz2]; omega)
      (by rw [hz2]
          have : Builtin.nextslicecap (0 + n) 0 ≤ 2 * n + 64 := by
            unfold Builtin.nextslicecap
            split
            · omega
            · split
              · omega
              · omega
          omega)
    simp only [Nat.zero_add] at hr
    have hge := grownCap_ge w n 0 77
    have hle := grownCap_le_maxLen w n 0 77 (by unfold maxLen; omega)
    generalize grownCap w n 0 77 = G at hr hge hle
    have HOW : Hid ((w.drew.alloc (.cells (([] : List Value).toArray ++ Builtin.zeroCells (Value.agg #[.string ⟨#[]⟩, .int .i64 0]).cells n ++ Builtin.zeroCells (Value.agg #[.string ⟨#[]⟩, .int .i64 0]).cells (G - n)) 77)).ownsRow w.heap.size 77 2 (.slice (some ⟨w.heap.size, 0, none⟩) 0 G) 0 []) := by
      refine ⟨rfl, .inr ⟨w.heap.size, G, _, rfl, Nat.le_refl _, heap_alloc_new w.drew _, Nat.zero_le _, hle, ?_, by simp⟩⟩
      rw [Array.size_append, Array.size_append, size_zeroCells, size_zeroCells]
      have e : (Value.agg #[.string ⟨#[]⟩, .int .i64 0]).cells.size = 2 := rfl
      rw [e]
      simp
      omega
    unfold maxLen at hle
    have HB : Hid (Below w.heap.size w (w.drew.alloc (.cells (([] : List Value).toArray ++ Builtin.zeroCells (Value.agg #[.string ⟨#[]⟩, .int .i64 0]).cells n ++ Builtin.zeroCells (Value.agg #[.string ⟨#[]⟩, .int .i64 0]).cells (G - n)) 77))) := (Below.refl _ _).drew.alloc (by simp) _
    generalize (w.drew.alloc (.cells (([] : List Value).toArray ++ Builtin.zeroCells (Value.agg #[.string ⟨#[]⟩, .int .i64 0]).cells n ++ Builtin.zeroCells (Value.agg #[.string ⟨#[]⟩, .int .i64 0]).cells (G - n)) 77)) = w1 at hr HOW HB
    have HR := hide hr
    clear hr
    go_enter Try.func120, Try.ntmps120
    go_wp2_with (at_builtin; refine Lib.wpList_append_run _ rfl _ _ _ _ rfl _ _ rfl rfl _ _ (HR.out _) ?_)
    go_ret
    exact ⟨⟨_, rfl, HOW.out⟩, HB.out⟩

/-- All settings of some states. -/
def allS (rs : List StC) : List SetZ := rs.flatMap StC.state
theorem allS_snoc {rs : List StC} {k : Nat} {r : StC} (h : rs[k]? = some r) : allS (rs.take (k + 1)) = allS (rs.take k) ++ r.state := by
  unfold allS; rw [take_snoc h]; simp
def ConcPost (rs : List StC) (w : World) (e : Ending) (w' : World) : Prop :=
  ∃ v m, e = .returned v ∧ w'.ownsRow w.heap.size 77 2 v m (cK kSetting (allS rs)) ∧ m ≤ 24 * rs.length ∧ (allS rs).length = m ∧ Below w.heap.size w w'

set_option maxHeartbeats 2000000 in
theorem concatS_calls (A : Option Addr) (n c : Nat) (rs : List StC) (w : World) (h : RdSS w A n rs) (hn : n ≤ 100) (h24 : ∀ r ∈ rs, r.n ≤ 24) :
    Calls Try.prog 89 #[.slice A n c] w (ConcPost rs w) := by
  have HL := hide h.2.1
  have H24 := hide h24
  clear h24
  go_enter Try.func89, Try.ntmps89
  go_wp2
  go_loop [3, 5, 11] (fun z s i => ∃ (k q : Nat), k ≤ n ∧ i = .int .i64 k ∧ z = .int .i64 q ∧ q ≤ 24 * k) (fun _ _ i => n - (intOf i).toNat)
  case atStart => exact ⟨0, 0, Nat.zero_le _, rfl, rfl, by omega⟩
  case round =>
    obtain ⟨k, q, hk, rfl, rfl, hq⟩ := hrel
    by_cases hlt : k < n
    · obtain ⟨b, off, A1, n1, c1, st, rfl, hbl, hx, hc, hst, hn1⟩ := h.at hlt
      have hm := H24.out _ (List.mem_of_getElem? hx.out)
      simp only at hm
      go_wp2
      go_round
      case rel => exact ⟨k + 1, q + n1, by omega, by go_num, by go_num, by omega⟩
      case measure => simp [intOf]; omega
    · have hkn : k = n := by omega
      go_wp2_with fail
      refine (growS_calls q w (by omega)).mono ?_
      rintro e w1 ⟨⟨v1, rfl, hown1⟩, hb1⟩
      have HO1 := hide hown1
      clear hown1
      go_wp2
      go_loopw [6, 8, 27] (fun v s i wr => ∃ (j m : Nat), j ≤ n ∧ i = .int .i64 j ∧ m ≤ 24 * j ∧ wr.ownsRow w.heap.size 77 2 v m (cK kSetting (allS (rs.take j))) ∧ Hid ((allS (rs.take j)).length = m) ∧ Below w.heap.size w wr) (fun _ _ i _ => n - (intOf i).toNat)
      case atStart => exact ⟨0, 0, Nat.zero_le _, rfl, by omega, by simpa [allS, cK] using HO1.out, rfl, hb1⟩
      case round =>
        clear HO1
        obtain ⟨j, m, hj, rfl, hmj, hown, HM, hb⟩ := hrel
        have HO := hide hown
        clear hown
        by_cases hlt2 : j < n
        · obtain ⟨b, off, A1, n1, c1, st, rfl, hbl, hx, hc, hst, hn1⟩ := (h.below hb (Nat.le_refl _)).at hlt2
          have hm := H24.out _ (List.mem_of_getElem? hx.out)
          simp only at hm
          have HE := hide (allS_snoc hx.out)
          have HST := hide (And.intro hst.1 hst.2.1)
          have hsz := hb.size
          clear hst
          go_wp2_with (at_builtin; refine appsSetting rfl _ _ rfl w.heap.size u6 m (allS (rs.take j)) rfl HO.out A1 n1 c1 st rfl HST.out.1 (by omega) (by omega) ?_; intro v2 w2 hown2 hb2 hz2)
          go_roundw
          case rel => exact ⟨j + 1, m + n1, by omega, by go_num, by omega, by rw [HE.out]; exact hown2, by unfold Hid; rw [HE.out, List.length_append, HM.out, HST.out.2], hb.trans hb2⟩
          case measure => simp [intOf]; omega
        · have hjn : j = n := by omega
          have HE : Hid (allS rs = allS (rs.take j)) := by unfold Hid; rw [List.take_of_length_le (by rw [HL.out]; omega)]
          go_wp2
          go_ret
          exact ⟨_, m, rfl, by rw [HE.out]; exact HO.out, by rw [HL.out]; omega, by rw [HE.out]; exact HM.out, hb⟩

end Go.Proofs.Ytmpfkmbfbeejhaa
