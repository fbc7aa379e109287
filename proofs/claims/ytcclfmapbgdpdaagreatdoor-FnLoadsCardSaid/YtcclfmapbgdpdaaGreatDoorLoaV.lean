/- ValidGroups of the program, l17Ok of the reference, at valid groups; grouped, tooLarge. -/
import Derived.Test.YtcclfmapbgdpdaaGreatDoorLoaN
import Derived.Test.YtcclfmapbgdpdaaGreatDoorQuietB
namespace Go.Proofs.YtcclfmapbgdpdaaGreatDoor
open Go.RowKit
set_option linter.unusedVariables false

theorem BelW.stay {w w' : World} {a : Addr} {v : Value} (h : w.cell? a = some v) (hb : a.block < w.heap.size) (hw : Below w.heap.size w w') : w'.cell? a = some v := (hw.cell hb).trans h
theorem grps_mem {xs : List GrpZ} (h : grpsB xs = true) : ∀ x ∈ xs, grpB x = true := listN_mem h
theorem grps_len {xs : List GrpZ} (h : grpsB xs = true) : xs.length ≤ 12 := listN_len h
theorem grps_up {xs : List GrpZ} (h : grpsB xs = true) {q : Nat} {x y : GrpZ} (hx : xs[q]? = some x) (hy : xs[q + 1]? = some y) : strLess x.id y.id = true := by
  have := listN_step h (List.getElem?_eq_some_iff.1 hy).1
  rw [stepN_at hy, Bool.and_eq_true, upN_at hx hy] at this
  exact this.2

set_option maxHeartbeats 4000000 in
set_option maxRecDepth 100000 in
theorem implValidGroups_calls (A : Option Addr) (n c : Nat) (xs : List GrpZ) (w : World) (h : RdK kGrp w A n xs) (hv : grpsB xs = true) :
    Calls Tryz.prog 58 #[.slice A n c] w fun e w' => e = .returned (.bool true) ∧ Below w.heap.size w w' := by
  have hn : n ≤ 12 := by have := grps_len hv; rw [h.2.1] at this; exact this
  have HV0 := hide hv
  have HH := hide h
  clear h hv
  go_enter Tryz.func58, Tryz.ntmps58
  go_wp2_with fail
  go_loopw [3, 4, 7] (fun _ _ i wr => ∃ k : Nat, k ≤ n ∧ i = .int .i64 k ∧ Below w.heap.size w wr) (fun _ _ i _ => n - (intOf i).toNat)
  case atStart => exact ⟨0, Nat.zero_le _, rfl, Below.refl _ _⟩
  case round =>
    obtain ⟨k, hk, rfl, hb⟩ := hrel
    by_cases hlt : k < n
    · obtain ⟨b, off, f0, f1, f2, f3, hA, hbl, hx, c0, c1, c2, c3, hs0, hss⟩ := (HH.out.below hb (Nat.le_refl _)).atGrp hlt
      obtain ⟨W, hW⟩ : ∃ W, W = wr.alloc (.cells #[.string f0, .int .i64 f1, .int .i64 f2, .int .i64 f3] 98) := ⟨_, rfl⟩
      have hbW : Below wr.heap.size wr W := by rw [hW]; exact (Below.refl _ _).alloc (Nat.le_refl _) _
      have hzW : wr.heap.size < W.heap.size := by rw [hW]; simp
      have P0 := fun p : BelW W => BelW.cell (show W.cell? ⟨wr.heap.size, 0, none⟩ = some (.string f0) by rw [hW]; simp) hzW p
      have P1 := fun p : BelW W => BelW.cell (show W.cell? ⟨wr.heap.size, 1, none⟩ = some (.int .i64 f1) by rw [hW]; simp) hzW p
      have P2 := fun p : BelW W => BelW.cell (show W.cell? ⟨wr.heap.size, 2, none⟩ = some (.int .i64 f2) by rw [hW]; simp) hzW p
      have P3 := fun p : BelW W => BelW.cell (show W.cell? ⟨wr.heap.size, 3, none⟩ = some (.int .i64 f3) by rw [hW]; simp) hzW p
      have hg := grps_mem HV0.out _ (List.mem_of_getElem? hx.out)
      have HV : Hid (∀ p : BelW W, Calls Tryz.prog 139 #[.agg #[.string f0, .int .i64 f1, .int .i64 f2, .int .i64 f3]] p.1 fun e w'' => e = .returned (.bool true) ∧ ∃ q : BelW W, w'' = q.1) := fun p => Calls.bel (validGroup_calls f0 f1 f2 f3 p.1 hg)
      have HBW := hide (hb.trans (hbW.mono hb.size))
      clear hg
      rcases Nat.eq_zero_or_pos k with h0 | h0
      · subst h0
        subst hA
        simp only [Nat.zero_mul, Nat.add_zero] at c0 c1 c2 c3
        clear hx
        go_wp2_with fail
        rw [← hW]
        clear hW
        refine wp_region_bel (by kernel_rfl) (by kernel_rfl) ?_
        repeat (refine WQ.step (fun K hK => ?_); go_simp; first | (refine hK _ ?_; clear hK K) | (apply Exists.intro; refine ⟨fun _ => ?_, hK _ ?_⟩; (go_at_call 139; exact HV.out _); clear hK K))
        refine WQ.nil ?_
        rintro w3 ⟨⟨w3, hb3⟩, rfl⟩
        have HB3 := hide (HBW.out.trans (hb3.mono HBW.out.size))
        clear hb3
        go_wp2
        go_roundw
        case rel => exact ⟨1, by omega, by go_num, HB3.out⟩
        case measure => simp [intOf]; omega
      · obtain ⟨q, hq⟩ : ∃ q, q + 1 = k := ⟨k - 1, by omega⟩
        obtain ⟨b2, off2, g0, g1, g2, g3, hA2, hbl2, hx2, d0, _, _, _, hr0, hrr⟩ := (HH.out.below hb (Nat.le_refl _)).atGrp (show q < n by omega)
        subst hA
        obtain ⟨rfl, rfl⟩ : b = b2 ∧ off = off2 := by simpa using hA2
        have PG := fun p : BelW W => BelW.cell (a := ⟨b, off + q * 4, none⟩) ((hbW.cell (p := ⟨b, off + q * 4, none⟩) hbl2).trans d0) (Nat.lt_trans hbl2 hzW) p
        have hup : strLess g0 f0 = true := by subst hq; exact grps_up HV0.out hx2.out hx.out
        have ew : IntKind.i64.wrap ((k : Int) - 1) = (q : Int) := by rw [IntKind.wrap_i64]; omega
        have i1 : (0 : Int) ≤ (q : Int) := by omega
        have i2 : (q : Int) < (n : Int) := by omega
        have d3 : decide ((0 : Int) < (k : Int)) = true := decide_eq_true (by omega)
        have d4 : decide (0 < k) = true := decide_eq_true h0
        rcases str_ways g0 f0 with ⟨e1, e2, e3, e4, e5, e6, e7⟩ | ⟨e1, e2, e3, e4, e5, e6, e7⟩ | ⟨e1, e2, e3, e4, e5, e6, e7⟩
        · clear hup hx hx2 hA2 hq e5 e6 e7 d0
          go_wp2_with fail
          rw [← hW]
          clear hW
          refine wp_region_bel (by kernel_rfl) (by kernel_rfl) ?_
          repeat (refine WQ.step (fun K hK => ?_); go_simp; first | (refine hK _ ?_; clear hK K) | (apply Exists.intro; refine ⟨fun _ => ?_, hK _ ?_⟩; (go_at_call 139; exact HV.out _); clear hK K))
          refine WQ.nil ?_
          rintro w3 ⟨⟨w3, hb3⟩, rfl⟩
          have HB3 := hide (HBW.out.trans (hb3.mono HBW.out.size))
          clear hb3
          go_wp2
          go_roundw
          case rel => exact ⟨k + 1, by omega, by go_num, HB3.out⟩
          case measure => simp [intOf]; omega
        · rw [hup] at e5; cases e5
        · rw [hup] at e5; cases e5
    · have hkn : k = n := by omega
      subst hkn
      have HB := hide hb
      go_wp2
      go_ret
      exact ⟨ret_bool (decide_eq_true (by omega)), HB.out⟩

set_option maxHeartbeats 4000000 in
set_option maxRecDepth 100000 in
theorem l17Ok_calls (A : Option Addr) (n c : Nat) (xs : List GrpZ) (w : World) (h : RdK kGrp w A n xs) (hv : grpsB xs = true) :
    Calls Tryz.prog 141 #[.slice A n c] w fun e w' => e = .returned (.bool true) ∧ Below w.heap.size w w' := by
  have hn : n ≤ 12 := by have := grps_len hv; rw [h.2.1] at this; exact this
  have HV0 := hide hv
  have HH := hide h
  clear h hv
  go_enter Tryz.func141, Tryz.ntmps141
  go_wp2_with fail
  go_loopw [3] (fun i wr => ∃ k : Nat, k ≤ n ∧ i = .int .i64 k ∧ Below w.heap.size w wr) (fun i _ => n - (intOf i).toNat)
  case atStart => exact ⟨0, Nat.zero_le _, rfl, Below.refl _ _⟩
  case round =>
    obtain ⟨k, hk, rfl, hb⟩ := hrel
    by_cases hlt : k < n
    · obtain ⟨b, off, f0, f1, f2, f3, hA, hbl, hx, c0, c1, c2, c3, hs0, hss⟩ := (HH.out.below hb (Nat.le_refl _)).atGrp hlt
      have P0 := fun p : BelW wr => BelW.cell c0 hbl p
      have P1 := fun p : BelW wr => BelW.cell c1 hbl p
      have P2 := fun p : BelW wr => BelW.cell c2 hbl p
      have P3 := fun p : BelW wr => BelW.cell c3 hbl p
      have hg := grps_mem HV0.out _ (List.mem_of_getElem? hx.out)
      have HV : Hid (∀ p : BelW wr, Calls Tryz.prog 195 #[.pointer (some ⟨b, off + k * 4, none⟩)] p.1 fun e w'' => e = .returned (.bool true) ∧ ∃ q : BelW wr, w'' = q.1) := fun p => Calls.bel_same (l17One_calls f0 f1 f2 f3 b (off + k * 4) p.1 hg (P0 p) (P1 p) (P2 p) (P3 p))
      have HBW := hide hb
      have i3 : (0 : Int) ≤ (k : Int) := by omega
      have i4 : (k : Int) < (n : Int) := by omega
      subst hA
      clear hg
      rcases Nat.eq_zero_or_pos k with h0 | h0
      · subst h0
        simp only [Nat.zero_mul, Nat.add_zero] at c0 c1 c2 c3 P0 P1 P2 P3 HV
        clear hx
        go_wp2_with fail
        refine wp_region_bel (by kernel_rfl) (by kernel_rfl) ?_
        repeat (refine WQ.step (fun K hK => ?_); go_simp; first | (refine hK _ ?_; clear hK K) | (apply Exists.intro; refine ⟨fun _ => ?_, hK _ ?_⟩; (go_at_call 195; exact HV.out _); clear hK K))
        refine WQ.nil ?_
        rintro w3 ⟨⟨w3, hb3⟩, rfl⟩
        have HB3 := hide (HBW.out.trans (hb3.mono HBW.out.size))
        clear hb3
        go_wp2
        go_roundw
        case rel => exact ⟨1, by omega, by go_num, HB3.out⟩
        case measure => simp [intOf]; omega
      · obtain ⟨q, hq⟩ : ∃ q, q + 1 = k := ⟨k - 1, by omega⟩
        obtain ⟨b2, off2, g0, g1, g2, g3, hA2, hbl2, hx2, d0, _, _, _, hr0, hrr⟩ := (HH.out.below hb (Nat.le_refl _)).atGrp (show q < n by omega)
        obtain ⟨rfl, rfl⟩ : b = b2 ∧ off = off2 := by simpa using hA2
        have PG := fun p : BelW wr => BelW.cell d0 hbl2 p
        have hup : strLess g0 f0 = true := by subst hq; exact grps_up HV0.out hx2.out hx.out
        have ew : IntKind.i64.wrap ((k : Int) - 1) = (q : Int) := by rw [IntKind.wrap_i64]; omega
        have i1 : (0 : Int) ≤ (q : Int) := by omega
        have i2 : (q : Int) < (n : Int) := by omega
        have d3 : decide ((0 : Int) < (k : Int)) = true := decide_eq_true (by omega)
        have d4 : decide (0 < k) = true := decide_eq_true h0
        rcases str_ways g0 f0 with ⟨e1, e2, e3, e4, e5, e6, e7⟩ | ⟨e1, e2, e3, e4, e5, e6, e7⟩ | ⟨e1, e2, e3, e4, e5, e6, e7⟩
        · clear hup hx hx2 hA2 hq e5 e6 e7 d0
          go_wp2_with fail
          refine wp_region_bel (by kernel_rfl) (by kernel_rfl) ?_
          repeat (refine WQ.step (fun K hK => ?_); go_simp; first | (refine hK _ ?_; clear hK K) | (apply Exists.intro; refine ⟨fun _ => ?_, hK _ ?_⟩; (go_at_call 195; exact HV.out _); clear hK K))
          refine WQ.nil ?_
          rintro w3 ⟨⟨w3, hb3⟩, rfl⟩
          have HB3 := hide (HBW.out.trans (hb3.mono HBW.out.size))
          clear hb3
          go_wp2
          go_roundw
          case rel => exact ⟨k + 1, by omega, by go_num, HB3.out⟩
          case measure => simp [intOf]; omega
        · rw [hup] at e5; cases e5
        · rw [hup] at e5; cases e5
    · have hkn : k = n := by omega
      subst hkn
      have HB := hide hb
      go_wp2
      go_ret
      exact ⟨ret_bool (decide_eq_true (by omega)), HB.out⟩

set_option maxHeartbeats 1000000 in
theorem grouped_calls (A : Option Addr) (n c : Nat) (xs : List GrpZ) (r : RmZ) (w : World) (h : RdK kGrp w A n xs) (hv : grpsB xs = true) (hr : roomB r = true) :
    Calls Tryz.prog 132 #[.slice A n c, rmV r] w fun e w' => e = .returned (.int .i64 0) ∧ Below w.heap.size w w' := by
  obtain ⟨W, hW⟩ : ∃ W, W = w.alloc (.cells #[.int .i64 r.p, .int .i64 r.b, .int .i64 r.k] 87) := ⟨_, rfl⟩
  have hB : Below w.heap.size w W := by rw [hW]; exact (Below.refl _ _).alloc (Nat.le_refl _) _
  have hz : w.heap.size < W.heap.size := by rw [hW]; simp
  have HA : Hid (At3 87 W w.heap.size (.int .i64 r.p) (.int .i64 r.b) (.int .i64 r.k)) := by rw [hW]; exact At3.new _ _ _ _ _
  have HG := hide (implValidGroups_calls A n c xs W (h.below hB (Nat.le_refl _)) hv)
  have HR := hide (fun W => implValidRoom_calls r W hr)
  have HB := hide hB
  clear h hv hr hB
  go_enter Tryz.func132, Tryz.ntmps132
  go_wp2_with fail
  rw [← hW]
  clear hW
  refine HG.out.mono ?_
  rintro e w2 ⟨rfl, hb2⟩
  obtain ⟨c0, c1, c2, _⟩ := (HA.out.below hb2 hz).out
  have HB2 := hide (HB.out.trans (hb2.mono HB.out.size))
  clear hb2 HG
  go_wp2_with fail
  refine (HR.out _).mono ?_
  rintro e w3 ⟨rfl, hb3⟩
  have HB3 := hide (HB2.out.trans (hb3.mono HB2.out.size))
  clear hb3 c0 c1 c2
  go_wp2
  go_ret
  exact ⟨rfl, HB3.out⟩

/-- All groups fit alone. -/
def AllFit (xs : List GrpZ) (r : RmZ) : Prop := ∀ x ∈ xs, fitsZ (needZ x) r = true

set_option maxHeartbeats 4000000 in
set_option maxRecDepth 100000 in
theorem tooLarge_calls (A : Option Addr) (n c : Nat) (xs : List GrpZ) (r : RmZ) (w : World) (h : RdK kGrp w A n xs) (hv : grpsB xs = true) (hf : AllFit xs r) :
    Calls Tryz.prog 133 #[.slice A n c, rmV r] w fun e w' => e = .returned (.slice none 0 0) ∧ Below w.heap.size w w' := by
  have hn : n ≤ 12 := by have := grps_len hv; rw [h.2.1] at this; exact this
  obtain ⟨rp, rb, rk⟩ := r
  have HV0 := hide hv
  have HF0 := hide hf
  obtain ⟨w0, hw0⟩ : ∃ w0, w0 = w.alloc (.cells #[.int .i64 rp, .int .i64 rb, .int .i64 rk] 87) := ⟨_, rfl⟩
  have hB : Below w.heap.size w w0 := by rw [hw0]; exact (Below.refl _ _).alloc (Nat.le_refl _) _
  have hz : w.heap.size < w0.heap.size := by rw [hw0]; simp
  have HA : Hid (At3 87 w0 w.heap.size (.int .i64 rp) (.int .i64 rb) (.int .i64 rk)) := by rw [hw0]; exact At3.new _ _ _ _ _
  have HB := hide hB
  have HH := hide (h.below hB (Nat.le_refl _))
  clear h hv hf hB
  go_enter Tryz.func133, Tryz.ntmps133
  go_wp2_with fail
  rw [← hw0]
  clear hw0
  go_loopw [5, 7, 10] (fun v _ i wr => ∃ k : Nat, k ≤ n ∧ i = .int .i64 k ∧ v = .slice none 0 0 ∧ Below w0.heap.size w0 wr) (fun _ _ i _ => n - (intOf i).toNat)
  case atStart => exact ⟨0, Nat.zero_le _, rfl, rfl, Below.refl _ _⟩
  case round =>
    obtain ⟨k, hk, rfl, rfl, hb⟩ := hrel
    by_cases hlt : k < n
    · obtain ⟨b, off, f0, f1, f2, f3, hA, hbl, hx, c0, c1, c2, c3, hs0, hss⟩ := (HH.out.below hb (Nat.le_refl _)).atGrp hlt
      obtain ⟨W, hW⟩ : ∃ W, W = wr.alloc (.cells #[.string f0, .int .i64 f1, .int .i64 f2, .int .i64 f3] 98) := ⟨_, rfl⟩
      have hbW : Below wr.heap.size wr W := by rw [hW]; exact (Below.refl _ _).alloc (Nat.le_refl _) _
      have hzW : wr.heap.size < W.heap.size := by rw [hW]; simp
      have P0 := fun p : BelW W => BelW.cell (show W.cell? ⟨wr.heap.size, 0, none⟩ = some (.string f0) by rw [hW]; simp) hzW p
      have P1 := fun p : BelW W => BelW.cell (show W.cell? ⟨wr.heap.size, 1, none⟩ = some (.int .i64 f1) by rw [hW]; simp) hzW p
      have P2 := fun p : BelW W => BelW.cell (show W.cell? ⟨wr.heap.size, 2, none⟩ = some (.int .i64 f2) by rw [hW]; simp) hzW p
      have P3 := fun p : BelW W => BelW.cell (show W.cell? ⟨wr.heap.size, 3, none⟩ = some (.int .i64 f3) by rw [hW]; simp) hzW p
      obtain ⟨a0, a1, a2, _⟩ := ((HA.out.below hb hz).below hbW (Nat.lt_of_lt_of_le hz hb.size)).out
      have hz2 : w.heap.size < W.heap.size := by have := hb.size; omega
      have R0 := fun p : BelW W => BelW.cell a0 hz2 p
      have R1 := fun p : BelW W => BelW.cell a1 hz2 p
      have R2 := fun p : BelW W => BelW.cell a2 hz2 p
      obtain ⟨_, _, _, hg1, hg2, hg3⟩ := grp_ok (grps_mem HV0.out _ (List.mem_of_getElem? hx.out))
      have hft : fitsZ ⟨f1, f2, 75 * f1 + 15 * f2 + f3⟩ ⟨rp, rb, rk⟩ = true := HF0.out _ (List.mem_of_getElem? hx.out)
      have HN : Hid (∀ p : BelW W, Calls Tryz.prog 135 #[.agg #[.string f0, .int .i64 f1, .int .i64 f2, .int .i64 f3]] p.1 fun e w'' => e = .returned (.agg #[.int .i64 f1, .int .i64 f2, .int .i64 (75 * f1 + 15 * f2 + f3)]) ∧ ∃ q : BelW W, w'' = q.1) := fun p => Calls.bel (need_calls f0 f1 f2 f3 p.1 ⟨by omega, hg1.2⟩ hg2 hg3)
      have HF : Hid (∀ p : BelW W, Calls Tryz.prog 136 #[.agg #[.int .i64 f1, .int .i64 f2, .int .i64 (75 * f1 + 15 * f2 + f3)], .agg #[.int .i64 rp, .int .i64 rb, .int .i64 rk]] p.1 fun e w'' => e = .returned (.bool true) ∧ ∃ q : BelW W, w'' = q.1) := fun p => by
        have := Calls.bel (fits_calls f1 f2 (75 * f1 + 15 * f2 + f3) rp rb rk p.1)
        rw [hft] at this
        exact this
      have HBW := hide (hb.trans (hbW.mono hb.size))
      subst hA
      clear hg1 hg2 hg3 hft a0 a1 a2 hx
      go_wp2_with fail
      rw [← hW]
      clear hW
      refine wp_region_bel (by kernel_rfl) (by kernel_rfl) ?_
      repeat (refine WQ.step (fun K hK => ?_); go_simp; first | (refine hK _ ?_; clear hK K) | (apply Exists.intro; refine ⟨fun _ => ?_, hK _ ?_⟩; (go_at_call 135; exact HN.out _); clear hK K) | (apply Exists.intro; refine ⟨fun _ => ?_, hK _ ?_⟩; (go_at_call 136; exact HF.out _); clear hK K))
      refine WQ.nil ?_
      rintro w3 ⟨⟨w3, hb3⟩, rfl⟩
      have HB3 := hide (HBW.out.trans (hb3.mono HBW.out.size))
      clear hb3
      go_wp2
      go_roundw
      case rel => exact ⟨k + 1, by omega, by go_num, rfl, HB3.out⟩
      case measure => simp [intOf]; omega
    · have hkn : k = n := by omega
      subst hkn
      have HB2 := hide (HB.out.trans (hb.mono HB.out.size))
      go_wp2
      go_ret
      exact ⟨rfl, HB2.out⟩

end Go.Proofs.YtcclfmapbgdpdaaGreatDoor
