/- ValidHelpers and ValidTasks of the program. -/
import Derived.Test.YtcclfmapbgdpdaaGreatDoorHelK
import Derived.Test.YtcclfmapbgdpdaaGreatDoorQuietB
namespace Go.Proofs.YtcclfmapbgdpdaaGreatDoor
open Go.RowKit
set_option linter.unusedVariables false

/-- Helpers, tasks that are valid. -/
def hlpsB (xs : List HlpZ) : Bool := listB hlpB HlpZ.id 10 xs
def tsksB (xs : List HlpZ) : Bool := listB hlpB HlpZ.id 8 xs

set_option maxHeartbeats 4000000 in
set_option maxRecDepth 100000 in
theorem implValidHelpers_calls (A : Option Addr) (n c : Nat) (xs : List HlpZ) (w : World) (h : RdK kHlp w A n xs) (hn : n ≤ 1048576) :
    Calls Tryz.prog 114 #[.slice A n c] w fun e w' => e = .returned (.bool (hlpsB xs)) ∧ Below w.heap.size w w' := by
  have HL := hide h.2.1
  have HH := hide h
  clear h
  go_enter Tryz.func114, Tryz.ntmps114
  go_wp2_with fail
  go_loopw [3, 4, 7] (fun _ _ i wr => ∃ k : Nat, k ≤ n ∧ i = .int .i64 k ∧ Hid (∀ j, j < k → stepN hlpB HlpZ.id xs j = true) ∧ Below w.heap.size w wr) (fun _ _ i _ => n - (intOf i).toNat)
  case atStart => exact ⟨0, Nat.zero_le _, rfl, fun j hj => absurd hj (Nat.not_lt_zero _), Below.refl _ _⟩
  case round =>
    obtain ⟨k, hk, rfl, HS, hb⟩ := hrel
    by_cases hlt : k < n
    · obtain ⟨b, off, f0, f1, f2, hA, hbl, hx, c0, c1, c2, hs0, hss⟩ := (HH.out.below hb (Nat.le_refl _)).atHlp hlt
      obtain ⟨W, hW⟩ : ∃ W, W = wr.alloc (.cells #[.string f0, .int .i64 f1, .int .i64 f2] 70) := ⟨_, rfl⟩
      have hbW : Below wr.heap.size wr W := by rw [hW]; exact (Below.refl _ _).alloc (Nat.le_refl _) _
      have hzW : wr.heap.size < W.heap.size := by rw [hW]; simp
      have P0 := fun p : BelW W => BelW.cell (show W.cell? ⟨wr.heap.size, 0, none⟩ = some (.string f0) by rw [hW]; simp) hzW p
      have P1 := fun p : BelW W => BelW.cell (show W.cell? ⟨wr.heap.size, 1, none⟩ = some (.int .i64 f1) by rw [hW]; simp) hzW p
      have P2 := fun p : BelW W => BelW.cell (show W.cell? ⟨wr.heap.size, 2, none⟩ = some (.int .i64 f2) by rw [hW]; simp) hzW p
      have HV : Hid (∀ p : BelW W, Calls Tryz.prog 125 #[.agg #[.string f0, .int .i64 f1, .int .i64 f2]] p.1 fun e w'' => e = .returned (.bool (hlpB ⟨f0, f1, f2⟩)) ∧ ∃ q : BelW W, w'' = q.1) := fun p => Calls.bel (validHelper_calls f0 f1 f2 p.1 hs0)
      have HST := hide (stepN_at (ok := hlpB) (nm := HlpZ.id) hx.out)
      have HBW := hide (hb.trans (hbW.mono hb.size))
      have HBAD := hide (listN_bad (ok := hlpB) (nm := HlpZ.id) (M := 10) hx.out)
      generalize hlpB ⟨f0, f1, f2⟩ = ob at *
      cases ob
      · have HF := hide (HBAD.out (.inl rfl))
        go_wp2_with fail
        rw [← hW]
        clear hW
        refine wp_region_bel (by kernel_rfl) (by kernel_rfl) ?_
        repeat (refine WQ.step (fun K hK => ?_); go_simp; first | (refine hK _ ?_; clear hK K) | (apply Exists.intro; refine ⟨fun _ => ?_, hK _ ?_⟩; (go_at_call 125; exact HV.out _); clear hK K))
        refine WQ.nil ?_
        rintro w3 ⟨⟨w3, hb3⟩, rfl⟩
        have HB3 := hide (HBW.out.trans (hb3.mono HBW.out.size))
        clear hb3
        go_wp2
        go_ret
        exact ⟨ret_bool HF.out.symm, HB3.out⟩
      · rcases Nat.eq_zero_or_pos k with h0 | h0
        · subst h0
          subst hA
          simp only [Nat.zero_mul, Nat.add_zero] at c0 c1 c2
          have HS1 : Hid (∀ j, j < 0 + 1 → stepN hlpB HlpZ.id xs j = true) := upto_snocN HS.out (by rw [HST.out]; rfl)
          go_wp2_with fail
          rw [← hW]
          clear hW
          refine wp_region_bel (by kernel_rfl) (by kernel_rfl) ?_
          repeat (refine WQ.step (fun K hK => ?_); go_simp; first | (refine hK _ ?_; clear hK K) | (apply Exists.intro; refine ⟨fun _ => ?_, hK _ ?_⟩; (go_at_call 125; exact HV.out _); clear hK K))
          refine WQ.nil ?_
          rintro w3 ⟨⟨w3, hb3⟩, rfl⟩
          have HB3 := hide (HBW.out.trans (hb3.mono HBW.out.size))
          clear hb3
          go_wp2
          go_roundw
          case rel => exact ⟨1, by omega, by go_num, HS1, HB3.out⟩
          case measure => simp [intOf]; omega
        · obtain ⟨q, hq⟩ : ∃ q, q + 1 = k := ⟨k - 1, by omega⟩
          obtain ⟨b2, off2, g0, g1, g2, hA2, hbl2, hx2, d0, _, _, hr0, hrr⟩ := (HH.out.below hb (Nat.le_refl _)).atHlp (show q < n by omega)
          subst hA
          obtain ⟨rfl, rfl⟩ : b = b2 ∧ off = off2 := by simpa using hA2
          have PG := fun p : BelW W => BelW.cell (a := ⟨b, off + q * 3, none⟩) ((hbW.cell (p := ⟨b, off + q * 3, none⟩) hbl2).trans d0) (Nat.lt_trans hbl2 hzW) p
          have hup : upN HlpZ.id xs k = strLess g0 f0 := by subst hq; exact upN_at hx2.out hx.out
          have ew : IntKind.i64.wrap ((k : Int) - 1) = (q : Int) := by rw [IntKind.wrap_i64]; omega
          have i1 : (0 : Int) ≤ (q : Int) := by omega
          have i2 : (q : Int) < (n : Int) := by omega
          have d3 : decide ((0 : Int) < (k : Int)) = true := decide_eq_true (by omega)
          have d4 : decide (0 < k) = true := decide_eq_true h0
          rw [hup] at HST HBAD
          rcases str_ways g0 f0 with ⟨e1, e2, e3, e4, e5, e6, e7⟩ | ⟨e1, e2, e3, e4, e5, e6, e7⟩ | ⟨e1, e2, e3, e4, e5, e6, e7⟩
          · have HS1 := hide (upto_snocN HS.out (by rw [HST.out, e5]; rfl))
            clear hup hx hx2 hA2 hq e5 e6 e7 d0
            go_wp2_with fail
            rw [← hW]
            clear hW
            refine wp_region_bel (by kernel_rfl) (by kernel_rfl) ?_
            repeat (refine WQ.step (fun K hK => ?_); go_simp; first | (refine hK _ ?_; clear hK K) | (apply Exists.intro; refine ⟨fun _ => ?_, hK _ ?_⟩; (go_at_call 125; exact HV.out _); clear hK K))
            refine WQ.nil ?_
            rintro w3 ⟨⟨w3, hb3⟩, rfl⟩
            have HB3 := hide (HBW.out.trans (hb3.mono HBW.out.size))
            clear hb3
            go_wp2
            go_roundw
            case rel => exact ⟨k + 1, by omega, by go_num, HS1, HB3.out⟩
            case measure => simp [intOf]; omega
          · have HF := hide (HBAD.out (.inr e5))
            clear hup hx hx2 hA2 hq e5 e6 e7 d0
            go_wp2_with fail
            rw [← hW]
            clear hW
            refine wp_region_bel (by kernel_rfl) (by kernel_rfl) ?_
            repeat (refine WQ.step (fun K hK => ?_); go_simp; first | (refine hK _ ?_; clear hK K) | (apply Exists.intro; refine ⟨fun _ => ?_, hK _ ?_⟩; (go_at_call 125; exact HV.out _); clear hK K))
            refine WQ.nil ?_
            rintro w3 ⟨⟨w3, hb3⟩, rfl⟩
            have HB3 := hide (HBW.out.trans (hb3.mono HBW.out.size))
            clear hb3
            go_wp2
            go_ret
            exact ⟨ret_bool HF.out.symm, HB3.out⟩
          · have HF := hide (HBAD.out (.inr e5))
            clear hup hx hx2 hA2 hq e5 e6 e7 d0
            go_wp2_with fail
            rw [← hW]
            clear hW
            refine wp_region_bel (by kernel_rfl) (by kernel_rfl) ?_
            repeat (refine WQ.step (fun K hK => ?_); go_simp; first | (refine hK _ ?_; clear hK K) | (apply Exists.intro; refine ⟨fun _ => ?_, hK _ ?_⟩; (go_at_call 125; exact HV.out _); clear hK K))
            refine WQ.nil ?_
            rintro w3 ⟨⟨w3, hb3⟩, rfl⟩
            have HB3 := hide (HBW.out.trans (hb3.mono HBW.out.size))
            clear hb3
            go_wp2
            go_ret
            exact ⟨ret_bool HF.out.symm, HB3.out⟩
    · have hkn : k = n := by omega
      subst hkn
      have HF := hide (listN_all (ok := hlpB) (nm := HlpZ.id) (M := 10) HL.out HS.out)
      go_wp2
      go_ret
      exact ⟨ret_bool (by unfold hlpsB; rw [HF.out]; rfl), hb⟩


set_option maxHeartbeats 4000000 in
set_option maxRecDepth 100000 in
theorem implValidTasks_calls (A : Option Addr) (n c : Nat) (xs : List HlpZ) (w : World) (h : RdK kHlp w A n xs) (hn : n ≤ 1048576) :
    Calls Tryz.prog 181 #[.slice A n c] w fun e w' => e = .returned (.bool (tsksB xs)) ∧ Below w.heap.size w w' := by
  have HL := hide h.2.1
  have HH := hide h
  clear h
  go_enter Tryz.func181, Tryz.ntmps181
  go_wp2_with fail
  go_loopw [3, 4, 7] (fun _ _ i wr => ∃ k : Nat, k ≤ n ∧ i = .int .i64 k ∧ Hid (∀ j, j < k → stepN hlpB HlpZ.id xs j = true) ∧ Below w.heap.size w wr) (fun _ _ i _ => n - (intOf i).toNat)
  case atStart => exact ⟨0, Nat.zero_le _, rfl, fun j hj => absurd hj (Nat.not_lt_zero _), Below.refl _ _⟩
  case round =>
    obtain ⟨k, hk, rfl, HS, hb⟩ := hrel
    by_cases hlt : k < n
    · obtain ⟨b, off, f0, f1, f2, hA, hbl, hx, c0, c1, c2, hs0, hss⟩ := (HH.out.below hb (Nat.le_refl _)).atHlp hlt
      obtain ⟨W, hW⟩ : ∃ W, W = wr.alloc (.cells #[.string f0, .int .i64 f1, .int .i64 f2] 67) := ⟨_, rfl⟩
      have hbW : Below wr.heap.size wr W := by rw [hW]; exact (Below.refl _ _).alloc (Nat.le_refl _) _
      have hzW : wr.heap.size < W.heap.size := by rw [hW]; simp
      have P0 := fun p : BelW W => BelW.cell (show W.cell? ⟨wr.heap.size, 0, none⟩ = some (.string f0) by rw [hW]; simp) hzW p
      have P1 := fun p : BelW W => BelW.cell (show W.cell? ⟨wr.heap.size, 1, none⟩ = some (.int .i64 f1) by rw [hW]; simp) hzW p
      have P2 := fun p : BelW W => BelW.cell (show W.cell? ⟨wr.heap.size, 2, none⟩ = some (.int .i64 f2) by rw [hW]; simp) hzW p
      have HV : Hid (∀ p : BelW W, Calls Tryz.prog 115 #[.agg #[.string f0, .int .i64 f1, .int .i64 f2]] p.1 fun e w'' => e = .returned (.bool (hlpB ⟨f0, f1, f2⟩)) ∧ ∃ q : BelW W, w'' = q.1) := fun p => Calls.bel (validTask_calls f0 f1 f2 p.1 hs0)
      have HST := hide (stepN_at (ok := hlpB) (nm := HlpZ.id) hx.out)
      have HBW := hide (hb.trans (hbW.mono hb.size))
      have HBAD := hide (listN_bad (ok := hlpB) (nm := HlpZ.id) (M := 8) hx.out)
      generalize hlpB ⟨f0, f1, f2⟩ = ob at *
      cases ob
      · have HF := hide (HBAD.out (.inl rfl))
        go_wp2_with fail
        rw [← hW]
        clear hW
        refine wp_region_bel (by kernel_rfl) (by kernel_rfl) ?_
        repeat (refine WQ.step (fun K hK => ?_); go_simp; first | (refine hK _ ?_; clear hK K) | (apply Exists.intro; refine ⟨fun _ => ?_, hK _ ?_⟩; (go_at_call 115; exact HV.out _); clear hK K))
        refine WQ.nil ?_
        rintro w3 ⟨⟨w3, hb3⟩, rfl⟩
        have HB3 := hide (HBW.out.trans (hb3.mono HBW.out.size))
        clear hb3
        go_wp2
        go_ret
        exact ⟨ret_bool HF.out.symm, HB3.out⟩
      · rcases Nat.eq_zero_or_pos k with h0 | h0
        · subst h0
          subst hA
          simp only [Nat.zero_mul, Nat.add_zero] at c0 c1 c2
          have HS1 : Hid (∀ j, j < 0 + 1 → stepN hlpB HlpZ.id xs j = true) := upto_snocN HS.out (by rw [HST.out]; rfl)
          go_wp2_with fail
          rw [← hW]
          clear hW
          refine wp_region_bel (by kernel_rfl) (by kernel_rfl) ?_
          repeat (refine WQ.step (fun K hK => ?_); go_simp; first | (refine hK _ ?_; clear hK K) | (apply Exists.intro; refine ⟨fun _ => ?_, hK _ ?_⟩; (go_at_call 115; exact HV.out _); clear hK K))
          refine WQ.nil ?_
          rintro w3 ⟨⟨w3, hb3⟩, rfl⟩
          have HB3 := hide (HBW.out.trans (hb3.mono HBW.out.size))
          clear hb3
          go_wp2
          go_roundw
          case rel => exact ⟨1, by omega, by go_num, HS1, HB3.out⟩
          case measure => simp [intOf]; omega
        · obtain ⟨q, hq⟩ : ∃ q, q + 1 = k := ⟨k - 1, by omega⟩
          obtain ⟨b2, off2, g0, g1, g2, hA2, hbl2, hx2, d0, _, _, hr0, hrr⟩ := (HH.out.below hb (Nat.le_refl _)).atHlp (show q < n by omega)
          subst hA
          obtain ⟨rfl, rfl⟩ : b = b2 ∧ off = off2 := by simpa using hA2
          have PG := fun p : BelW W => BelW.cell (a := ⟨b, off + q * 3, none⟩) ((hbW.cell (p := ⟨b, off + q * 3, none⟩) hbl2).trans d0) (Nat.lt_trans hbl2 hzW) p
          have hup : upN HlpZ.id xs k = strLess g0 f0 := by subst hq; exact upN_at hx2.out hx.out
          have ew : IntKind.i64.wrap ((k : Int) - 1) = (q : Int) := by rw [IntKind.wrap_i64]; omega
          have i1 : (0 : Int) ≤ (q : Int) := by omega
          have i2 : (q : Int) < (n : Int) := by omega
          have d3 : decide ((0 : Int) < (k : Int)) = true := decide_eq_true (by omega)
          have d4 : decide (0 < k) = true := decide_eq_true h0
          rw [hup] at HST HBAD
          rcases str_ways g0 f0 with ⟨e1, e2, e3, e4, e5, e6, e7⟩ | ⟨e1, e2, e3, e4, e5, e6, e7⟩ | ⟨e1, e2, e3, e4, e5, e6, e7⟩
          · have HS1 := hide (upto_snocN HS.out (by rw [HST.out, e5]; rfl))
            clear hup hx hx2 hA2 hq e5 e6 e7 d0
            go_wp2_with fail
            rw [← hW]
            clear hW
            refine wp_region_bel (by kernel_rfl) (by kernel_rfl) ?_
            repeat (refine WQ.step (fun K hK => ?_); go_simp; first | (refine hK _ ?_; clear hK K) | (apply Exists.intro; refine ⟨fun _ => ?_, hK _ ?_⟩; (go_at_call 115; exact HV.out _); clear hK K))
            refine WQ.nil ?_
            rintro w3 ⟨⟨w3, hb3⟩, rfl⟩
            have HB3 := hide (HBW.out.trans (hb3.mono HBW.out.size))
            clear hb3
            go_wp2
            go_roundw
            case rel => exact ⟨k + 1, by omega, by go_num, HS1, HB3.out⟩
            case measure => simp [intOf]; omega
          · have HF := hide (HBAD.out (.inr e5))
            clear hup hx hx2 hA2 hq e5 e6 e7 d0
            go_wp2_with fail
            rw [← hW]
            clear hW
            refine wp_region_bel (by kernel_rfl) (by kernel_rfl) ?_
            repeat (refine WQ.step (fun K hK => ?_); go_simp; first | (refine hK _ ?_; clear hK K) | (apply Exists.intro; refine ⟨fun _ => ?_, hK _ ?_⟩; (go_at_call 115; exact HV.out _); clear hK K))
            refine WQ.nil ?_
            rintro w3 ⟨⟨w3, hb3⟩, rfl⟩
            have HB3 := hide (HBW.out.trans (hb3.mono HBW.out.size))
            clear hb3
            go_wp2
            go_ret
            exact ⟨ret_bool HF.out.symm, HB3.out⟩
          · have HF := hide (HBAD.out (.inr e5))
            clear hup hx hx2 hA2 hq e5 e6 e7 d0
            go_wp2_with fail
            rw [← hW]
            clear hW
            refine wp_region_bel (by kernel_rfl) (by kernel_rfl) ?_
            repeat (refine WQ.step (fun K hK => ?_); go_simp; first | (refine hK _ ?_; clear hK K) | (apply Exists.intro; refine ⟨fun _ => ?_, hK _ ?_⟩; (go_at_call 115; exact HV.out _); clear hK K))
            refine WQ.nil ?_
            rintro w3 ⟨⟨w3, hb3⟩, rfl⟩
            have HB3 := hide (HBW.out.trans (hb3.mono HBW.out.size))
            clear hb3
            go_wp2
            go_ret
            exact ⟨ret_bool HF.out.symm, HB3.out⟩
    · have hkn : k = n := by omega
      subst hkn
      have HF := hide (listN_all (ok := hlpB) (nm := HlpZ.id) (M := 8) HL.out HS.out)
      go_wp2
      go_ret
      exact ⟨ret_bool (by unfold tsksB; rw [HF.out]; rfl), hb⟩


end Go.Proofs.YtcclfmapbgdpdaaGreatDoor
