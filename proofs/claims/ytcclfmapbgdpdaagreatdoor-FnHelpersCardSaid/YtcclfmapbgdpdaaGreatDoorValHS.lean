/- Valid helpers and tasks: the reference. -/
import Derived.Test.YtcclfmapbgdpdaaGreatDoorValH
namespace Go.Proofs.YtcclfmapbgdpdaaGreatDoor
open Go.RowKit
set_option linter.unusedVariables false

set_option maxHeartbeats 1000000 in
theorem l24HelperR_calls (r : ByteArray) (o k : Int) (B q : Nat) (w : World) (hr : r.size ≤ 1048576) (p0 : w.cell? ⟨B, q, none⟩ = some (.string r)) (p1 : w.cell? ⟨B, q + 1, none⟩ = some (.int .i64 o)) (p2 : w.cell? ⟨B, q + 2, none⟩ = some (.int .i64 k)) :
    Calls Tryz.prog 129 #[.pointer (some ⟨B, q, none⟩)] w fun e w' => e = .returned (.bool (hlpB ⟨r, o, k⟩)) ∧ w = w' := by
  have HF : Hid (hlpB ⟨r, o, k⟩ = (nameB r && (withinB o 0 7 && withinB k 0 1000))) := rfl
  have HN := hide (l01Name_calls r w (by omega))
  generalize nameB r = nb at *
  go_enter Tryz.func129, Tryz.ntmps129
  go_wp2_with fail
  refine HN.out.mono ?_
  rintro e w2 ⟨rfl, rfl⟩
  cases nb
  · go_wp2
    go_ret
    exact ⟨ret_bool (by rw [HF.out]; rfl), rfl⟩
  · have H1 := hide (l24Skills_calls o w)
    generalize withinB o 0 7 = ob at *
    go_wp2_with fail
    refine H1.out.mono ?_
    rintro e w3 ⟨rfl, rfl⟩
    cases ob
    · go_wp2
      go_ret
      exact ⟨ret_bool (by rw [HF.out]; rfl), rfl⟩
    · have H2 := hide (l24Minutes_calls k w)
      generalize withinB k 0 1000 = kb at *
      go_wp2_with fail
      refine H2.out.mono ?_
      rintro e w3 ⟨rfl, rfl⟩
      go_wp2
      go_ret
      exact ⟨ret_bool (by rw [HF.out]; simp), rfl⟩

set_option maxHeartbeats 1000000 in
theorem l24TaskR_calls (r : ByteArray) (o k : Int) (B q : Nat) (w : World) (hr : r.size ≤ 1048576) (p0 : w.cell? ⟨B, q, none⟩ = some (.string r)) (p1 : w.cell? ⟨B, q + 1, none⟩ = some (.int .i64 o)) (p2 : w.cell? ⟨B, q + 2, none⟩ = some (.int .i64 k)) :
    Calls Tryz.prog 186 #[.pointer (some ⟨B, q, none⟩)] w fun e w' => e = .returned (.bool (hlpB ⟨r, o, k⟩)) ∧ w = w' := by
  have HF : Hid (hlpB ⟨r, o, k⟩ = (nameB r && (withinB o 0 7 && withinB k 0 1000))) := rfl
  have HN := hide (l01Name_calls r w (by omega))
  generalize nameB r = nb at *
  go_enter Tryz.func186, Tryz.ntmps186
  go_wp2_with fail
  refine HN.out.mono ?_
  rintro e w2 ⟨rfl, rfl⟩
  cases nb
  · go_wp2
    go_ret
    exact ⟨ret_bool (by rw [HF.out]; rfl), rfl⟩
  · have H1 := hide (l24Skills_calls o w)
    generalize withinB o 0 7 = ob at *
    go_wp2_with fail
    refine H1.out.mono ?_
    rintro e w3 ⟨rfl, rfl⟩
    cases ob
    · go_wp2
      go_ret
      exact ⟨ret_bool (by rw [HF.out]; rfl), rfl⟩
    · have H2 := hide (l24Minutes_calls k w)
      generalize withinB k 0 1000 = kb at *
      go_wp2_with fail
      refine H2.out.mono ?_
      rintro e w3 ⟨rfl, rfl⟩
      go_wp2
      go_ret
      exact ⟨ret_bool (by rw [HF.out]; simp), rfl⟩

set_option maxHeartbeats 4000000 in
set_option maxRecDepth 100000 in
theorem specl24Helpers_calls (A : Option Addr) (n c : Nat) (xs : List HlpZ) (w : World) (h : RdK kHlp w A n xs) (hn : n ≤ 1048576) :
    Calls Tryz.prog 121 #[.slice A n c] w fun e w' => e = .returned (.bool (hlpsB xs)) ∧ Below w.heap.size w w' := by
  have HL := hide h.2.1
  have HH := hide h
  clear h
  go_enter Tryz.func121, Tryz.ntmps121
  go_wp2_with fail
  go_loopw [3] (fun i wr => ∃ k : Nat, k ≤ n ∧ i = .int .i64 k ∧ Hid (∀ j, j < k → stepN hlpB HlpZ.id xs j = true) ∧ Below w.heap.size w wr) (fun i _ => n - (intOf i).toNat)
  case atStart => exact ⟨0, Nat.zero_le _, rfl, fun j hj => absurd hj (Nat.not_lt_zero _), Below.refl _ _⟩
  case round =>
    obtain ⟨k, hk, rfl, HS, hb⟩ := hrel
    by_cases hlt : k < n
    · obtain ⟨b, off, f0, f1, f2, hA, hbl, hx, c0, c1, c2, hs0, hss⟩ := (HH.out.below hb (Nat.le_refl _)).atHlp hlt
      have P0 := fun p : BelW wr => BelW.cell c0 hbl p
      have P1 := fun p : BelW wr => BelW.cell c1 hbl p
      have P2 := fun p : BelW wr => BelW.cell c2 hbl p
      have HV : Hid (∀ p : BelW wr, Calls Tryz.prog 129 #[.pointer (some ⟨b, off + k * 3, none⟩)] p.1 fun e w'' => e = .returned (.bool (hlpB ⟨f0, f1, f2⟩)) ∧ ∃ q : BelW wr, w'' = q.1) := fun p => Calls.bel_same (l24HelperR_calls f0 f1 f2 b (off + k * 3) p.1 hs0 (P0 p) (P1 p) (P2 p))
      have HST := hide (stepN_at (ok := hlpB) (nm := HlpZ.id) hx.out)
      have HBW := hide hb
      have HBAD := hide (listN_bad (ok := hlpB) (nm := HlpZ.id) (M := 10) hx.out)
      have i3 : (0 : Int) ≤ (k : Int) := by omega
      have i4 : (k : Int) < (n : Int) := by omega
      generalize hlpB ⟨f0, f1, f2⟩ = ob at *
      subst hA
      cases ob
      · have HF := hide (HBAD.out (.inl rfl))
        go_wp2_with fail
        refine wp_region_bel (by kernel_rfl) (by kernel_rfl) ?_
        repeat (refine WQ.step (fun K hK => ?_); go_simp; first | (refine hK _ ?_; clear hK K) | (apply Exists.intro; refine ⟨fun _ => ?_, hK _ ?_⟩; (go_at_call 129; exact HV.out _); clear hK K))
        refine WQ.nil ?_
        rintro w3 ⟨⟨w3, hb3⟩, rfl⟩
        have HB3 := hide (HBW.out.trans (hb3.mono HBW.out.size))
        clear hb3
        go_wp2
        go_ret
        exact ⟨ret_bool HF.out.symm, HB3.out⟩
      · rcases Nat.eq_zero_or_pos k with h0 | h0
        · subst h0
          simp only [Nat.zero_mul, Nat.add_zero] at c0 c1 c2 P0 P1 P2 HV
          have HS1 : Hid (∀ j, j < 0 + 1 → stepN hlpB HlpZ.id xs j = true) := upto_snocN HS.out (by rw [HST.out]; rfl)
          go_wp2_with fail
          refine wp_region_bel (by kernel_rfl) (by kernel_rfl) ?_
          repeat (refine WQ.step (fun K hK => ?_); go_simp; first | (refine hK _ ?_; clear hK K) | (apply Exists.intro; refine ⟨fun _ => ?_, hK _ ?_⟩; (go_at_call 129; exact HV.out _); clear hK K))
          refine WQ.nil ?_
          rintro w3 ⟨⟨w3, hb3⟩, rfl⟩
          have HB3 := hide (HBW.out.trans (hb3.mono HBW.out.size))
          clear hb3
          go_wp2
          go_roundw
          case rel => exact ⟨1, by omega, by go_num, HS1, HB3.out⟩
          case measure => simp [intOf]; omega
        · obtain ⟨q, hq⟩ : ∃ q, q + 1 = k := ⟨k - 1, by omega⟩
          obtain ⟨b2, off2, g0, g1, g2, hA2, hbl2, hx2, d0, _, _, hr0, hrr⟩ := (HH.out.below hb (Nat.le_refl _)).atHlp (show q < n by omega)
          obtain ⟨rfl, rfl⟩ : b = b2 ∧ off = off2 := by simpa using hA2
          have PG := fun p : BelW wr => BelW.cell d0 hbl2 p
          have hup : upN HlpZ.id xs k = strLess g0 f0 := by subst hq; exact upN_at hx2.out hx.out
          have ew : IntKind.i64.wrap ((k : Int) - 1) = (q : Int) := by rw [IntKind.wrap_i64]; omega
          have i1 : (0 : Int) ≤ (q : Int) := by omega
          have i2 : (q : Int) < (n : Int) := by omega
          have d3 : decide ((0 : Int) < (k : Int)) = true := decide_eq_true (by omega)
          have d4 : decide (0 < k) = true := decide_eq_true h0
          rw [hup] at HST HBAD
          rcases str_ways g0 f0 with ⟨e1, e2, e3, e4, e5, e6, e7⟩ | ⟨e1, e2, e3, e4, e5, e6, e7⟩ | ⟨e1, e2, e3, e4, e5, e6, e7⟩
          · have HS1 := hide (upto_snocN HS.out (by rw [HST.out, e5]; rfl))
            clear hup hx hx2 hA2 hq e5 e6 e7
            go_wp2_with fail
            refine wp_region_bel (by kernel_rfl) (by kernel_rfl) ?_
            repeat (refine WQ.step (fun K hK => ?_); go_simp; first | (refine hK _ ?_; clear hK K) | (apply Exists.intro; refine ⟨fun _ => ?_, hK _ ?_⟩; (go_at_call 129; exact HV.out _); clear hK K))
            refine WQ.nil ?_
            rintro w3 ⟨⟨w3, hb3⟩, rfl⟩
            have HB3 := hide (HBW.out.trans (hb3.mono HBW.out.size))
            clear hb3
            go_wp2
            go_roundw
            case rel => exact ⟨k + 1, by omega, by go_num, HS1, HB3.out⟩
            case measure => simp [intOf]; omega
          · have HF := hide (HBAD.out (.inr e5))
            clear hup hx hx2 hA2 hq e5 e6 e7
            go_wp2_with fail
            refine wp_region_bel (by kernel_rfl) (by kernel_rfl) ?_
            repeat (refine WQ.step (fun K hK => ?_); go_simp; first | (refine hK _ ?_; clear hK K) | (apply Exists.intro; refine ⟨fun _ => ?_, hK _ ?_⟩; (go_at_call 129; exact HV.out _); clear hK K))
            refine WQ.nil ?_
            rintro w3 ⟨⟨w3, hb3⟩, rfl⟩
            have HB3 := hide (HBW.out.trans (hb3.mono HBW.out.size))
            clear hb3
            go_wp2
            go_ret
            exact ⟨ret_bool HF.out.symm, HB3.out⟩
          · have HF := hide (HBAD.out (.inr e5))
            clear hup hx hx2 hA2 hq e5 e6 e7
            go_wp2_with fail
            refine wp_region_bel (by kernel_rfl) (by kernel_rfl) ?_
            repeat (refine WQ.step (fun K hK => ?_); go_simp; first | (refine hK _ ?_; clear hK K) | (apply Exists.intro; refine ⟨fun _ => ?_, hK _ ?_⟩; (go_at_call 129; exact HV.out _); clear hK K))
            refine WQ.nil ?_
            rintro w3 ⟨⟨w3, hb3⟩, rfl⟩
            have HB3 := hide (HBW.out.trans (hb3.mono HBW.out.size))
            clear hb3
            go_wp2
            go_ret
            exact ⟨ret_bool HF.out.symm, HB3.out⟩
    · have hkn : k = n := by omega
      subst hkn
      have HF := hide (listN_all (ok := hlpB) (nm := HlpZ.id) (M := 10) HL.out HS.out)
      go_wp2
      go_ret
      exact ⟨ret_bool (by unfold hlpsB; rw [HF.out]; rfl), hb⟩


set_option maxHeartbeats 4000000 in
set_option maxRecDepth 100000 in
theorem specl24Tasks_calls (A : Option Addr) (n c : Nat) (xs : List HlpZ) (w : World) (h : RdK kHlp w A n xs) (hn : n ≤ 1048576) :
    Calls Tryz.prog 122 #[.slice A n c] w fun e w' => e = .returned (.bool (tsksB xs)) ∧ Below w.heap.size w w' := by
  have HL := hide h.2.1
  have HH := hide h
  clear h
  go_enter Tryz.func122, Tryz.ntmps122
  go_wp2_with fail
  go_loopw [3] (fun i wr => ∃ k : Nat, k ≤ n ∧ i = .int .i64 k ∧ Hid (∀ j, j < k → stepN hlpB HlpZ.id xs j = true) ∧ Below w.heap.size w wr) (fun i _ => n - (intOf i).toNat)
  case atStart => exact ⟨0, Nat.zero_le _, rfl, fun j hj => absurd hj (Nat.not_lt_zero _), Below.refl _ _⟩
  case round =>
    obtain ⟨k, hk, rfl, HS, hb⟩ := hrel
    by_cases hlt : k < n
    · obtain ⟨b, off, f0, f1, f2, hA, hbl, hx, c0, c1, c2, hs0, hss⟩ := (HH.out.below hb (Nat.le_refl _)).atHlp hlt
      have P0 := fun p : BelW wr => BelW.cell c0 hbl p
      have P1 := fun p : BelW wr => BelW.cell c1 hbl p
      have P2 := fun p : BelW wr => BelW.cell c2 hbl p
      have HV : Hid (∀ p : BelW wr, Calls Tryz.prog 186 #[.pointer (some ⟨b, off + k * 3, none⟩)] p.1 fun e w'' => e = .returned (.bool (hlpB ⟨f0, f1, f2⟩)) ∧ ∃ q : BelW wr, w'' = q.1) := fun p => Calls.bel_same (l24TaskR_calls f0 f1 f2 b (off + k * 3) p.1 hs0 (P0 p) (P1 p) (P2 p))
      have HST := hide (stepN_at (ok := hlpB) (nm := HlpZ.id) hx.out)
      have HBW := hide hb
      have HBAD := hide (listN_bad (ok := hlpB) (nm := HlpZ.id) (M := 8) hx.out)
      have i3 : (0 : Int) ≤ (k : Int) := by omega
      have i4 : (k : Int) < (n : Int) := by omega
      generalize hlpB ⟨f0, f1, f2⟩ = ob at *
      subst hA
      cases ob
      · have HF := hide (HBAD.out (.inl rfl))
        go_wp2_with fail
        refine wp_region_bel (by kernel_rfl) (by kernel_rfl) ?_
        repeat (refine WQ.step (fun K hK => ?_); go_simp; first | (refine hK _ ?_; clear hK K) | (apply Exists.intro; refine ⟨fun _ => ?_, hK _ ?_⟩; (go_at_call 186; exact HV.out _); clear hK K))
        refine WQ.nil ?_
        rintro w3 ⟨⟨w3, hb3⟩, rfl⟩
        have HB3 := hide (HBW.out.trans (hb3.mono HBW.out.size))
        clear hb3
        go_wp2
        go_ret
        exact ⟨ret_bool HF.out.symm, HB3.out⟩
      · rcases Nat.eq_zero_or_pos k with h0 | h0
        · subst h0
          simp only [Nat.zero_mul, Nat.add_zero] at c0 c1 c2 P0 P1 P2 HV
          have HS1 : Hid (∀ j, j < 0 + 1 → stepN hlpB HlpZ.id xs j = true) := upto_snocN HS.out (by rw [HST.out]; rfl)
          go_wp2_with fail
          refine wp_region_bel (by kernel_rfl) (by kernel_rfl) ?_
          repeat (refine WQ.step (fun K hK => ?_); go_simp; first | (refine hK _ ?_; clear hK K) | (apply Exists.intro; refine ⟨fun _ => ?_, hK _ ?_⟩; (go_at_call 186; exact HV.out _); clear hK K))
          refine WQ.nil ?_
          rintro w3 ⟨⟨w3, hb3⟩, rfl⟩
          have HB3 := hide (HBW.out.trans (hb3.mono HBW.out.size))
          clear hb3
          go_wp2
          go_roundw
          case rel => exact ⟨1, by omega, by go_num, HS1, HB3.out⟩
          case measure => simp [intOf]; omega
        · obtain ⟨q, hq⟩ : ∃ q, q + 1 = k := ⟨k - 1, by omega⟩
          obtain ⟨b2, off2, g0, g1, g2, hA2, hbl2, hx2, d0, _, _, hr0, hrr⟩ := (HH.out.below hb (Nat.le_refl _)).atHlp (show q < n by omega)
          obtain ⟨rfl, rfl⟩ : b = b2 ∧ off = off2 := by simpa using hA2
          have PG := fun p : BelW wr => BelW.cell d0 hbl2 p
          have hup : upN HlpZ.id xs k = strLess g0 f0 := by subst hq; exact upN_at hx2.out hx.out
          have ew : IntKind.i64.wrap ((k : Int) - 1) = (q : Int) := by rw [IntKind.wrap_i64]; omega
          have i1 : (0 : Int) ≤ (q : Int) := by omega
          have i2 : (q : Int) < (n : Int) := by omega
          have d3 : decide ((0 : Int) < (k : Int)) = true := decide_eq_true (by omega)
          have d4 : decide (0 < k) = true := decide_eq_true h0
          rw [hup] at HST HBAD
          rcases str_ways g0 f0 with ⟨e1, e2, e3, e4, e5, e6, e7⟩ | ⟨e1, e2, e3, e4, e5, e6, e7⟩ | ⟨e1, e2, e3, e4, e5, e6, e7⟩
          · have HS1 := hide (upto_snocN HS.out (by rw [HST.out, e5]; rfl))
            clear hup hx hx2 hA2 hq e5 e6 e7
            go_wp2_with fail
            refine wp_region_bel (by kernel_rfl) (by kernel_rfl) ?_
            repeat (refine WQ.step (fun K hK => ?_); go_simp; first | (refine hK _ ?_; clear hK K) | (apply Exists.intro; refine ⟨fun _ => ?_, hK _ ?_⟩; (go_at_call 186; exact HV.out _); clear hK K))
            refine WQ.nil ?_
            rintro w3 ⟨⟨w3, hb3⟩, rfl⟩
            have HB3 := hide (HBW.out.trans (hb3.mono HBW.out.size))
            clear hb3
            go_wp2
            go_roundw
            case rel => exact ⟨k + 1, by omega, by go_num, HS1, HB3.out⟩
            case measure => simp [intOf]; omega
          · have HF := hide (HBAD.out (.inr e5))
            clear hup hx hx2 hA2 hq e5 e6 e7
            go_wp2_with fail
            refine wp_region_bel (by kernel_rfl) (by kernel_rfl) ?_
            repeat (refine WQ.step (fun K hK => ?_); go_simp; first | (refine hK _ ?_; clear hK K) | (apply Exists.intro; refine ⟨fun _ => ?_, hK _ ?_⟩; (go_at_call 186; exact HV.out _); clear hK K))
            refine WQ.nil ?_
            rintro w3 ⟨⟨w3, hb3⟩, rfl⟩
            have HB3 := hide (HBW.out.trans (hb3.mono HBW.out.size))
            clear hb3
            go_wp2
            go_ret
            exact ⟨ret_bool HF.out.symm, HB3.out⟩
          · have HF := hide (HBAD.out (.inr e5))
            clear hup hx hx2 hA2 hq e5 e6 e7
            go_wp2_with fail
            refine wp_region_bel (by kernel_rfl) (by kernel_rfl) ?_
            repeat (refine WQ.step (fun K hK => ?_); go_simp; first | (refine hK _ ?_; clear hK K) | (apply Exists.intro; refine ⟨fun _ => ?_, hK _ ?_⟩; (go_at_call 186; exact HV.out _); clear hK K))
            refine WQ.nil ?_
            rintro w3 ⟨⟨w3, hb3⟩, rfl⟩
            have HB3 := hide (HBW.out.trans (hb3.mono HBW.out.size))
            clear hb3
            go_wp2
            go_ret
            exact ⟨ret_bool HF.out.symm, HB3.out⟩
    · have hkn : k = n := by omega
      subst hkn
      have HF := hide (listN_all (ok := hlpB) (nm := HlpZ.id) (M := 8) HL.out HS.out)
      go_wp2
      go_ret
      exact ⟨ret_bool (by unfold tsksB; rw [HF.out]; rfl), hb⟩


end Go.Proofs.YtcclfmapbgdpdaaGreatDoor
