/- The texts of helpers and of tasks. -/
import Derived.Test.YtcclfmapbgdpdaaGreatDoorValHS
namespace Go.Proofs.YtcclfmapbgdpdaaGreatDoor
open Go.RowKit
set_option linter.unusedVariables false

def hlpP (x : HlpZ) : ByteArray := x.id ++ ⟨#[32]⟩ ++ skT x.sk.toNat ++ ⟨#[32]⟩ ++ decZ x.n
/-- A helper or a task as text. -/
def hlpT (x : HlpZ) : ByteArray := if hlpB x = true then hlpP x else ⟨#[]⟩
theorem skT_size (s : Nat) : (skT s).size ≤ 20 := by
  unfold skT
  split <;> decide

set_option maxHeartbeats 4000000 in
set_option maxRecDepth 100000 in
theorem implHelperText_calls (r : ByteArray) (o k : Int) (w : World) (hT : TabP w) (hr : r.size ≤ 1048576) (hk : I64 k) :
    Calls Tryz.prog 45 #[.agg #[.string r, .int .i64 o, .int .i64 k]] w fun e w' => e = .returned (.string (hlpT ⟨r, o, k⟩)) ∧ Below w.heap.size w w' := by
  obtain ⟨W0, hW0⟩ : ∃ W0, W0 = w.alloc (.cells #[.string r, .int .i64 o, .int .i64 k] 70) := ⟨_, rfl⟩
  have hB : Below w.heap.size w W0 := by rw [hW0]; exact (Below.refl _ _).alloc (Nat.le_refl _) _
  have e0 : W0.cell? ⟨w.heap.size, 0, none⟩ = some (.string r) := by rw [hW0]; simp
  have e1 : W0.cell? ⟨w.heap.size, 1, none⟩ = some (.int .i64 o) := by rw [hW0]; simp
  have e2 : W0.cell? ⟨w.heap.size, 2, none⟩ = some (.int .i64 k) := by rw [hW0]; simp
  have hz : w.heap.size < W0.heap.size := by rw [hW0]; simp
  have HM := hide (validHelper_calls r o k W0 hr)
  have HZ : Hid (hlpT ⟨r, o, k⟩ = if hlpB ⟨r, o, k⟩ = true then hlpP ⟨r, o, k⟩ else ⟨#[]⟩) := rfl
  rcases b_cases (hlpB ⟨r, o, k⟩) with hq | hq
  · rw [hq] at HM HZ
    clear hq
    go_enter Tryz.func45, Tryz.ntmps45
    go_wp2_with fail
    rw [← hW0]
    clear hW0
    go_wp2_with fail
    refine HM.out.mono ?_
    rintro e w1 ⟨rfl, hb1⟩
    go_wp2
    go_ret
    exact ⟨ret_str (by rw [HZ.out]; rfl), hB.trans (hb1.mono hB.size)⟩
  · have hsk : 0 ≤ o ∧ o ≤ 7 := hlp_sk hq
    rw [hq, if_pos rfl] at HZ
    rw [hq] at HM
    clear hq
    obtain ⟨s, rfl⟩ : ∃ s : Nat, o = (s : Int) := ⟨o.toNat, by omega⟩
    have HP : Hid (hlpP ⟨r, (s : Int), k⟩ = r ++ ⟨#[32]⟩ ++ skT s ++ ⟨#[32]⟩ ++ decZ k) := rfl
    have s1 := skT_size s
    have s2 := itoa_len hk
    have p1 : (⟨#[32]⟩ : ByteArray).size = 1 := rfl
    have H1 : Hid (∀ W, Calls Tryz.prog 51 #[.int .i64 (s : Int)] W fun e w' => e = .returned (.string (skT s)) ∧ Below W.heap.size W w') := fun W => skillText_calls s W (by omega)
    generalize skT s = b1 at *
    have c1 := fun w : World => run_string_add_sum (P := Tryz.prog) w r ⟨#[32]⟩ (by omega)
    have c2 := fun w : World => run_string_add_sum (P := Tryz.prog) w (r ++ ⟨#[32]⟩) b1 (by rw [ByteArray.size_append]; omega)
    have c3 := fun w : World => run_string_add_sum (P := Tryz.prog) w (r ++ ⟨#[32]⟩ ++ b1) ⟨#[32]⟩ (by rw [ByteArray.size_append, ByteArray.size_append]; omega)
    have c4 := fun w : World => run_string_add_sum (P := Tryz.prog) w (r ++ ⟨#[32]⟩ ++ b1 ++ ⟨#[32]⟩) (decZ k) (by rw [ByteArray.size_append, ByteArray.size_append, ByteArray.size_append]; omega)
    clear p1
    go_enter Tryz.func45, Tryz.ntmps45
    go_wp2_with fail
    rw [← hW0]
    clear hW0
    go_wp2_with fail
    refine HM.out.mono ?_
    rintro e w0 ⟨rfl, hb0⟩
    have hz0 := Nat.lt_of_lt_of_le hz hb0.size
    have hB0 := hB.trans (hb0.mono hB.size)
    have P0 := fun p : BelW w0 => BelW.cell ((hb0.cell (p := ⟨w.heap.size, 0, none⟩) hz).trans e0) hz0 p
    have P1 := fun p : BelW w0 => BelW.cell ((hb0.cell (p := ⟨w.heap.size, 1, none⟩) hz).trans e1) hz0 p
    have P2 := fun p : BelW w0 => BelW.cell ((hb0.cell (p := ⟨w.heap.size, 2, none⟩) hz).trans e2) hz0 p
    have HS : Hid (∀ p : BelW w0, Calls Tryz.prog 51 #[.int .i64 (s : Int)] p.1 fun e w'' => e = .returned (.string b1) ∧ ∃ q : BelW w0, w'' = q.1) := fun p => Calls.bel (H1.out p.1)
    have HD : Hid (∀ p : BelW w0, Calls Tryz.prog 79 #[.int .i64 k] p.1 fun e w'' => e = .returned (.string (decZ k)) ∧ ∃ q : BelW w0, w'' = q.1) := fun p => Calls.bel (decimal_calls k p.1 ((hT.here hB0).below p.2 (Nat.le_refl _)) hk)
    clear e0 e1 e2 hb0
    go_wp2_with fail
    refine wp_region_bel (by kernel_rfl) (by kernel_rfl) ?_
    repeat (refine WQ.step (fun K hK => ?_); go_simp; first | (refine hK _ ?_; clear hK K) | (apply Exists.intro; refine ⟨fun _ => ?_, hK _ ?_⟩; (first | (go_at_call 51; exact HS.out _) | (go_at_call 79; exact HD.out _)); clear hK K))
    refine WQ.nil ?_
    rintro w3 ⟨⟨w3, hb3⟩, rfl⟩
    have HB3 := hide (hB0.trans (hb3.mono hB0.size))
    clear hb3
    go_wp2
    go_ret
    exact ⟨ret_str (by rw [HZ.out, HP.out]), HB3.out⟩

set_option maxHeartbeats 4000000 in
set_option maxRecDepth 100000 in
theorem implTaskText_calls (r : ByteArray) (o k : Int) (w : World) (hT : TabP w) (hr : r.size ≤ 1048576) (hk : I64 k) :
    Calls Tryz.prog 48 #[.agg #[.string r, .int .i64 o, .int .i64 k]] w fun e w' => e = .returned (.string (hlpT ⟨r, o, k⟩)) ∧ Below w.heap.size w w' := by
  obtain ⟨W0, hW0⟩ : ∃ W0, W0 = w.alloc (.cells #[.string r, .int .i64 o, .int .i64 k] 67) := ⟨_, rfl⟩
  have hB : Below w.heap.size w W0 := by rw [hW0]; exact (Below.refl _ _).alloc (Nat.le_refl _) _
  have e0 : W0.cell? ⟨w.heap.size, 0, none⟩ = some (.string r) := by rw [hW0]; simp
  have e1 : W0.cell? ⟨w.heap.size, 1, none⟩ = some (.int .i64 o) := by rw [hW0]; simp
  have e2 : W0.cell? ⟨w.heap.size, 2, none⟩ = some (.int .i64 k) := by rw [hW0]; simp
  have hz : w.heap.size < W0.heap.size := by rw [hW0]; simp
  have HM := hide (validTask_calls r o k W0 hr)
  have HZ : Hid (hlpT ⟨r, o, k⟩ = if hlpB ⟨r, o, k⟩ = true then hlpP ⟨r, o, k⟩ else ⟨#[]⟩) := rfl
  rcases b_cases (hlpB ⟨r, o, k⟩) with hq | hq
  · rw [hq] at HM HZ
    clear hq
    go_enter Tryz.func48, Tryz.ntmps48
    go_wp2_with fail
    rw [← hW0]
    clear hW0
    go_wp2_with fail
    refine HM.out.mono ?_
    rintro e w1 ⟨rfl, hb1⟩
    go_wp2
    go_ret
    exact ⟨ret_str (by rw [HZ.out]; rfl), hB.trans (hb1.mono hB.size)⟩
  · have hsk : 0 ≤ o ∧ o ≤ 7 := hlp_sk hq
    rw [hq, if_pos rfl] at HZ
    rw [hq] at HM
    clear hq
    obtain ⟨s, rfl⟩ : ∃ s : Nat, o = (s : Int) := ⟨o.toNat, by omega⟩
    have HP : Hid (hlpP ⟨r, (s : Int), k⟩ = r ++ ⟨#[32]⟩ ++ skT s ++ ⟨#[32]⟩ ++ decZ k) := rfl
    have s1 := skT_size s
    have s2 := itoa_len hk
    have p1 : (⟨#[32]⟩ : ByteArray).size = 1 := rfl
    have H1 : Hid (∀ W, Calls Tryz.prog 51 #[.int .i64 (s : Int)] W fun e w' => e = .returned (.string (skT s)) ∧ Below W.heap.size W w') := fun W => skillText_calls s W (by omega)
    generalize skT s = b1 at *
    have c1 := fun w : World => run_string_add_sum (P := Tryz.prog) w r ⟨#[32]⟩ (by omega)
    have c2 := fun w : World => run_string_add_sum (P := Tryz.prog) w (r ++ ⟨#[32]⟩) b1 (by rw [ByteArray.size_append]; omega)
    have c3 := fun w : World => run_string_add_sum (P := Tryz.prog) w (r ++ ⟨#[32]⟩ ++ b1) ⟨#[32]⟩ (by rw [ByteArray.size_append, ByteArray.size_append]; omega)
    have c4 := fun w : World => run_string_add_sum (P := Tryz.prog) w (r ++ ⟨#[32]⟩ ++ b1 ++ ⟨#[32]⟩) (decZ k) (by rw [ByteArray.size_append, ByteArray.size_append, ByteArray.size_append]; omega)
    clear p1
    go_enter Tryz.func48, Tryz.ntmps48
    go_wp2_with fail
    rw [← hW0]
    clear hW0
    go_wp2_with fail
    refine HM.out.mono ?_
    rintro e w0 ⟨rfl, hb0⟩
    have hz0 := Nat.lt_of_lt_of_le hz hb0.size
    have hB0 := hB.trans (hb0.mono hB.size)
    have P0 := fun p : BelW w0 => BelW.cell ((hb0.cell (p := ⟨w.heap.size, 0, none⟩) hz).trans e0) hz0 p
    have P1 := fun p : BelW w0 => BelW.cell ((hb0.cell (p := ⟨w.heap.size, 1, none⟩) hz).trans e1) hz0 p
    have P2 := fun p : BelW w0 => BelW.cell ((hb0.cell (p := ⟨w.heap.size, 2, none⟩) hz).trans e2) hz0 p
    have HS : Hid (∀ p : BelW w0, Calls Tryz.prog 51 #[.int .i64 (s : Int)] p.1 fun e w'' => e = .returned (.string b1) ∧ ∃ q : BelW w0, w'' = q.1) := fun p => Calls.bel (H1.out p.1)
    have HD : Hid (∀ p : BelW w0, Calls Tryz.prog 79 #[.int .i64 k] p.1 fun e w'' => e = .returned (.string (decZ k)) ∧ ∃ q : BelW w0, w'' = q.1) := fun p => Calls.bel (decimal_calls k p.1 ((hT.here hB0).below p.2 (Nat.le_refl _)) hk)
    clear e0 e1 e2 hb0
    go_wp2_with fail
    refine wp_region_bel (by kernel_rfl) (by kernel_rfl) ?_
    repeat (refine WQ.step (fun K hK => ?_); go_simp; first | (refine hK _ ?_; clear hK K) | (apply Exists.intro; refine ⟨fun _ => ?_, hK _ ?_⟩; (first | (go_at_call 51; exact HS.out _) | (go_at_call 79; exact HD.out _)); clear hK K))
    refine WQ.nil ?_
    rintro w3 ⟨⟨w3, hb3⟩, rfl⟩
    have HB3 := hide (hB0.trans (hb3.mono hB0.size))
    clear hb3
    go_wp2
    go_ret
    exact ⟨ret_str (by rw [HZ.out, HP.out]), HB3.out⟩

set_option maxHeartbeats 4000000 in
set_option maxRecDepth 100000 in
theorem l24Text_calls (r : ByteArray) (s : Nat) (k : Int) (B : Nat) (w : World) (hb : B < w.heap.size) (hr : r.size ≤ 1048576) (hs : s ≤ 7) (hk : I64 k) (e0 : w.cell? ⟨B, 0, none⟩ = some (.string r)) (e1 : w.cell? ⟨B, 1, none⟩ = some (.int .i64 (s : Int))) (e2 : w.cell? ⟨B, 2, none⟩ = some (.int .i64 k)) :
    Calls Tryz.prog 130 #[.pointer (some ⟨B, 0, none⟩)] w fun e w' => e = .returned (.string (hlpP ⟨r, (s : Int), k⟩)) ∧ Below w.heap.size w w' := by
  have HP : Hid (hlpP ⟨r, (s : Int), k⟩ = r ++ ⟨#[32]⟩ ++ skT s ++ ⟨#[32]⟩ ++ decZ k) := rfl
  have s1 := skT_size s
  have s2 := itoa_len hk
  have p1 : (⟨#[32]⟩ : ByteArray).size = 1 := rfl
  have HS : Hid (∀ p : BelW w, Calls Tryz.prog 192 #[.int .i64 (s : Int)] p.1 fun e w'' => e = .returned (.string (skT s)) ∧ ∃ q : BelW w, w'' = q.1) := fun p => Calls.bel (l24SkillText_calls s p.1 hs)
  have HD : Hid (∀ p : BelW w, Calls Tryz.prog 180 #[.int .i64 k] p.1 fun e w'' => e = .returned (.string (decZ k)) ∧ ∃ q : BelW w, w'' = q.1) := fun p => Calls.bel (l01Dec_calls k p.1 hk)
  generalize skT s = b1 at *
  have c1 := fun w : World => run_string_add_sum (P := Tryz.prog) w r ⟨#[32]⟩ (by omega)
  have c2 := fun w : World => run_string_add_sum (P := Tryz.prog) w (r ++ ⟨#[32]⟩) b1 (by rw [ByteArray.size_append]; omega)
  have c3 := fun w : World => run_string_add_sum (P := Tryz.prog) w (r ++ ⟨#[32]⟩ ++ b1) ⟨#[32]⟩ (by rw [ByteArray.size_append, ByteArray.size_append]; omega)
  have c4 := fun w : World => run_string_add_sum (P := Tryz.prog) w (r ++ ⟨#[32]⟩ ++ b1 ++ ⟨#[32]⟩) (decZ k) (by rw [ByteArray.size_append, ByteArray.size_append, ByteArray.size_append]; omega)
  have P0 := fun p : BelW w => BelW.cell e0 hb p
  have P1 := fun p : BelW w => BelW.cell e1 hb p
  have P2 := fun p : BelW w => BelW.cell e2 hb p
  clear p1
  go_enter Tryz.func130, Tryz.ntmps130
  go_wp2_with fail
  refine wp_region_bel (by kernel_rfl) (by kernel_rfl) ?_
  repeat (refine WQ.step (fun K hK => ?_); go_simp; first | (refine hK _ ?_; clear hK K) | (apply Exists.intro; refine ⟨fun _ => ?_, hK _ ?_⟩; (first | (go_at_call 192; exact HS.out _) | (go_at_call 180; exact HD.out _)); clear hK K))
  refine WQ.nil ?_
  rintro w3 ⟨⟨w3, hb3⟩, rfl⟩
  go_wp2
  go_ret
  exact ⟨ret_str HP.out.symm, hb3⟩

theorem specHelperText_calls (r : ByteArray) (o k : Int) (w : World) (hr : r.size ≤ 1048576) (hk : I64 k) :
    Calls Tryz.prog 52 #[.agg #[.string r, .int .i64 o, .int .i64 k]] w fun e w' => e = .returned (.string (hlpT ⟨r, o, k⟩)) ∧ Below w.heap.size w w' := by
  obtain ⟨W0, hW0⟩ : ∃ W0, W0 = w.alloc (.cells #[.string r, .int .i64 o, .int .i64 k] 70) := ⟨_, rfl⟩
  have hB : Below w.heap.size w W0 := by rw [hW0]; exact (Below.refl _ _).alloc (Nat.le_refl _) _
  have e0 : W0.cell? ⟨w.heap.size, 0, none⟩ = some (.string r) := by rw [hW0]; simp
  have e1 : W0.cell? ⟨w.heap.size, 1, none⟩ = some (.int .i64 o) := by rw [hW0]; simp
  have e2 : W0.cell? ⟨w.heap.size, 2, none⟩ = some (.int .i64 k) := by rw [hW0]; simp
  have hz : w.heap.size < W0.heap.size := by rw [hW0]; simp
  have HM := hide (l24HelperR_calls r o k w.heap.size 0 W0 hr e0 e1 e2)
  have HZ : Hid (hlpT ⟨r, o, k⟩ = if hlpB ⟨r, o, k⟩ = true then hlpP ⟨r, o, k⟩ else ⟨#[]⟩) := rfl
  have HE := hide (And.intro e0 (And.intro e1 e2))
  clear e0 e1 e2
  rcases b_cases (hlpB ⟨r, o, k⟩) with hq | hq
  · rw [hq] at HM HZ
    clear hq
    go_enter Tryz.func52, Tryz.ntmps52
    go_wp2_with fail
    rw [← hW0]
    clear hW0
    refine HM.out.mono ?_
    rintro e w1 ⟨rfl, rfl⟩
    go_wp2
    go_ret
    exact ⟨ret_str (by rw [HZ.out]; rfl), hB⟩
  · have hsk : 0 ≤ o ∧ o ≤ 7 := hlp_sk hq
    rw [hq, if_pos rfl] at HZ
    rw [hq] at HM
    clear hq
    obtain ⟨s, rfl⟩ : ∃ s : Nat, o = (s : Int) := ⟨o.toNat, by omega⟩
    have H2 := hide (l24Text_calls r s k w.heap.size W0 hz hr (by omega) hk HE.out.1 HE.out.2.1 HE.out.2.2)
    go_enter Tryz.func52, Tryz.ntmps52
    go_wp2_with fail
    rw [← hW0]
    clear hW0
    refine HM.out.mono ?_
    rintro e w1 ⟨rfl, rfl⟩
    go_wp2_with fail
    refine H2.out.mono ?_
    rintro e w2 ⟨rfl, hb2⟩
    go_wp2
    go_ret
    exact ⟨ret_str HZ.out.symm, hB.trans (hb2.mono hB.size)⟩

end Go.Proofs.YtcclfmapbgdpdaaGreatDoor
