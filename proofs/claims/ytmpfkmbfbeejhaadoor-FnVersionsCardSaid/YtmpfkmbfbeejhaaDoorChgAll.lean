/- slices.ContainsFunc over changes. -/
import Derived.Test.YtmpfkmbfbeejhaaDoorChgOk
namespace Go.Proofs.YtmpfkmbfbeejhaaDoor
open Go.RowKit
set_option linter.unusedVariables false

theorem anyC_snoc {α : Type} {p : α → Bool} {xs : List α} {k : Nat} {x : α} (hx : xs[k]? = some x) (h : (xs.take k).any p = false) (hp : p x = false) : (xs.take (k + 1)).any p = false := by
  rw [take_snoc hx, List.any_append, h]; simp [hp]
theorem anyC_at {α : Type} {p : α → Bool} {xs : List α} {k : Nat} {x : α} (hx : xs[k]? = some x) (hp : p x = true) : xs.any p = true :=
  List.any_eq_true.2 ⟨x, List.mem_of_getElem? hx, hp⟩
theorem anyC_end {α : Type} {p : α → Bool} {xs : List α} {n : Nat} (h : xs.length = n) (ht : (xs.take n).any p = false) : xs.any p = false := by rwa [List.take_of_length_le (by omega)] at ht
theorem any_chgB (cs : List ChangeZ) : (cs.any fun c => !chgB c) = !cs.all chgB := by
  rw [Bool.eq_iff_iff]; simp

set_option maxHeartbeats 1000000 in
theorem indexChg_calls (A : Option Addr) (n c : Nat) (cs : List ChangeZ) (f : Nat) (p : ChangeZ → Bool) (w : World) (h : RdK kChange w A n cs) (hn : n ≤ 1048576)
    (hcf : ∀ args w, Sem.run Tryd.prog (callFunc f args) w = .ok (.enter f args) w)
    (hf : ∀ (k v : Int) (nm : ByteArray) w, nm.size ≤ 9223372036854775807 → Calls Tryd.prog f #[.agg #[.int .i64 k, .string nm, .int .i64 v]] w fun e w' => e = .returned (.bool (p ⟨k, nm, v⟩)) ∧ Below w.heap.size w w') :
    Calls Tryd.prog 56 #[.slice A n c, .func (.func f) #[] #[]] w fun e w' => (∃ i : Int, e = .returned (.int .i64 i) ∧ decide (0 ≤ i) = cs.any p) ∧ Below w.heap.size w w' := by
  have HL := hide h.2.1
  have HF := hide hf
  clear hf
  go_enter Tryd.func56, Tryd.ntmps56
  go_wp2
  go_loopw [8] (fun i wr => ∃ (k : Nat), k ≤ n ∧ i = .int .i64 k ∧ Hid ((cs.take k).any p = false) ∧ Below w.heap.size w wr) (fun i _ => n - (intOf i).toNat)
  case atStart => exact ⟨0, Nat.zero_le _, rfl, by simp [Hid], Below.refl _ _⟩
  case round =>
    obtain ⟨k, hk, rfl, HC, hb⟩ := hrel
    by_cases hlt : k < n
    · obtain ⟨b, off, f0, f1, f2, rfl, hbl, hx, hc0, hc1, hc2, hs0, hs1, hs2⟩ := (h.below hb (Nat.le_refl _)).atChange hlt
      cases hp : p ⟨f0, f1, f2⟩
      · have HP := hide hp
        clear hp
        go_wp2_with fail
        refine (HF.out f0 f2 f1 _ (by first | assumption | omega)).mono ?_
        rintro e w2 ⟨rfl, hb2⟩
        rw [HP.out]
        go_wp2
        go_roundw
        case rel => exact ⟨k + 1, by omega, by go_num, anyC_snoc hx.out HC.out HP.out, hb.trans (hb2.mono hb.size)⟩
        case measure => simp [intOf]; omega
      · have HP := hide hp
        clear hp
        go_wp2_with fail
        refine (HF.out f0 f2 f1 _ (by first | assumption | omega)).mono ?_
        rintro e w2 ⟨rfl, hb2⟩
        rw [HP.out]
        go_wp2
        go_ret
        exact ⟨⟨_, rfl, by rw [anyC_at hx.out HP.out]; simp⟩, hb.trans (hb2.mono hb.size)⟩
    · have hkn : k = n := by omega
      subst hkn
      go_wp2
      go_ret
      exact ⟨⟨_, rfl, by rw [anyC_end HL.out HC.out]; rfl⟩, hb⟩

theorem containsChg_calls (A : Option Addr) (n c : Nat) (cs : List ChangeZ) (f : Nat) (p : ChangeZ → Bool) (w : World) (h : RdK kChange w A n cs) (hn : n ≤ 1048576)
    (hcf : ∀ args w, Sem.run Tryd.prog (callFunc f args) w = .ok (.enter f args) w)
    (hf : ∀ (k v : Int) (nm : ByteArray) w, nm.size ≤ 9223372036854775807 → Calls Tryd.prog f #[.agg #[.int .i64 k, .string nm, .int .i64 v]] w fun e w' => e = .returned (.bool (p ⟨k, nm, v⟩)) ∧ Below w.heap.size w w') :
    Calls Tryd.prog 27 #[.slice A n c, .func (.func f) #[] #[]] w fun e w' => e = .returned (.bool (cs.any p)) ∧ Below w.heap.size w w' := by
  have HC := hide (indexChg_calls A n c cs f p w h hn hcf hf)
  clear hf hcf h
  go_enter Tryd.func27, Tryd.ntmps27
  go_wp2_with fail
  refine HC.out.mono ?_
  rintro e w' ⟨⟨i, rfl, hi⟩, hb⟩
  have HI := hide hi
  clear hi
  go_wp2
  go_ret
  exact ⟨ret_bool HI.out, hb⟩

end Go.Proofs.YtmpfkmbfbeejhaaDoor
