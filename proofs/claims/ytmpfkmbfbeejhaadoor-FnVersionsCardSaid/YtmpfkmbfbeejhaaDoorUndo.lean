/- UndoVersion of the program and of the reference. -/
import Derived.Test.YtmpfkmbfbeejhaaDoorStOf
import Derived.Test.YtmpfkmbfbeejhaaDoorLineZ
import Derived.Test.YtmpfkmbfbeejhaaDoorDec
import Derived.Deep.RegionHeld3
namespace Go.Proofs.YtmpfkmbfbeejhaaDoor
open Go.RowKit
set_option linter.unusedVariables false

/-- The memo of a version that undoes another. -/
def undM (a : Int) : ByteArray := ⟨#[117, 110, 100, 111, 32]⟩ ++ decZ a
def undC (vs : List VerZ) (a : Int) : Int := if histB vs then (if withinB a 1 vs.length then addC vs else 3) else 1
def undR (vs : List VerZ) (a : Int) : List VerZ := if histB vs then (if withinB a 1 vs.length then addR vs a (undM a) (stV vs (parN vs a.toNat)) else []) else []
def UndPost (vs : List VerZ) (a : Int) (w : World) (e : Ending) (w' : World) : Prop :=
  ∃ A' n' c', e = .returned (.tuple #[.slice A' n' c', .int .i64 (undC vs a)]) ∧ FrVz w' w.heap.size w'.heap.size A' n' (undR vs a) ∧ n' ≤ 1048576 ∧ Below w.heap.size w w'
theorem und_bad {vs : List VerZ} {a : Int} (h : histB vs = false) : undC vs a = 1 ∧ undR vs a = [] := by unfold undC undR; rw [h]; exact ⟨rfl, rfl⟩
theorem und_off {vs : List VerZ} {a : Int} {n : Nat} (hl : vs.length = n) (h1 : histB vs = true) (h : withinB a 1 n = false) : undC vs a = 3 ∧ undR vs a = [] := by unfold undC undR; rw [h1, hl, h]; exact ⟨rfl, rfl⟩
theorem und_ok {vs : List VerZ} {a : Int} {n : Nat} (hl : vs.length = n) (h1 : histB vs = true) (h : withinB a 1 n = true) : undC vs a = addC vs ∧ undR vs a = addR vs a (undM a) (stV vs (parN vs a.toNat)) := by unfold undC undR; rw [h1, hl, h]; exact ⟨rfl, rfl⟩
theorem undR_short {vs : List VerZ} {a : Int} (h : Short vs) : Short (undR vs a) := by
  unfold undR
  split
  · next hh =>
    split
    · unfold addR
      split
      · intro v hv; simp at hv
      · intro v hv
        rcases List.mem_append.1 hv with hv | hv
        · exact h v hv
        · have := state_len (stV_valid hh (parN vs a.toNat))
          simp at hv; subst hv; simp only; omega
    · intro v hv; simp at hv
  · intro v hv; simp at hv
theorem UndPost.none {vs : List VerZ} {a : Int} {w w' : World} {z : Int} (h : undC vs a = z ∧ undR vs a = []) (hb : Below w.heap.size w w') : UndPost vs a w (.returned (.tuple #[.slice none 0 0, .int .i64 z])) w' :=
  ⟨Option.none, 0, 0, ret_two rfl (congrArg (Value.int .i64) h.1.symm), by rw [h.2]; exact FrVz.nil, by omega, hb⟩
theorem FrVz.lo {w : World} {lo lo' hi : Nat} {A : Option Addr} {n : Nat} {vs : List VerZ} (h : FrVz w lo hi A n vs) (h1 : lo' ≤ lo) : FrVz w lo' hi A n vs := h.mono h1 (Nat.le_refl _)


set_option maxRecDepth 100000 in
set_option maxHeartbeats 8000000 in
theorem implUndoVersion_calls (A : Option Addr) (n c : Nat) (vs : List VerZ) (a : Int) (w : World) (HT : TabP w) (h : RdVz w A n vs) (ha : I64 a) (hn : n ≤ 1048576) (hs : Short vs) :
    Calls Tryd.prog 13 #[.slice A n c, .int .i64 a] w (UndPost vs a w) := by
  have hl := h.len
  have hlit := World.ownsRow_lit (base := w.heap.size) (e := 2) (size := 1) w #[.int .i64 a] 1 (Nat.le_refl _) (by unfold maxLen; omega) rfl
  have hba : Below w.heap.size w (w.alloc (.cells #[.int .i64 a] 2)) := (Below.refl _ _).alloc (Nat.le_refl _) _
  have hr : RdI (w.alloc (.cells #[.int .i64 a] 2)) (some ⟨w.heap.size, 0, none⟩) 1 [a] := RdI.of_own (by simpa [cI] using hlit) (by
    intro x hx
    simp at hx
    subst hx
    exact ha)
  clear hlit
  have HV := hide (versioned_calls A n c vs (some ⟨w.heap.size, 0, none⟩) 1 1 [a] _ (h.below hba (Nat.le_refl _)) hn hs hr (by omega))
  clear hr
  go_enter Tryd.func13, Tryd.ntmps13
  go_wp2_with fail
  refine HV.out.mono ?_
  clear HV
  rintro e w1 ⟨rfl, hb1⟩
  have hB1 := hba.trans (hb1.mono hba.size)
  rcases b_cases (histB vs) with hd | hd
  · have HC := hide (codeV_bad (xs := [a]) hd)
    have HZ := hide (und_bad (a := a) hd)
    rw [HC.out]
    clear hd
    go_wp2
    go_ret2
    exact UndPost.none HZ.out hB1
  have hc1 := codeV_one (a := a) hd
  rw [hl] at hc1
  rcases b_cases (withinB a 1 n) with h1 | h1
  · have HZ := hide (und_off hl hd h1)
    rw [h1] at hc1
    rw [hc1]
    clear hd h1 hc1
    go_wp2
    go_ret2
    exact UndPost.none HZ.out hB1
  have HZ := hide (und_ok hl hd h1)
  rw [h1] at hc1
  rw [hc1]
  clear hc1
  have hr1 := withinB_iff.1 h1
  have h32 := hist_len hd
  rw [hl] at h32
  obtain ⟨k, rfl⟩ : ∃ k : Nat, a = (k : Int) + 1 := ⟨(a - 1).toNat, by omega⟩
  have hk : k < n := by omega
  obtain ⟨rs, hR, hz⟩ := h
  obtain ⟨b, off, nu, pa, me, Aq, nq, cq, st, rfl, hbl, hx, hc, hc2, hc3, hc4, hn1, hn2, hp1, hp2, hme, hst, hnq⟩ := hR.at hk
  have hxz : vs[k]? = some ⟨nu, pa, me, st⟩ := by rw [← hz]; exact zV_at hx.out
  have hpa := par_at hd hxz
  simp only at hpa
  obtain ⟨p, hp⟩ : ∃ p, p = parN vs (k + 1) := ⟨_, rfl⟩
  have hpk := par_lt hd k
  rw [← hp] at hpa hpk
  subst hpa
  have e1 : ((k : Int) + 1).toNat = k + 1 := by omega
  rw [e1, ← hp] at HZ
  have HRV : Hid (∀ W, Below w.heap.size w W → RdVz W (some ⟨b, off, none⟩) n vs) := fun W hW => RdVz.below ⟨rs, hR, hz⟩ hW (Nat.le_refl _)
  have hst24 := state_len (stV_valid hd p)
  have hmz : (undM ((k : Int) + 1)).size ≤ 30 := by unfold undM; rw [ByteArray.size_append]; have := itoa_len (n := (k : Int) + 1) (by unfold I64; omega); have e5 : (⟨#[117, 110, 100, 111, 32]⟩ : ByteArray).size = 5 := rfl; omega
  have HA : Hid (∀ A3 n3 c3 W, Below w.heap.size w W → RdS W A3 n3 (stV vs p) → Calls Tryd.prog 37 #[.slice (some ⟨b, off, none⟩) n c, .int .i64 ((k : Int) + 1), .string (undM ((k : Int) + 1)), .slice A3 n3 c3] W (AddPost vs ((k : Int) + 1) (undM ((k : Int) + 1)) (stV vs p) W)) := fun A3 n3 c3 W hW h3 => commit_calls _ n c vs _ _ A3 n3 c3 _ W (HRV.out W hW) h3 (by omega) hs (by have := h3.2.1; omega) (by unfold I64; omega) (by omega)
  have HS : Hid (∀ W, Below w.heap.size w W → Calls Tryd.prog 40 #[.slice (some ⟨b, off, none⟩) n c, .int .i64 (p : Int)] W (StPost vs p W)) := fun W hW => stateOf_calls _ n c vs p W (HRV.out W hW) (by omega) (by omega)
  have HD : Hid (∀ W, Below w.heap.size w W → Calls Tryd.prog 39 #[.int .i64 ((k : Int) + 1)] W fun e w' => e = .returned (.string (decZ ((k : Int) + 1))) ∧ Below W.heap.size W w') := fun W hW => decimal_calls _ W (HT.here hW) (by unfold I64; omega)
  have HE : Hid (undM ((k : Int) + 1) = ⟨#[117, 110, 100, 111, 32]⟩ ++ decZ ((k : Int) + 1)) := rfl
  have hsd := itoa_len (n := (k : Int) + 1) (by unfold I64; omega)
  have e5 : (⟨#[117, 110, 100, 111, 32]⟩ : ByteArray).size = 5 := rfl
  rw [HE.out] at HA HZ
  generalize decZ ((k : Int) + 1) = dz at *
  have c1 := fun w : World => run_string_add_sum (P := Tryd.prog) w ⟨#[117, 110, 100, 111, 32]⟩ dz (by omega)
  have KS : Hid (∀ W, Below w.heap.size w W → W.cell? ⟨b, off + k * 4 + 1, none⟩ = some (.int .i64 (p : Int))) := fun W hW => (hW.cell (p := ⟨b, off + k * 4 + 1, none⟩) hbl).trans hc2
  have kc := KS.out w1 hB1
  have hw1 : (k : Int) + 1 - 1 = k := by omega
  have hw2 : IntKind.i64.wrap ((k : Int) + 1 - 1) = k := by rw [hw1]; exact IntWalk.i64_in _ (by omega)
  have hw3 : IntKind.i64.wrap (k : Int) = k := IntWalk.i64_in _ (by omega)
  have hw4 : (0 : Int) ≤ (k : Int) := by omega
  have hw5 : (k : Int) < (n : Int) := by omega
  clear hd h1 hx hxz hc hc2 hc3 hc4 hst hR hz hp h32 hr1 hpk hst24 hmz HE e1 hn1 hn2 hp1 hp2
  have hBd := hB1.drew
  go_wp2
  go_region_held3 (fun W => W.cell? ⟨b, off + k * 4 + 1, none⟩ = some (.int .i64 (p : Int)))
    (first | exact kc | exact KS.out _ hBd | exact KS.out _ hB3 | exact KS.out _ hB4 | exact KS.out _ hB5)
    (first
      | (go_at_call 39; (with_reducible refine (HD.out w1.drew hBd).mono ?_); rintro e w3 ⟨rfl, hb3⟩; have hB3 := hBd.trans (hb3.mono hBd.size))
      | (go_at_call 40; (with_reducible refine (HS.out w1.drew hBd).mono ?_); rintro e w3 ⟨A3, n3, c3, rfl, hrs, hb3⟩; have hB3 := hBd.trans (hb3.mono hBd.size))
      | (go_at_call 39; (with_reducible refine (HD.out w1 hB1).mono ?_); rintro e w3 ⟨rfl, hb3⟩; have hB3 := hB1.trans (hb3.mono hB1.size))
      | (go_at_call 40; (with_reducible refine (HS.out w1 hB1).mono ?_); rintro e w3 ⟨A3, n3, c3, rfl, hrs, hb3⟩; have hB3 := hB1.trans (hb3.mono hB1.size))
      | (go_at_call 39; (with_reducible refine (HD.out w3 hB3).mono ?_); rintro e w4 ⟨rfl, hb4⟩; have hB4 := (hB3).trans (hb4.mono (hB3).size); replace hrs := RdK.below hrs hb4 (Nat.le_refl _))
      | (go_at_call 40; (with_reducible refine (HS.out w3 hB3).mono ?_); rintro e w4 ⟨A3, n3, c3, rfl, hrs, hb4⟩; have hB4 := (hB3).trans (hb4.mono (hB3).size))
      | (go_at_call 39; (with_reducible refine (HD.out w3.drew hB3.drew).mono ?_); rintro e w4 ⟨rfl, hb4⟩; have hB4 := (hB3.drew).trans (hb4.mono (hB3.drew).size); replace hrs := RdK.below hrs hb4 (Nat.le_refl _))
      | (go_at_call 40; (with_reducible refine (HS.out w3.drew hB3.drew).mono ?_); rintro e w4 ⟨A3, n3, c3, rfl, hrs, hb4⟩; have hB4 := (hB3.drew).trans (hb4.mono (hB3.drew).size))
      | (go_at_call 37; (with_reducible refine (HA.out A3 n3 c3 w4 hB4 hrs).mono ?_); rintro e w5 ⟨A5, n5, c5, rfl, hf5, hn5, hb5⟩; have hB5 := (hB4).trans (hb5.mono (hB4).size); have hlo := (hB4).size; have HF5 := hide (FrVz.lo hf5 hlo); clear hf5)
      | (go_at_call 37; (with_reducible refine (HA.out A3 n3 c3 w4.drew hB4.drew hrs).mono ?_); rintro e w5 ⟨A5, n5, c5, rfl, hf5, hn5, hb5⟩; have hB5 := (hB4.drew).trans (hb5.mono (hB4.drew).size); have hlo := (hB4.drew).size; have HF5 := hide (FrVz.lo hf5 hlo); clear hf5)
      | fail)
  all_goals
    go_wp2
    go_ret2
    exact ⟨_, _, _, ret_two rfl (congrArg (Value.int .i64) HZ.out.1.symm), by rw [HZ.out.2]; exact HF5.out, hn5, hB5⟩

end Go.Proofs.YtmpfkmbfbeejhaaDoor
