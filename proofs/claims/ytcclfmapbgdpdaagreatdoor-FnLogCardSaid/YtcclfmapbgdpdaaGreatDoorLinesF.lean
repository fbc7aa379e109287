/- linesFor; LinesOfDay, LinesWith of the program and of the reference. -/
import Derived.Test.YtcclfmapbgdpdaaGreatDoorLogS
import Derived.Test.YtcclfmapbgdpdaaGreatDoorMg
import Derived.Test.YtcclfmapbgdpdaaGreatDoorIdxB
namespace Go.Proofs.YtcclfmapbgdpdaaGreatDoor
open Go.RowKit
set_option linter.unusedVariables false

/-- The indexes below k of the lines for which p holds. -/
def linesK (p : LineZ → Bool) (xs : List LineZ) : Nat → List Int
  | 0 => []
  | k + 1 => match xs[k]? with
    | some x => if p x then linesK p xs k ++ [(k : Int)] else linesK p xs k
    | none => linesK p xs k
theorem linesK_yes {p : LineZ → Bool} {xs : List LineZ} {k : Nat} {x : LineZ} (h : xs[k]? = some x) (hp : p x = true) : linesK p xs (k + 1) = linesK p xs k ++ [(k : Int)] := by simp [linesK, h, hp]
theorem linesK_no {p : LineZ → Bool} {xs : List LineZ} {k : Nat} {x : LineZ} (h : xs[k]? = some x) (hp : p x = false) : linesK p xs (k + 1) = linesK p xs k := by simp [linesK, h, hp]
theorem linesK_len (p : LineZ → Bool) (xs : List LineZ) (k : Nat) : (linesK p xs k).length ≤ k := by
  induction k with
  | zero => simp [linesK]
  | succ k ih =>
    rw [linesK]
    split
    · split
      · simp; omega
      · omega
    · omega
theorem linesK_fine (p : LineZ → Bool) (xs : List LineZ) (k : Nat) (hk : k ≤ 1048576) : ∀ x ∈ linesK p xs k, I64 x := by
  induction k with
  | zero => simp [linesK]
  | succ k ih =>
    intro x hx
    rw [linesK] at hx
    split at hx
    · split at hx
      · rcases List.mem_append.1 hx with hx | hx
        · exact ih (by omega) x hx
        · simp only [List.mem_singleton] at hx
          subst hx
          unfold I64; omega
      · exact ih (by omega) x hx
    · exact ih (by omega) x hx

/-- What a function leaves that returns numbers of the call's own. -/
def NumPost (V : List Int) (w : World) (e : Ending) (w' : World) : Prop :=
  ∃ A' n' c', e = .returned (.slice A' n' c') ∧ w'.ownsRow w.heap.size 2 1 (.slice A' n' c') n' (cI V) ∧ V.length = n' ∧ Below w.heap.size w w'
/-- What a function leaves that returns numbers and a code. -/
def NumsPost (V : List Int) (C : Int) (w : World) (e : Ending) (w' : World) : Prop :=
  ∃ A' n' c', e = .returned (.tuple #[.slice A' n' c', .int .i64 C]) ∧ FrI w' w.heap.size w'.heap.size 2 A' n' V ∧ n' ≤ 1048576 ∧ Below w.heap.size w w'
theorem nums_none {w w' : World} {V : List Int} {C d : Int} {c : Nat} (hV : V = []) (hC : C = d) (hb : Below w.heap.size w w') : NumsPost V C w (.returned (.tuple #[.slice none 0 c, .int .i64 d])) w' := by
  subst hV hC
  exact ⟨none, 0, c, rfl, FrI.nil, by omega, hb⟩

set_option maxRecDepth 100000 in
set_option maxHeartbeats 4000000 in
theorem linesFor_calls (A : Option Addr) (n c : Nat) (xs : List LineZ) (f : Nat) (caps : Array Value) (p : LineZ → Bool) (w : World) (h : RdK kLine w A n xs) (hn : n ≤ 1048576)
    (hcf : ∀ args w, Sem.run Tryz.prog (callFunc f args) w = .ok (.enter f args) w)
    (hf : ∀ W x, Below w.heap.size w W → x ∈ xs → Calls Tryz.prog f (#[.agg #[.int .i64 x.day, .int .i64 x.minute, .string x.text, .int .i64 x.crc]] ++ caps) W fun e w' => e = .returned (.bool (p x)) ∧ Below W.heap.size W w') :
    Calls Tryz.prog 106 #[.slice A n c, .func (.func f) #[] caps] w (NumPost (linesK p xs n) w) := by
  have HL := hide h.2.1
  have HF := hide hf
  clear hf
  go_enter Tryz.func106, Tryz.ntmps106
  go_wp2
  go_loopw [5, 10] (fun a i wr => ∃ (k m : Nat), k ≤ n ∧ m ≤ k ∧ i = .int .i64 k ∧ Hid ((linesK p xs k).length = m ∧ wr.ownsRow w.heap.size 2 1 a m (cI (linesK p xs k))) ∧ Below w.heap.size w wr) (fun _ i _ => n - (intOf i).toNat)
  case atStart => exact ⟨0, 0, Nat.zero_le _, Nat.le_refl _, rfl, ⟨rfl, by simpa [cI, linesK] using World.ownsRow_nil w w.heap.size 2 1⟩, Below.refl _ _⟩
  case round =>
    obtain ⟨k, m, hk, hm, rfl, HO, hb⟩ := hrel
    by_cases hlt : k < n
    · obtain ⟨b, off, f0, f1, f2, f3, rfl, hbl, hx, hc0, hc1, hc2, hc3, _, _, _, _, _, _, _⟩ := (h.below hb (Nat.le_refl _)).atLine hlt
      have HB0 : Hid (Below wr.heap.size wr (wr.alloc (.cells #[.int .i64 f0, .int .i64 f1, .string f2, .int .i64 f3] 48))) := (Below.refl _ _).alloc (Nat.le_refl _) _
      have HM := hide (HF.out (wr.alloc (.cells #[.int .i64 f0, .int .i64 f1, .string f2, .int .i64 f3] 48)) ⟨f0, f1, f2, f3⟩ (hb.trans (HB0.out.mono hb.size)) (List.mem_of_getElem? hx.out))
      rcases b_cases (p ⟨f0, f1, f2, f3⟩) with hp | hp
      · have HI := hide (linesK_no hx.out hp)
        rw [hp] at HM
        clear hp
        go_wp2_with fail
        refine HM.out.mono ?_
        rintro e w2 ⟨rfl, hb2⟩
        have hb02 := HB0.out.trans (hb2.mono (by simp))
        go_wp2
        go_roundw
        case rel => exact ⟨k + 1, m, by omega, by omega, by go_num, ⟨by rw [HI.out]; exact HO.out.1, by rw [HI.out]; exact own_below HO.out.2 hb02 (Nat.le_refl _)⟩, hb.trans (hb02.mono hb.size)⟩
        case measure => simp [intOf]; omega
      · have HI := hide (linesK_yes hx.out hp)
        rw [hp] at HM
        clear hp
        go_wp2_with fail
        refine HM.out.mono ?_
        rintro e w2 ⟨rfl, hb2⟩
        have hb02 := HB0.out.trans (hb2.mono (by simp))
        have hz2 := hb02.size
        have hzr := hb.size
        have HO2 := hide (own_below HO.out.2 hb02 (Nat.le_refl _))
        go_wp2_with (at_builtin; refine appI rfl _ _ rfl w.heap.size u5 m (linesK p xs k) k rfl HO2.out (by first | rfl | (simp; rfl)) (by omega) (by omega) ?_; intro v' w4 hown4 hb4 hz4)
        go_roundw
        case rel => exact ⟨k + 1, m + 1, by omega, by omega, by go_num, ⟨by rw [HI.out, List.length_append, HO.out.1]; rfl, by rw [HI.out]; exact hown4⟩, (hb.trans (hb02.mono hb.size)).trans hb4⟩
        case measure => simp [intOf]; omega
    · have hkn : k = n := by omega
      subst hkn
      obtain ⟨A5, c5, rfl⟩ := own_slice HO.out.2
      go_wp2
      go_ret
      exact ⟨A5, m, c5, rfl, HO.out.2, HO.out.1, hb⟩

theorem logged_bad {xs : List LineZ} {a b : Bool} (h : validL xs = false) : loggedZ xs a b = 1 := by unfold loggedZ; rw [if_pos h]
theorem logged_fine {xs : List LineZ} {b : Bool} (h : validL xs = true) : loggedZ xs false b = 2 := by unfold loggedZ; rw [if_neg (by rw [h]; simp), if_pos rfl]
theorem logged_form {xs : List LineZ} (h : validL xs = true) : loggedZ xs true false = 9 := by unfold loggedZ; rw [if_neg (by rw [h]; simp), if_neg (by simp), if_pos rfl]
theorem logged_ok {xs : List LineZ} (h : validL xs = true) : loggedZ xs true true = 0 := by unfold loggedZ; rw [if_neg (by rw [h]; simp), if_neg (by simp), if_neg (by simp)]

/-! ### LinesOfDay -/
def dayV (xs : List LineZ) (d : Int) : List Int := if loggedZ xs (dayB d) true = 0 then linesK (fun x => decide (x.day = d)) xs xs.length else []
theorem dayV_bad {xs : List LineZ} {d c : Int} (h : loggedZ xs (dayB d) true = c) (hc : c ≠ 0) : dayV xs d = [] := by unfold dayV; rw [h, if_neg hc]
theorem dayV_ok {xs : List LineZ} {d : Int} {n : Nat} (hl : xs.length = n) (h : loggedZ xs (dayB d) true = 0) : dayV xs d = linesK (fun x => decide (x.day = d)) xs n := by unfold dayV; rw [h, if_pos rfl, hl]

theorem linesOfDay1_calls (x : LineZ) (d : Int) (b : Nat) (w : World) (hb : b < w.heap.size) (hc : w.cell? ⟨b, 0, none⟩ = some (.int .i64 d)) :
    Calls Tryz.prog 109 #[.agg #[.int .i64 x.day, .int .i64 x.minute, .string x.text, .int .i64 x.crc], .pointer (some ⟨b, 0, none⟩)] w fun e w' => e = .returned (.bool (decide (x.day = d))) ∧ Below w.heap.size w w' := by
  obtain ⟨f0, f1, f2, f3⟩ := x
  simp only
  obtain ⟨W0, hW0⟩ : ∃ W0, W0 = w.alloc (.cells #[.int .i64 f0, .int .i64 f1, .string f2, .int .i64 f3] 48) := ⟨_, rfl⟩
  have hB : Below w.heap.size w W0 := by rw [hW0]; exact (Below.refl _ _).alloc (Nat.le_refl _) _
  have e0 : W0.cell? ⟨w.heap.size, 0, none⟩ = some (.int .i64 f0) := by rw [hW0]; simp
  have e1 := (hB.cell (p := ⟨b, 0, none⟩) hb).trans hc
  by_cases hq : f0 = d
  · have HQ : Hid (decide (f0 = d) = true) := by unfold Hid; simpa using hq
    have g1 : (f0 == d) = true := by simpa using hq
    clear hq
    go_enter Tryz.func109, Tryz.ntmps109
    go_wp2_with fail
    rw [← hW0]
    clear hW0
    go_wp2
    go_ret
    exact ⟨ret_bool HQ.out.symm, hB⟩
  · have HQ : Hid (decide (f0 = d) = false) := by unfold Hid; simpa using hq
    have g1 : (f0 == d) = false := by simpa using hq
    clear hq
    go_enter Tryz.func109, Tryz.ntmps109
    go_wp2_with fail
    rw [← hW0]
    clear hW0
    go_wp2
    go_ret
    exact ⟨ret_bool HQ.out.symm, hB⟩

set_option maxHeartbeats 2000000 in
theorem implLinesOfDay_calls (A : Option Addr) (n c : Nat) (xs : List LineZ) (d : Int) (w : World) (hT : TabPM w) (h : RdK kLine w A n xs) (hd : I64 d) (hn : n ≤ 1048576) (hx : MidL xs) :
    Calls Tryz.prog 34 #[.slice A n c, .int .i64 d] w (NumsPost (dayV xs d) (loggedZ xs (dayB d) true) w) := by
  have HL := hide h.2.1
  obtain ⟨W0, hW0⟩ : ∃ W0, W0 = w.alloc (.cells #[.int .i64 d] 2) := ⟨_, rfl⟩
  have hB : Below w.heap.size w W0 := by rw [hW0]; exact (Below.refl _ _).alloc (Nat.le_refl _) _
  have e0 : W0.cell? ⟨w.heap.size, 0, none⟩ = some (.int .i64 d) := by rw [hW0]; simp
  have hz : w.heap.size < W0.heap.size := by rw [hW0]; simp
  have h0 := h.below hB (Nat.le_refl _)
  have HM := hide (logged_calls A n c xs (dayB d) true W0 (hT.here hB) h0 hn hx)
  have HD := hide (isOpsDay_calls d W0)
  generalize hcc : loggedZ xs (dayB d) true = cc at *
  have HC := hide hcc
  clear hcc
  by_cases hc0 : cc = 0
  · subst hc0
    have HV := hide (dayV_ok HL.out HC.out)
    go_enter Tryz.func34, Tryz.ntmps34
    go_wp2_with fail
    rw [← hW0]
    clear hW0
    go_wp2_with fail
    refine HD.out.mono ?_
    rintro e w1 ⟨rfl, rfl⟩
    go_wp2_with fail
    refine HM.out.mono ?_
    rintro e w2 ⟨rfl, hb2⟩
    have h2 := h0.below hb2 (Nat.le_refl _)
    have e2 := (hb2.cell (p := ⟨w.heap.size, 0, none⟩) hz).trans e0
    have hz2 := Nat.lt_of_lt_of_le hz hb2.size
    have hbw := hB.trans (hb2.mono hB.size)
    have HF := hide (linesFor_calls A n c xs 109 #[.pointer (some ⟨w.heap.size, 0, none⟩)] (fun x => decide (x.day = d)) w2 h2 hn Tryz.call109 (fun W x hW _ => linesOfDay1_calls x d w.heap.size W (Nat.lt_of_lt_of_le hz2 hW.size) ((hW.cell (p := ⟨w.heap.size, 0, none⟩) hz2).trans e2)))
    go_wp2_with fail
    refine HF.out.mono ?_
    rintro e w3 ⟨A3, n3, c3, rfl, hown, hl3, hb3⟩
    have hn3 : n3 ≤ 1048576 := by have := linesK_len (fun x : LineZ => decide (x.day = d)) xs n; omega
    have HR : Hid (FrI w3 w.heap.size w3.heap.size 2 A3 n3 (dayV xs d)) := by
      have h1 := FrI.of_own hown (linesK_fine _ _ _ hn)
      rw [← HV.out] at h1
      exact ⟨h1.1.mono hbw.size (Nat.le_refl _), h1.2⟩
    clear hown hl3
    go_wp2
    go_ret2
    exact ⟨A3, n3, c3, rfl, HR.out, hn3, hbw.trans (hb3.mono hbw.size)⟩
  · have HV := hide (dayV_bad HC.out hc0)
    have hne : (cc != 0) = true := by simpa using hc0
    clear hc0
    go_enter Tryz.func34, Tryz.ntmps34
    go_wp2_with fail
    rw [← hW0]
    clear hW0
    go_wp2_with fail
    refine HD.out.mono ?_
    rintro e w1 ⟨rfl, rfl⟩
    go_wp2_with fail
    refine HM.out.mono ?_
    rintro e w2 ⟨rfl, hb2⟩
    have hbw := hB.trans (hb2.mono hB.size)
    go_wp2
    go_ret2
    exact nums_none HV.out rfl hbw


end Go.Proofs.YtcclfmapbgdpdaaGreatDoor
