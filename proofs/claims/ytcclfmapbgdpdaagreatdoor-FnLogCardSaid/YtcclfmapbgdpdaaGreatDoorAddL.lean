/- AddLine of the program and of the reference. Printed by gen_addl.py. -/
import Derived.Test.YtcclfmapbgdpdaaGreatDoorLinesF
import Derived.Deep.RegionHeld3
import Derived.Deep.AppendLies
namespace Go.Proofs.YtcclfmapbgdpdaaGreatDoor
open Go.RowKit
set_option linter.unusedVariables false

/-- Is the last line later than another one? -/
def lastL (xs : List LineZ) (x : LineZ) : Bool := match xs[xs.length - 1]? with
  | some l => laterB l x
  | none => false
theorem last_none {xs : List LineZ} {x : LineZ} (h : xs.length = 0) : lastL xs x = false := by
  unfold lastL
  rw [List.getElem?_eq_none (by omega)]
theorem last_some {xs : List LineZ} {x l : LineZ} {m : Nat} (hl : xs.length = m + 1) (h : xs[m]? = some l) : lastL xs x = laterB l x := by
  unfold lastL
  rw [hl, Nat.add_sub_cancel, h]
def addC (xs : List LineZ) (d m : Int) (t : ByteArray) : Int :=
  if loggedZ xs (dayB d && minB m) (textB t) ≠ 0 then loggedZ xs (dayB d && minB m) (textB t) else if lastL xs ⟨d, m, t, 0⟩ = true then 6 else if 40 ≤ xs.length then 5 else 0
def addV (xs : List LineZ) (d m : Int) (t : ByteArray) : List LineZ :=
  if addC xs d m t = 0 then xs ++ [⟨d, m, t, (sealZ (sealF 65535 xs) d m t : Nat)⟩] else []
theorem add_log {xs : List LineZ} {d m c : Int} {t : ByteArray} (h : loggedZ xs (dayB d && minB m) (textB t) = c) (hc : c ≠ 0) : addC xs d m t = c ∧ addV xs d m t = [] := by
  have e : addC xs d m t = c := by unfold addC; rw [h, if_pos hc]
  exact ⟨e, by unfold addV; rw [e, if_neg hc]⟩
theorem add_late {xs : List LineZ} {d m : Int} {t : ByteArray} (h : loggedZ xs (dayB d && minB m) (textB t) = 0) (hl : lastL xs ⟨d, m, t, 0⟩ = true) : addC xs d m t = 6 ∧ addV xs d m t = [] := by
  have e : addC xs d m t = 6 := by unfold addC; rw [h, if_neg (by simp), if_pos hl]
  exact ⟨e, by unfold addV; rw [e, if_neg (by decide)]⟩
theorem add_full {xs : List LineZ} {d m : Int} {t : ByteArray} (h : loggedZ xs (dayB d && minB m) (textB t) = 0) (hl : lastL xs ⟨d, m, t, 0⟩ = false) (hf : 40 ≤ xs.length) : addC xs d m t = 5 ∧ addV xs d m t = [] := by
  have e : addC xs d m t = 5 := by unfold addC; rw [h, if_neg (by simp), if_neg (by rw [hl]; simp), if_pos hf]
  exact ⟨e, by unfold addV; rw [e, if_neg (by decide)]⟩
theorem add_ok {xs : List LineZ} {d m : Int} {t : ByteArray} (h : loggedZ xs (dayB d && minB m) (textB t) = 0) (hl : lastL xs ⟨d, m, t, 0⟩ = false) (hf : xs.length < 40) : addC xs d m t = 0 ∧ addV xs d m t = xs ++ [⟨d, m, t, (sealZ (sealF 65535 xs) d m t : Nat)⟩] := by
  have e : addC xs d m t = 0 := by unfold addC; rw [h, if_neg (by simp), if_neg (by rw [hl]; simp), if_neg (by omega)]
  exact ⟨e, by unfold addV; rw [e, if_pos rfl]⟩
theorem logged_zero {xs : List LineZ} {a b : Bool} (h : loggedZ xs a b = 0) : validL xs = true ∧ a = true ∧ b = true := by
  rcases b_cases (validL xs) with h1 | h1
  · rw [logged_bad h1] at h; omega
  · cases a
    · rw [logged_fine h1] at h; omega
    · cases b
      · rw [logged_form h1] at h; omega
      · exact ⟨h1, rfl, rfl⟩
theorem valid_parts {xs : List LineZ} (h : validL xs = true) : isLogB xs = true ∧ madeZ xs = xs := by
  rw [valid_made, Bool.and_eq_true] at h
  exact ⟨h.1, by simpa using h.2⟩
/-- The seal of the last line of a valid log. -/
theorem valid_last {xs : List LineZ} {l : LineZ} {m : Nat} (h : madeZ xs = xs) (hl : xs.length = m + 1) (hx : xs[m]? = some l) : l.crc = (sealF 65535 xs : Nat) := by
  have h1 := made_at hx
  rw [h, hx] at h1
  have h2 := congrArg LineZ.crc (Option.some.inj h1)
  rw [h2, List.take_of_length_le (by omega)]
theorem made_add {xs : List LineZ} (d m : Int) (t : ByteArray) (h : madeZ xs = xs) : madeZ (xs ++ [⟨d, m, t, 0⟩]) = xs ++ [⟨d, m, t, (sealZ (sealF 65535 xs) d m t : Nat)⟩] := by
  have e : madeZ (xs ++ [⟨d, m, t, 0⟩]) = madeZ xs ++ [⟨d, m, t, (sealF 65535 (xs ++ [⟨d, m, t, 0⟩]) : Nat)⟩] := sealsZ_snoc 65535 xs ⟨d, m, t, 0⟩
  rw [e, h, sealF_snoc]
theorem add_fine {xs : List LineZ} {d m c : Int} {t : ByteArray} (hx : ∀ x ∈ xs, kLine.fine x) (hd : I64 d) (hm : I64 m) (ht : t.size ≤ 9223372036854775807) (hc : I64 c) : ∀ x ∈ xs ++ [(⟨d, m, t, c⟩ : LineZ)], kLine.fine x := by
  intro x h
  rcases List.mem_append.1 h with h | h
  · exact hx x h
  · simp only [List.mem_singleton] at h
    subst h
    exact ⟨hd, hm, ht, hc⟩
theorem nat_I64 {n : Nat} (h : n < 65536) : I64 (n : Int) := by unfold I64; omega
theorem text_40 {t : ByteArray} (h : textB t = true) : t.size ≤ 40 := by
  unfold textB at h
  rw [Bool.and_eq_true] at h
  simpa using h.1

theorem own_mono3 {w : World} {base base' : Nat} {e : TypeId} {size : Nat} {v : Value} {n : Nat} {xs : List Value} (h : w.ownsRow base e size v n xs) (h1 : base' ≤ base) : w.ownsRow base' e size v n xs := by
  refine ⟨h.1, ?_⟩
  rcases h.2 with hn | ⟨g, cap, cur, rfl, hb, rest⟩
  · exact .inl hn
  · exact .inr ⟨g, cap, cur, rfl, by omega, rest⟩
theorem short_add {xs : List LineZ} {d m c : Int} {t : ByteArray} (h : ShortL xs) (ht : t.size ≤ 40) : ShortL (xs ++ [⟨d, m, t, c⟩]) := by
  intro x hx
  rcases List.mem_append.1 hx with hx | hx
  · exact h x hx
  · simp only [List.mem_singleton] at hx
    subst hx
    simp only
    omega

/-- LinPost, and a row's length is within its capacity. -/
def LinPostC (V : List LineZ) (C : Int) (w : World) (e : Ending) (w' : World) : Prop :=
  ∃ A' n' c', e = .returned (.tuple #[.slice A' n' c', .int .i64 C]) ∧ FrK kLine w' w.heap.size w'.heap.size 48 A' n' V ∧ n' ≤ 1048576 ∧ n' ≤ c' ∧ Below w.heap.size w w'
theorem LinPostC.to {V : List LineZ} {C : Int} {w w' : World} {e : Ending} (h : LinPostC V C w e w') : LinPost V C w e w' := by
  obtain ⟨A', n', c', h1, h2, h3, _, h5⟩ := h
  exact ⟨A', n', c', h1, h2, h3, h5⟩
theorem linc_none {w w' : World} {V : List LineZ} {C d : Int} {c : Nat} (hV : V = []) (hC : C = d) (hb : Below w.heap.size w w') : LinPostC V C w (.returned (.tuple #[.slice none 0 c, .int .i64 d])) w' := by
  subst hV hC
  exact ⟨none, 0, c, rfl, FrK.nil, by omega, Nat.zero_le _, hb⟩

set_option maxRecDepth 100000 in
set_option maxHeartbeats 8000000 in
theorem implAddLineC_calls (A : Option Addr) (n c : Nat) (xs : List LineZ) (d m : Int) (t : ByteArray) (w : World) (hT : TabPM w) (h : RdK kLine w A n xs) (hd : I64 d) (hm : I64 m) (ht0 : t.size ≤ 9223372036854775807) (hn : n ≤ 1048576) (ht : t.size ≤ 1048576) (hx : MidL xs) :
    Calls Tryz.prog 21 #[.slice A n c, .int .i64 d, .int .i64 m, .string t] w (LinPostC (addV xs d m t) (addC xs d m t) w) := by
  have HL := hide h.2.1
  have HFI := hide h.2.2
  have HD := hide (isOpsDay_calls d w)
  have HMI := hide (isMinute_calls m w)
  have HX := hide (isText_calls t w hT.2 ht)
  have HM : Hid (∀ W, Below w.heap.size w W → Calls Tryz.prog 89 #[.slice A n c, .bool (dayB d && minB m), .bool (textB t)] W fun e w' => e = .returned (.int .i64 (loggedZ xs (dayB d && minB m) (textB t))) ∧ Below W.heap.size W w') := fun W hW => logged_calls A n c xs _ _ W (hT.here hW) (h.below hW (Nat.le_refl _)) hn hx
  have HBAD : Hid (∀ c, loggedZ xs (dayB d && minB m) (textB t) = c → c ≠ 0 → addC xs d m t = c ∧ addV xs d m t = []) := fun c => add_log
  have HLATE : Hid (loggedZ xs (dayB d && minB m) (textB t) = 0 → lastL xs ⟨d, m, t, 0⟩ = true → addC xs d m t = 6 ∧ addV xs d m t = []) := add_late
  have HFULL : Hid (loggedZ xs (dayB d && minB m) (textB t) = 0 → lastL xs ⟨d, m, t, 0⟩ = false → 40 ≤ xs.length → addC xs d m t = 5 ∧ addV xs d m t = []) := add_full
  have HOK : Hid (loggedZ xs (dayB d && minB m) (textB t) = 0 → lastL xs ⟨d, m, t, 0⟩ = false → xs.length < 40 → addC xs d m t = 0 ∧ addV xs d m t = xs ++ [⟨d, m, t, (sealZ (sealF 65535 xs) d m t : Nat)⟩]) := add_ok
  have HLZ : Hid (loggedZ xs (dayB d && minB m) (textB t) = 0 → validL xs = true ∧ (dayB d && minB m) = true ∧ textB t = true) := logged_zero
  -- the tests ahead
  have key : Hid (∀ (q1 q2 : Bool), dayB d = q1 → minB m = q2 → True) := fun _ _ _ _ => trivial
  clear key
  generalize hcc : loggedZ xs (dayB d && minB m) (textB t) = cc at *
  by_cases hc0 : cc = 0
  case neg =>
    have HV := hide (HBAD.out cc rfl hc0)
    have hne : (cc != 0) = true := by simpa using hc0
    clear hc0 hcc
    rcases b_cases (dayB d) with hq1 | hq1
    · rw [hq1, Bool.false_and] at HM
      rw [hq1] at HD
      clear hq1
      go_enter Tryz.func21, Tryz.ntmps21
      go_wp2_with fail
      refine HD.out.mono ?_
      rintro e w1 ⟨rfl, rfl⟩
      go_wp2_with fail
      refine HX.out.mono ?_
      rintro e w1 ⟨rfl, hb1⟩
      go_wp2_with fail
      refine (HM.out w1 hb1).mono ?_
      rintro e w2 ⟨rfl, hb2⟩
      go_wp2
      go_ret2
      exact linc_none HV.out.2 HV.out.1 (hb1.trans (hb2.mono hb1.size))
    · rw [hq1, Bool.true_and] at HM
      rw [hq1] at HD
      clear hq1
      go_enter Tryz.func21, Tryz.ntmps21
      go_wp2_with fail
      refine HD.out.mono ?_
      rintro e w1 ⟨rfl, rfl⟩
      go_wp2_with fail
      refine HMI.out.mono ?_
      rintro e w1 ⟨rfl, rfl⟩
      go_wp2_with fail
      refine HX.out.mono ?_
      rintro e w1 ⟨rfl, hb1⟩
      go_wp2_with fail
      refine (HM.out w1 hb1).mono ?_
      rintro e w2 ⟨rfl, hb2⟩
      go_wp2
      go_ret2
      exact linc_none HV.out.2 HV.out.1 (hb1.trans (hb2.mono hb1.size))
  subst hc0
  replace HLATE := hide (HLATE.out rfl)
  replace HFULL := hide (HFULL.out rfl)
  replace HOK := hide (HOK.out rfl)
  obtain ⟨hv, hq12, hq3⟩ := HLZ.out rfl
  rw [Bool.and_eq_true] at hq12
  obtain ⟨hlog, hmade⟩ := valid_parts hv
  have HMD := hide hmade
  have h40 := log_len hlog
  rw [h.2.1] at h40
  have HSH := hide (log_short hlog)
  have ht40 := text_40 hq3
  rw [hq12.1, hq12.2] at HM
  rw [hq12.1] at HD
  rw [hq12.2] at HMI
  rw [hq3] at HM HX
  clear hcc hv hq12 hq3 hlog hmade HBAD HLZ
  go_enter Tryz.func21, Tryz.ntmps21
  go_wp2_with fail
  refine HD.out.mono ?_
  rintro e w1 ⟨rfl, rfl⟩
  go_wp2_with fail
  refine HMI.out.mono ?_
  rintro e w1 ⟨rfl, rfl⟩
  go_wp2_with fail
  refine HX.out.mono ?_
  rintro e w1 ⟨rfl, hb1⟩
  go_wp2_with fail
  refine (HM.out w1 hb1).mono ?_
  rintro e w2 ⟨rfl, hb2⟩
  have hb12 := hb1.trans (hb2.mono hb1.size)
  have h2 := h.below hb12 (Nat.le_refl _)
  obtain ⟨W1, hW1⟩ : ∃ W1, W1 = w2.alloc (.cells #[.int .i64 d, .int .i64 m, .string t, .int .i64 0] 48) := ⟨_, rfl⟩
  have hBx : Below w2.heap.size w2 W1 := by rw [hW1]; exact (Below.refl _ _).alloc (Nat.le_refl _) _
  have e0 : W1.cell? ⟨w2.heap.size, 0, none⟩ = some (.int .i64 d) := by rw [hW1]; simp
  have e1 : W1.cell? ⟨w2.heap.size, 1, none⟩ = some (.int .i64 m) := by rw [hW1]; simp
  have e2 : W1.cell? ⟨w2.heap.size, 2, none⟩ = some (.string t) := by rw [hW1]; simp
  have e3 : W1.cell? ⟨w2.heap.size, 3, none⟩ = some (.int .i64 0) := by rw [hW1]; simp
  have hz1 : w2.heap.size < W1.heap.size := by rw [hW1]; simp
  have hbw := hb12.trans (hBx.mono hb12.size)
  have h3 := h2.below hBx (Nat.le_refl _)
  clear HD HMI HX HM hb1 hb2 h h2
  rcases Nat.eq_zero_or_pos n with hn0 | hn0
  · have HLA := hide (last_none (x := ⟨d, m, t, 0⟩) (by rw [HL.out]; exact hn0))
    have hn00 := hn0
    go_wp2
    rw [← hW1]
    clear hW1
    subst hn00
    clear hn0
    refine wp_region_held_drew (S := fun w' => w'.cell? ⟨w2.heap.size, 0, none⟩ = some (.int .i64 d) ∧ w'.cell? ⟨w2.heap.size, 1, none⟩ = some (.int .i64 m) ∧ w'.cell? ⟨w2.heap.size, 2, none⟩ = some (.string t) ∧ w'.cell? ⟨w2.heap.size, 3, none⟩ = some (.int .i64 0)) (by kernel_rfl) ⟨e0, e1, e2, e3⟩ (fun hHeld => ?_)
    refine takeH 0 29 (.slice A 0 c) ⟨_, rfl, rfl, rfl, ?_⟩ (by kernel_rfl) (by kernel_rfl) (by kernel_rfl) (fun _ _ _ h => h) hHeld ?_
    · intro w hSw; (try dsimp only at hSw); go_simp <;> first | exact IntWalk.i64_in _ (by omega) | (intro hq; omega)
    try simp only [Act.put, List.setIfInBounds_toArray, List.set_cons_zero, List.set_cons_succ]
    refine takeH 1 30 (.int .i64 ((0 : Nat) : Int)) ⟨_, rfl, rfl, rfl, ?_⟩ (by kernel_rfl) (by kernel_rfl) (by kernel_rfl) (fun _ _ _ h => h) hHeld ?_
    · intro w hSw; (try dsimp only at hSw); go_simp <;> first | exact IntWalk.i64_in _ (by omega) | (intro hq; omega)
    try simp only [Act.put, List.setIfInBounds_toArray, List.set_cons_zero, List.set_cons_succ]
    refine takeH 2 31 (.bool false) ⟨_, rfl, rfl, rfl, ?_⟩ (by kernel_rfl) (by kernel_rfl) (by kernel_rfl) (fun _ _ _ h => h) hHeld ?_
    · intro w hSw; (try dsimp only at hSw); go_simp <;> first | exact IntWalk.i64_in _ (by omega) | (intro hq; omega)
    try simp only [Act.put, List.setIfInBounds_toArray, List.set_cons_zero, List.set_cons_succ]
    refine takeH 3 32 (.bool false) ⟨_, rfl, rfl, rfl, ?_⟩ (by kernel_rfl) (by kernel_rfl) (by kernel_rfl) (fun _ _ _ h => h) hHeld ?_
    · intro w hSw; (try dsimp only at hSw); go_simp <;> first | exact IntWalk.i64_in _ (by omega) | (intro hq; omega)
    try simp only [Act.put, List.setIfInBounds_toArray, List.set_cons_zero, List.set_cons_succ]
    refine skipH 4 33 ⟨_, rfl, rfl, rfl⟩ (by kernel_rfl) (by kernel_rfl) (by kernel_rfl) (fun _ _ _ h => h) hHeld ?_
    try simp only [Act.put, List.setIfInBounds_toArray, List.set_cons_zero, List.set_cons_succ]
    refine skipH 5 34 ⟨_, rfl, rfl, rfl⟩ (by kernel_rfl) (by kernel_rfl) (by kernel_rfl) (fun _ _ _ h => h) hHeld ?_
    try simp only [Act.put, List.setIfInBounds_toArray, List.set_cons_zero, List.set_cons_succ]
    refine skipH 6 35 ⟨_, rfl, rfl, rfl⟩ (by kernel_rfl) (by kernel_rfl) (by kernel_rfl) (fun _ _ _ h => h) hHeld ?_
    try simp only [Act.put, List.setIfInBounds_toArray, List.set_cons_zero, List.set_cons_succ]
    refine skipH 7 36 ⟨_, rfl, rfl, rfl⟩ (by kernel_rfl) (by kernel_rfl) (by kernel_rfl) (fun _ _ _ h => h) hHeld ?_
    try simp only [Act.put, List.setIfInBounds_toArray, List.set_cons_zero, List.set_cons_succ]
    refine skipH 8 37 ⟨_, rfl, rfl, rfl⟩ (by kernel_rfl) (by kernel_rfl) (by kernel_rfl) (fun _ _ _ h => h) hHeld ?_
    try simp only [Act.put, List.setIfInBounds_toArray, List.set_cons_zero, List.set_cons_succ]
    refine skipH 9 38 ⟨_, rfl, rfl, rfl⟩ (by kernel_rfl) (by kernel_rfl) (by kernel_rfl) (fun _ _ _ h => h) hHeld ?_
    try simp only [Act.put, List.setIfInBounds_toArray, List.set_cons_zero, List.set_cons_succ]
    refine skipH 10 39 ⟨_, rfl, rfl, rfl⟩ (by kernel_rfl) (by kernel_rfl) (by kernel_rfl) (fun _ _ _ h => h) hHeld ?_
    try simp only [Act.put, List.setIfInBounds_toArray, List.set_cons_zero, List.set_cons_succ]
    refine skipH 11 40 ⟨_, rfl, rfl, rfl⟩ (by kernel_rfl) (by kernel_rfl) (by kernel_rfl) (fun _ _ _ h => h) hHeld ?_
    try simp only [Act.put, List.setIfInBounds_toArray, List.set_cons_zero, List.set_cons_succ]
    refine takeH 12 41 (.bool false) ⟨_, rfl, rfl, rfl, ?_⟩ (by kernel_rfl) (by kernel_rfl) (by kernel_rfl) (fun _ _ _ h => h) hHeld ?_
    · intro w hSw; (try dsimp only at hSw); go_simp <;> first | exact IntWalk.i64_in _ (by omega) | (intro hq; omega)
    try simp only [Act.put, List.setIfInBounds_toArray, List.set_cons_zero, List.set_cons_succ]
    refine wpAnyH_done (by kernel_rfl) ?_ _
    have HV := hide (HOK.out HLA.out (by rw [HL.out]; omega))
    obtain ⟨w3, hw3⟩ : ∃ w3, w3 = W1.drew := ⟨_, rfl⟩
    have hbw3 : Below w.heap.size w w3 := by rw [hw3]; exact hbw.drew
    have h4 : RdK kLine w3 A 0 xs := by rw [hw3]; exact h3
    have k0 : w3.cell? ⟨w2.heap.size, 0, none⟩ = some (.int .i64 d) := by rw [hw3]; exact e0
    have k1 : w3.cell? ⟨w2.heap.size, 1, none⟩ = some (.int .i64 m) := by rw [hw3]; exact e1
    have k2 : w3.cell? ⟨w2.heap.size, 2, none⟩ = some (.string t) := by rw [hw3]; exact e2
    have k3 : w3.cell? ⟨w2.heap.size, 3, none⟩ = some (.int .i64 0) := by rw [hw3]; exact e3
    have hz3 : w2.heap.size < w3.heap.size := by rw [hw3]; exact hz1
    rw [← hw3]
    clear hw3 e0 e1 e2 e3 h3 hbw
    have HCL : Hid (∀ W, Below w3.heap.size w3 W → Calls Tryz.prog 95 #[.slice A 0 c] W fun e w' => ∃ A' c', e = .returned (.slice A' 0 c') ∧ w'.ownsRow W.heap.size 48 4 (.slice A' 0 c') 0 (cK kLine xs) ∧ (A' = none → c' = 0) ∧ Below W.heap.size W w') := fun W hW => cloneLine_calls A 0 c xs W (h4.below hW (Nat.le_refl _)) hn
    have HSL : Hid (∀ g c5 W, W.ownsRow w3.heap.size 48 4 (.slice (some ⟨g, 0, none⟩) (0 + 1) c5) (0 + 1) (cK kLine xs ++ kLine.c ⟨d, m, t, 0⟩) → Below w3.heap.size w3 W → Calls Tryz.prog 94 #[.slice (some ⟨g, 0, none⟩) (0 + 1) c5] W (MadePost (xs ++ [⟨d, m, t, 0⟩]) (0 + 1) W)) := fun g c5 W ho hW => sealed_calls _ _ _ (xs ++ [⟨d, m, t, 0⟩]) W (RdK.of_own (K := kLine) (by rw [cK_snoc]; exact ho) (by rw [List.length_append, HL.out]; rfl) (add_fine HFI.out hd hm ht0 (by unfold I64; omega))) (by omega) ((hT.1.here hbw3).here hW) (short_add HSH.out ht40)
    obtain ⟨i0, hi0, hz0, hz10, hz2⟩ := info_parts Tryz.infoLine
    have HI := hide (And.intro hi0 (And.intro hz0 (And.intro hz10 hz2)))
    clear hi0 hz0 hz10 hz2
    have KS : Hid (∀ W, Below w3.heap.size w3 W → W.cell? ⟨w2.heap.size, 0, none⟩ = some (.int .i64 d) ∧ W.cell? ⟨w2.heap.size, 1, none⟩ = some (.int .i64 m) ∧ W.cell? ⟨w2.heap.size, 2, none⟩ = some (.string t) ∧ W.cell? ⟨w2.heap.size, 3, none⟩ = some (.int .i64 0)) := fun W C => ⟨(C.cell (p := ⟨w2.heap.size, 0, none⟩) hz3).trans k0, (C.cell (p := ⟨w2.heap.size, 1, none⟩) hz3).trans k1, (C.cell (p := ⟨w2.heap.size, 2, none⟩) hz3).trans k2, (C.cell (p := ⟨w2.heap.size, 3, none⟩) hz3).trans k3⟩
    go_wp2
    go_region_held3 (fun w' => w'.cell? ⟨w2.heap.size, 0, none⟩ = some (.int .i64 d) ∧ w'.cell? ⟨w2.heap.size, 1, none⟩ = some (.int .i64 m) ∧ w'.cell? ⟨w2.heap.size, 2, none⟩ = some (.string t) ∧ w'.cell? ⟨w2.heap.size, 3, none⟩ = some (.int .i64 0))
      (first | exact ⟨k0, k1, k2, k3⟩ | exact KS.out _ hk4 | exact KS.out _ (hk4.alloc hk4.size _) | exact KS.out _ ((Below.refl _ w3).drew.alloc (Nat.le_refl _) _) | exact KS.out _ ((Below.refl _ w3).alloc (Nat.le_refl _) _).drew | exact KS.out _ hk5 | exact KS.out _ hk6 | exact KS.out _ hk4.drew | exact KS.out _ hk5.drew)
      (first
        | (go_at_call 95; (with_reducible refine (HCL.out w3.drew (Below.refl w3.heap.size w3).drew).mono ?_); rintro e w4 ⟨A3, c3, rfl, hown3, hnil3, hb4⟩; have hk4 : Below w3.heap.size w3 w4 := ((Below.refl _ w3).drew).trans hb4; have HO3 := hide hown3; clear hown3)
        | (go_at_call 95; have q0 : Below w3.heap.size w3 (w3.alloc (.cells #[.int .i64 d, .int .i64 m, .string t, .int .i64 0] 48)).drew := ((Below.refl w3.heap.size w3).alloc (Nat.le_refl _) _).drew; (with_reducible refine (HCL.out _ q0).mono ?_); rintro e w4 ⟨A3, c3, rfl, hown3, hnil3, hb4⟩; have hk4 : Below w3.heap.size w3 w4 := q0.trans (hb4.mono (by simp)); have HO3 := hide hown3; clear hown3)
        | (go_at_call 94; (with_reducible refine (HSL.out _ _ _ HO5.out hk5).mono ?_); rintro e w6 ⟨A6, c6, rfl, hown6, hb6⟩; have hk6 : Below w3.heap.size w3 w6 := hk5.trans (hb6.mono hk5.size); have HO6 := hide hown6; clear hown6)
        | (refine step_append_lies _ (by rfl) _ _ _ (by rfl) w3.heap.size 48 i0 _ 4 40 Tryz.underlying39 HI.out.1 HI.out.2.1 HI.out.2.2.1 HI.out.2.2.2 rfl (by omega) (.slice A3 0 c3) 0 (cK kLine xs) (by rfl) (own_mono3 (HO3.out.alloc (.cells #[.int .i64 d, .int .i64 m, .string t, .int .i64 0] 48)) (by simp)) ⟨w4.heap.size, 0, none⟩ 1 1 (kLine.c ⟨d, m, t, 0⟩) (by rfl) (by rfl) (World.news_of_block (cs := #[.int .i64 d, .int .i64 m, .string t, .int .i64 0]) (t := 48) (fr := (0, 0)) (heap_alloc_new w4 _)) (by intro u hu; exact kLine.one _ u hu) (by omega) (by unfold maxLen; omega) (by omega) (by have := hk4.size; simp; omega) (w4.heap.size + 1) (by simp) ?_; intro g5 c5 w5 hown5 hgrow hat hlt5; have hk5 : Below w3.heap.size w3 w5 := (hk4.alloc hk4.size _).grown hgrow (by have := hk4.size; simp; omega) (fun g hg => by have := (HO3.out.lt g hg).1; simpa using this); have HO5 := hide hown5; clear hown5)
        | (refine step_append_lies _ (by rfl) _ _ _ (by rfl) w3.heap.size 48 i0 _ 4 40 Tryz.underlying39 HI.out.1 HI.out.2.1 HI.out.2.2.1 HI.out.2.2.2 rfl (by omega) (.slice A3 0 c3) 0 (cK kLine xs) (by rfl) (own_mono3 HO3.out (by simp)) ⟨w3.heap.size, 0, none⟩ 1 1 (kLine.c ⟨d, m, t, 0⟩) (by rfl) (by rfl) (World.news_of_block (cs := #[.int .i64 d, .int .i64 m, .string t, .int .i64 0]) (t := 48) (fr := (0, 0)) ((hb4.block w3.heap.size (by simp)).trans (heap_alloc_new w3 _))) (by intro u hu; exact kLine.one _ u hu) (by omega) (by unfold maxLen; omega) (by omega) hk4.size w4.heap.size rfl ?_; intro g5 c5 w5 hown5 hgrow hat hlt5; have hk5 : Below w3.heap.size w3 w5 := hk4.grown hgrow hk4.size (fun g hg => by have := (HO3.out.lt g hg).1; simp at this; omega); have HO5 := hide hown5; clear hown5)
        | fail)
    all_goals
      have hbx := hbw3.trans (hk6.mono hbw3.size)
      go_wp2
      go_ret2
      refine ⟨A6, 0 + 1, c6, ret_two rfl (congrArg (Value.int .i64) HV.out.1.symm), ?_, by omega, own_cap HO6.out, hbx⟩
      rw [HV.out.2, ← made_add d m t HMD.out]
      exact (FrK.of_own (K := kLine) HO6.out (by rw [madeZ_len, List.length_append, HL.out]; rfl) (made_fine (add_fine HFI.out hd hm ht0 (by unfold I64; omega)))).mono (Nat.le_trans hbw3.size hk5.size) (Nat.le_refl _)
  · obtain ⟨k, rfl⟩ : ∃ k, n = k + 1 := ⟨n - 1, by omega⟩
    clear hn0
    obtain ⟨b, off, p0, p1, p2, p3, rfl, hbW, hy, d0, d1, d2, d3, _, _, _, _, _, _, _⟩ := h3.atLine (show k < k + 1 by omega)
    have HLS := hide (last_some (x := ⟨d, m, t, 0⟩) HL.out hy.out)
    have HCG : Hid (∀ W, Calls Tryz.prog 93 #[.agg #[.int .i64 p0, .int .i64 p1, .string p2, .int .i64 p3], .agg #[.int .i64 d, .int .i64 m, .string t, .int .i64 0]] W fun e w' => e = .returned (.bool (laterB ⟨p0, p1, p2, p3⟩ ⟨d, m, t, 0⟩)) ∧ Below W.heap.size W w') := fun W => isLater_calls ⟨p0, p1, p2, p3⟩ ⟨d, m, t, 0⟩ W
    rcases b_cases (laterB ⟨p0, p1, p2, p3⟩ ⟨d, m, t, 0⟩) with q | q
    case inr =>
      have HV := hide (HLATE.out (HLS.out.trans q))
      rw [q] at HCG
      clear q
      go_wp2
      rw [← hW1]
      clear hW1
      refine wp_region_held_drew (S := fun w' => w'.cell? ⟨w2.heap.size, 0, none⟩ = some (.int .i64 d) ∧ w'.cell? ⟨w2.heap.size, 1, none⟩ = some (.int .i64 m) ∧ w'.cell? ⟨w2.heap.size, 2, none⟩ = some (.string t) ∧ w'.cell? ⟨w2.heap.size, 3, none⟩ = some (.int .i64 0) ∧ w'.cell? ⟨b, off + k * 4, none⟩ = some (.int .i64 p0) ∧ w'.cell? ⟨b, off + k * 4 + 1, none⟩ = some (.int .i64 p1) ∧ w'.cell? ⟨b, off + k * 4 + 2, none⟩ = some (.string p2) ∧ w'.cell? ⟨b, off + k * 4 + 3, none⟩ = some (.int .i64 p3)) (by kernel_rfl) ⟨e0, e1, e2, e3, d0, d1, d2, d3⟩ (fun hHeld => ?_)
      refine takeH 0 29 (.slice (some ⟨b, off, none⟩) (k + 1) c) ⟨_, rfl, rfl, rfl, ?_⟩ (by kernel_rfl) (by kernel_rfl) (by kernel_rfl) (fun _ _ _ h => h) hHeld ?_
      · intro w hSw; (try dsimp only at hSw); go_simp <;> first | exact IntWalk.i64_in _ (by omega) | (intro hq; omega)
      try simp only [Act.put, List.setIfInBounds_toArray, List.set_cons_zero, List.set_cons_succ]
      refine takeH 1 30 (.int .i64 ((k + 1 : Nat) : Int)) ⟨_, rfl, rfl, rfl, ?_⟩ (by kernel_rfl) (by kernel_rfl) (by kernel_rfl) (fun _ _ _ h => h) hHeld ?_
      · intro w hSw; (try dsimp only at hSw); go_simp <;> first | exact IntWalk.i64_in _ (by omega) | (intro hq; omega)
      try simp only [Act.put, List.setIfInBounds_toArray, List.set_cons_zero, List.set_cons_succ]
      refine takeH 2 31 (.bool true) ⟨_, rfl, rfl, rfl, ?_⟩ (by kernel_rfl) (by kernel_rfl) (by kernel_rfl) (fun _ _ _ h => h) hHeld ?_
      · intro w hSw; (try dsimp only at hSw); go_simp <;> first | exact IntWalk.i64_in _ (by omega) | (intro hq; omega)
      try simp only [Act.put, List.setIfInBounds_toArray, List.set_cons_zero, List.set_cons_succ]
      refine takeH 3 32 (.bool true) ⟨_, rfl, rfl, rfl, ?_⟩ (by kernel_rfl) (by kernel_rfl) (by kernel_rfl) (fun _ _ _ h => h) hHeld ?_
      · intro w hSw; (try dsimp only at hSw); go_simp <;> first | exact IntWalk.i64_in _ (by omega) | (intro hq; omega)
      try simp only [Act.put, List.setIfInBounds_toArray, List.set_cons_zero, List.set_cons_succ]
      refine takeH 4 33 (.slice (some ⟨b, off, none⟩) (k + 1) c) ⟨_, rfl, rfl, rfl, ?_⟩ (by kernel_rfl) (by kernel_rfl) (by kernel_rfl) (fun _ _ _ h => h) hHeld ?_
      · intro w hSw; (try dsimp only at hSw); go_simp <;> first | exact IntWalk.i64_in _ (by omega) | (intro hq; omega)
      try simp only [Act.put, List.setIfInBounds_toArray, List.set_cons_zero, List.set_cons_succ]
      refine takeH 5 34 (.slice (some ⟨b, off, none⟩) (k + 1) c) ⟨_, rfl, rfl, rfl, ?_⟩ (by kernel_rfl) (by kernel_rfl) (by kernel_rfl) (fun _ _ _ h => h) hHeld ?_
      · intro w hSw; (try dsimp only at hSw); go_simp <;> first | exact IntWalk.i64_in _ (by omega) | (intro hq; omega)
      try simp only [Act.put, List.setIfInBounds_toArray, List.set_cons_zero, List.set_cons_succ]
      refine takeH 6 35 (.int .i64 ((k + 1 : Nat) : Int)) ⟨_, rfl, rfl, rfl, ?_⟩ (by kernel_rfl) (by kernel_rfl) (by kernel_rfl) (fun _ _ _ h => h) hHeld ?_
      · intro w hSw; (try dsimp only at hSw); go_simp <;> first | exact IntWalk.i64_in _ (by omega) | (intro hq; omega)
      try simp only [Act.put, List.setIfInBounds_toArray, List.set_cons_zero, List.set_cons_succ]
      refine takeH 7 36 (.int .i64 (k : Int)) ⟨_, rfl, rfl, rfl, ?_⟩ (by kernel_rfl) (by kernel_rfl) (by kernel_rfl) (fun _ _ _ h => h) hHeld ?_
      · intro w hSw; (try dsimp only at hSw); go_simp <;> first | exact IntWalk.i64_in _ (by omega) | (intro hq; omega)
      try simp only [Act.put, List.setIfInBounds_toArray, List.set_cons_zero, List.set_cons_succ]
      refine takeH 8 37 (.pointer (some ⟨b, off + k * 4, none⟩)) ⟨_, rfl, rfl, rfl, ?_⟩ (by kernel_rfl) (by kernel_rfl) (by kernel_rfl) (fun _ _ _ h => h) hHeld ?_
      · intro w hSw; (try dsimp only at hSw); go_simp <;> first | exact IntWalk.i64_in _ (by omega) | (intro hq; omega)
      try simp only [Act.put, List.setIfInBounds_toArray, List.set_cons_zero, List.set_cons_succ]
      refine takeH 9 38 (.agg #[.int .i64 p0, .int .i64 p1, .string p2, .int .i64 p3]) ⟨_, rfl, rfl, rfl, ?_⟩ (by kernel_rfl) (by kernel_rfl) (by kernel_rfl) (fun _ _ _ h => h) hHeld ?_
      · intro w hSw; (try dsimp only at hSw); go_simp <;> first | exact IntWalk.i64_in _ (by omega) | (intro hq; omega)
      try simp only [Act.put, List.setIfInBounds_toArray, List.set_cons_zero, List.set_cons_succ]
      refine takeH 10 39 (.agg #[.int .i64 d, .int .i64 m, .string t, .int .i64 0]) ⟨_, rfl, rfl, rfl, ?_⟩ (by kernel_rfl) (by kernel_rfl) (by kernel_rfl) (fun _ _ _ h => h) hHeld ?_
      · intro w hSw; (try dsimp only at hSw); go_simp <;> first | exact IntWalk.i64_in _ (by omega) | (intro hq; omega)
      try simp only [Act.put, List.setIfInBounds_toArray, List.set_cons_zero, List.set_cons_succ]
      refine wpAnyH_ready (rs := [11]) (by kernel_rfl) (by simp) ?_
      refine AllReadyH.cons rfl (fun K hK => ?_) AllReadyH.nil
      go_simp
      go_at_call 93; refine (HCG.out _).mono ?_; rintro e w4 ⟨rfl, hb4⟩
      try go_wp2_with fail
      refine hK.out _ _ ⟨(hb4.cell (p := ⟨w2.heap.size, 0, none⟩) hz1).trans e0, (hb4.cell (p := ⟨w2.heap.size, 1, none⟩) hz1).trans e1, (hb4.cell (p := ⟨w2.heap.size, 2, none⟩) hz1).trans e2, (hb4.cell (p := ⟨w2.heap.size, 3, none⟩) hz1).trans e3, (hb4.cell (p := ⟨b, off + k * 4, none⟩) hbW).trans d0, (hb4.cell (p := ⟨b, off + k * 4 + 1, none⟩) hbW).trans d1, (hb4.cell (p := ⟨b, off + k * 4 + 2, none⟩) hbW).trans d2, (hb4.cell (p := ⟨b, off + k * 4 + 3, none⟩) hbW).trans d3⟩ (fun hHeld => ?_)
      clear hK K
      try simp only [Act.put, List.setIfInBounds_toArray, List.set_cons_zero, List.set_cons_succ]
      refine takeH 12 41 (.bool true) ⟨_, rfl, rfl, rfl, ?_⟩ (by kernel_rfl) (by kernel_rfl) (by kernel_rfl) (fun _ _ _ h => h) hHeld ?_
      · intro w hSw; (try dsimp only at hSw); go_simp <;> first | exact IntWalk.i64_in _ (by omega) | (intro hq; omega)
      try simp only [Act.put, List.setIfInBounds_toArray, List.set_cons_zero, List.set_cons_succ]
      refine wpAnyH_done (by kernel_rfl) ?_ _
      go_wp2
      go_ret2
      exact linc_none HV.out.2 HV.out.1 (hbw.drew.trans (hb4.mono hbw.size))
    have HLA := hide (HLS.out.trans q)
    rw [q] at HCG
    clear q
    go_wp2
    rw [← hW1]
    clear hW1
    refine wp_region_held_drew (S := fun w' => w'.cell? ⟨w2.heap.size, 0, none⟩ = some (.int .i64 d) ∧ w'.cell? ⟨w2.heap.size, 1, none⟩ = some (.int .i64 m) ∧ w'.cell? ⟨w2.heap.size, 2, none⟩ = some (.string t) ∧ w'.cell? ⟨w2.heap.size, 3, none⟩ = some (.int .i64 0) ∧ w'.cell? ⟨b, off + k * 4, none⟩ = some (.int .i64 p0) ∧ w'.cell? ⟨b, off + k * 4 + 1, none⟩ = some (.int .i64 p1) ∧ w'.cell? ⟨b, off + k * 4 + 2, none⟩ = some (.string p2) ∧ w'.cell? ⟨b, off + k * 4 + 3, none⟩ = some (.int .i64 p3)) (by kernel_rfl) ⟨e0, e1, e2, e3, d0, d1, d2, d3⟩ (fun hHeld => ?_)
    refine takeH 0 29 (.slice (some ⟨b, off, none⟩) (k + 1) c) ⟨_, rfl, rfl, rfl, ?_⟩ (by kernel_rfl) (by kernel_rfl) (by kernel_rfl) (fun _ _ _ h => h) hHeld ?_
    · intro w hSw; (try dsimp only at hSw); go_simp <;> first | exact IntWalk.i64_in _ (by omega) | (intro hq; omega)
    try simp only [Act.put, List.setIfInBounds_toArray, List.set_cons_zero, List.set_cons_succ]
    refine takeH 1 30 (.int .i64 ((k + 1 : Nat) : Int)) ⟨_, rfl, rfl, rfl, ?_⟩ (by kernel_rfl) (by kernel_rfl) (by kernel_rfl) (fun _ _ _ h => h) hHeld ?_
    · intro w hSw; (try dsimp only at hSw); go_simp <;> first | exact IntWalk.i64_in _ (by omega) | (intro hq; omega)
    try simp only [Act.put, List.setIfInBounds_toArray, List.set_cons_zero, List.set_cons_succ]
    refine takeH 2 31 (.bool true) ⟨_, rfl, rfl, rfl, ?_⟩ (by kernel_rfl) (by kernel_rfl) (by kernel_rfl) (fun _ _ _ h => h) hHeld ?_
    · intro w hSw; (try dsimp only at hSw); go_simp <;> first | exact IntWalk.i64_in _ (by omega) | (intro hq; omega)
    try simp only [Act.put, List.setIfInBounds_toArray, List.set_cons_zero, List.set_cons_succ]
    refine takeH 3 32 (.bool true) ⟨_, rfl, rfl, rfl, ?_⟩ (by kernel_rfl) (by kernel_rfl) (by kernel_rfl) (fun _ _ _ h => h) hHeld ?_
    · intro w hSw; (try dsimp only at hSw); go_simp <;> first | exact IntWalk.i64_in _ (by omega) | (intro hq; omega)
    try simp only [Act.put, List.setIfInBounds_toArray, List.set_cons_zero, List.set_cons_succ]
    refine takeH 4 33 (.slice (some ⟨b, off, none⟩) (k + 1) c) ⟨_, rfl, rfl, rfl, ?_⟩ (by kernel_rfl) (by kernel_rfl) (by kernel_rfl) (fun _ _ _ h => h) hHeld ?_
    · intro w hSw; (try dsimp only at hSw); go_simp <;> first | exact IntWalk.i64_in _ (by omega) | (intro hq; omega)
    try simp only [Act.put, List.setIfInBounds_toArray, List.set_cons_zero, List.set_cons_succ]
    refine takeH 5 34 (.slice (some ⟨b, off, none⟩) (k + 1) c) ⟨_, rfl, rfl, rfl, ?_⟩ (by kernel_rfl) (by kernel_rfl) (by kernel_rfl) (fun _ _ _ h => h) hHeld ?_
    · intro w hSw; (try dsimp only at hSw); go_simp <;> first | exact IntWalk.i64_in _ (by omega) | (intro hq; omega)
    try simp only [Act.put, List.setIfInBounds_toArray, List.set_cons_zero, List.set_cons_succ]
    refine takeH 6 35 (.int .i64 ((k + 1 : Nat) : Int)) ⟨_, rfl, rfl, rfl, ?_⟩ (by kernel_rfl) (by kernel_rfl) (by kernel_rfl) (fun _ _ _ h => h) hHeld ?_
    · intro w hSw; (try dsimp only at hSw); go_simp <;> first | exact IntWalk.i64_in _ (by omega) | (intro hq; omega)
    try simp only [Act.put, List.setIfInBounds_toArray, List.set_cons_zero, List.set_cons_succ]
    refine takeH 7 36 (.int .i64 (k : Int)) ⟨_, rfl, rfl, rfl, ?_⟩ (by kernel_rfl) (by kernel_rfl) (by kernel_rfl) (fun _ _ _ h => h) hHeld ?_
    · intro w hSw; (try dsimp only at hSw); go_simp <;> first | exact IntWalk.i64_in _ (by omega) | (intro hq; omega)
    try simp only [Act.put, List.setIfInBounds_toArray, List.set_cons_zero, List.set_cons_succ]
    refine takeH 8 37 (.pointer (some ⟨b, off + k * 4, none⟩)) ⟨_, rfl, rfl, rfl, ?_⟩ (by kernel_rfl) (by kernel_rfl) (by kernel_rfl) (fun _ _ _ h => h) hHeld ?_
    · intro w hSw; (try dsimp only at hSw); go_simp <;> first | exact IntWalk.i64_in _ (by omega) | (intro hq; omega)
    try simp only [Act.put, List.setIfInBounds_toArray, List.set_cons_zero, List.set_cons_succ]
    refine takeH 9 38 (.agg #[.int .i64 p0, .int .i64 p1, .string p2, .int .i64 p3]) ⟨_, rfl, rfl, rfl, ?_⟩ (by kernel_rfl) (by kernel_rfl) (by kernel_rfl) (fun _ _ _ h => h) hHeld ?_
    · intro w hSw; (try dsimp only at hSw); go_simp <;> first | exact IntWalk.i64_in _ (by omega) | (intro hq; omega)
    try simp only [Act.put, List.setIfInBounds_toArray, List.set_cons_zero, List.set_cons_succ]
    refine takeH 10 39 (.agg #[.int .i64 d, .int .i64 m, .string t, .int .i64 0]) ⟨_, rfl, rfl, rfl, ?_⟩ (by kernel_rfl) (by kernel_rfl) (by kernel_rfl) (fun _ _ _ h => h) hHeld ?_
    · intro w hSw; (try dsimp only at hSw); go_simp <;> first | exact IntWalk.i64_in _ (by omega) | (intro hq; omega)
    try simp only [Act.put, List.setIfInBounds_toArray, List.set_cons_zero, List.set_cons_succ]
    refine wpAnyH_ready (rs := [11]) (by kernel_rfl) (by simp) ?_
    refine AllReadyH.cons rfl (fun K hK => ?_) AllReadyH.nil
    go_simp
    go_at_call 93; refine (HCG.out _).mono ?_; rintro e w4 ⟨rfl, hb4⟩
    try go_wp2_with fail
    refine hK.out _ _ ⟨(hb4.cell (p := ⟨w2.heap.size, 0, none⟩) hz1).trans e0, (hb4.cell (p := ⟨w2.heap.size, 1, none⟩) hz1).trans e1, (hb4.cell (p := ⟨w2.heap.size, 2, none⟩) hz1).trans e2, (hb4.cell (p := ⟨w2.heap.size, 3, none⟩) hz1).trans e3, (hb4.cell (p := ⟨b, off + k * 4, none⟩) hbW).trans d0, (hb4.cell (p := ⟨b, off + k * 4 + 1, none⟩) hbW).trans d1, (hb4.cell (p := ⟨b, off + k * 4 + 2, none⟩) hbW).trans d2, (hb4.cell (p := ⟨b, off + k * 4 + 3, none⟩) hbW).trans d3⟩ (fun hHeld => ?_)
    clear hK K
    try simp only [Act.put, List.setIfInBounds_toArray, List.set_cons_zero, List.set_cons_succ]
    refine takeH 12 41 (.bool false) ⟨_, rfl, rfl, rfl, ?_⟩ (by kernel_rfl) (by kernel_rfl) (by kernel_rfl) (fun _ _ _ h => h) hHeld ?_
    · intro w hSw; (try dsimp only at hSw); go_simp <;> first | exact IntWalk.i64_in _ (by omega) | (intro hq; omega)
    try simp only [Act.put, List.setIfInBounds_toArray, List.set_cons_zero, List.set_cons_succ]
    refine wpAnyH_done (by kernel_rfl) ?_ _
    have hbw3 : Below w.heap.size w w4 := hbw.drew.trans (hb4.mono hbw.size)
    have h4 := RdK.below (w := W1.drew) h3 hb4 (Nat.le_refl _)
    have k0 := (hb4.cell (p := ⟨w2.heap.size, 0, none⟩) hz1).trans e0
    have k1 := (hb4.cell (p := ⟨w2.heap.size, 1, none⟩) hz1).trans e1
    have k2 := (hb4.cell (p := ⟨w2.heap.size, 2, none⟩) hz1).trans e2
    have k3 := (hb4.cell (p := ⟨w2.heap.size, 3, none⟩) hz1).trans e3
    have hz3 : w2.heap.size < w4.heap.size := Nat.lt_of_lt_of_le hz1 hb4.size
    clear hb4 e0 e1 e2 e3 d0 d1 d2 d3 h3 hbw
    obtain ⟨w3, rfl⟩ : ∃ w3 : World, w3 = w4 := ⟨_, rfl⟩
    generalize hA : (some ⟨b, off, none⟩ : Option Addr) = A at *
    clear hA
    generalize hkk : k + 1 = n at *
    clear hkk
    by_cases hf : 40 ≤ n
    · have HV := hide (HFULL.out HLA.out (by rw [HL.out]; exact hf))
      have g1 : decide ((40 : Int) ≤ (n : Int)) = true := by simp; omega
      clear hf
      go_wp2
      go_ret2
      exact linc_none HV.out.2 HV.out.1 hbw3
    · have HV := hide (HOK.out HLA.out (by rw [HL.out]; omega))
      have g1 : decide ((40 : Int) ≤ (n : Int)) = false := by simp; omega
      clear hf
      have HCL : Hid (∀ W, Below w3.heap.size w3 W → Calls Tryz.prog 95 #[.slice A n c] W fun e w' => ∃ A' c', e = .returned (.slice A' n c') ∧ w'.ownsRow W.heap.size 48 4 (.slice A' n c') n (cK kLine xs) ∧ (A' = none → c' = 0) ∧ Below W.heap.size W w') := fun W hW => cloneLine_calls A n c xs W (h4.below hW (Nat.le_refl _)) hn
      have HSL : Hid (∀ g c5 W, W.ownsRow w3.heap.size 48 4 (.slice (some ⟨g, 0, none⟩) (n + 1) c5) (n + 1) (cK kLine xs ++ kLine.c ⟨d, m, t, 0⟩) → Below w3.heap.size w3 W → Calls Tryz.prog 94 #[.slice (some ⟨g, 0, none⟩) (n + 1) c5] W (MadePost (xs ++ [⟨d, m, t, 0⟩]) (n + 1) W)) := fun g c5 W ho hW => sealed_calls _ _ _ (xs ++ [⟨d, m, t, 0⟩]) W (RdK.of_own (K := kLine) (by rw [cK_snoc]; exact ho) (by rw [List.length_append, HL.out]; rfl) (add_fine HFI.out hd hm ht0 (by unfold I64; omega))) (by omega) ((hT.1.here hbw3).here hW) (short_add HSH.out ht40)
      obtain ⟨i0, hi0, hz0, hz10, hz2⟩ := info_parts Tryz.infoLine
      have HI := hide (And.intro hi0 (And.intro hz0 (And.intro hz10 hz2)))
      clear hi0 hz0 hz10 hz2
      have KS : Hid (∀ W, Below w3.heap.size w3 W → W.cell? ⟨w2.heap.size, 0, none⟩ = some (.int .i64 d) ∧ W.cell? ⟨w2.heap.size, 1, none⟩ = some (.int .i64 m) ∧ W.cell? ⟨w2.heap.size, 2, none⟩ = some (.string t) ∧ W.cell? ⟨w2.heap.size, 3, none⟩ = some (.int .i64 0)) := fun W C => ⟨(C.cell (p := ⟨w2.heap.size, 0, none⟩) hz3).trans k0, (C.cell (p := ⟨w2.heap.size, 1, none⟩) hz3).trans k1, (C.cell (p := ⟨w2.heap.size, 2, none⟩) hz3).trans k2, (C.cell (p := ⟨w2.heap.size, 3, none⟩) hz3).trans k3⟩
      go_wp2
      go_region_held3 (fun w' => w'.cell? ⟨w2.heap.size, 0, none⟩ = some (.int .i64 d) ∧ w'.cell? ⟨w2.heap.size, 1, none⟩ = some (.int .i64 m) ∧ w'.cell? ⟨w2.heap.size, 2, none⟩ = some (.string t) ∧ w'.cell? ⟨w2.heap.size, 3, none⟩ = some (.int .i64 0))
        (first | exact ⟨k0, k1, k2, k3⟩ | exact KS.out _ hk4 | exact KS.out _ (hk4.alloc hk4.size _) | exact KS.out _ ((Below.refl _ w3).drew.alloc (Nat.le_refl _) _) | exact KS.out _ ((Below.refl _ w3).alloc (Nat.le_refl _) _).drew | exact KS.out _ hk5 | exact KS.out _ hk6 | exact KS.out _ hk4.drew | exact KS.out _ hk5.drew)
        (first
          | (go_at_call 95; (with_reducible refine (HCL.out w3.drew (Below.refl w3.heap.size w3).drew).mono ?_); rintro e w4 ⟨A3, c3, rfl, hown3, hnil3, hb4⟩; have hk4 : Below w3.heap.size w3 w4 := ((Below.refl _ w3).drew).trans hb4; have HO3 := hide hown3; clear hown3)
          | (go_at_call 95; have q0 : Below w3.heap.size w3 (w3.alloc (.cells #[.int .i64 d, .int .i64 m, .string t, .int .i64 0] 48)).drew := ((Below.refl w3.heap.size w3).alloc (Nat.le_refl _) _).drew; (with_reducible refine (HCL.out _ q0).mono ?_); rintro e w4 ⟨A3, c3, rfl, hown3, hnil3, hb4⟩; have hk4 : Below w3.heap.size w3 w4 := q0.trans (hb4.mono (by simp)); have HO3 := hide hown3; clear hown3)
          | (go_at_call 94; (with_reducible refine (HSL.out _ _ _ HO5.out hk5).mono ?_); rintro e w6 ⟨A6, c6, rfl, hown6, hb6⟩; have hk6 : Below w3.heap.size w3 w6 := hk5.trans (hb6.mono hk5.size); have HO6 := hide hown6; clear hown6)
          | (refine step_append_lies _ (by rfl) _ _ _ (by rfl) w3.heap.size 48 i0 _ 4 40 Tryz.underlying39 HI.out.1 HI.out.2.1 HI.out.2.2.1 HI.out.2.2.2 rfl (by omega) (.slice A3 n c3) n (cK kLine xs) (by rfl) (own_mono3 (HO3.out.alloc (.cells #[.int .i64 d, .int .i64 m, .string t, .int .i64 0] 48)) (by simp)) ⟨w4.heap.size, 0, none⟩ 1 1 (kLine.c ⟨d, m, t, 0⟩) (by rfl) (by rfl) (World.news_of_block (cs := #[.int .i64 d, .int .i64 m, .string t, .int .i64 0]) (t := 48) (fr := (0, 0)) (heap_alloc_new w4 _)) (by intro u hu; exact kLine.one _ u hu) (by omega) (by unfold maxLen; omega) (by omega) (by have := hk4.size; simp; omega) (w4.heap.size + 1) (by simp) ?_; intro g5 c5 w5 hown5 hgrow hat hlt5; have hk5 : Below w3.heap.size w3 w5 := (hk4.alloc hk4.size _).grown hgrow (by have := hk4.size; simp; omega) (fun g hg => by have := (HO3.out.lt g hg).1; simpa using this); have HO5 := hide hown5; clear hown5)
          | (refine step_append_lies _ (by rfl) _ _ _ (by rfl) w3.heap.size 48 i0 _ 4 40 Tryz.underlying39 HI.out.1 HI.out.2.1 HI.out.2.2.1 HI.out.2.2.2 rfl (by omega) (.slice A3 n c3) n (cK kLine xs) (by rfl) (own_mono3 HO3.out (by simp)) ⟨w3.heap.size, 0, none⟩ 1 1 (kLine.c ⟨d, m, t, 0⟩) (by rfl) (by rfl) (World.news_of_block (cs := #[.int .i64 d, .int .i64 m, .string t, .int .i64 0]) (t := 48) (fr := (0, 0)) ((hb4.block w3.heap.size (by simp)).trans (heap_alloc_new w3 _))) (by intro u hu; exact kLine.one _ u hu) (by omega) (by unfold maxLen; omega) (by omega) hk4.size w4.heap.size rfl ?_; intro g5 c5 w5 hown5 hgrow hat hlt5; have hk5 : Below w3.heap.size w3 w5 := hk4.grown hgrow hk4.size (fun g hg => by have := (HO3.out.lt g hg).1; simp at this; omega); have HO5 := hide hown5; clear hown5)
          | fail)
      all_goals
        have hbx := hbw3.trans (hk6.mono hbw3.size)
        go_wp2
        go_ret2
        refine ⟨A6, n + 1, c6, ret_two rfl (congrArg (Value.int .i64) HV.out.1.symm), ?_, by omega, own_cap HO6.out, hbx⟩
        rw [HV.out.2, ← made_add d m t HMD.out]
        exact (FrK.of_own (K := kLine) HO6.out (by rw [madeZ_len, List.length_append, HL.out]; rfl) (made_fine (add_fine HFI.out hd hm ht0 (by unfold I64; omega)))).mono (Nat.le_trans hbw3.size hk5.size) (Nat.le_refl _)
theorem implAddLine_calls (A : Option Addr) (n c : Nat) (xs : List LineZ) (d m : Int) (t : ByteArray) (w : World) (hT : TabPM w) (h : RdK kLine w A n xs) (hd : I64 d) (hm : I64 m) (ht0 : t.size ≤ 9223372036854775807) (hn : n ≤ 1048576) (ht : t.size ≤ 1048576) (hx : MidL xs) :
    Calls Tryz.prog 21 #[.slice A n c, .int .i64 d, .int .i64 m, .string t] w (LinPost (addV xs d m t) (addC xs d m t) w) :=
  (implAddLineC_calls A n c xs d m t w hT h hd hm ht0 hn ht hx).mono fun _ _ hh => hh.to

end Go.Proofs.YtcclfmapbgdpdaaGreatDoor
