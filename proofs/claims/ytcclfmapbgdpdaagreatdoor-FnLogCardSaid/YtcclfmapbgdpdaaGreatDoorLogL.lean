/- Plain: the laws of logs that FnLog asks: a line added, a seal spoilt and healed. -/
import Derived.Test.YtcclfmapbgdpdaaGreatDoorAddL
import Derived.Test.YtcclfmapbgdpdaaGreatDoorPrefix
namespace Go.Proofs.YtcclfmapbgdpdaaGreatDoor
open Go.RowKit
set_option linter.unusedVariables false

theorem step_app {xs ys : List LineZ} {k : Nat} (hk : k < xs.length) : stepL (xs ++ ys) k = stepL xs k := by
  unfold stepL
  rw [List.getElem?_append_left hk, List.getElem?_eq_getElem hk]
  have : upL (xs ++ ys) k = upL xs k := by
    cases k with
    | zero => rfl
    | succ k => unfold upL; dsimp only; rw [List.getElem?_append_left hk, List.getElem?_append_left (by omega)]
  simp only [this]
theorem valid_two {xs : List LineZ} : validL xs = true ↔ isLogB xs = true ∧ madeZ xs = xs := by
  rw [valid_made, Bool.and_eq_true, decide_eq_true_eq]
/-- A line of a later day is added. -/
theorem log_grow {xs : List LineZ} {d m : Int} {t : ByteArray} (h : validL xs = true) (hl : xs.length ≤ 39) (hd : ∀ x ∈ xs, x.day < d) (hdb : dayB d = true) (hmb : minB m = true) (ht : textB t = true) :
    addC xs d m t = 0 ∧ addV xs d m t = xs ++ [⟨d, m, t, (sealZ (sealF 65535 xs) d m t : Nat)⟩] ∧ validL (xs ++ [⟨d, m, t, (sealZ (sealF 65535 xs) d m t : Nat)⟩]) = true := by
  have hlast : lastL xs ⟨d, m, t, 0⟩ = false := by
    unfold lastL
    split
    · next l hl' =>
      have := hd l (List.mem_of_getElem? hl')
      unfold laterB
      simp only
      rw [decide_eq_false (by omega), decide_eq_false (by omega)]
      rfl
    · rfl
  have hc : addC xs d m t = 0 := by
    unfold addC
    rw [hdb, hmb, ht, Bool.and_self, logged_ok h, if_neg (by simp), hlast, if_neg (by simp), if_neg (by omega)]
  refine ⟨hc, by unfold addV; rw [if_pos hc], ?_⟩
  obtain ⟨h1, h2⟩ := valid_two.1 h
  have hs := sealF_lt (n := 65535) xs (by omega)
  have hz := sealZ_lt d m t hs
  obtain ⟨X, hX⟩ : ∃ X : LineZ, X = ⟨d, m, t, (sealZ (sealF 65535 xs) d m t : Nat)⟩ := ⟨_, rfl⟩
  have hlb : lineB X = true := by
    rw [hX]
    unfold lineB
    simp only
    rw [hdb, hmb, ht, show crcB ((sealZ (sealF 65535 xs) d m t : Nat) : Int) = true from withinB_iff.2 ⟨by omega, by omega⟩]
    rfl
  rw [← hX]
  refine valid_two.2 ⟨?_, ?_⟩
  · unfold isLogB
    rw [Bool.and_eq_true, decide_eq_true_eq, List.all_eq_true, List.length_append]
    refine ⟨fun k hk => ?_, by simp only [List.length_cons, List.length_nil]; omega⟩
    rw [List.mem_range] at hk
    simp only [List.length_cons, List.length_nil] at hk
    by_cases hkl : k < xs.length
    · rw [step_app hkl]
      exact log_step h1 hkl
    · obtain rfl : k = xs.length := by omega
      have hat : (xs ++ [X])[xs.length]? = some X := by rw [List.getElem?_append_right (Nat.le_refl _), Nat.sub_self]; rfl
      rw [stepL_at hat, hlb, Bool.true_and]
      cases hn : xs.length with
      | zero => rfl
      | succ k =>
        rw [hn] at hat
        have hp : (xs ++ [X])[k]? = some xs[k] := by rw [List.getElem?_append_left (by omega), List.getElem?_eq_getElem]
        have hdk := hd _ (List.getElem_mem (show k < xs.length by omega))
        rw [upL_at hp hat]
        unfold laterB
        rw [hX]
        simp only
        rw [decide_eq_false (by omega), decide_eq_false (by omega)]
        rfl
  · unfold madeZ at h2 ⊢
    rw [sealsZ_snoc, h2, sealF_snoc, hX]

/-- A line without its seal. -/
def bareL (x : LineZ) : LineZ := ⟨x.day, x.minute, x.text, 0⟩
theorem seals_bare (xs : List LineZ) : ∀ n, sealsZ n (xs.map bareL) = sealsZ n xs := by
  induction xs with
  | nil => intro n; rfl
  | cons x r ih =>
    intro n
    rw [List.map_cons, sealsZ, sealsZ, ih]
    rfl
theorem bare_set {xs : List LineZ} {k : Nat} {x y : LineZ} (hx : xs[k]? = some x) (hy : bareL y = bareL x) : (xs.set k y).map bareL = xs.map bareL := by
  rw [List.map_set, hy]
  refine List.ext_getElem? fun j => ?_
  rw [List.getElem?_set]
  by_cases hj : k = j
  · subst hj
    rw [if_pos rfl, List.getElem?_map, hx, List.length_map, if_pos (List.getElem?_eq_some_iff.1 hx).1]
    rfl
  · rw [if_neg hj]
/-- A seal is spoilt: the first broken line is that one; and sealing heals it. -/
theorem log_spoilt {xs : List LineZ} {k : Nat} {x : LineZ} {c : Int} (h : validL xs = true) (hx : xs[k]? = some x) (hc : crcB c = true) (hne : c ≠ x.crc) :
    isLogB (xs.set k ⟨x.day, x.minute, x.text, c⟩) = true ∧ brokenI (xs.set k ⟨x.day, x.minute, x.text, c⟩) = (k : Int) ∧ validL (xs.set k ⟨x.day, x.minute, x.text, c⟩) = false ∧ madeZ (xs.set k ⟨x.day, x.minute, x.text, c⟩) = xs := by
  obtain ⟨h1, h2⟩ := valid_two.1 h
  obtain ⟨Y, hY⟩ : ∃ Y : LineZ, Y = ⟨x.day, x.minute, x.text, c⟩ := ⟨_, rfl⟩
  have hk := (List.getElem?_eq_some_iff.1 hx).1
  have hm : madeZ (xs.set k Y) = xs := by
    have e : madeZ (xs.set k Y) = madeZ xs := by
      unfold madeZ
      rw [← seals_bare, ← seals_bare xs, bare_set hx (by rw [hY]; rfl)]
    rw [e, h2]
  have hat : ∀ j, j < xs.length → ∃ a b : LineZ, xs[j]? = some a ∧ (xs.set k Y)[j]? = some b ∧ b.day = a.day ∧ b.minute = a.minute ∧ b.text = a.text ∧ (crcB a.crc = true → crcB b.crc = true) := by
    intro j hj
    by_cases hjk : k = j
    · subst hjk
      exact ⟨x, Y, hx, by rw [List.getElem?_set, if_pos rfl, if_pos hk], by rw [hY], by rw [hY], by rw [hY], fun _ => by rw [hY]; exact hc⟩
    · exact ⟨xs[j], xs[j], List.getElem?_eq_getElem hj, by rw [List.getElem?_set, if_neg hjk, List.getElem?_eq_getElem hj], rfl, rfl, rfl, id⟩
  have hlog : isLogB (xs.set k Y) = true := by
    unfold isLogB
    rw [Bool.and_eq_true, decide_eq_true_eq, List.all_eq_true, List.length_set]
    refine ⟨fun j hj => ?_, log_len h1⟩
    rw [List.mem_range] at hj
    obtain ⟨a, b, ha, hb, e1, e2, e3, e4⟩ := hat j hj
    have hst := log_step h1 hj
    rw [stepL_at ha, Bool.and_eq_true] at hst
    rw [stepL_at hb, Bool.and_eq_true]
    constructor
    · have hla := hst.1
      unfold lineB at hla ⊢
      simp only [Bool.and_eq_true] at hla ⊢
      rw [e1, e2, e3]
      exact ⟨hla.1, e4 hla.2⟩
    · cases j with
      | zero => rfl
      | succ i =>
        obtain ⟨a', b', ha', hb', f1, f2, _, _⟩ := hat i (by omega)
        have hu := hst.2
        rw [upL_at ha' ha] at hu
        rw [upL_at hb' hb]
        unfold laterB at hu ⊢
        rw [e1, e2, f1, f2]
        exact hu
  have hks : k < (xs.set k Y).length := by rw [List.length_set]; exact hk
  have hYat : (xs.set k Y)[k]? = some Y := by rw [List.getElem?_set, if_pos rfl, if_pos hk]
  have hbr : brokenI (xs.set k Y) = (k : Int) := by
    refine broken_here (fun j hj => ?_) hks ?_
    · have hj2 : j < xs.length := by omega
      have e : (xs.set k Y)[j]? = some xs[j] := by rw [List.getElem?_set, if_neg (by omega), List.getElem?_eq_getElem hj2]
      exact (ok_iff e).2 (by rw [hm]; exact List.getElem?_eq_getElem hj2)
    · rw [← Bool.not_eq_true]
      intro e
      have := (ok_iff hYat).1 e
      rw [hm, hx, Option.some.injEq] at this
      have hcc := congrArg LineZ.crc this
      rw [hY] at hcc
      exact hne hcc.symm
  rw [← hY]
  refine ⟨hlog, hbr, ?_, hm⟩
  unfold validL
  rw [hbr, decide_eq_false (by omega), Bool.and_false]
/-- The last seal is the seal behind the log. -/
theorem log_last {xs : List LineZ} {k : Nat} {x : LineZ} (h : validL xs = true) (hl : xs.length = k + 1) (hx : xs[k]? = some x) : x.crc = (sealF 65535 xs : Nat) := by
  have h2 := (valid_two.1 h).2
  have := made_at hx
  rw [h2, hx, Option.some.injEq, List.take_of_length_le (by omega)] at this
  rw [this]
theorem pref_grow {xs : List LineZ} {x : LineZ} (h : validL xs = true) (h2 : validL (xs ++ [x]) = true) : prefB xs (xs ++ [x]) = true ∧ prefB (xs ++ [x]) xs = false := by
  have hl : (xs ++ [x]).length = xs.length + 1 := by rw [List.length_append]; rfl
  refine ⟨?_, pref_3 hl rfl (by omega)⟩
  rw [pref_4 h h2 rfl hl (by omega), List.take_append_of_le_length (Nat.le_refl _), List.take_length]
  exact decide_eq_true rfl

end Go.Proofs.YtcclfmapbgdpdaaGreatDoor
