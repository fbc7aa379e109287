/- Plain: what a number in decimal reads as. -/
import Derived.Test.YtlomloepdnojoaaDoorTextZ
import Derived.Lib.ParseIntB
import Derived.Lib.ItoaMem
namespace Go.Proofs.YtlomloepdnojoaaDoor
open Go.RowKit
set_option linter.unusedVariables false

def digN (b : UInt8) : Bool := decide (48 ≤ b.toNat) && decide (b.toNat ≤ 57)
def isNegL (l : List UInt8) : Bool := decide (l.head? = some 45)
def digsL (l : List UInt8) : List UInt8 := if isNegL l = true then l.tail else l
def valF (acc : Nat) (l : List UInt8) : Nat := l.foldl (fun n b => 10 * n + (b.toNat - 48)) acc
def numB (l : List UInt8) : Bool := decide (1 ≤ (digsL l).length) && decide ((digsL l).length ≤ 18) && !(decide ((digsL l).head? = some 48) && decide (1 < l.length)) && (digsL l).all digN
def numV (l : List UInt8) : Int := if numB l = true then (if isNegL l = true then -(valF 0 (digsL l) : Int) else (valF 0 (digsL l) : Int)) else 0

theorem valF_snoc (acc : Nat) (l : List UInt8) (b : UInt8) : valF acc (l ++ [b]) = 10 * valF acc l + (b.toNat - 48) := by unfold valF; rw [List.foldl_append]; rfl
theorem valF_lt : ∀ (l : List UInt8) (acc k : Nat), acc < 10 ^ k → l.all digN = true → valF acc l < 10 ^ (k + l.length)
  | [], acc, k, h, _ => by simpa [valF] using h
  | c :: r, acc, k, h, hd => by
    rw [List.all_cons, Bool.and_eq_true] at hd
    have h1 := hd.1
    unfold digN at h1
    rw [Bool.and_eq_true] at h1
    have h2 := of_decide_eq_true h1.1
    have h3 := of_decide_eq_true h1.2
    have e : valF acc (c :: r) = valF (10 * acc + (c.toNat - 48)) r := rfl
    rw [e, List.length_cons, show k + (r.length + 1) = (k + 1) + r.length by omega]
    exact valF_lt r _ _ (by rw [Nat.pow_succ]; omega) hd.2

/-- Digits that spell a number, at most 18. -/
theorem parseM : ∀ (l : List UInt8) (M acc k : Nat), acc < 10 ^ k → k + l.length ≤ 18 → 1000000000000000000 ≤ M → Lib.parseUintM M acc l = if l.all digN = true then .ok (valF acc l) else Lib.NumEnd.syntax
  | [], M, acc, k, _, _, _ => rfl
  | c :: r, M, acc, k, h, hl, hM => by
    have hl' : k + (r.length + 1) ≤ 18 := by simpa using hl
    have hp : 10 ^ k ≤ 10 ^ 17 := Nat.pow_le_pow_right (by decide) (by omega)
    have e17 : (10 : Nat) ^ 17 = 100000000000000000 := by decide
    rw [Lib.parseUintM, List.all_cons]
    by_cases hd : 48 ≤ c.toNat ∧ c.toNat ≤ 57
    · have hg : digN c = true := by unfold digN; rw [decide_eq_true hd.1, decide_eq_true hd.2]; rfl
      rw [if_pos hd, if_neg (by omega), if_neg (by omega), hg, Bool.true_and]
      rw [parseM r M _ (k + 1) (by rw [Nat.pow_succ]; omega) (by omega) hM]
      have e : valF acc (c :: r) = valF (acc * 10 + (c.toNat - 48)) r := by rw [Nat.mul_comm]; rfl
      rw [e]
    · have hg : digN c = false := by
        unfold digN
        by_cases h1 : 48 ≤ c.toNat
        · have h2 : ¬ c.toNat ≤ 57 := fun h2 => hd ⟨h1, h2⟩
          rw [decide_eq_false h2, Bool.and_false]
        · rw [decide_eq_false h1, Bool.false_and]
      rw [if_neg hd, hg, Bool.false_and]
      rfl
theorem digs_back {l : List UInt8} (hd : l.all digN = true) (hn : l ≠ []) (h0 : l.head? ≠ some 48) : Lib.decDigits (valF 0 l) = l ∧ 0 < valF 0 l := by
  obtain ⟨n, hl⟩ : ∃ n, l.length = n + 1 := ⟨l.length - 1, by have := List.length_pos_iff.2 hn; omega⟩
  induction n generalizing l with
  | zero =>
    match l, hl with
    | [b], _ =>
      simp only [List.all_cons, List.all_nil, Bool.and_true] at hd
      unfold digN at hd
      rw [Bool.and_eq_true] at hd
      have h2 := of_decide_eq_true hd.1
      have h3 := of_decide_eq_true hd.2
      have hb : b.toNat ≠ 48 := fun e => h0 (by rw [List.head?_cons, show b = 48 from UInt8.toNat_inj.1 e])
      have e : valF 0 [b] = b.toNat - 48 := by simp [valF]
      rw [e, Lib.decDigits, dif_pos (by omega), show 48 + (b.toNat - 48) = b.toNat by omega, UInt8.ofNat_toNat]
      exact ⟨rfl, by omega⟩
  | succ n ih =>
    have hne : l ≠ [] := hn
    obtain ⟨p, b, rfl⟩ : ∃ p b, l = p ++ [b] := ⟨l.dropLast, l.getLast hne, (List.dropLast_concat_getLast hne).symm⟩
    rw [List.all_append, Bool.and_eq_true] at hd
    have hp : p.length = n + 1 := by simpa using hl
    have hpn : p ≠ [] := by intro e; rw [e] at hp; simp at hp
    have hh : p.head? ≠ some 48 := by rw [List.head?_append] at h0; cases p with
      | nil => exact absurd rfl hpn
      | cons x xs => simpa using h0
    obtain ⟨e1, e2⟩ := ih hd.1 hpn hh hp
    have hb := hd.2
    simp only [List.all_cons, List.all_nil, Bool.and_true] at hb
    unfold digN at hb
    rw [Bool.and_eq_true] at hb
    have h2 := of_decide_eq_true hb.1
    have h3 := of_decide_eq_true hb.2
    rw [valF_snoc, Lib.decDigits, dif_neg (by omega)]
    have e3 : (10 * valF 0 p + (b.toNat - 48)) / 10 = valF 0 p := by omega
    have e4 : (10 * valF 0 p + (b.toNat - 48)) % 10 = b.toNat - 48 := by omega
    rw [e3, e4, e1, show 48 + (b.toNat - 48) = b.toNat by omega, UInt8.ofNat_toNat]
    exact ⟨rfl, by omega⟩
/-- The first digit of a number. -/
theorem dec_head (u : Nat) : Lib.decDigits u ≠ [] ∧ (0 < u → (Lib.decDigits u).head? ≠ some 48) := by
  induction u using Nat.strongRecOn with
  | _ u ih =>
    by_cases h : u < 10
    · rw [Lib.decDigits, dif_pos h]
      refine ⟨by simp, fun h0 e => ?_⟩
      rw [List.head?_cons, Option.some.injEq] at e
      have := congrArg UInt8.toNat e
      simp at this
      omega
    · obtain ⟨h1, h2⟩ := ih (u / 10) (by omega)
      rw [Lib.decDigits, dif_neg h]
      refine ⟨by simp, fun h0 => ?_⟩
      have h3 := h2 (by omega)
      cases hq : Lib.decDigits (u / 10) with
      | nil => exact absurd hq h1
      | cons x xs => rw [hq] at h3; simpa using h3
theorem dec_zero : Lib.decDigits 0 = [48] := by rw [Lib.decDigits, dif_pos (by decide)]; rfl
theorem dec_dig (u : Nat) : (Lib.decDigits u).all digN = true := by
  induction u using Nat.strongRecOn with
  | _ u ih =>
    have key : ∀ d, d < 10 → digN (UInt8.ofNat (48 + d)) = true := by
      intro d hd
      have e : (UInt8.ofNat (48 + d)).toNat = 48 + d := by simp; omega
      unfold digN
      rw [e, decide_eq_true (by omega), decide_eq_true (by omega)]; rfl
    by_cases h : u < 10
    · rw [Lib.decDigits, dif_pos h]
      simp only [List.all_cons, List.all_nil, Bool.and_true]
      exact key u h
    · rw [Lib.decDigits, dif_neg h, List.all_append, ih (u / 10) (by omega)]
      simp only [List.all_cons, List.all_nil, Bool.and_true, Bool.true_and]
      exact key _ (by omega)
theorem itoa_head_neg {v : Int} {r : List UInt8} (h : Lib.itoa v = 45 :: r) : v < 0 ∧ r = Lib.decDigits v.natAbs := by
  unfold Lib.itoa at h
  split at h
  · next hv => exact ⟨hv, (List.cons.inj h).2.symm⟩
  · next hv =>
    have h1 := dec_dig v.toNat
    rw [h, List.all_cons] at h1
    simp [digN] at h1
theorem itoa_nat (u : Nat) : Lib.itoa (u : Int) = Lib.decDigits u := Lib.itoa_nonneg u

/-- What the program's reader of numbers finds. -/
theorem read_law {l : List UInt8} (h1 : 1 ≤ (digsL l).length) (h2 : (digsL l).length ≤ 18) :
    (Lib.parseIntB 64 l = Lib.NumEnd.syntax ∧ numB l = false) ∨ ∃ v, I64 v ∧ Lib.parseIntB 64 l = .ok v ∧ ((Lib.itoa v = l ∧ numB l = true ∧ numV l = v) ∨ (Lib.itoa v ≠ l ∧ numB l = false)) := by
  cases l with
  | nil => simp [digsL, isNegL] at h1
  | cons c r =>
    have hM : 1000000000000000000 ≤ 2 ^ 64 - 1 := by decide
    have e18 : (10 : Nat) ^ 18 = 1000000000000000000 := by decide
    by_cases hc : c.toNat = 45
    · obtain rfl : c = 45 := UInt8.toNat_inj.1 hc
      have hN : isNegL (45 :: r) = true := by simp [isNegL]
      have eD : digsL (45 :: r) = r := by unfold digsL; rw [if_pos hN]; rfl
      rw [eD] at h1 h2
      have hr : r ≠ [] := by intro e; rw [e] at h1; simp at h1
      have eP : Lib.parseUintB 64 r = if r.all digN = true then .ok (valF 0 r) else Lib.NumEnd.syntax := by
        unfold Lib.parseUintB; rw [if_neg hr]; exact parseM r _ 0 0 (by decide) (by omega) hM
      have eB : numB (45 :: r) = (!(decide (r.head? = some 48)) && r.all digN) := by
        unfold numB
        rw [eD, decide_eq_true h1, decide_eq_true h2, decide_eq_true (show 1 < (45 :: r).length by rw [List.length_cons]; omega)]
        simp
      have eI : Lib.parseIntB 64 (45 :: r) = if r.all digN = true then .ok (-(valF 0 r : Int)) else Lib.NumEnd.syntax := by
        unfold Lib.parseIntB
        simp only [show (45 : UInt8).toNat = 45 from rfl, or_true, if_true, eP]
        cases ha : r.all digN
        · simp
        · have hlt := valF_lt r 0 0 (by decide) ha
          have hle : 10 ^ (0 + r.length) ≤ 10 ^ 18 := Nat.pow_le_pow_right (by decide) (by omega)
          simp only [if_true, not_true, false_and, if_false, true_and]
          rw [if_neg (by have : (2 : Nat) ^ (64 - 1) = 9223372036854775808 := by decide
                         omega)]
      cases ha : r.all digN
      · rw [ha] at eI eB
        exact .inl ⟨eI, by rw [eB, Bool.and_false]⟩
      · have hlt := valF_lt r 0 0 (by decide) ha
        have hle : 10 ^ (0 + r.length) ≤ 10 ^ 18 := Nat.pow_le_pow_right (by decide) (by omega)
        rw [ha] at eI eB
        refine .inr ⟨_, by unfold I64; omega, eI, ?_⟩
        by_cases h48 : r.head? = some 48
        · refine .inr ⟨fun e => ?_, by rw [eB, decide_eq_true h48]; rfl⟩
          obtain ⟨hv, hr2⟩ := itoa_head_neg e
          exact (dec_head _).2 (by omega) (hr2 ▸ h48)
        · obtain ⟨e1, e2⟩ := digs_back ha hr h48
          have hb : numB (45 :: r) = true := by rw [eB, decide_eq_false h48]; rfl
          refine .inl ⟨?_, hb, ?_⟩
          · rw [Lib.itoa_neg _ e2, e1]
          · unfold numV; rw [if_pos hb, if_pos hN, eD]
    · have hN : isNegL (c :: r) = false := by
        unfold isNegL
        rw [List.head?_cons]
        exact decide_eq_false (fun e => hc (by rw [Option.some.inj e]; rfl))
      have eD : digsL (c :: r) = c :: r := by unfold digsL; rw [if_neg (by rw [hN]; simp)]
      have hnb : ∀ v : Nat, Lib.itoa (v : Int) = c :: r → digN c = true := by
        intro v e
        rw [itoa_nat] at e
        have := dec_dig v
        rw [e, List.all_cons, Bool.and_eq_true] at this
        exact this.1
      rw [eD] at h1 h2
      have eB : numB (c :: r) = (!(decide (c = 48) && decide (0 < r.length)) && (c :: r).all digN) := by
        unfold numB
        rw [eD, decide_eq_true h1, decide_eq_true h2]
        simp
      have hl18 : r.length ≤ 17 := by simpa using h2
      by_cases hp : c.toNat = 43
      · have hdc : digN c = false := by unfold digN; rw [hp]; rfl
        have hB : numB (c :: r) = false := by rw [eB, List.all_cons, hdc]; simp
        by_cases hr : r = []
        · refine .inl ⟨?_, hB⟩
          subst hr
          unfold Lib.parseIntB
          simp only [hp, true_or, if_true]
          rfl
        have eP : Lib.parseUintB 64 r = if r.all digN = true then .ok (valF 0 r) else Lib.NumEnd.syntax := by
          unfold Lib.parseUintB; rw [if_neg hr]; exact parseM r _ 0 0 (by decide) (by omega) hM
        cases ha : r.all digN
        · refine .inl ⟨?_, hB⟩
          unfold Lib.parseIntB
          simp only [hp, true_or, if_true, eP, ha]
          simp
        · have hlt := valF_lt r 0 0 (by decide) ha
          have hle : 10 ^ (0 + r.length) ≤ 10 ^ 18 := Nat.pow_le_pow_right (by decide) (by omega)
          refine .inr ⟨(valF 0 r : Int), by unfold I64; omega, ?_, .inr ⟨fun e => ?_, hB⟩⟩
          · unfold Lib.parseIntB
            simp only [hp, true_or, if_true, eP, ha]
            rw [if_neg (by have : (2 : Nat) ^ (64 - 1) = 9223372036854775808 := by decide
                           omega), if_neg (by omega), if_neg (by omega)]
          · have := hnb _ e
            rw [hdc] at this
            exact absurd this (by decide)
      · have eP : Lib.parseUintB 64 (c :: r) = if (c :: r).all digN = true then .ok (valF 0 (c :: r)) else Lib.NumEnd.syntax := by
          unfold Lib.parseUintB; rw [if_neg (by simp)]; exact parseM (c :: r) _ 0 0 (by decide) (by rw [List.length_cons]; omega) hM
        cases ha : (c :: r).all digN
        · refine .inl ⟨?_, by rw [eB, ha, Bool.and_false]⟩
          unfold Lib.parseIntB
          simp only [hp, hc, or_self, if_false, eP, ha]
          simp
        · have hlt := valF_lt (c :: r) 0 0 (by decide) ha
          have hle : 10 ^ (0 + (c :: r).length) ≤ 10 ^ 18 := Nat.pow_le_pow_right (by decide) (by rw [List.length_cons]; omega)
          refine .inr ⟨(valF 0 (c :: r) : Int), by unfold I64; omega, ?_, ?_⟩
          · unfold Lib.parseIntB
            simp only [hp, hc, or_self, if_false, eP, ha, if_true]
            rw [if_neg (by have : (2 : Nat) ^ (64 - 1) = 9223372036854775808 := by decide
                           omega), if_neg (by simp)]
          · rw [itoa_nat]
            by_cases h48 : c = 48
            · subst h48
              by_cases hr : r = []
              · subst hr
                exact .inl ⟨dec_zero, by decide, by decide⟩
              · have hrl : 0 < r.length := List.length_pos_iff.2 hr
                refine .inr ⟨fun e => ?_, by rw [eB, decide_eq_true hrl]; rfl⟩
                by_cases hv : 0 < valF 0 (48 :: r)
                · exact (dec_head _).2 hv (by rw [e]; rfl)
                · have h0 : valF 0 (48 :: r) = 0 := by omega
                  rw [h0] at e
                  rw [dec_zero] at e
                  exact hr (List.cons.inj e).2.symm
            · obtain ⟨e1, e2⟩ := digs_back ha (by simp) (by simpa using h48)
              have hb : numB (c :: r) = true := by rw [eB, ha, decide_eq_false h48]; rfl
              refine .inl ⟨e1, hb, ?_⟩
              unfold numV; rw [if_pos hb, if_neg (by rw [hN]; simp), eD]
theorem numV_bad {l : List UInt8} (h : numB l = false) : numV l = 0 := by unfold numV; rw [if_neg (by rw [h]; simp)]
theorem numB_len {l : List UInt8} (h : ¬ (1 ≤ (digsL l).length ∧ (digsL l).length ≤ 18)) : numB l = false := by
  unfold numB
  by_cases h1 : 1 ≤ (digsL l).length
  · rw [decide_eq_false (show ¬ (digsL l).length ≤ 18 from fun h2 => h ⟨h1, h2⟩)]; simp
  · rw [decide_eq_false h1]; simp
theorem trim_digs (l : List UInt8) : Lib.trimPrefix l [45] = digsL l := by
  unfold Lib.trimPrefix digsL isNegL Lib.hasPrefix
  cases l with
  | nil => rfl
  | cons c r =>
    by_cases h : c = 45
    · subst h; simp
    · have h' : (45 : UInt8) ≠ c := Ne.symm h
      simp [h, h']
theorem numV_I64 (l : List UInt8) : I64 (numV l) := by
  rcases b_cases (numB l) with h | h
  · rw [numV_bad h]; unfold I64; omega
  · have h' := h
    unfold numB at h'
    simp only [Bool.and_eq_true] at h'
    rcases read_law (of_decide_eq_true h'.1.1.1) (of_decide_eq_true h'.1.1.2) with ⟨_, hb⟩ | ⟨v, hv, _, ⟨_, _, ev⟩ | ⟨_, hb⟩⟩
    · rw [h] at hb; exact absurd hb (by simp)
    · rw [ev]; exact hv
    · rw [h] at hb; exact absurd hb (by simp)

end Go.Proofs.YtlomloepdnojoaaDoor
