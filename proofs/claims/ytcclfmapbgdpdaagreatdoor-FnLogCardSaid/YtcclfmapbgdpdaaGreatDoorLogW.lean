/- Plain: all that FnLog asks of a log that is drawn. -/
import Derived.Test.YtcclfmapbgdpdaaGreatDoorLogL
import Derived.Test.YtcclfmapbgdpdaaGreatDoorCntL
import Derived.Test.YtcclfmapbgdpdaaGreatDoorLineL
import Derived.Test.YtcclfmapbgdpdaaGreatDoorLinesW
import Derived.Test.YtcclfmapbgdpdaaGreatDoorCountI
import Derived.Test.YtcclfmapbgdpdaaGreatDoorSealOf
import Derived.Test.YtcclfmapbgdpdaaGreatDoorDrawL
namespace Go.Proofs.YtcclfmapbgdpdaaGreatDoor
open Go.RowKit
set_option linter.unusedVariables false

theorem dec_small {x : Int} (h0 : 0 ≤ x) (h1 : x ≤ 1000000) : (bs (decZ x)).length ≤ 7 := by
  obtain ⟨u, rfl⟩ : ∃ u : Nat, x = (u : Int) := ⟨x.toNat, by omega⟩
  rw [bs_decZ, itoa_nat]
  exact (dec_long 6 u (by omega)).2
theorem textL_size {x : LineZ} (h : lineB x = true) : (textL x).size ≤ 1000 := by
  have ht : textL x = printL x := by unfold textL; rw [if_pos h]
  have h40 := line_text h
  unfold lineB at h
  simp only [Bool.and_eq_true] at h
  have hd := withinB_iff.1 (show withinB x.day 0 100000 = true from h.1.1.1)
  have hm := withinB_iff.1 (show withinB x.minute 0 1439 = true from h.1.1.2)
  have hc := withinB_iff.1 (show withinB x.crc 0 65535 = true from h.2)
  have d1 := dec_small (x := x.day) (by omega) (by omega)
  have d2 := dec_small (x := x.minute) (by omega) (by omega)
  have d3 := dec_small (x := x.crc) (by omega) (by omega)
  rw [bs_decZ] at d1 d2 d3
  rw [ht, ← bs_len, bs_print]
  have h4 : (bs x.text).length ≤ 40 := by rw [bs_len]; exact h40
  simp only [List.length_append, List.length_cons]
  omega

def rideT : ByteArray := ⟨#[114, 105, 100, 101, 32, 55]⟩
def rideW : ByteArray := ⟨#[114, 105, 100, 101]⟩
theorem rideT_ok : textB rideT = true ∧ wordB rideW = true ∧ inB (splitS 32 rideT) rideW = true := ⟨by decide +kernel, by decide +kernel, by decide +kernel⟩

theorem sort_nodup {ws : List ByteArray} (h : SortB ws) : ws.Nodup := by
  unfold SortB at h
  refine h.imp fun hab e => ?_
  subst e
  rw [strLess_irrefl] at hab
  cases hab

/-- A log, and what a line of a later day does to it. -/
theorem log_all_law {xs : List LineZ} {m : Nat} {d mi : Int} (h : validL xs = true) (hl : xs.length = m) (hm : m ≤ 7) (hd : ∀ x ∈ xs, x.day ≤ 16) (hd2 : 200 ≤ d ∧ d ≤ 300) (hmi : 0 ≤ mi ∧ mi ≤ 1439) :
    ∃ X : LineZ, ∃ ys : List LineZ, addC xs d mi rideT = 0 ∧ addV xs d mi rideT = ys ∧ ys = xs ++ [X] ∧ ys.length = m + 1 ∧ validL ys = true ∧ ShortL ys ∧ ShortL xs ∧ ys[m]? = some X ∧
      prefB xs ys = true ∧ prefB ys xs = false ∧ firstB ys = (0, 3) ∧
      X.day = d ∧ X.minute = mi ∧ X.text = rideT ∧ crcB X.crc = true ∧
      sealOf (sealF 65535 xs : Nat) X.day X.minute X.text = (X.crc, 0) ∧ sealF 65535 xs < 65536 ∧ (∀ k x, m = k + 1 → xs[k]? = some x → x.crc = (sealF 65535 xs : Nat)) ∧ (m = 0 → sealF 65535 xs = 65535) ∧
      (∀ y ∈ ys, lineB y = true ∧ readC (textL y) = true ∧ readV (textL y) = y ∧ (textL y).size ≤ 1000) := by
  obtain ⟨X, hX⟩ : ∃ X : LineZ, X = ⟨d, mi, rideT, (sealZ (sealF 65535 xs) d mi rideT : Nat)⟩ := ⟨_, rfl⟩
  obtain ⟨g1, g2, g3⟩ := log_grow (d := d) (m := mi) (t := rideT) h (by omega) (fun x hx => by have := hd x hx; omega) (withinB_iff.2 ⟨by omega, by omega⟩) (withinB_iff.2 ⟨by omega, by omega⟩) rideT_ok.1
  rw [← hX] at g2 g3
  have hs := sealF_lt (n := 65535) xs (by omega)
  have hz := sealZ_lt d mi rideT hs
  obtain ⟨v1, v2⟩ := valid_two.1 g3
  have hlines : ∀ y ∈ xs ++ [X], lineB y = true := log_line v1
  obtain ⟨p1, p2⟩ := pref_grow h g3
  have hat : (xs ++ [X])[m]? = some X := by rw [← hl, List.getElem?_append_right (Nat.le_refl _), Nat.sub_self]; rfl
  have hcX : crcB X.crc = true := by
    have := hlines X (by simp)
    unfold lineB at this
    simp only [Bool.and_eq_true] at this
    exact this.2
  refine ⟨X, xs ++ [X], g1, g2, rfl, by rw [List.length_append, hl]; rfl, g3, log_short v1, log_short (valid_two.1 h).1, hat, p1, p2, ?_, by rw [hX], by rw [hX], by rw [hX], hcX, ?_, hs, ?_, ?_, ?_⟩
  · have hb : brokenI (xs ++ [X]) < 0 := by
      unfold validL at g3
      rw [Bool.and_eq_true, decide_eq_true_eq] at g3
      exact g3.2
    exact first_none v1 hb
  · have e := sealOf_ok (n := (sealF 65535 xs : Nat)) (d := d) (m := mi) (t := rideT) (by rw [show crcB ((sealF 65535 xs : Nat) : Int) = true from withinB_iff.2 ⟨by omega, by omega⟩, show dayB d = true from withinB_iff.2 ⟨by omega, by omega⟩, show minB mi = true from withinB_iff.2 ⟨by omega, by omega⟩]; rfl) rideT_ok.1
    rw [Int.toNat_natCast] at e
    rw [hX]
    exact e
  · intro k x hk hx
    exact log_last h (by omega) hx
  · intro h0
    have : xs = [] := List.eq_nil_of_length_eq_zero (by omega)
    subst this
    rfl
  · intro y hy
    have hb := hlines y hy
    obtain ⟨r1, r2⟩ := line_back hb
    exact ⟨hb, r1, r2, textL_size hb⟩

/-- Words, counts and lines of such a log. -/
theorem log_words {ys : List LineZ} {X : LineZ} {m : Nat} (h : validL ys = true) (hl : ys.length = m + 1) (hX : ys[m]? = some X) (hd : 200 ≤ X.day ∧ X.day ≤ 300) (ht : X.text = rideT) :
    cwC ys = 0 ∧ (cwW ys).length = (cwN ys).length ∧ (cwN ys).length ≤ m + 1 ∧ SortB (cwW ys) ∧ (∀ c ∈ cwN ys, 1 ≤ c ∧ c ≤ m + 1) ∧ sumZ (cwN ys) = (m : Int) + 1 ∧ (∀ k, 0 ≤ sumZ ((cwN ys).take k) ∧ sumZ ((cwN ys).take k) ≤ (m : Int) + 1) ∧
    loggedZ ys true (wordB rideW) = 0 ∧ (m : Int) ∈ withV ys rideW ∧ loggedZ ys (dayB X.day) true = 0 ∧ (m : Int) ∈ dayV ys X.day := by
  obtain ⟨c1, c2, c3⟩ := cw_ok h
  obtain ⟨w1, w2⟩ := words_ok (firstsZ ys)
  have hfl : (firstsZ ys).length = m + 1 := by unfold firstsZ; rw [List.length_map, hl]
  have hpos : ∀ c ∈ cwN ys, 1 ≤ c ∧ c ≤ m + 1 := by
    rw [c3]
    intro c hc
    obtain ⟨x, hx, rfl⟩ := List.mem_map.1 hc
    have := cnt_pos ((w2 x).1 hx)
    have := cntB_le x (firstsZ ys)
    omega
  have hsum : sumZ (cwN ys) = (m : Int) + 1 := by
    rw [c3, cnt_sum (sort_nodup w1) (firstsZ ys) (fun x hx => (w2 x).2 hx), hfl]
    omega
  have key : ∀ cs : List Int, (∀ c ∈ cs, 1 ≤ c) → (cs.length : Int) ≤ sumZ cs := by
    intro cs
    induction cs with
    | nil => intro _; simp [sumZ]
    | cons c r ih =>
      intro hh
      have h1 := hh c (by simp)
      have h2 := ih (fun x hx => hh x (by simp [hx]))
      rw [sumZ, List.length_cons]
      omega
  have app : ∀ a b : List Int, sumZ (a ++ b) = sumZ a + sumZ b := by
    intro a b
    induction a with
    | nil => simp [sumZ]
    | cons c r ih => rw [List.cons_append, sumZ, sumZ, ih]; omega
  have hlen := key (cwN ys) (fun c hc => (hpos c hc).1)
  have l1 : loggedZ ys true (wordB rideW) = 0 := by rw [rideT_ok.2.1]; exact logged_ok h
  have l2 : loggedZ ys (dayB X.day) true = 0 := by rw [show dayB X.day = true from withinB_iff.2 ⟨by omega, by omega⟩]; exact logged_ok h
  refine ⟨c1, by rw [c2, c3, List.length_map], by omega, by rw [c2]; exact w1, hpos, hsum, fun k => ?_, l1, ?_, l2, ?_⟩
  · have e := app ((cwN ys).take k) ((cwN ys).drop k)
    rw [List.take_append_drop, hsum] at e
    have k1 := key ((cwN ys).take k) (fun c hc => (hpos c (List.mem_of_mem_take hc)).1)
    have k2 := key ((cwN ys).drop k) (fun c hc => (hpos c (List.mem_of_mem_drop hc)).1)
    omega
  · rw [withV_ok hl l1]
    exact lines_mem hX (by unfold hasW; rw [ht]; exact rideT_ok.2.2) _ (by omega)
  · rw [dayV_ok hl l2]
    exact lines_mem hX (decide_eq_true rfl) _ (by omega)

end Go.Proofs.YtcclfmapbgdpdaaGreatDoor
