/- Plain: choices by bits, the best set, what the law FnLoads asks behind its first part. -/
import Derived.Test.YtcclfmapbgdpdaaGreatDoorMg
import Derived.Test.YtcclfmapbgdpdaaGreatDoorLoaX
import Derived.Test.YtcclfmapbgdpdaaGreatDoorLoaB
import Derived.Laws.BitsAllLaws
namespace Go.Proofs.YtcclfmapbgdpdaaGreatDoor
open Go.RowKit
set_option linter.unusedVariables false

theorem rise_len : ∀ (S : List Int) (lo hi : Int), S.Pairwise (· < ·) → (∀ x ∈ S, lo ≤ x ∧ x < hi) → S.length ≤ (hi - lo).toNat
  | [], _, _, _, _ => Nat.zero_le _
  | x :: S, lo, hi, hp, hb => by
    have h0 := hb x List.mem_cons_self
    obtain ⟨h1, h2⟩ := List.pairwise_cons.1 hp
    have := rise_len S (x + 1) hi h2 (fun y hy => by
      have := h1 y hy
      have := hb y (List.mem_cons_of_mem _ hy)
      omega)
    rw [List.length_cons]
    omega
theorem best_all {xs : List GrpZ} {r : RmZ} {m : Nat} (hm : xs.length = m) (hr : PosR r) : (bestP xs r).1.Pairwise (· < ·) ∧ (∀ x ∈ (bestP xs r).1, 0 ≤ x ∧ x < (m : Int)) ∧ fitsZ (sumL (xs.map needZ) (bestP xs r).1) r = true ∧ (sumL (xs.map needZ) (bestP xs r).1).p = (bestP xs r).2 ∧ (bestP xs r).1.length ≤ m := by
  obtain ⟨s, hs, hp⟩ := most_good (nd := xs.map needZ) hr
  obtain ⟨h1, h2, h3, h4⟩ := hs
  rw [List.length_map] at h1 h2 h3 hp
  have e : bestP xs r = filZ (xs.map needZ) r xs.length [] zeroR 0 ([], 0) := rfl
  rw [← e] at h1 h2 h3 hp
  rw [hm] at h3
  have hl := rise_len _ 0 (m : Int) h2 h3
  refine ⟨h2, h3, ?_, ?_, by omega⟩
  · rw [h1]; exact h4
  · rw [h1]; exact hp
theorem best_most {xs : List GrpZ} {r : RmZ} {m : Nat} (hm : xs.length = m) (hp : ∀ x ∈ xs.map needZ, PosR x) (p : Nat → Bool) (hf : fitsZ (sumL (xs.map needZ) (idxQ p m)) r = true) : (sumQ (xs.map needZ) p m).p ≤ (bestP xs r).2 := by
  have hl : (xs.map needZ).length = m := by rw [List.length_map, hm]
  have h := most_most (nd := xs.map needZ) (r := r) hp p (by rw [hl]; exact hf)
  rw [hl] at h
  have e : bestP xs r = filZ (xs.map needZ) r m [] zeroR 0 ([], 0) := by unfold bestP; rw [hm]
  rw [e]
  exact h
/-- Whether a bit of a number is set. -/
def bitP (u : Nat) (k : Nat) : Bool := u / 2 ^ k % 2 == 1
theorem and_ofInt (a : Nat) (ha : a < 9223372036854775808) : (BitVec.ofInt 64 (a : Int)).toNat = a := by
  rw [BitVec.ofInt_natCast, BitVec.toNat_ofNat]; exact Nat.mod_eq_of_lt (by omega)
theorem bitP_and {u k : Nat} (hu : u < 1048576) : bits .and .i64 ((u : Int) / 2 ^ k) 1 = if bitP u k then 1 else 0 := by
  have e : (u : Int) / 2 ^ k = ((u / 2 ^ k : Nat) : Int) := by rw [Int.natCast_ediv, Int.natCast_pow]; rfl
  have hl : u / 2 ^ k < 1048576 := Nat.lt_of_le_of_lt (Nat.div_le_self _ _) hu
  rw [e]
  have h1 : bits .and .i64 ((u / 2 ^ k : Nat) : Int) ((1 : Nat) : Int) = ((u / 2 ^ k % 2 : Nat) : Int) := by
    show IntKind.i64.wrap ((BitVec.ofInt 64 ((u / 2 ^ k : Nat) : Int) &&& BitVec.ofInt 64 ((1 : Nat) : Int)).toNat : Int) = _
    rw [BitVec.toNat_and, and_ofInt _ (by omega), and_ofInt 1 (by decide), Nat.and_one_is_mod, IntKind.wrap_i64]
    omega
  refine h1.trans ?_
  unfold bitP
  rcases Nat.mod_two_eq_zero_or_one (u / 2 ^ k) with h | h <;> rw [h] <;> simp
theorem shl_one {m : Nat} (hm : m ≤ 6) : IntKind.i64.wrap (2 ^ m) = ((2 ^ m : Nat) : Int) ∧ 2 ^ m ≤ 64 := by
  have h2 : 2 ^ m ≤ 2 ^ 6 := Nat.pow_le_pow_right (by decide) hm
  have e : ((2 : Int) ^ m) = ((2 ^ m : Nat) : Int) := by rw [Int.natCast_pow]; rfl
  refine ⟨?_, h2⟩
  obtain ⟨P, hP⟩ : ∃ P : Nat, P = 2 ^ m := ⟨_, rfl⟩
  rw [e, ← hP, IntKind.wrap_i64]
  rw [← hP] at h2
  omega
theorem idxQ_yes {p : Nat → Bool} {n : Nat} (h : p n = true) : idxQ p (n + 1) = idxQ p n ++ [(n : Int)] := by rw [idxQ, if_pos h]
theorem idxQ_no {p : Nat → Bool} {n : Nat} (h : p n = false) : idxQ p (n + 1) = idxQ p n := by rw [idxQ, if_neg (by rw [h]; simp)]
theorem idxQ_I64 {p : Nat → Bool} {n : Nat} (h : n ≤ 1048576) : ∀ x ∈ idxQ p n, I64 x := fun x hx => by have := idxQ_bd p n x hx; unfold I64; omega
theorem sumQ_true {nd : List RmZ} {n : Nat} : sumQ nd (fun _ => true) (n + 1) = plusZ (sumQ nd (fun _ => true) n) (nd.getD n zeroR) := by rw [sumQ, if_pos rfl]

theorem sumL_p {nd : List RmZ} {S : List Int} {k : Nat} {y : Int} (h : S[k]? = some y) : (sumL nd (S.take (k + 1))).p = (sumL nd (S.take k)).p + (nd.getD y.toNat zeroR).p := by
  rw [take_snoc h, sumL_snoc]; rfl

set_option maxHeartbeats 2000000 in
/-- spec.ValidRoom at a valid room. -/
theorem specValidRoom_calls (p b k : Int) (w : World) (hv : roomB ⟨p, b, k⟩ = true) :
    Calls Tryz.prog 64 #[.agg #[.int .i64 p, .int .i64 b, .int .i64 k]] w fun e w' => e = .returned (.bool true) ∧ Below w.heap.size w w' := by
  obtain ⟨w0, hw0⟩ : ∃ w0, w0 = w.alloc (.cells #[.int .i64 p, .int .i64 b, .int .i64 k] 87) := ⟨_, rfl⟩
  have hb0 : Below w.heap.size w w0 := by rw [hw0]; exact (Below.refl _ _).alloc (Nat.le_refl _) _
  have HA0 : Hid (At3 87 w0 w.heap.size (.int .i64 p) (.int .i64 b) (.int .i64 k)) := by rw [hw0]; exact At3.new _ _ _ _ _
  obtain ⟨l0, l1, l2, _⟩ := HA0.out.out
  have LR := hide (l17Room_calls p b k w.heap.size 0 w0 hv l0 l1 l2)
  have HB0 := hide hb0
  clear hb0 hv
  go_enter Tryz.func64, Tryz.ntmps64
  go_upto_region 1 with fail
  rw [← hw0]
  clear hw0
  go_wp2_with fail
  refine LR.out.mono ?_
  rintro e w' ⟨rfl, rfl⟩
  go_wp2
  go_ret
  exact ⟨rfl, HB0.out⟩

end Go.Proofs.YtcclfmapbgdpdaaGreatDoor
