/- can, helpersFor of the program. -/
import Derived.Test.YtcclfmapbgdpdaaGreatDoorHelK
import Derived.Test.YtcclfmapbgdpdaaGreatDoorMg
namespace Go.Proofs.YtcclfmapbgdpdaaGreatDoor
open Go.RowKit
set_option linter.unusedVariables false

theorem own_mono5 {w : World} {base base' : Nat} {e : TypeId} {size : Nat} {v : Value} {n : Nat} {xs : List Value} (h : w.ownsRow base e size v n xs) (h1 : base' ≤ base) : w.ownsRow base' e size v n xs := by
  refine ⟨h.1, ?_⟩
  rcases h.2 with h2 | ⟨g, cap, cur, hv, hb, rest⟩
  · exact .inl h2
  · exact .inr ⟨g, cap, cur, hv, Nat.le_trans h1 hb, rest⟩

set_option maxHeartbeats 1000000 in
theorem can_calls (r s : ByteArray) (o k p m : Int) (w : World) (ho : 0 ≤ o ∧ o ≤ 7) (hp : 0 ≤ p ∧ p ≤ 7) :
    Calls Tryz.prog 120 #[.agg #[.string r, .int .i64 o, .int .i64 k], .agg #[.string s, .int .i64 p, .int .i64 m]] w fun e w' => e = .returned (.bool (canB ⟨r, o, k⟩ ⟨s, p, m⟩)) ∧ Below w.heap.size w w' := by
  have HC : Hid (canB ⟨r, o, k⟩ ⟨s, p, m⟩ = ((bits .andNot .i64 p o == 0) && decide (k ≤ m))) := by unfold Hid canB; simp only; rw [can_not ho hp]
  rw [HC.out]
  clear HC
  have HB := hide (((Below.refl w.heap.size w).alloc (Nat.le_refl _) (.cells #[.string r, .int .i64 o, .int .i64 k] 70)).alloc (by simp) (.cells #[.string s, .int .i64 p, .int .i64 m] 67))
  rcases b_cases (bits .andNot .i64 p o == 0) with h1 | h1
  · rw [h1]
    go_enter Tryz.func120, Tryz.ntmps120
    go_wp2
    go_ret
    exact ⟨rfl, HB.out⟩
  · rw [h1]
    by_cases h2 : k ≤ m
    · have d : decide (k ≤ m) = true := decide_eq_true h2
      rw [d]
      go_enter Tryz.func120, Tryz.ntmps120
      go_wp2
      go_ret
      exact ⟨rfl, HB.out⟩
    · have d : decide (k ≤ m) = false := decide_eq_false h2
      rw [d]
      go_enter Tryz.func120, Tryz.ntmps120
      go_wp2
      go_ret
      exact ⟨rfl, HB.out⟩

/-- What a function leaves that returns a list of numbers. -/
def NumLPost (V : List Int) (w : World) (e : Ending) (w' : World) : Prop :=
  ∃ A' n' c', e = .returned (.slice A' n' c') ∧ w'.ownsRow w.heap.size 2 1 (.slice A' n' c') n' (cI V) ∧ V.length = n' ∧ Below w.heap.size w w'
/-- All skills lie in range. -/
def SkOk (hs : List HlpZ) : Prop := ∀ x ∈ hs, 0 ≤ x.sk ∧ x.sk ≤ 7

set_option maxHeartbeats 4000000 in
set_option maxRecDepth 100000 in
theorem helpersFor_calls (A : Option Addr) (n c : Nat) (hs : List HlpZ) (s : ByteArray) (p m : Int) (w : World) (h : RdK kHlp w A n hs) (hn : n ≤ 1048576) (ho : SkOk hs) (hp : 0 ≤ p ∧ p ≤ 7) :
    Calls Tryz.prog 116 #[.slice A n c, .agg #[.string s, .int .i64 p, .int .i64 m]] w (NumLPost (helpZ hs ⟨s, p, m⟩) w) := by
  have HL := hide h.2.1
  have HO := hide ho
  obtain ⟨w1, hw1⟩ : ∃ w1, w1 = w.alloc (.cells #[.string s, .int .i64 p, .int .i64 m] 67) := ⟨_, rfl⟩
  have hb1 : Below w.heap.size w w1 := by rw [hw1]; exact (Below.refl _ _).alloc (Nat.le_refl _) _
  have hz1 : w.heap.size < w1.heap.size := by rw [hw1]; simp
  have HA : Hid (At3 67 w1 w.heap.size (.string s) (.int .i64 p) (.int .i64 m)) := by rw [hw1]; exact At3.new _ _ _ _ _
  have HH := hide (h.below hb1 (Nat.le_refl _))
  have HB1 := hide hb1
  have HHZ : Hid (helpZ hs ⟨s, p, m⟩ = idxK (fun h => canB h ⟨s, p, m⟩) hs n) := by unfold Hid helpZ; rw [HL.out]
  rw [HHZ.out]
  clear h ho hb1 HHZ
  go_enter Tryz.func116, Tryz.ntmps116
  go_wp2_with fail
  rw [← hw1]
  clear hw1
  go_loopw [5, 6, 7, 10] (fun v _ _ i wr => ∃ (k q : Nat), k ≤ n ∧ i = .int .i64 k ∧ wr.ownsRow w1.heap.size 2 1 v q (cI (idxK (fun h => canB h ⟨s, p, m⟩) hs k)) ∧ q ≤ k ∧ Hid ((idxK (fun h => canB h ⟨s, p, m⟩) hs k).length = q) ∧ Hid (Below w1.heap.size w1 wr)) (fun _ _ _ i _ => n - (intOf i).toNat)
  case atStart => exact ⟨0, 0, Nat.zero_le _, rfl, by simpa [cI, idxK] using World.ownsRow_nil w1 w1.heap.size 2 1, Nat.le_refl _, rfl, Below.refl _ _⟩
  case round =>
    obtain ⟨k, q, hk, rfl, hown, hqk, HQ, HB⟩ := hrel
    have HOW := hide hown
    clear hown
    by_cases hlt : k < n
    · obtain ⟨b, off, f0, f1, f2, hA, hbl, hx, c0, c1, c2, hs0, hs1, hs2, hs3, hs4⟩ := (HH.out.below HB.out (Nat.le_refl _)).atHlp hlt
      have hsk := HO.out _ (List.mem_of_getElem? hx.out)
      have hat := HA.out.below HB.out hz1
      obtain ⟨W, hW⟩ : ∃ W, W = wr.alloc (.cells #[.string f0, .int .i64 f1, .int .i64 f2] 70) := ⟨_, rfl⟩
      have hbW : Below wr.heap.size wr W := by rw [hW]; exact (Below.refl _ _).alloc (Nat.le_refl _) _
      obtain ⟨a0, a1, a2, _⟩ := (hat.below hbW (Nat.lt_of_lt_of_le hz1 HB.out.size)).out
      have e0 : W.cell? ⟨wr.heap.size, 0, none⟩ = some (.string f0) := by rw [hW]; simp
      have e1 : W.cell? ⟨wr.heap.size, 1, none⟩ = some (.int .i64 f1) := by rw [hW]; simp
      have e2 : W.cell? ⟨wr.heap.size, 2, none⟩ = some (.int .i64 f2) := by rw [hW]; simp
      have HCA := hide (can_calls f0 s f1 f2 p m W hsk hp)
      have HYES := hide (idxK_yes (p := fun h => canB h ⟨s, p, m⟩) hx.out)
      have HNO := hide (idxK_no (p := fun h => canB h ⟨s, p, m⟩) hx.out)
      have hsz := HB.out.size
      subst hA
      generalize canB ⟨f0, f1, f2⟩ ⟨s, p, m⟩ = cb at *
      clear hx hsk hat
      go_upto_region 5 with fail
      rw [← hW]
      clear hW
      have hzW := hbW.size
      go_wp2_with fail
      refine HCA.out.mono ?_
      rintro e w3 ⟨rfl, hb3⟩
      have hb13 := hbW.trans (hb3.mono hbW.size)
      have HB3 := hide (HB.out.trans (hb13.mono HB.out.size))
      have hO3 := own_below HOW.out hb13 (Nat.le_refl _)
      have hz3 := hb13.size
      clear hb3 HCA a0 a1 a2 e0 e1 e2 c0 c1 c2 hb13 hbW
      cases cb
      · have HE := hide (HNO.out rfl)
        go_wp2_with fail
        go_roundw
        case rel => exact ⟨k + 1, q, by omega, by go_num, by rw [HE.out]; exact hO3, by omega, by rw [HE.out]; exact HQ, HB3⟩
        case measure => simp [intOf]; omega
      · have HE := hide (HYES.out rfl)
        go_wp2_with (at_builtin; refine appI rfl _ _ rfl w1.heap.size u5 q _ (k : Int) rfl hO3 rfl (by omega) (by omega) ?_; intro v4 w4 hown4 hb4 hz4)
        go_roundw
        case rel => exact ⟨k + 1, q + 1, by omega, by go_num, by rw [HE.out]; exact hown4, by omega, by rw [HE.out, List.length_append]; unfold Hid; rw [HQ.out]; rfl, HB3.out.trans hb4⟩
        case measure => simp [intOf]; omega
    · have hkn : k = n := by omega
      subst hkn
      obtain ⟨A9, c9, hv⟩ := own_slice HOW.out
      subst hv
      go_wp2
      go_ret
      exact ⟨A9, q, c9, rfl, own_mono5 HOW.out (by omega), HQ.out, HB1.out.trans (HB.out.mono HB1.out.size)⟩

end Go.Proofs.YtcclfmapbgdpdaaGreatDoor
