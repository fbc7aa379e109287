/- The line of versions from which a version comes, of the program and of the reference. -/
import Derived.Test.YtmcdafaadodekaaValidHist
import Derived.Test.YtmcdafaadodekaaHasI
namespace Go.Proofs.Ytmcdafaadodekaa
open Go.RowKit
set_option linter.unusedVariables false

/-- A version's parent. -/
def parN (vs : List VerZ) (k : Nat) : Nat := match vs[k - 1]? with | some v => v.parent.toNat | none => 0
def lineF (vs : List VerZ) : Nat → Nat → List Int
  | 0, _ => []
  | f + 1, k => if k = 0 then [] else (k : Int) :: lineF vs f (parN vs k)
/-- A version and the versions from which it comes. -/
def lineV (vs : List VerZ) (k : Nat) : List Int := lineF vs k k

theorem hist_len {vs : List VerZ} (h : histB vs = true) : vs.length ≤ 32 := by
  unfold histB at h
  simp at h
  exact h.2
theorem hist_at {vs : List VerZ} {k : Nat} {v : VerZ} (h : histB vs = true) (hv : vs[k]? = some v) : v.number = (k : Int) + 1 ∧ 0 ≤ v.parent ∧ v.parent ≤ k := by
  unfold histB at h
  rw [Bool.and_eq_true, List.all_eq_true] at h
  have hk := (List.getElem?_eq_some_iff.1 hv).1
  have := h.1 k (by simpa using hk)
  unfold verKB at this
  rw [hv] at this
  simp only [Bool.and_eq_true, decide_eq_true_eq] at this
  have h2 := withinB_iff.1 this.2.1
  exact ⟨this.1, h2⟩
theorem par_at {vs : List VerZ} {k : Nat} {v : VerZ} (h : histB vs = true) (hv : vs[k]? = some v) : v.parent = (parN vs (k + 1) : Int) := by
  have := hist_at h hv
  unfold parN
  simp only [Nat.add_sub_cancel, hv]
  omega
theorem par_lt {vs : List VerZ} (h : histB vs = true) (k : Nat) : parN vs (k + 1) ≤ k := by
  unfold parN
  simp only [Nat.add_sub_cancel]
  split
  · rename_i v hv
    have := hist_at h hv
    omega
  · omega
theorem lineF_eq {vs : List VerZ} (h : histB vs = true) : ∀ (k f : Nat), k ≤ f → lineF vs f k = lineV vs k := by
  intro k
  induction k using Nat.strongRecOn with
  | _ k ih =>
    intro f hf
    unfold lineV
    rcases Nat.eq_zero_or_pos k with h0 | h0
    · subst h0
      cases f <;> simp [lineF]
    · obtain ⟨k', rfl⟩ : ∃ k', k = k' + 1 := ⟨k - 1, by omega⟩
      obtain ⟨f', rfl⟩ : ∃ f', f = f' + 1 := ⟨f - 1, by omega⟩
      have hp := par_lt h k'
      simp only [lineF]
      rw [if_neg (by omega), if_neg (by omega), ih _ (by omega) f' (by omega), ih _ (by omega) k' (by omega)]
theorem lineV_step {vs : List VerZ} (h : histB vs = true) (k : Nat) : lineV vs (k + 1) = ((k + 1 : Nat) : Int) :: lineV vs (parN vs (k + 1)) := by
  have hp := par_lt h k
  conv => lhs; unfold lineV
  simp only [lineF]
  rw [if_neg (by omega), lineF_eq h _ _ (by omega)]
theorem lineV_zero {vs : List VerZ} : lineV vs 0 = [] := rfl
theorem lineV_len {vs : List VerZ} (h : histB vs = true) : ∀ k, (lineV vs k).length ≤ k := by
  intro k
  induction k using Nat.strongRecOn with
  | _ k ih =>
    rcases Nat.eq_zero_or_pos k with h0 | h0
    · subst h0; simp [lineV_zero]
    · obtain ⟨k', rfl⟩ : ∃ k', k = k' + 1 := ⟨k - 1, by omega⟩
      have hp := par_lt h k'
      rw [lineV_step h]
      have := ih _ (show parN vs (k' + 1) < k' + 1 by omega)
      simp only [List.length_cons]
      omega
theorem lineV_mem {vs : List VerZ} (h : histB vs = true) : ∀ k x, x ∈ lineV vs k → 1 ≤ x ∧ x ≤ k := by
  intro k
  induction k using Nat.strongRecOn with
  | _ k ih =>
    intro x hx
    rcases Nat.eq_zero_or_pos k with h0 | h0
    · subst h0; simp [lineV_zero] at hx
    · obtain ⟨k', rfl⟩ : ∃ k', k = k' + 1 := ⟨k - 1, by omega⟩
      have hp := par_lt h k'
      rw [lineV_step h, List.mem_cons] at hx
      rcases hx with rfl | hx
      · omega
      · have := ih _ (show parN vs (k' + 1) < k' + 1 by omega) x hx
        omega

set_option maxHeartbeats 2000000 in
theorem lineOf_calls (A : Option Addr) (n c : Nat) (vs : List VerZ) (k0 : Nat) (w : World) (h : RdVz w A n vs) (hn : n ≤ 1048576) (hh : histB vs = true) (hk0 : k0 ≤ n) :
    Calls Try.prog 87 #[.slice A n c, .int .i64 k0] w fun e w' => ∃ v', e = .returned v' ∧ w'.ownsRow w.heap.size 2 1 v' (lineV vs k0).length (cI (lineV vs k0)) ∧ Below w.heap.size w w' := by
  obtain ⟨rs, h, rfl⟩ := h
  have h32 : n ≤ 32 := by have := hist_len hh; rw [zV_len, h.2.1] at this; exact this
  have HH := hide hh
  clear hh
  have hown0 := World.ownsRow_nil w w.heap.size 2 1
  go_enter Try.func87, Try.ntmps87
  go_wp2
  go_loopw [1, 5] (fun i v wr => ∃ (k m : Nat) (xs : List Int), k ≤ n ∧ i = .int .i64 k ∧ Hid (xs ++ lineV (zV rs) k = lineV (zV rs) k0 ∧ xs.length = m) ∧ m + k ≤ k0 ∧ wr.ownsRow w.heap.size 2 1 v m (cI xs) ∧ Below w.heap.size w wr) (fun i _ _ => (intOf i).toNat)
  case atStart => exact ⟨k0, 0, [], hk0, rfl, ⟨rfl, rfl⟩, by omega, hown0, Below.refl _ _⟩
  case round =>
    clear hown0
    obtain ⟨k, m, xs, hk, rfl, HX, hmk, hown, hb⟩ := hrel
    have HO := hide hown
    clear hown
    by_cases hlt : 0 < k
    · obtain ⟨k', rfl⟩ : ∃ k', k = k' + 1 := ⟨k - 1, by omega⟩
      obtain ⟨b, off, nu, pa, me, Aq, nq, cq, st, rfl, hbl, hx, hc, hc2, hc3, hc4, hn1, hn2, hp1, hp2, hme, hst, hnq⟩ := h.at (k := k') (by omega)
      have hpar := par_at HH.out (zV_at hx.out)
      have hplt := par_lt HH.out k'
      simp only [VerC.z] at hpar
      subst hpar
      have hi1 : (k' : Int) + 1 - 1 = (k' : Int) := by omega
      have hi2 : (0 : Int) ≤ (k' : Int) := by omega
      have hi3 : (k' : Int) < (n : Int) := by omega
      have hsz := hb.size
      have HS := hide (lineV_step HH.out k')
      clear hc hc3 hc4
      go_wp2_with (at_builtin; refine appI rfl _ _ rfl w.heap.size u5 m xs ((k' : Int) + 1) rfl HO.out rfl (by omega) (by omega) ?_; intro v' w4 hown4 hb4 hz4; have hcx := ((hb.trans hb4).cell hbl).trans hc2)
      go_roundw
      case rel =>
        refine ⟨parN (zV rs) (k' + 1), m + 1, xs ++ [(k' : Int) + 1], by omega, rfl, ⟨?_, by simp [HX.out.2]⟩, by omega, hown4, hb.trans hb4⟩
        rw [← HX.out.1, HS.out, List.append_assoc]
        rfl
      case measure => simp [intOf]; omega
    · have hk' : k = 0 := by omega
      subst hk'
      go_wp2
      go_ret
      have h1 := HX.out.1
      rw [lineV_zero, List.append_nil] at h1
      rw [← h1, HX.out.2]
      exact ⟨_, rfl, HO.out, hb⟩

set_option maxHeartbeats 2000000 in
theorem l27Above_calls (A : Option Addr) (n c : Nat) (vs : List VerZ) (k0 : Nat) (w : World) (h : RdVz w A n vs) (hn : n ≤ 1048576) (hh : histB vs = true) (hk0 : k0 ≤ n) :
    Calls Try.prog 86 #[.slice A n c, .int .i64 k0] w fun e w' => ∃ v', e = .returned v' ∧ w'.ownsRow w.heap.size 2 1 v' (lineV vs k0).tail.length (cI (lineV vs k0).tail) ∧ Below w.heap.size w w' := by
  obtain ⟨rs, h, rfl⟩ := h
  have h32 : n ≤ 32 := by have := hist_len hh; rw [zV_len, h.2.1] at this; exact this
  have HH := hide hh
  clear hh
  have hown0 := World.ownsRow_lit (base := w.heap.size) (e := 2) (size := 1) w #[] 0 (Nat.le_refl _) (by simp) rfl
  go_enter Try.func86, Try.ntmps86
  go_wp2
  go_loopw [1, 5] (fun i v wr => ∃ (k m : Nat) (xs : List Int), k ≤ n ∧ i = .int .i64 k ∧ Hid (xs ++ (lineV (zV rs) k).tail = (lineV (zV rs) k0).tail ∧ xs.length = m) ∧ m + k ≤ k0 ∧ wr.ownsRow w.heap.size 2 1 v m (cI xs) ∧ Below w.heap.size w wr) (fun i _ _ => (intOf i).toNat)
  case atStart => exact ⟨k0, 0, [], hk0, rfl, ⟨rfl, rfl⟩, by omega, by simpa [cI] using hown0, (Below.refl _ _).alloc (Nat.le_refl _) _⟩
  case round =>
    clear hown0
    obtain ⟨k, m, xs, hk, rfl, HX, hmk, hown, hb⟩ := hrel
    have HO := hide hown
    clear hown
    by_cases hlt : 0 < k
    · obtain ⟨k', rfl⟩ : ∃ k', k = k' + 1 := ⟨k - 1, by omega⟩
      obtain ⟨b, off, nu, pa, me, Aq, nq, cq, st, rfl, hbl, hx, hc, hc2, hc3, hc4, hn1, hn2, hp1, hp2, hme, hst, hnq⟩ := h.at (k := k') (by omega)
      have hpar := par_at HH.out (zV_at hx.out)
      have hplt := par_lt HH.out k'
      simp only [VerC.z] at hpar
      subst hpar
      have hi1 : (k' : Int) + 1 - 1 = (k' : Int) := by omega
      have hi2 : (0 : Int) ≤ (k' : Int) := by omega
      have hi3 : (k' : Int) < (n : Int) := by omega
      have hsz := hb.size
      have HS := hide (lineV_step HH.out k')
      have e0 : ((k' : Int) + 1 != 0) = true := by simp; omega
      have hcx := (hb.cell hbl).trans hc2
      clear hc hc3 hc4
      obtain ⟨q, hq⟩ : ∃ q, q = parN (zV rs) (k' + 1) := ⟨_, rfl⟩
      rw [← hq] at hcx hplt
      have HQ := hide hq
      clear hq hp1 hp2 hc2
      by_cases hq0 : q = 0
      · subst hq0
        go_wp2
        go_roundw
        case rel =>
          refine ⟨0, m, xs, by omega, rfl, ⟨?_, HX.out.2⟩, by omega, HO.out, hb⟩
          rw [← HX.out.1, HS.out, ← HQ.out]
          rfl
        case measure => simp [intOf]; try omega
      · obtain ⟨q', rfl⟩ : ∃ q', q = q' + 1 := ⟨q - 1, by omega⟩
        have e1 : ((q' : Int) + 1 != 0) = true := by simp; omega
        have HS2 := hide (lineV_step HH.out q')
        go_wp2_with (at_builtin; refine appI rfl _ _ rfl w.heap.size u5 m xs ((q' : Int) + 1) rfl HO.out rfl (by omega) (by omega) ?_; intro v' w4 hown4 hb4 hz4)
        go_roundw
        case rel =>
          refine ⟨q' + 1, m + 1, xs ++ [(q' : Int) + 1], by omega, rfl, ⟨?_, by simp [HX.out.2]⟩, by omega, hown4, hb.trans hb4⟩
          rw [← HX.out.1, HS.out, ← HQ.out, List.tail_cons, HS2.out, List.append_assoc]
          rfl
        case measure => simp [intOf]; omega
    · have hk' : k = 0 := by omega
      subst hk'
      go_wp2
      go_ret
      have h1 := HX.out.1
      rw [lineV_zero, List.tail_nil, List.append_nil] at h1
      rw [← h1, HX.out.2]
      exact ⟨_, rfl, HO.out, hb⟩

end Go.Proofs.Ytmcdafaadodekaa
