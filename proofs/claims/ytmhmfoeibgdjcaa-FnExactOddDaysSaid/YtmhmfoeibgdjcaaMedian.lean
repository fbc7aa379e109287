/- Medians: plain law, l26Sorted, medians of the program and of the reference. -/
import Derived.Test.YtmhmfoeibgdjcaaFill
import Derived.Test.YtmhmfoeibgdjcaaAppI
import Derived.Test.YtmhmfoeibgdjcaaSortI
import Derived.Deep.Cut
namespace Go.Proofs.Ytmhmfoeibgdjcaa
open Go.RowKit
set_option linter.unusedVariables false

def sortZ (xs : List Int) : List Int := xs.mergeSort (fun x y => decide (x ≤ y))
theorem sortZ_perm (xs : List Int) : (sortZ xs).Perm xs := List.mergeSort_perm _ _
theorem sortZ_rise (xs : List Int) : (sortZ xs).Pairwise (· ≤ ·) := by
  have := List.pairwise_mergeSort (le := fun x y : Int => decide (x ≤ y)) (fun a b c h1 h2 => by simp only [decide_eq_true_eq] at *; omega) (fun a b => by simp only [Bool.or_eq_true, decide_eq_true_eq]; omega) xs
  exact this.imp (by simp)
theorem sortZ_len (xs : List Int) : (sortZ xs).length = xs.length := (sortZ_perm xs).length_eq
theorem sortZ_mem {xs : List Int} {x : Int} : x ∈ sortZ xs ↔ x ∈ xs := (sortZ_perm xs).mem_iff
theorem sortZ_of {xs ys : List Int} (hp : ys.Perm xs) (hr : ys.Pairwise (· ≤ ·)) : ys = sortZ xs :=
  List.Perm.eq_of_pairwise (fun a b _ _ h1 h2 => Int.le_antisymm h1 h2) hr (sortZ_rise xs) (hp.trans (sortZ_perm xs).symm)

/-- ys holds the first k in order. -/
def SInv (xs : List Int) (k : Nat) (ys : List Int) : Prop := ys.Perm (xs.take k) ∧ ys.Pairwise (· ≤ ·)
theorem SInv.len {xs ys : List Int} {k : Nat} (h : SInv xs k ys) (hk : k ≤ xs.length) : ys.length = k := by rw [h.1.length_eq]; simp; omega
theorem SInv.mem {xs ys : List Int} {k : Nat} (h : SInv xs k ys) {y : Int} (hy : y ∈ ys) : y ∈ xs := List.mem_of_mem_take (h.1.mem_iff.1 hy)
theorem SInv.put {xs ys : List Int} {k t : Nat} {x : Int} (h : SInv xs k ys) (hx : xs[k]? = some x) (h1 : ∀ y ∈ ys.take t, y ≤ x) (h2 : ∀ y ∈ ys.drop t, x ≤ y) : SInv xs (k + 1) (ys.take t ++ [x] ++ ys.drop t) := by
  refine ⟨?_, ?_⟩
  · rw [take_snoc hx]
    have e : (ys.take t ++ [x] ++ ys.drop t).Perm (ys.take t ++ ys.drop t ++ [x]) := by
      rw [List.append_assoc, List.append_assoc]
      exact List.Perm.append_left _ (List.perm_append_comm)
    rw [List.take_append_drop] at e
    exact e.trans (h.1.append_right _)
  · have hr := h.2
    rw [← List.take_append_drop t ys, List.pairwise_append] at hr
    rw [List.append_assoc, List.pairwise_append]
    refine ⟨hr.1, ?_, ?_⟩
    · rw [List.singleton_append, List.pairwise_cons]
      exact ⟨h2, hr.2.1⟩
    · intro a ha b hb
      rcases List.mem_append.1 hb with hb | hb
      · simp only [List.mem_singleton] at hb; subst hb; exact h1 a ha
      · exact hr.2.2 a ha b hb
theorem take_le {ys : List Int} (hr : ys.Pairwise (· ≤ ·)) {a : Nat} {x y : Int} (hy : ys[a]? = some y) (hle : y ≤ x) : ∀ z ∈ ys.take (a + 1), z ≤ x := by
  intro z hz
  obtain ⟨j, hj, rfl⟩ := List.getElem_of_mem hz
  obtain ⟨ha, rfl⟩ := List.getElem?_eq_some_iff.1 hy
  simp only [List.length_take] at hj
  rw [List.getElem_take]
  rcases Nat.eq_or_lt_of_le (show j ≤ a by omega) with h0 | h0
  · subst h0; exact hle
  · have := List.pairwise_iff_getElem.1 hr j a (by omega) ha h0
    omega
theorem drop_step {ys : List Int} {a : Nat} {x y : Int} (hy : ys[a]? = some y) (hlt : x ≤ y) (h : ∀ z ∈ ys.drop (a + 1), x ≤ z) : ∀ z ∈ ys.drop a, x ≤ z := by
  intro z hz
  obtain ⟨ha, rfl⟩ := List.getElem?_eq_some_iff.1 hy
  rw [List.drop_eq_getElem_cons ha, List.mem_cons] at hz
  rcases hz with rfl | hz
  · exact hlt
  · exact h z hz
theorem own_mono2 {w : World} {base base' : Nat} {e : TypeId} {size : Nat} {v : Value} {n : Nat} {xs : List Value} (h : w.ownsRow base e size v n xs) (h1 : base' ≤ base) : w.ownsRow base' e size v n xs := by
  refine ⟨h.1, ?_⟩
  rcases h.2 with h2 | ⟨g, cap, cur, hv, hbg, hrest⟩
  · exact .inl h2
  · exact .inr ⟨g, cap, cur, hv, Nat.le_trans h1 hbg, hrest⟩
theorem RdI.take {w : World} {b off n m : Nat} {xs : List Int} (h : RdI w (some ⟨b, off, none⟩) n xs) (hm : m ≤ n) : RdI w (some ⟨b, off, none⟩) m (xs.take m) := by
  have := h.cut (k := 0) (m := m) (by omega)
  simpa using this
theorem RdI.drop {w : World} {b off n k : Nat} {xs : List Int} (h : RdI w (some ⟨b, off, none⟩) n xs) (hk : k ≤ n) : RdI w (some ⟨b, off + k, none⟩) (n - k) (xs.drop k) := by
  have := h.cut (k := k) (m := n - k) (by omega)
  rwa [List.take_of_length_le (by rw [List.length_drop, h.len]; omega)] at this

set_option maxRecDepth 100000 in
set_option maxHeartbeats 4000000 in
theorem l26Sorted_calls (A : Option Addr) (n c : Nat) (xs : List Int) (w : World) (h : RdI w A n xs) (hn : n ≤ 1048576) :
    Calls Try.prog 84 #[.slice A n c] w fun e w' => ∃ A' c', e = .returned (.slice A' n c') ∧ w'.ownsRow w.heap.size 2 1 (.slice A' n c') n (cI (sortZ xs)) ∧ Below w.heap.size w w' := by
  have HL := hide h.len
  have HX := hide h.2
  have hown0 := World.ownsRow_lit (base := w.heap.size) (e := 2) (size := 1) w #[] 0 (Nat.le_refl _) (by simp) rfl
  go_enter Try.func84, Try.ntmps84
  go_wp2_with fail
  go_loopw [3, 4] (fun v i wr => ∃ (k g cp : Nat) (ys : List Int), k ≤ n ∧ i = .int .i64 k ∧ v = .slice (some ⟨g, 0, none⟩) k cp ∧ k ≤ cp ∧ Hid (SInv xs k ys) ∧ wr.ownsRow w.heap.size 2 1 (.slice (some ⟨g, 0, none⟩) k cp) k (cI ys) ∧ Below w.heap.size w wr) (fun _ i _ => n - (intOf i).toNat)
  case atStart => exact ⟨0, w.heap.size, 0, [], by omega, rfl, rfl, Nat.le_refl _, ⟨by simp, by simp⟩, by simpa [cI] using hown0, (Below.refl _ _).alloc (Nat.le_refl _) _⟩
  case round =>
    clear hown0
    obtain ⟨k, g, cp, ys, hk, rfl, rfl, hkc, HS, hown, hb⟩ := hrel
    have HO := hide hown
    clear hown
    obtain ⟨wo, rfl⟩ : ∃ wo : World, wo = wr := ⟨_, rfl⟩
    by_cases hlt : k < n
    · obtain ⟨b, off, x, rfl, hbl, hx, hc, hx1, hx2⟩ := (h.below hb (Nat.le_refl _)).at hlt
      have hys : RdI wo (some ⟨g, 0, none⟩) k ys := RdI.of_own HO.out (fun y hy => HX.out y (HS.out.mem hy))
      have HY := hide hys
      go_wp2_with fail
      go_loopw [5] (fun v wi => ∃ t : Nat, t ≤ k ∧ v = .int .i64 t ∧ Hid (∀ y ∈ ys.drop t, x ≤ y) ∧ ∃ j, wi = wo.drewN j) (fun v _ => (intOf v).toNat)
      case atStart => exact ⟨k, Nat.le_refl _, rfl, by intro y hy; rw [List.drop_eq_nil_of_le (by rw [HY.out.len]; omega)] at hy; simp at hy, 0, rfl⟩
      case round =>
        obtain ⟨t, ht, rfl, HD, j, rfl⟩ := hrel
        rcases t with _ | t
        · have HT : Hid (∀ y ∈ ys.take 0, y ≤ x) := by intro y hy; simp at hy
          go_wp2
          go_quiet (fail)
          go_wp2_with fail
          refine (l00Own_calls _ _ _ (ys.take 0) _ ((HY.out.take (by omega)).drewN _) (by omega)).mono ?_
          rintro e w3 ⟨A3, c3, rfl, hown3, hb3⟩
          have hb3 : Below wo.heap.size wo w3 := (below_drewN (Below.refl _ _) _).trans hb3
          have hown3 : w3.ownsRow wo.heap.size 2 1 (.slice A3 0 c3) 0 (cI (ys.take 0)) := hown3
          have hz3 := hb3.size
          have hc3 : w3.cell? ⟨b, off + k, none⟩ = some (.int .i64 x) := (hb3.cell (p := ⟨b, off + k, none⟩) (Nat.lt_of_lt_of_le hbl (Nat.le_refl _))).trans hc
          clear hc
          go_upto_region 10 with (at_builtin; refine appI rfl _ _ rfl wo.heap.size (.slice A3 0 c3) 0 (ys.take 0) x rfl hown3 rfl (by omega) hz3 ?_; intro v4 w4 hown4 hb4 hz4)
          have hr4 : RdI w4 (some ⟨g, 0, none⟩) k ys := HY.out.below (hb3.trans hb4) (Nat.le_refl _)
          have hd4 : Rd w4 (some ⟨g, 0, none⟩) (k - 0) 1 (cK kI (ys.drop 0)) := by rw [cK_kI]; have := (hr4.drop (k := 0) (by omega)).1; simpa using this
          rw [← cK_kI] at hown4
          clear hown3 hc3
          by_cases hct : cp = 0
          · have hkt : k = 0 := by omega
            have HN : Hid (ys.drop 0 = []) := by unfold Hid; rw [List.drop_eq_nil_of_le (by rw [HY.out.len]; omega)]
            subst hkt
            subst hct
            have z0 : 0 - 0 = 0 := Nat.sub_self _
            clear hd4
            go_wp2_with (at_builtin; refine appsI rfl _ _ rfl wo.heap.size v4 (0 + 1) (ys.take 0 ++ [x]) rfl hown4 (some ⟨g, 0, none⟩) 0 0 [] (by first | rfl | (simp; rfl) | simp) Rd.nil (by omega) (by omega) ?_; intro v5 w5 hown5 hb5 hz5)
            have hB5 : Below wo.heap.size wo w5 := (hb3.trans hb4).trans hb5
            have e9 : ys.take 0 ++ [x] ++ [] = ys.take 0 ++ [x] ++ ys.drop 0 := by rw [HN.out]
            rw [e9, Nat.add_zero, cK_kI] at hown5
            obtain ⟨g5, c5, rfl⟩ := own_addr hown5 (by omega)
            have hm5 := own_mono2 hown5 hb.size
            go_roundw
            case rel => exact ⟨0 + 1, g5, c5, _, by omega, by go_num, rfl, own_cap hown5, HS.out.put hx.out HT.out HD.out, hm5, hb.trans (hB5.mono hb.size)⟩
            case measure => simp [intOf]; omega
          · go_wp2_with (at_builtin; refine appsI rfl _ _ rfl wo.heap.size v4 (0 + 1) (ys.take 0 ++ [x]) rfl hown4 (some ⟨g, 0, none⟩) (k - 0) (cp - 0) (ys.drop 0) rfl hd4 (by omega) (by omega) ?_; intro v5 w5 hown5 hb5 hz5)
            have hB5 : Below wo.heap.size wo w5 := (hb3.trans hb4).trans hb5
            have ek : 0 + 1 + (k - 0) = k + 1 := by omega
            rw [ek, cK_kI] at hown5
            obtain ⟨g5, c5, rfl⟩ := own_addr hown5 (by omega)
            have hm5 := own_mono2 hown5 hb.size
            go_roundw
            case rel => exact ⟨k + 1, g5, c5, _, by omega, by go_num, rfl, own_cap hown5, HS.out.put hx.out HT.out HD.out, hm5, hb.trans (hB5.mono hb.size)⟩
            case measure => simp [intOf]; omega
        · obtain ⟨b0, off0, y, hbo, hbl', hy, hc', hy1, hy2⟩ := hys.at (k := t) (by omega)
          obtain ⟨rfl, rfl⟩ : g = b0 ∧ 0 = off0 := by simpa using hbo
          clear hbo
          rw [Nat.zero_add] at hc'
          have hg0 : (0 : Int) < (t : Int) + 1 := by omega
          by_cases hxy : x < y
          · have HDN : Hid (∀ z ∈ ys.drop t, x ≤ z) := drop_step hy.out (by omega) HD.out
            go_wp2
            go_quiet (fail)
            go_wp2
            go_roundw
            case rel => exact ⟨t, by omega, by go_num, HDN, (by first | exact ⟨_, rfl⟩ | exact drewN2 _ _ _)⟩
            case measure => simp [intOf] <;> omega
          · have HT : Hid (∀ z ∈ ys.take (t + 1), z ≤ x) := take_le HS.out.2 hy.out (by omega)
            go_wp2
            go_quiet (fail)
            go_wp2_with fail
            refine (l00Own_calls _ _ _ (ys.take (t + 1)) _ ((HY.out.take (by omega)).drewN _) (by omega)).mono ?_
            rintro e w3 ⟨A3, c3, rfl, hown3, hb3⟩
            have hb3 : Below wo.heap.size wo w3 := (below_drewN (Below.refl _ _) _).trans hb3
            have hown3 : w3.ownsRow wo.heap.size 2 1 (.slice A3 (t + 1) c3) (t + 1) (cI (ys.take (t + 1))) := hown3
            have hz3 := hb3.size
            have hc3 : w3.cell? ⟨b, off + k, none⟩ = some (.int .i64 x) := (hb3.cell (p := ⟨b, off + k, none⟩) (Nat.lt_of_lt_of_le hbl (Nat.le_refl _))).trans hc
            clear hc
            go_upto_region 10 with (at_builtin; refine appI rfl _ _ rfl wo.heap.size (.slice A3 (t + 1) c3) (t + 1) (ys.take (t + 1)) x rfl hown3 rfl (by omega) hz3 ?_; intro v4 w4 hown4 hb4 hz4)
            have hr4 : RdI w4 (some ⟨g, 0, none⟩) k ys := HY.out.below (hb3.trans hb4) (Nat.le_refl _)
            have hd4 : Rd w4 (some ⟨g, (t + 1), none⟩) (k - (t + 1)) 1 (cK kI (ys.drop (t + 1))) := by rw [cK_kI]; have := (hr4.drop (k := (t + 1)) (by omega)).1; simpa using this
            rw [← cK_kI] at hown4
            clear hown3 hc3
            by_cases hct : cp = (t + 1)
            · have hkt : k = (t + 1) := by omega
              have HN : Hid (ys.drop (t + 1) = []) := by unfold Hid; rw [List.drop_eq_nil_of_le (by rw [HY.out.len]; omega)]
              subst hkt
              subst hct
              have z0 : (t + 1) - (t + 1) = 0 := Nat.sub_self _
              clear hd4
              go_wp2_with (at_builtin; refine appsI rfl _ _ rfl wo.heap.size v4 ((t + 1) + 1) (ys.take (t + 1) ++ [x]) rfl hown4 (some ⟨g, 0, none⟩) 0 0 [] (by first | rfl | (simp; rfl) | simp) Rd.nil (by omega) (by omega) ?_; intro v5 w5 hown5 hb5 hz5)
              have hB5 : Below wo.heap.size wo w5 := (hb3.trans hb4).trans hb5
              have e9 : ys.take (t + 1) ++ [x] ++ [] = ys.take (t + 1) ++ [x] ++ ys.drop (t + 1) := by rw [HN.out]
              rw [e9, Nat.add_zero, cK_kI] at hown5
              obtain ⟨g5, c5, rfl⟩ := own_addr hown5 (by omega)
              have hm5 := own_mono2 hown5 hb.size
              go_roundw
              case rel => exact ⟨(t + 1) + 1, g5, c5, _, by omega, by go_num, rfl, own_cap hown5, HS.out.put hx.out HT.out HD.out, hm5, hb.trans (hB5.mono hb.size)⟩
              case measure => simp [intOf]; omega
            · go_wp2_with (at_builtin; refine appsI rfl _ _ rfl wo.heap.size v4 ((t + 1) + 1) (ys.take (t + 1) ++ [x]) rfl hown4 (some ⟨g, (t + 1), none⟩) (k - (t + 1)) (cp - (t + 1)) (ys.drop (t + 1)) rfl hd4 (by omega) (by omega) ?_; intro v5 w5 hown5 hb5 hz5)
              have hB5 : Below wo.heap.size wo w5 := (hb3.trans hb4).trans hb5
              have ek : (t + 1) + 1 + (k - (t + 1)) = k + 1 := by omega
              rw [ek, cK_kI] at hown5
              obtain ⟨g5, c5, rfl⟩ := own_addr hown5 (by omega)
              have hm5 := own_mono2 hown5 hb.size
              go_roundw
              case rel => exact ⟨k + 1, g5, c5, _, by omega, by go_num, rfl, own_cap hown5, HS.out.put hx.out HT.out HD.out, hm5, hb.trans (hB5.mono hb.size)⟩
              case measure => simp [intOf]; omega
    · have hkn : k = n := by omega
      subst hkn
      have HE : Hid (ys = sortZ xs) := by
        have h1 := HS.out
        unfold SInv at h1
        rw [List.take_of_length_le (by rw [HL.out]; omega)] at h1
        exact sortZ_of h1.1 h1.2
      go_wp2
      go_ret
      exact ⟨_, _, rfl, by rw [← HE.out]; exact HO.out, hb⟩

/-- The median. -/
def medZ (xs : List Int) : Int := if xs.length % 2 = 1 then (sortZ xs).getD (xs.length / 2) 0 else nearZ ((sortZ xs).getD (xs.length / 2 - 1) 0 + (sortZ xs).getD (xs.length / 2) 0) 2
theorem sort_bd {xs : List Int} (h : ∀ x ∈ xs, 0 ≤ x ∧ x ≤ 1000000) (k : Nat) : 0 ≤ (sortZ xs).getD k 0 ∧ (sortZ xs).getD k 0 ≤ 1000000 := by
  rw [List.getD]
  cases hx : (sortZ xs)[k]? with
  | none => simp
  | some y => exact h y (sortZ_mem.1 (List.mem_of_getElem? hx))
theorem medZ_bd {xs : List Int} (h : ∀ x ∈ xs, 0 ≤ x ∧ x ≤ 1000000) : 0 ≤ medZ xs ∧ medZ xs ≤ 1000000 := by
  unfold medZ
  have h1 := sort_bd h (xs.length / 2)
  have h2 := sort_bd h (xs.length / 2 - 1)
  split
  · exact h1
  · have := nearZ_bd ((sortZ xs).getD (xs.length / 2 - 1) 0 + (sortZ xs).getD (xs.length / 2) 0) 2 1000000 (by omega) (by omega) (by omega)
    refine ⟨?_, this.2⟩
    unfold nearZ
    rw [if_pos (by omega)]
    exact Int.ediv_nonneg (by omega) (by omega)

set_option maxHeartbeats 2000000 in
theorem l26Median_calls (A : Option Addr) (n c : Nat) (xs : List Int) (w : World) (h : RdI w A n xs) (hn : n ≤ 60) (h1 : 1 ≤ n) (hx : ∀ x ∈ xs, 0 ≤ x ∧ x ≤ 1000000) :
    Calls Try.prog 66 #[.slice A n c] w fun e w' => e = .returned (.int .i64 (medZ xs)) ∧ Below w.heap.size w w' := by
  have HL := hide h.len
  have HX := hide hx
  clear hx
  go_enter Try.func66, Try.ntmps66
  go_wp2_with fail
  refine (l26Sorted_calls _ _ _ xs _ h (by omega)).mono ?_
  rintro e w1 ⟨A', c', rfl, hown, hb⟩
  have hs : RdI w1 A' n (sortZ xs) := RdI.of_own hown (fun y hy => by have := HX.out y (sortZ_mem.1 hy); unfold I64; omega)
  clear hown
  have HSL : Hid ((sortZ xs).length = n) := hs.len
  obtain ⟨b, off, y, rfl, hbl, hy, hc, hy1, hy2⟩ := hs.at (k := n / 2) (by omega)
  by_cases hodd : n % 2 = 1
  · have eo : (((n : Int) % 2) == 1) = true := by simp; omega
    have HM : Hid (medZ xs = y) := by unfold Hid medZ; rw [HL.out, if_pos hodd, getD_at hy.out]
    clear hodd
    go_wp2
    go_ret
    exact ⟨ret_int HM.out.symm, hb⟩
  · obtain ⟨m, hm⟩ : ∃ m, n / 2 = m + 1 := ⟨n / 2 - 1, by omega⟩
    obtain ⟨b0, off0, z, hbo, hbl', hz, hcz, hz1, hz2⟩ := hs.at (k := m) (by omega)
    obtain ⟨rfl, rfl⟩ : b = b0 ∧ off = off0 := by simpa using hbo
    clear hbo
    have eo : (((n : Int) % 2) == 1) = false := by simp; omega
    have HM : Hid (medZ xs = nearZ (z + y) 2) := by unfold Hid medZ; rw [HL.out, if_neg hodd, getD_at hy.out, show n / 2 - 1 = m by omega, getD_at hz.out]
    rw [hm] at hc
    have e5 : (n : Int) / 2 = (m : Int) + 1 := by omega
    have e6 : IntKind.i64.wrap ((m : Int) + 1) = (m : Int) + 1 := IntWalk.i64_in _ (by omega)
    have e7 : IntKind.i64.wrap ((m : Int) + 1 - 1) = (m : Int) := by rw [show (m : Int) + 1 - 1 = m by omega]; exact IntWalk.i64_in _ (by omega)
    have i1 : (0 : Int) ≤ (m : Int) := by omega
    have i2 : (m : Int) < (n : Int) := by omega
    have i3 : (m : Int) + 1 < (n : Int) := by omega
    have i4 : (0 : Int) ≤ (m : Int) + 1 := by omega
    clear hm
    have by1 := HX.out y (sortZ_mem.1 (List.mem_of_getElem? hy.out))
    have bz1 := HX.out z (sortZ_mem.1 (List.mem_of_getElem? hz.out))
    have e8 : IntKind.i64.wrap (z + y) = z + y := IntWalk.i64_in _ (by omega)
    clear hodd
    go_wp2
    go_quiet ((go_at_call 49; first | exact quiet_eq (l01Div_calls _ 2 _ (by omega) (by omega) (by omega) (by omega)) | exact quiet_eq2 (l01Div_calls _ 2 _ (by omega) (by omega) (by omega) (by omega)) | exact Calls.quiet_of_same ((l01Div_calls _ 2 _ (by omega) (by omega) (by omega) (by omega)).mono fun _ _ hh => ⟨hh.1, hh.2.symm⟩)))
    go_wp2
    go_ret
    exact ⟨ret_int HM.out.symm, (by first | exact below_drewN hb _ | exact below_drewN (below_drewN hb _) _)⟩

set_option maxHeartbeats 2000000 in
theorem median_calls (A : Option Addr) (n c : Nat) (xs : List Int) (w : World) (h : RdI w A n xs) (hn : n ≤ 60) (h1 : 1 ≤ n) (hx : ∀ x ∈ xs, 0 ≤ x ∧ x ≤ 1000000) :
    Calls Try.prog 67 #[.slice A n c] w fun e w' => e = .returned (.int .i64 (medZ xs)) ∧ Below w.heap.size w w' := by
  have HL := hide h.len
  have HX := hide hx
  clear hx
  go_enter Try.func67, Try.ntmps67
  go_wp2_with fail
  refine (cloneI_calls _ _ _ xs _ h (by omega)).mono ?_
  rintro e w0 ⟨A', c', rfl, hown0, hb0⟩
  go_wp2_with fail
  refine (sortI_calls _ _ _ _ xs _ hown0 h1 (by omega) hb0.size).mono ?_
  rintro e w1 ⟨rfl, hown, hb1⟩
  have hb := hb0.trans hb1
  have hs : RdI w1 A' n (sortZ xs) := RdI.of_own hown (fun y hy => by have := HX.out y (sortZ_mem.1 hy); unfold I64; omega)
  clear hown hown0
  have HSL : Hid ((sortZ xs).length = n) := hs.len
  obtain ⟨b, off, y, rfl, hbl, hy, hc, hy1, hy2⟩ := hs.at (k := n / 2) (by omega)
  by_cases hodd : n % 2 = 1
  · have eo : (((n : Int) % 2) == 1) = true := by simp; omega
    have HM : Hid (medZ xs = y) := by unfold Hid medZ; rw [HL.out, if_pos hodd, getD_at hy.out]
    clear hodd
    go_wp2
    go_ret
    exact ⟨ret_int HM.out.symm, hb⟩
  · obtain ⟨m, hm⟩ : ∃ m, n / 2 = m + 1 := ⟨n / 2 - 1, by omega⟩
    obtain ⟨b0, off0, z, hbo, hbl', hz, hcz, hz1, hz2⟩ := hs.at (k := m) (by omega)
    obtain ⟨rfl, rfl⟩ : b = b0 ∧ off = off0 := by simpa using hbo
    clear hbo
    have eo : (((n : Int) % 2) == 1) = false := by simp; omega
    have HM : Hid (medZ xs = nearZ (z + y) 2) := by unfold Hid medZ; rw [HL.out, if_neg hodd, getD_at hy.out, show n / 2 - 1 = m by omega, getD_at hz.out]
    rw [hm] at hc
    have e5 : (n : Int) / 2 = (m : Int) + 1 := by omega
    have e6 : IntKind.i64.wrap ((m : Int) + 1) = (m : Int) + 1 := IntWalk.i64_in _ (by omega)
    have e7 : IntKind.i64.wrap ((m : Int) + 1 - 1) = (m : Int) := by rw [show (m : Int) + 1 - 1 = m by omega]; exact IntWalk.i64_in _ (by omega)
    have i1 : (0 : Int) ≤ (m : Int) := by omega
    have i2 : (m : Int) < (n : Int) := by omega
    have i3 : (m : Int) + 1 < (n : Int) := by omega
    have i4 : (0 : Int) ≤ (m : Int) + 1 := by omega
    clear hm
    have by1 := HX.out y (sortZ_mem.1 (List.mem_of_getElem? hy.out))
    have bz1 := HX.out z (sortZ_mem.1 (List.mem_of_getElem? hz.out))
    have e8 : IntKind.i64.wrap (z + y) = z + y := IntWalk.i64_in _ (by omega)
    clear hodd
    go_wp2
    go_quiet ((go_at_call 51; first | exact quiet_dr (nearest_calls _ 2 _ (by omega) (by omega) (by omega) (by omega)) | exact quiet_dr2 (nearest_calls _ 2 _ (by omega) (by omega) (by omega) (by omega)) | exact nearest_calls _ 2 _ (by omega) (by omega) (by omega) (by omega)))
    go_wp2
    go_ret
    exact ⟨ret_int HM.out.symm, (by first | exact below_drewN hb _ | exact below_drewN (below_drewN hb _) _)⟩

end Go.Proofs.Ytmhmfoeibgdjcaa
