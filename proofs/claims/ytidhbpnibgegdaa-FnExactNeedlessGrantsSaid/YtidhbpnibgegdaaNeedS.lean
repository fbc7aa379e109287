/- NeedlessGrants of the reference. -/
import Derived.Test.YtidhbpnibgegdaaNeed
namespace Go.Proofs.Ytidhbpnibgegdaa
open Go.RowKit
set_option linter.unusedVariables false

theorem remZ_short {gs : List GrantZ} {n1 K : Nat} (hl : gs.length = n1) (h48 : n1 ≤ 48) : (remZ gs K).length ≤ 48 := by
  unfold remZ
  rw [List.length_append, List.length_take, List.length_drop]
  omega

theorem frI_mono {w : World} {lo hi lo' hi' : Nat} {e : TypeId} {A : Option Addr} {n : Nat} {xs : List Int} (h : FrI w lo hi e A n xs) (h1 : lo' ≤ lo) (h2 : hi ≤ hi') : FrI w lo' hi' e A n xs := ⟨h.1.mono h1 h2, h.2⟩
theorem heap2 (w : World) (X Y : Obj) : ((w.alloc X).alloc Y).heap[w.heap.size]? = some X ∧ ((w.alloc X).alloc Y).heap[w.heap.size + 1]? = some Y := by
  have e : ((w.alloc X).alloc Y).heap = (w.heap.push X).push Y := rfl
  rw [e]
  refine ⟨?_, ?_⟩
  · rw [Array.getElem?_push, if_neg (by first | (simp; done) | (simp; omega)), Array.getElem?_push_size]
  · rw [show w.heap.size + 1 = (w.heap.push X).size by simp, Array.getElem?_push_size]

set_option maxRecDepth 100000 in
set_option maxHeartbeats 8000000 in
theorem specNeedlessGrants_calls (A : Option Addr) (n c : Nat) (rs : List RoleZ) (A1 : Option Addr) (n1 c1 : Nat) (gs : List GrantZ) (w : World) (h : RdRz w A n rs) (h1 : RdK kGrant w A1 n1 gs) (hn : n ≤ 1048576) (hn1 : n1 ≤ 1048576) (hs : ShortR rs) (hcap : n1 ≤ c1) :
    Calls Try.prog 46 #[.slice A n c, .slice A1 n1 c1] w (ICPost (neV rs gs) (neC rs gs) w) := by
  have HL := hide h1.2.1
  have HM := hide (l28Ok_calls A n c rs A1 n1 c1 gs w h h1 hn hn1)
  rcases b_cases (grantsB rs gs) with hg | hg
  · have HV := hide (ne_bad hg)
    rw [hg] at HM
    clear hg
    go_enter Try.func46, Try.ntmps46
    go_wp2_with fail
    refine HM.out.mono ?_
    rintro e w1 ⟨rfl, hb1⟩
    go_wp2
    go_ret2
    exact ICPost.none HV.out.1 HV.out.2 hb1
  have HV := hide (ne_ok hg)
  have HOK := hide (roles_ok (grants_roles hg))
  have HGH : Hid (∀ x ∈ gs, hasR rs x.role = true) := fun x hx => grants_has hg hx
  have h48 : n1 ≤ 48 := by rw [← h1.2.1]; exact grants_len hg
  rw [hg] at HM
  clear hg
  go_enter Try.func46, Try.ntmps46
  go_wp2_with fail
  refine HM.out.mono ?_
  clear HM
  rintro e w1 ⟨rfl, hb1⟩
  have h2 := h.below hb1 (Nat.le_refl _)
  have h12 := h1.below hb1 (Nat.le_refl _)
  have HFN := hide h12.2.2
  clear h h1
  have hown0 := World.ownsRow_lit (base := w1.heap.size) (e := 2) (size := 1) w1 #[] 0 (Nat.le_refl _) (by simp) rfl
  have hba := (Below.refl w1.heap.size w1).alloc (Nat.le_refl _) (.cells #[] 2)
  obtain ⟨wo, rfl⟩ : ∃ wo : World, wo = w1 := ⟨_, rfl⟩
  go_wp2
  go_loopw [6, 7] (fun v i wr => ∃ (K m c3 : Nat) (A3 : Option Addr), K ≤ n1 ∧ m ≤ K ∧ i = .int .i64 K ∧ v = .slice A3 m c3 ∧ Hid (wr.ownsRow wo.heap.size 2 1 (.slice A3 m c3) m (cI (ndI rs gs K)) ∧ (ndI rs gs K).length = m) ∧ Below wo.heap.size wo wr) (fun _ i _ => n1 - (intOf i).toNat)
  case atStart => exact ⟨0, 0, _, _, Nat.zero_le _, Nat.le_refl _, rfl, rfl, by simpa [Hid, cI, ndI] using hown0, hba⟩
  case round =>
    clear hown0 hba
    obtain ⟨K, m, c3, A3, hK, hmK, rfl, rfl, HO, hb⟩ := hrel
    by_cases hlt : K < n1
    · have h2r := h2.below hb (Nat.le_refl _)
      have h12r := h12.below hb (Nat.le_refl _)
      obtain ⟨b, off, f0, f1, f2, hA, hbl, hx, d0, d1, d2, _, _, _, _⟩ := h12r.atGrant hlt
      subst hA
      have hsz := hb.size
      have HWO : Hid (∀ W, Below wr.heap.size wr W → Calls Try.prog 79 #[.slice (some ⟨b, off, none⟩) n1 c1, .int .i64 (K : Int)] W fun e w' => ∃ A' n' c', e = .returned (.slice A' n' c') ∧ RdK kGrant w' A' n' (remZ gs K) ∧ n' ≤ 48 ∧ Below W.heap.size W w') := by
        intro W hW
        refine (l28Without_calls (some ⟨b, off, none⟩) n1 c1 gs K W (h12r.below hW (Nat.le_refl _)) hn1 hlt hcap).mono ?_
        rintro e w' ⟨A', n', c', rfl, hown, hl, hb⟩
        have h5 := remZ_short (K := K) HL.out h48
        exact ⟨A', n', c', rfl, RdK.of_own (K := kGrant) hown hl (fun x hx => HFN.out x (remZ_mem hx)), by omega, hb⟩
      have hfd := findI_yes (HGH.out _ (List.mem_of_getElem? hx.out))
      have hnd := ndB_at (rs := rs) hx.out
      simp only at hfd hnd
      generalize findN rs f0 = T at hfd hnd
      have HFI : Hid (∀ W, Below wr.heap.size wr W → Calls Try.prog 64 #[.slice A n c, .string f0] W fun e w' => e = .returned (.int .i64 (T : Int)) ∧ W = w') := by
        intro W hW
        have := l28Find_calls A n c rs f0 W (h2r.below hW (Nat.le_refl _)) hn
        rw [hfd] at this
        exact this
      obtain ⟨B, hB⟩ : ∃ B, B = ndB rs gs K := ⟨_, rfl⟩
      have HMY : Hid (∀ W (A4 : Option Addr) (n4 c4 : Nat), Below wr.heap.size wr W → RdK kGrant W A4 n4 (remZ gs K) → n4 ≤ 48 → Calls Try.prog 73 #[.slice A n c, .slice A4 n4 c4, .int .i64 (T : Int), .string f1, .int .i64 f2] W fun e w' => e = .returned (.bool B) ∧ Below W.heap.size W w') := by
        intro W A4 n4 c4 hW h4 hl4
        rw [hB, hnd]
        exact l28May_calls A n c rs A4 n4 c4 (remZ gs K) T f1 f2 W (h2r.below hW (Nat.le_refl _)) h4 HOK.out (fun x hx => HGH.out x (remZ_mem hx)) hn (by omega)
      have HB := hide hB
      have KS : Hid (∀ W, Below wr.heap.size wr W → W.cell? ⟨b, off + K * 3, none⟩ = some (.string f0) ∧ W.cell? ⟨b, off + K * 3 + 1, none⟩ = some (.string f1) ∧ W.cell? ⟨b, off + K * 3 + 2, none⟩ = some (.int .i64 f2)) := fun W C => ⟨(C.cell (p := ⟨b, off + K * 3, none⟩) hbl).trans d0, (C.cell (p := ⟨b, off + K * 3 + 1, none⟩) hbl).trans d1, (C.cell (p := ⟨b, off + K * 3 + 2, none⟩) hbl).trans d2⟩
      have hr0 : Below wr.heap.size wr wr.drew := (Below.refl wr.heap.size wr).drew
      have i1 : (0 : Int) ≤ (K : Int) := by omega
      have i2 : (K : Int) < (n1 : Int) := by omega
      have HSB := hide hb
      clear hfd hnd hB hb
      rcases b_cases B with hq | hq
      · have HE2 := hide (ndI_no (rs := rs) (gs := gs) (m := K) (by rw [← HB.out]; exact hq))
        rw [hq] at HMY
        clear hq
        go_wp2
        go_region_held3 (fun W => W.cell? ⟨b, off + K * 3, none⟩ = some (.string f0) ∧ W.cell? ⟨b, off + K * 3 + 1, none⟩ = some (.string f1) ∧ W.cell? ⟨b, off + K * 3 + 2, none⟩ = some (.int .i64 f2))
          (first
            | exact ⟨d0, d1, d2⟩
            | exact KS.out _ hr0
            | exact KS.out _ hk4
            | exact KS.out _ hk6)
          (first
            | (go_at_call 79; (with_reducible refine (HWO.out wr.drew hr0).mono ?_); rintro e w4 ⟨A4, n4, c4, rfl, hr4, hn4, hb4⟩; have hk4 : Below wr.heap.size wr w4 := hr0.trans hb4)
            | (go_at_call 64; (with_reducible refine (HFI.out wr.drew hr0).mono ?_); rintro e w5 ⟨rfl, rfl⟩)
            | (go_at_call 64; (with_reducible refine (HFI.out w4 hk4).mono ?_); rintro e w5 ⟨rfl, rfl⟩)
            | (go_at_call 73; (with_reducible refine (HMY.out w4 A4 n4 c4 hk4 hr4 hn4).mono ?_); rintro e w6 ⟨rfl, hb6⟩; have hk6 : Below wr.heap.size wr w6 := hk4.trans (hb6.mono hk4.size))
            | fail)
        all_goals
          have HO2 : Hid (w6.ownsRow wo.heap.size 2 1 (.slice A3 m c3) m (cI (ndI rs gs (K + 1))) ∧ (ndI rs gs (K + 1)).length = m) := by rw [HE2.out]; exact ⟨own_below HO.out.1 hk6 (Nat.le_refl _), HO.out.2⟩
          go_wp2
          go_roundw
          case rel => exact ⟨K + 1, m, c3, A3, by omega, by omega, by go_num, rfl, HO2, HSB.out.trans (hk6.mono hsz)⟩
          case measure => simp [intOf]; omega
      · have HE2 := hide (ndI_yes (rs := rs) (gs := gs) (m := K) (by rw [← HB.out]; exact hq))
        rw [hq] at HMY
        clear hq
        go_wp2
        go_region_held3 (fun W => W.cell? ⟨b, off + K * 3, none⟩ = some (.string f0) ∧ W.cell? ⟨b, off + K * 3 + 1, none⟩ = some (.string f1) ∧ W.cell? ⟨b, off + K * 3 + 2, none⟩ = some (.int .i64 f2))
          (first
            | exact ⟨d0, d1, d2⟩
            | exact KS.out _ hr0
            | exact KS.out _ hk4
            | exact KS.out _ hk6)
          (first
            | (go_at_call 79; (with_reducible refine (HWO.out wr.drew hr0).mono ?_); rintro e w4 ⟨A4, n4, c4, rfl, hr4, hn4, hb4⟩; have hk4 : Below wr.heap.size wr w4 := hr0.trans hb4)
            | (go_at_call 64; (with_reducible refine (HFI.out wr.drew hr0).mono ?_); rintro e w5 ⟨rfl, rfl⟩)
            | (go_at_call 64; (with_reducible refine (HFI.out w4 hk4).mono ?_); rintro e w5 ⟨rfl, rfl⟩)
            | (go_at_call 73; (with_reducible refine (HMY.out w4 A4 n4 c4 hk4 hr4 hn4).mono ?_); rintro e w6 ⟨rfl, hb6⟩; have hk6 : Below wr.heap.size wr w6 := hk4.trans (hb6.mono hk4.size))
            | fail)
        all_goals
          have HO2 := hide (own_below HO.out.1 hk6 (Nat.le_refl _))
          have hbw6 := HSB.out.trans (hk6.mono hsz)
          have hsz6 := hbw6.size
          go_wp2_with (at_builtin; refine appI rfl _ _ rfl wo.heap.size (.slice A3 m c3) m (ndI rs gs K) (K : Int) rfl HO2.out (by first | rfl | (simp; rfl)) (by omega) (by omega) ?_; intro v7 w7 hown7 hb7 hz7; obtain ⟨A7, c7, rfl⟩ := own_slice hown7)
          go_roundw
          case rel => exact ⟨K + 1, m + 1, c7, A7, by omega, by omega, by go_num, rfl, by rw [HE2.out]; exact ⟨hown7, by rw [List.length_append, HO.out.2]; rfl⟩, hbw6.trans hb7⟩
          case measure => simp [intOf]; omega
    · have hKn : K = n1 := by omega
      have HE : Hid (neV rs gs = ndI rs gs K) := HV.out.1.trans (by rw [HL.out, hKn])
      clear hKn
      go_wp2
      go_ret2
      refine ⟨A3, m, c3, ret_two rfl (congrArg (Value.int .i64) HV.out.2.symm), ?_, by omega, hb1.trans (hb.mono hb1.size)⟩
      rw [HE.out]
      exact frI_mono (FrI.of_own HO.out.1 (ndI_i64 rs gs (by omega))) hb1.size (Nat.le_refl _)

end Go.Proofs.Ytidhbpnibgegdaa
