/- AddGrant of the reference. -/
import Derived.Test.YtidhbpnibgegdaaAddG
namespace Go.Proofs.Ytidhbpnibgegdaa
open Go.RowKit
set_option linter.unusedVariables false

set_option maxRecDepth 100000 in
set_option maxHeartbeats 8000000 in
theorem specAddGrant_calls (A : Option Addr) (n c : Nat) (rs : List RoleZ) (A1 : Option Addr) (n1 c1 : Nat) (gs : List GrantZ) (x : GrantZ) (w : World) (h : RdRz w A n rs) (h1 : RdK kGrant w A1 n1 gs) (hx : kGrant.fine x) (hn : n ≤ 1048576) (hn1 : n1 ≤ 1048576) (hs : ShortR rs) (hcap : n1 ≤ c1) :
    Calls Try.prog 51 #[.slice A n c, .slice A1 n1 c1, .agg #[.string x.role, .string x.object, .int .i64 x.action]] w (GCPost (adV rs gs x) (adC rs gs x) w) := by
  have HL := hide h1.2.1
  have HFN := hide h1.2.2
  have HM0 : Hid (∀ W, Below w.heap.size w W → Calls Try.prog 68 #[.slice A n c, .slice A1 n1 c1] W fun e w' => e = .returned (.bool (grantsB rs gs)) ∧ Below W.heap.size W w') := fun W hW => l28Ok_calls A n c rs A1 n1 c1 gs W (h.below hW (Nat.le_refl _)) (h1.below hW (Nat.le_refl _)) hn hn1
  obtain ⟨V, hV⟩ : ∃ V, V = adV rs gs x := ⟨_, rfl⟩
  obtain ⟨C, hC⟩ : ∃ C, C = adC rs gs x := ⟨_, rfl⟩
  have HV := hide hV
  have HC := hide hC
  rw [← hV, ← hC]
  clear hV hC
  obtain ⟨x0, x1, x2⟩ := x
  simp only
  have HX := hide hx
  obtain ⟨W0, hW0⟩ : ∃ W0, W0 = w.alloc (.cells #[.string x0, .string x1, .int .i64 x2] 49) := ⟨_, rfl⟩
  have hB : Below w.heap.size w W0 := by rw [hW0]; exact (Below.refl _ _).alloc (Nat.le_refl _) _
  have g0 : W0.cell? ⟨w.heap.size, 0, none⟩ = some (.string x0) := by rw [hW0]; simp
  have g1 : W0.cell? ⟨w.heap.size, 1, none⟩ = some (.string x1) := by rw [hW0]; simp
  have g2 : W0.cell? ⟨w.heap.size, 2, none⟩ = some (.int .i64 x2) := by rw [hW0]; simp
  have hz : w.heap.size < W0.heap.size := by rw [hW0]; simp
  have HM := hide (HM0.out W0 hB)
  rcases b_cases (grantsB rs gs) with hg | hg
  · have HVC := hide (ad_1 (x := ⟨x0, x1, x2⟩) hg)
    rw [hg] at HM
    clear hg
    go_enter Try.func51, Try.ntmps51
    go_wp2_with fail
    rw [← hW0]
    clear hW0
    refine HM.out.mono ?_
    rintro e w1 ⟨rfl, hb1⟩
    go_wp2
    go_ret2
    exact GCPost.none (HV.out.trans HVC.out.1) (HC.out.trans HVC.out.2) (hB.trans (hb1.mono hB.size))
  rw [hg] at HM
  have HG := hide hg
  have HSO := hide (grants_sort hg)
  clear hg
  go_enter Try.func51, Try.ntmps51
  go_wp2_with fail
  rw [← hW0]
  clear hW0
  refine HM.out.mono ?_
  clear HM
  rintro e w1 ⟨rfl, hb1⟩
  have hbw := hB.trans (hb1.mono hB.size)
  have e0 := (hb1.cell (p := ⟨w.heap.size, 0, none⟩) hz).trans g0
  have e1 := (hb1.cell (p := ⟨w.heap.size, 1, none⟩) hz).trans g1
  have e2 := (hb1.cell (p := ⟨w.heap.size, 2, none⟩) hz).trans g2
  have hzw1 : w.heap.size < w1.heap.size := Nat.lt_of_lt_of_le hz hb1.size
  have h1' := h1.below hbw (Nat.le_refl _)
  have HO := hide (l28One_calls A n c rs ⟨x0, x1, x2⟩ w.heap.size 0 w1 (h.below hbw (Nat.le_refl _)) hn hx e0 e1 e2)
  rcases b_cases (grantB rs ⟨x0, x1, x2⟩) with hgx | hgx
  · have HVC := hide (ad_2 HG.out hgx)
    rw [hgx] at HO
    clear hgx
    go_wp2_with fail
    refine HO.out.mono ?_
    rintro e w3 ⟨rfl, rfl⟩
    go_wp2
    go_ret2
    exact GCPost.none (HV.out.trans HVC.out.1) (HC.out.trans HVC.out.2) hbw
  rw [hgx] at HO
  have HGX := hide hgx
  clear hgx h h1 g0 g1 g2
  go_wp2_with fail
  refine HO.out.mono ?_
  clear HO
  rintro e w3 ⟨rfl, rfl⟩
  go_wp2
  go_loopw [8] (fun i wr => ∃ (K : Nat), K ≤ n1 ∧ i = .int .i64 K ∧ Hid (∀ g ∈ gs.take K, gLess g (⟨x0, x1, x2⟩ : GrantZ) = true) ∧ Below w1.heap.size w1 wr) (fun i _ => n1 - (intOf i).toNat)
  case atStart => exact ⟨0, Nat.zero_le _, rfl, by simp [Hid], Below.refl _ _⟩
  case round =>
    obtain ⟨K, hK, rfl, HN, hbk⟩ := hrel
    have hbW : Below w.heap.size w wr := hbw.trans (hbk.mono hbw.size)
    have h1W : RdK kGrant wr A1 n1 gs := h1'.below hbk (Nat.le_refl _)
    have hzw : w.heap.size < wr.heap.size := Nat.lt_of_lt_of_le hzw1 hbk.size
    replace e0 : wr.cell? ⟨w.heap.size, 0, none⟩ = some (.string x0) := (hbk.cell (p := ⟨w.heap.size, 0, none⟩) hzw1).trans e0
    replace e1 : wr.cell? ⟨w.heap.size, 1, none⟩ = some (.string x1) := (hbk.cell (p := ⟨w.heap.size, 1, none⟩) hzw1).trans e1
    replace e2 : wr.cell? ⟨w.heap.size, 2, none⟩ = some (.int .i64 x2) := (hbk.cell (p := ⟨w.heap.size, 2, none⟩) hzw1).trans e2
    have HRW := hide h1W.1
    by_cases hlt : K < n1
    · obtain ⟨b, off, p0, p1, p2, hA, hbl, hy, d0, d1, d2, hs0, hs1, hs2, hs3⟩ := h1W.atGrant hlt
      subst hA
      have HB := hide (l28Before_calls ⟨p0, p1, p2⟩ ⟨x0, x1, x2⟩ b (off + K * 3) w.heap.size 0 wr d0 d1 d2 e0 e1 e2)
      rcases b_cases (gLess ⟨p0, p1, p2⟩ ⟨x0, x1, x2⟩) with hq | hq
      case inr =>
        have HNX : Hid (∀ g ∈ gs.take (K + 1), gLess g (⟨x0, x1, x2⟩ : GrantZ) = true) := by
          intro g hgm
          rw [take_snoc hy.out] at hgm
          rcases List.mem_append.1 hgm with hgm | hgm
          · exact HN.out g hgm
          · simp only [List.mem_singleton] at hgm
            rw [hgm]
            exact hq
        rw [hq] at HB
        clear hq
        go_wp2_with fail
        refine HB.out.mono ?_
        clear HB
        rintro e w4 ⟨rfl, m4, rfl⟩
        go_wp2
        go_roundw
        case rel => exact ⟨K + 1, by omega, by go_num, HNX, below_drewN hbk m4⟩
        case measure => simp [intOf]; omega
      have HNB : Hid (∀ g, gs[K]? = some g → gLess g (⟨x0, x1, x2⟩ : GrantZ) = false) := by
        intro g hgm
        rw [hy.out] at hgm
        injection hgm with hgm
        rw [← hgm]
        exact hq
      rw [hq] at HB
      clear hq
      go_wp2_with fail
      refine HB.out.mono ?_
      clear HB
      rintro e w4 ⟨rfl, m4, rfl⟩
      have HIX := hide (isIdx_of HSO.out (by rw [HL.out]; exact hK) HN.out HNB.out)
      generalize hWW : wr.drewN m4 = WW
      have hbW' : Below w.heap.size w WW := by rw [← hWW]; exact below_drewN hbW m4
      have h1WW : RdK kGrant WW (some ⟨b, off, none⟩) n1 gs := by rw [← hWW]; exact h1W.drewN m4
      replace hzw : w.heap.size < WW.heap.size := by rw [← hWW]; simpa using hzw
      replace e0 : WW.cell? ⟨w.heap.size, 0, none⟩ = some (.string x0) := by rw [← hWW]; simpa using e0
      replace e1 : WW.cell? ⟨w.heap.size, 1, none⟩ = some (.string x1) := by rw [← hWW]; simpa using e1
      replace e2 : WW.cell? ⟨w.heap.size, 2, none⟩ = some (.int .i64 x2) := by rw [← hWW]; simpa using e2
      replace d0 : WW.cell? ⟨b, off + K * 3, none⟩ = some (.string p0) := by rw [← hWW]; simpa using d0
      replace d1 : WW.cell? ⟨b, off + K * 3 + 1, none⟩ = some (.string p1) := by rw [← hWW]; simpa using d1
      replace d2 : WW.cell? ⟨b, off + K * 3 + 2, none⟩ = some (.int .i64 p2) := by rw [← hWW]; simpa using d2
      clear hbW h1W HRW hbk hWW hs0 hs1 hs2 hs3
      have hd : decide ((K : Int) < (n1 : Int)) = true := by simp; omega
      by_cases c0 : p0 = x0
      case neg =>
        obtain ⟨q1, q2⟩ := str_ne c0
        have HNE : Hid (¬ gs[K]? = some (⟨x0, x1, x2⟩ : GrantZ)) := by intro he; rw [hy.out] at he; injection he with he; exact c0 (congrArg GrantZ.role he)
        clear c0
        have HNI := hide (idx_lost HSO.out HIX.out HNE.out)
        go_wp2
        go_quiet (fail)
        clear d0 d1 d2
        by_cases h48 : n1 = 48
        · have HVC := hide (ad_5 HG.out HGX.out HNI.out (by rw [HL.out]; omega))
          go_wp2
          go_ret2
          exact GCPost.none (HV.out.trans HVC.out.1) (HC.out.trans HVC.out.2) (below_drewN hbW' nq)
        have hl48 : gs.length ≤ 48 := grants_len HG.out
        have hl1 : gs.length = n1 := HL.out
        have HVC := hide (ad_0 HG.out HGX.out HNI.out (by omega) (posL_idx (by omega) HIX.out))
        generalize hW2 : WW.drewN nq = W2
        replace hbW' : Below w.heap.size w W2 := by rw [← hW2]; exact below_drewN hbW' nq
        replace h1WW : RdK kGrant W2 (some ⟨b, off, none⟩) n1 gs := by rw [← hW2]; exact h1WW.drewN nq
        replace hzw : w.heap.size < W2.heap.size := by rw [← hW2]; simpa using hzw
        replace e0 : W2.cell? ⟨w.heap.size, 0, none⟩ = some (.string x0) := by rw [← hW2]; simpa using e0
        replace e1 : W2.cell? ⟨w.heap.size, 1, none⟩ = some (.string x1) := by rw [← hW2]; simpa using e1
        replace e2 : W2.cell? ⟨w.heap.size, 2, none⟩ = some (.int .i64 x2) := by rw [← hW2]; simpa using e2
        have HRW := hide h1WW.1
        have h48' : n1 ≤ 48 := by omega
        clear h1WW hW2 hl48 hl1 HNE
        have hcK : ¬ (c1 = K) := by omega
        have hcK2 : (K : Int) ≤ (c1 : Int) := by omega
        go_upto_region 13 with (at_builtin; refine appsGrant rfl _ _ rfl W2.heap.size (.slice (some ⟨W2.heap.size, 0, none⟩) 0 0) 0 [] rfl (World.ownsRow_lit (base := W2.heap.size) (e := 49) (size := 3) _ #[] 0 (Nat.le_refl _) (by simp) rfl) (some ⟨b, off, none⟩) K c1 (gs.take K) (by first | rfl | (simp; rfl) | simp) (Rd.alloc (rdK_take (K := kGrant) HRW.out HL.out (by omega)) _) (by omega) (by simp) ?_; intro v6 w6 hown6 hb6 hz6)
        rw [Nat.zero_add, List.nil_append] at hown6
        have HO6 := hide hown6
        have hb06 := ((Below.refl W2.heap.size W2).alloc (Nat.le_refl _) (.cells #[] 49)).trans hb6
        have hz06 := hb06.size
        have k0 := (hb06.cell (p := ⟨w.heap.size, 0, none⟩) hzw).trans e0
        have k1 := (hb06.cell (p := ⟨w.heap.size, 1, none⟩) hzw).trans e1
        have k2 := (hb06.cell (p := ⟨w.heap.size, 2, none⟩) hzw).trans e2
        clear hown6
        go_upto_region 14 with (at_builtin; refine appGrant rfl _ _ rfl W2.heap.size v6 K (gs.take K) ⟨x0, x1, x2⟩ rfl HO6.out (by first | rfl | (simp; rfl)) (by omega) (by omega) ?_; intro v7 w7 hown7 hb7 hz7)
        have HO7 := hide hown7
        have hb07 := hb06.trans hb7
        clear hown7 k0 k1 k2
        have HD7 := hide (rdK_drop (K := kGrant) (HRW.out.below hb07 (Nat.le_refl _)) HL.out (show K ≤ n1 by omega))
        go_wp2_with (at_builtin; refine appsGrant rfl _ _ rfl W2.heap.size v7 (K + 1) (gs.take K ++ [⟨x0, x1, x2⟩]) rfl HO7.out (some ⟨b, off + K * 3, none⟩) (n1 - K) (c1 - K) (gs.drop K) (by first | rfl | (simp; rfl) | simp) HD7.out (by omega) (by omega) ?_; intro v8 w8 hown8 hb8 hz8)
        obtain ⟨g8, c8, rfl⟩ := own_addr2 hown8 (by omega)
        have HO8 := hide hown8
        clear hown8
        go_ret2
        refine ⟨_, _, c8, ret_two rfl (congrArg (Value.int .i64) (HC.out.trans HVC.out.2).symm), ?_, by omega, hbW'.trans ((hb07.trans hb8).mono hbW'.size)⟩
        rw [HV.out, HVC.out.1]
        have hff := add_fine (i := K) HFN.out HX.out
        refine (FrK.of_own (K := kGrant) HO8.out ?_ hff).mono hbW'.size (Nat.le_refl _)
        rw [List.length_append, List.length_append, List.length_take, List.length_drop, HL.out]
        simp only [List.length_singleton]
        omega
      by_cases c1' : p1 = x1
      case neg =>
        obtain ⟨q1, q2⟩ := str_ne c1'
        obtain ⟨q3, q4⟩ := str_eq c0
        have HNE : Hid (¬ gs[K]? = some (⟨x0, x1, x2⟩ : GrantZ)) := by intro he; rw [hy.out] at he; injection he with he; exact c1' (congrArg GrantZ.object he)
        clear c0 c1'
        have HNI := hide (idx_lost HSO.out HIX.out HNE.out)
        go_wp2
        go_quiet (fail)
        clear d0 d1 d2
        by_cases h48 : n1 = 48
        · have HVC := hide (ad_5 HG.out HGX.out HNI.out (by rw [HL.out]; omega))
          go_wp2
          go_ret2
          exact GCPost.none (HV.out.trans HVC.out.1) (HC.out.trans HVC.out.2) (below_drewN hbW' nq)
        have hl48 : gs.length ≤ 48 := grants_len HG.out
        have hl1 : gs.length = n1 := HL.out
        have HVC := hide (ad_0 HG.out HGX.out HNI.out (by omega) (posL_idx (by omega) HIX.out))
        generalize hW2 : WW.drewN nq = W2
        replace hbW' : Below w.heap.size w W2 := by rw [← hW2]; exact below_drewN hbW' nq
        replace h1WW : RdK kGrant W2 (some ⟨b, off, none⟩) n1 gs := by rw [← hW2]; exact h1WW.drewN nq
        replace hzw : w.heap.size < W2.heap.size := by rw [← hW2]; simpa using hzw
        replace e0 : W2.cell? ⟨w.heap.size, 0, none⟩ = some (.string x0) := by rw [← hW2]; simpa using e0
        replace e1 : W2.cell? ⟨w.heap.size, 1, none⟩ = some (.string x1) := by rw [← hW2]; simpa using e1
        replace e2 : W2.cell? ⟨w.heap.size, 2, none⟩ = some (.int .i64 x2) := by rw [← hW2]; simpa using e2
        have HRW := hide h1WW.1
        have h48' : n1 ≤ 48 := by omega
        clear h1WW hW2 hl48 hl1 HNE
        have hcK : ¬ (c1 = K) := by omega
        have hcK2 : (K : Int) ≤ (c1 : Int) := by omega
        go_upto_region 13 with (at_builtin; refine appsGrant rfl _ _ rfl W2.heap.size (.slice (some ⟨W2.heap.size, 0, none⟩) 0 0) 0 [] rfl (World.ownsRow_lit (base := W2.heap.size) (e := 49) (size := 3) _ #[] 0 (Nat.le_refl _) (by simp) rfl) (some ⟨b, off, none⟩) K c1 (gs.take K) (by first | rfl | (simp; rfl) | simp) (Rd.alloc (rdK_take (K := kGrant) HRW.out HL.out (by omega)) _) (by omega) (by simp) ?_; intro v6 w6 hown6 hb6 hz6)
        rw [Nat.zero_add, List.nil_append] at hown6
        have HO6 := hide hown6
        have hb06 := ((Below.refl W2.heap.size W2).alloc (Nat.le_refl _) (.cells #[] 49)).trans hb6
        have hz06 := hb06.size
        have k0 := (hb06.cell (p := ⟨w.heap.size, 0, none⟩) hzw).trans e0
        have k1 := (hb06.cell (p := ⟨w.heap.size, 1, none⟩) hzw).trans e1
        have k2 := (hb06.cell (p := ⟨w.heap.size, 2, none⟩) hzw).trans e2
        clear hown6
        go_upto_region 14 with (at_builtin; refine appGrant rfl _ _ rfl W2.heap.size v6 K (gs.take K) ⟨x0, x1, x2⟩ rfl HO6.out (by first | rfl | (simp; rfl)) (by omega) (by omega) ?_; intro v7 w7 hown7 hb7 hz7)
        have HO7 := hide hown7
        have hb07 := hb06.trans hb7
        clear hown7 k0 k1 k2
        have HD7 := hide (rdK_drop (K := kGrant) (HRW.out.below hb07 (Nat.le_refl _)) HL.out (show K ≤ n1 by omega))
        go_wp2_with (at_builtin; refine appsGrant rfl _ _ rfl W2.heap.size v7 (K + 1) (gs.take K ++ [⟨x0, x1, x2⟩]) rfl HO7.out (some ⟨b, off + K * 3, none⟩) (n1 - K) (c1 - K) (gs.drop K) (by first | rfl | (simp; rfl) | simp) HD7.out (by omega) (by omega) ?_; intro v8 w8 hown8 hb8 hz8)
        obtain ⟨g8, c8, rfl⟩ := own_addr2 hown8 (by omega)
        have HO8 := hide hown8
        clear hown8
        go_ret2
        refine ⟨_, _, c8, ret_two rfl (congrArg (Value.int .i64) (HC.out.trans HVC.out.2).symm), ?_, by omega, hbW'.trans ((hb07.trans hb8).mono hbW'.size)⟩
        rw [HV.out, HVC.out.1]
        have hff := add_fine (i := K) HFN.out HX.out
        refine (FrK.of_own (K := kGrant) HO8.out ?_ hff).mono hbW'.size (Nat.le_refl _)
        rw [List.length_append, List.length_append, List.length_take, List.length_drop, HL.out]
        simp only [List.length_singleton]
        omega
      by_cases c2' : p2 = x2
      case neg =>
        have q5 : (p2 == x2) = false := by simpa using c2'
        obtain ⟨q1, q2⟩ := str_eq c1'
        obtain ⟨q3, q4⟩ := str_eq c0
        have HNE : Hid (¬ gs[K]? = some (⟨x0, x1, x2⟩ : GrantZ)) := by intro he; rw [hy.out] at he; injection he with he; exact c2' (congrArg GrantZ.action he)
        clear c0 c1' c2'
        have HNI := hide (idx_lost HSO.out HIX.out HNE.out)
        go_wp2
        go_quiet (fail)
        clear d0 d1 d2
        by_cases h48 : n1 = 48
        · have HVC := hide (ad_5 HG.out HGX.out HNI.out (by rw [HL.out]; omega))
          go_wp2
          go_ret2
          exact GCPost.none (HV.out.trans HVC.out.1) (HC.out.trans HVC.out.2) (below_drewN hbW' nq)
        have hl48 : gs.length ≤ 48 := grants_len HG.out
        have hl1 : gs.length = n1 := HL.out
        have HVC := hide (ad_0 HG.out HGX.out HNI.out (by omega) (posL_idx (by omega) HIX.out))
        generalize hW2 : WW.drewN nq = W2
        replace hbW' : Below w.heap.size w W2 := by rw [← hW2]; exact below_drewN hbW' nq
        replace h1WW : RdK kGrant W2 (some ⟨b, off, none⟩) n1 gs := by rw [← hW2]; exact h1WW.drewN nq
        replace hzw : w.heap.size < W2.heap.size := by rw [← hW2]; simpa using hzw
        replace e0 : W2.cell? ⟨w.heap.size, 0, none⟩ = some (.string x0) := by rw [← hW2]; simpa using e0
        replace e1 : W2.cell? ⟨w.heap.size, 1, none⟩ = some (.string x1) := by rw [← hW2]; simpa using e1
        replace e2 : W2.cell? ⟨w.heap.size, 2, none⟩ = some (.int .i64 x2) := by rw [← hW2]; simpa using e2
        have HRW := hide h1WW.1
        have h48' : n1 ≤ 48 := by omega
        clear h1WW hW2 hl48 hl1 HNE
        have hcK : ¬ (c1 = K) := by omega
        have hcK2 : (K : Int) ≤ (c1 : Int) := by omega
        go_upto_region 13 with (at_builtin; refine appsGrant rfl _ _ rfl W2.heap.size (.slice (some ⟨W2.heap.size, 0, none⟩) 0 0) 0 [] rfl (World.ownsRow_lit (base := W2.heap.size) (e := 49) (size := 3) _ #[] 0 (Nat.le_refl _) (by simp) rfl) (some ⟨b, off, none⟩) K c1 (gs.take K) (by first | rfl | (simp; rfl) | simp) (Rd.alloc (rdK_take (K := kGrant) HRW.out HL.out (by omega)) _) (by omega) (by simp) ?_; intro v6 w6 hown6 hb6 hz6)
        rw [Nat.zero_add, List.nil_append] at hown6
        have HO6 := hide hown6
        have hb06 := ((Below.refl W2.heap.size W2).alloc (Nat.le_refl _) (.cells #[] 49)).trans hb6
        have hz06 := hb06.size
        have k0 := (hb06.cell (p := ⟨w.heap.size, 0, none⟩) hzw).trans e0
        have k1 := (hb06.cell (p := ⟨w.heap.size, 1, none⟩) hzw).trans e1
        have k2 := (hb06.cell (p := ⟨w.heap.size, 2, none⟩) hzw).trans e2
        clear hown6
        go_upto_region 14 with (at_builtin; refine appGrant rfl _ _ rfl W2.heap.size v6 K (gs.take K) ⟨x0, x1, x2⟩ rfl HO6.out (by first | rfl | (simp; rfl)) (by omega) (by omega) ?_; intro v7 w7 hown7 hb7 hz7)
        have HO7 := hide hown7
        have hb07 := hb06.trans hb7
        clear hown7 k0 k1 k2
        have HD7 := hide (rdK_drop (K := kGrant) (HRW.out.below hb07 (Nat.le_refl _)) HL.out (show K ≤ n1 by omega))
        go_wp2_with (at_builtin; refine appsGrant rfl _ _ rfl W2.heap.size v7 (K + 1) (gs.take K ++ [⟨x0, x1, x2⟩]) rfl HO7.out (some ⟨b, off + K * 3, none⟩) (n1 - K) (c1 - K) (gs.drop K) (by first | rfl | (simp; rfl) | simp) HD7.out (by omega) (by omega) ?_; intro v8 w8 hown8 hb8 hz8)
        obtain ⟨g8, c8, rfl⟩ := own_addr2 hown8 (by omega)
        have HO8 := hide hown8
        clear hown8
        go_ret2
        refine ⟨_, _, c8, ret_two rfl (congrArg (Value.int .i64) (HC.out.trans HVC.out.2).symm), ?_, by omega, hbW'.trans ((hb07.trans hb8).mono hbW'.size)⟩
        rw [HV.out, HVC.out.1]
        have hff := add_fine (i := K) HFN.out HX.out
        refine (FrK.of_own (K := kGrant) HO8.out ?_ hff).mono hbW'.size (Nat.le_refl _)
        rw [List.length_append, List.length_append, List.length_take, List.length_drop, HL.out]
        simp only [List.length_singleton]
        omega
      have HVC := hide (ad_4 HG.out HGX.out (idx_found HIX.out (hy.out.trans (by rw [c0, c1', c2']))).2)
      have q5 : (p2 == x2) = true := by simpa using c2'
      obtain ⟨q1, q2⟩ := str_eq c1'
      obtain ⟨q3, q4⟩ := str_eq c0
      clear c0 c1' c2'
      go_wp2
      go_quiet (fail)
      go_wp2
      go_ret2
      exact GCPost.none (HV.out.trans HVC.out.1) (HC.out.trans HVC.out.2) (below_drewN hbW' nq)
    · have hKn : K = n1 := by omega
      have HNB : Hid (∀ g, gs[K]? = some g → gLess g (⟨x0, x1, x2⟩ : GrantZ) = false) := by
        intro g hgm
        have := (List.getElem?_eq_some_iff.1 hgm).1
        have := HL.out
        omega
      have HIX := hide (isIdx_of HSO.out (by rw [HL.out]; exact hK) HN.out HNB.out)
      have HNI := hide (idx_lost HSO.out HIX.out (fun he => by have := (List.getElem?_eq_some_iff.1 he).1; have := HL.out; omega))
      have hd : decide ((K : Int) < (n1 : Int)) = false := by simp; omega
      clear hbk
      go_wp2
      go_quiet (fail)
      by_cases h48 : n1 = 48
      · have HVC := hide (ad_5 HG.out HGX.out HNI.out (by rw [HL.out]; omega))
        go_wp2
        go_ret2
        exact GCPost.none (HV.out.trans HVC.out.1) (HC.out.trans HVC.out.2) (below_drewN hbW nq)
      have hl48 : gs.length ≤ 48 := grants_len HG.out
      have hl1 : gs.length = n1 := HL.out
      have HVC := hide (ad_0 HG.out HGX.out HNI.out (by omega) (posL_idx (by omega) HIX.out))
      have HD : Hid (gs.drop K = []) := List.drop_eq_nil_of_le (by rw [HL.out]; omega)
      generalize hW2 : wr.drewN nq = W2
      replace hbW : Below w.heap.size w W2 := by rw [← hW2]; exact below_drewN hbW nq
      replace h1W : RdK kGrant W2 A1 n1 gs := by rw [← hW2]; exact h1W.drewN nq
      replace hzw : w.heap.size < W2.heap.size := by rw [← hW2]; simpa using hzw
      replace e0 : W2.cell? ⟨w.heap.size, 0, none⟩ = some (.string x0) := by rw [← hW2]; simpa using e0
      replace e1 : W2.cell? ⟨w.heap.size, 1, none⟩ = some (.string x1) := by rw [← hW2]; simpa using e1
      replace e2 : W2.cell? ⟨w.heap.size, 2, none⟩ = some (.int .i64 x2) := by rw [← hW2]; simpa using e2
      replace HRW := hide h1W.1
      have h48' : n1 ≤ 48 := by omega
      clear h1W hW2 hl48 hl1 hd hlt
      subst hKn
      have HT : Hid (gs.take K = gs) := List.take_of_length_le (by rw [HL.out]; exact Nat.le_refl _)
      have HRT : Hid (Rd W2 A1 K 3 (cK kGrant (gs.take K))) := by rw [HT.out]; exact HRW.out
      have hcK2 : (K : Int) ≤ (c1 : Int) := by omega
      by_cases hcK : c1 = K
      · subst hcK
        go_upto_region 13 with (at_builtin; refine appsGrant rfl _ _ rfl W2.heap.size (.slice (some ⟨W2.heap.size, 0, none⟩) 0 0) 0 [] rfl (World.ownsRow_lit (base := W2.heap.size) (e := 49) (size := 3) _ #[] 0 (Nat.le_refl _) (by simp) rfl) A1 c1 c1 (gs.take c1) (by first | rfl | (simp; rfl) | simp) (Rd.alloc HRT.out _) (by omega) (by simp) ?_; intro v6 w6 hown6 hb6 hz6)
        rw [Nat.zero_add, List.nil_append] at hown6
        have HO6 := hide hown6
        have hb06 := ((Below.refl W2.heap.size W2).alloc (Nat.le_refl _) (.cells #[] 49)).trans hb6
        have hz06 := hb06.size
        have k0 := (hb06.cell (p := ⟨w.heap.size, 0, none⟩) hzw).trans e0
        have k1 := (hb06.cell (p := ⟨w.heap.size, 1, none⟩) hzw).trans e1
        have k2 := (hb06.cell (p := ⟨w.heap.size, 2, none⟩) hzw).trans e2
        clear hown6
        go_upto_region 14 with (at_builtin; refine appGrant rfl _ _ rfl W2.heap.size v6 c1 (gs.take c1) ⟨x0, x1, x2⟩ rfl HO6.out (by first | rfl | (simp; rfl)) (by omega) (by omega) ?_; intro v7 w7 hown7 hb7 hz7)
        have HO7 := hide hown7
        have hb07 := hb06.trans hb7
        clear hown7 k0 k1 k2
        go_wp2_with (at_builtin; refine appsGrant rfl _ _ rfl W2.heap.size v7 (c1 + 1) (gs.take c1 ++ [⟨x0, x1, x2⟩]) rfl HO7.out A1 0 0 [] (by first | rfl | (simp; rfl) | simp) Rd.nil (by omega) (by omega) ?_; intro v8 w8 hown8 hb8 hz8)
        obtain ⟨g8, c8, rfl⟩ := own_addr2 hown8 (by omega)
        have HO8 := hide hown8
        clear hown8
        go_ret2
        refine ⟨_, _, c8, ret_two rfl (congrArg (Value.int .i64) (HC.out.trans HVC.out.2).symm), ?_, by omega, hbW.trans ((hb07.trans hb8).mono hbW.size)⟩
        rw [HV.out, HVC.out.1]
        have hff := add_fine (i := c1) HFN.out HX.out
        rw [HD.out, List.append_nil] at hff ⊢
        have hown9 := HO8.out
        rw [Nat.add_zero, List.append_nil] at hown9
        refine (FrK.of_own (K := kGrant) hown9 ?_ hff).mono hbW.size (Nat.le_refl _)
        rw [List.length_append, List.length_take, HL.out]
        simp
      · skip
        go_upto_region 13 with (at_builtin; refine appsGrant rfl _ _ rfl W2.heap.size (.slice (some ⟨W2.heap.size, 0, none⟩) 0 0) 0 [] rfl (World.ownsRow_lit (base := W2.heap.size) (e := 49) (size := 3) _ #[] 0 (Nat.le_refl _) (by simp) rfl) A1 K c1 (gs.take K) (by first | rfl | (simp; rfl) | simp) (Rd.alloc HRT.out _) (by omega) (by simp) ?_; intro v6 w6 hown6 hb6 hz6)
        rw [Nat.zero_add, List.nil_append] at hown6
        have HO6 := hide hown6
        have hb06 := ((Below.refl W2.heap.size W2).alloc (Nat.le_refl _) (.cells #[] 49)).trans hb6
        have hz06 := hb06.size
        have k0 := (hb06.cell (p := ⟨w.heap.size, 0, none⟩) hzw).trans e0
        have k1 := (hb06.cell (p := ⟨w.heap.size, 1, none⟩) hzw).trans e1
        have k2 := (hb06.cell (p := ⟨w.heap.size, 2, none⟩) hzw).trans e2
        clear hown6
        go_upto_region 14 with (at_builtin; refine appGrant rfl _ _ rfl W2.heap.size v6 K (gs.take K) ⟨x0, x1, x2⟩ rfl HO6.out (by first | rfl | (simp; rfl)) (by omega) (by omega) ?_; intro v7 w7 hown7 hb7 hz7)
        have HO7 := hide hown7
        have hb07 := hb06.trans hb7
        clear hown7 k0 k1 k2
        go_wp2_with (at_builtin; refine appsGrant rfl _ _ rfl W2.heap.size v7 (K + 1) (gs.take K ++ [⟨x0, x1, x2⟩]) rfl HO7.out _ 0 (c1 - K) [] (by first | rfl | (simp; rfl) | simp) Rd.nil (by omega) (by omega) ?_; intro v8 w8 hown8 hb8 hz8)
        obtain ⟨g8, c8, rfl⟩ := own_addr2 hown8 (by omega)
        have HO8 := hide hown8
        clear hown8
        go_ret2
        refine ⟨_, _, c8, ret_two rfl (congrArg (Value.int .i64) (HC.out.trans HVC.out.2).symm), ?_, by omega, hbW.trans ((hb07.trans hb8).mono hbW.size)⟩
        rw [HV.out, HVC.out.1]
        have hff := add_fine (i := K) HFN.out HX.out
        rw [HD.out, List.append_nil] at hff ⊢
        have hown9 := HO8.out
        rw [Nat.add_zero, List.append_nil] at hown9
        refine (FrK.of_own (K := kGrant) hown9 ?_ hff).mono hbW.size (Nat.le_refl _)
        rw [List.length_append, List.length_take, HL.out]
        simp

end Go.Proofs.Ytidhbpnibgegdaa
