/- has of the program, l28May of the reference. -/
import Derived.Test.YtidhbpnibgegdaaVG
namespace Go.Proofs.Ytidhbpnibgegdaa
open Go.RowKit
set_option linter.unusedVariables false

theorem underZ_len {rs : List RoleZ} (h : RolesOk rs) (nm : ByteArray) : (underZ rs nm).length ≤ 12 := by
  have h1 := pickK_len rs (underB rs (findN rs nm)) rs.length
  rw [pickK_all (Nat.le_refl _)] at h1
  have := h.1
  unfold underZ
  omega
/-- The program's own test of one grant. -/
def hasP (rs : List RoleZ) (nm o : ByteArray) (a : Int) (x : GrantZ) : Bool := decide (x.object = o) && decide (a ≤ x.action) && inB (underZ rs nm ++ [nm]) x.role
theorem hasP_eq {rs : List RoleZ} (h : RolesOk rs) {nm : ByteArray} (hn : hasR rs nm = true) {o : ByteArray} {a : Int} {x : GrantZ} (hx : hasR rs x.role = true) : hasP rs nm o a x = byG rs (findN rs nm) o a x := by
  unfold hasP byG
  rw [below_iff h.sort hn hx]
  cases decide (x.object = o) <;> cases decide (a ≤ x.action) <;> simp
theorem any_congr {α : Type} {p q : α → Bool} {xs : List α} (h : ∀ x ∈ xs, p x = q x) : xs.any p = xs.any q := by
  induction xs with
  | nil => rfl
  | cons x xs ih => rw [List.any_cons, List.any_cons, h x (by simp), ih (fun y hy => h y (by simp [hy]))]
theorem has_eq {rs : List RoleZ} {gs : List GrantZ} (h : RolesOk rs) (hg : ∀ x ∈ gs, hasR rs x.role = true) {nm : ByteArray} (hn : hasR rs nm = true) (o : ByteArray) (a : Int) : hasG rs gs nm o a = (isActB a && gs.any (hasP rs nm o a)) := by
  unfold hasG mayB
  rw [any_congr (q := byG rs (findN rs nm) o a) (fun x hx => hasP_eq h hn (hg x hx))]

set_option maxHeartbeats 1000000 in
theorem hasClos_calls (x : GrantZ) (o : ByteArray) (a : Int) (ys : List ByteArray) (A : Option Addr) (n c b0 b1 b2 : Nat) (w : World) (h0 : w.cell? ⟨b0, 0, none⟩ = some (.string o)) (h1 : w.cell? ⟨b1, 0, none⟩ = some (.int .i64 a)) (h2 : w.cell? ⟨b2, 0, none⟩ = some (.slice A n c)) (hr : RdK kB w A n ys) (hn : n ≤ 1048576)
    (l0 : b0 < w.heap.size) (l1 : b1 < w.heap.size) (l2 : b2 < w.heap.size) :
    Calls Try.prog 106 #[.agg #[.string x.role, .string x.object, .int .i64 x.action], .pointer (some ⟨b0, 0, none⟩), .pointer (some ⟨b1, 0, none⟩), .pointer (some ⟨b2, 0, none⟩)] w fun e w' => e = .returned (.bool (decide (x.object = o) && decide (a ≤ x.action) && inB ys x.role)) ∧ Below w.heap.size w w' := by
  obtain ⟨f0, f1, f2⟩ := x
  simp only
  have hB' : Below w.heap.size w (w.alloc (.cells #[.string f0, .string f1, .int .i64 f2] 49)) := (Below.refl _ _).alloc (Nat.le_refl _) _
  have hB := hide hB'
  have g0 := (hB'.cell (p := ⟨b0, 0, none⟩) l0).trans h0
  have g1 := (hB'.cell (p := ⟨b1, 0, none⟩) l1).trans h1
  have g2 := (hB'.cell (p := ⟨b2, 0, none⟩) l2).trans h2
  have HC := hide (containsB_calls A n c ys f0 _ (hr.below hB' (Nat.le_refl _)) hn)
  clear h0 h1 h2 hB'
  by_cases e1 : f1 = o
  case neg =>
    obtain ⟨p1, p2⟩ := str_ne e1
    have HE := hide (decide_eq_false e1)
    clear e1
    go_enter Try.func106, Try.ntmps106
    go_wp2
    go_ret
    exact ⟨ret_bool (by rw [HE.out]; rfl), hB.out⟩
  obtain ⟨p1, p2⟩ := str_eq e1
  have HE := hide (decide_eq_true e1)
  clear e1
  by_cases e2 : a ≤ f2
  case neg =>
    have HE2 := hide (decide_eq_false e2)
    go_enter Try.func106, Try.ntmps106
    go_wp2
    go_ret
    exact ⟨ret_bool (by rw [HE.out, HE2.out]; rfl), hB.out⟩
  have HE2 := hide (decide_eq_true e2)
  generalize inB ys f0 = q at HC ⊢
  go_enter Try.func106, Try.ntmps106
  go_wp2_with fail
  refine HC.out.mono ?_
  rintro e w' ⟨rfl, rfl⟩
  go_wp2
  go_ret
  exact ⟨ret_bool (by rw [HE.out, HE2.out]; rfl), hB.out⟩

set_option maxHeartbeats 4000000 in
theorem has_calls (A : Option Addr) (n c : Nat) (rs : List RoleZ) (A1 : Option Addr) (n1 c1 : Nat) (gs : List GrantZ) (nm o : ByteArray) (a : Int) (w : World) (h : RdRz w A n rs) (h1 : RdK kGrant w A1 n1 gs) (hok : RolesOk rs) (hg : ∀ x ∈ gs, hasR rs x.role = true) (hn1 : n1 ≤ 1048576) (hh : hasR rs nm = true) :
    Calls Try.prog 74 #[.slice A n c, .slice A1 n1 c1, .string nm, .string o, .int .i64 a] w fun e w' => e = .returned (.bool (hasG rs gs nm o a)) ∧ Below w.heap.size w w' := by
  have hnf : nm.size ≤ 9223372036854775807 := fineR h nm (has_mem.1 hh)
  have HFI := hide (fineR h)
  have HZ := hide (has_eq hok hg hh o a)
  obtain ⟨W0, hW0⟩ : ∃ W0, W0 = ((w.alloc (.cells #[.string o] 9)).alloc (.cells #[.int .i64 a] 2)) := ⟨_, rfl⟩
  have hB : Below w.heap.size w W0 := by rw [hW0]; exact ((Below.refl _ _).alloc (Nat.le_refl _) _).alloc (by simp) _
  have c0 : W0.cell? ⟨w.heap.size, 0, none⟩ = some (.string o) := by rw [hW0]; simp
  have c1' : W0.cell? ⟨w.heap.size + 1, 0, none⟩ = some (.int .i64 a) := by rw [hW0]; simp
  have hz0 : w.heap.size + 1 < W0.heap.size := by rw [hW0]; simp
  have HM := hide (under_calls A n c rs nm W0 (h.below hB (Nat.le_refl _)) hok hh)
  have HOK := hide hok
  have hul := underZ_len hok nm
  clear hok hg hh
  go_enter Try.func74, Try.ntmps74
  go_wp2_with fail
  rw [← hW0]
  clear hW0
  go_wp2_with fail
  refine HM.out.mono ?_
  clear HM
  rintro e w1 ⟨A', n', c', rfl, hown, hl, hb1⟩
  have hn' : n' ≤ 12 := by rw [← hl]; exact hul
  have HO := hide hown
  have HLU := hide hl
  have hz1 := hb1.size
  clear hown hl hul
  go_upto_region 2 with (at_builtin; refine appB rfl _ _ rfl W0.heap.size (.slice A' n' c') n' (underZ rs nm) nm rfl HO.out (by first | rfl | (simp; rfl)) (by omega) (by omega) ?_; intro v4 w4 hown4 hb4 hz4; obtain ⟨A4, c4, rfl⟩ := own_slice hown4)
  obtain ⟨W5, hW5⟩ : ∃ W5, W5 = w4.alloc (.cells #[.slice A4 (n' + 1) c4] 29) := ⟨_, rfl⟩
  have hb5 : Below w4.heap.size w4 W5 := by rw [hW5]; exact (Below.refl _ _).alloc (Nat.le_refl _) _
  have g2 : W5.cell? ⟨w4.heap.size, 0, none⟩ = some (.slice A4 (n' + 1) c4) := by rw [hW5]; simp
  have hz5 : w4.heap.size < W5.heap.size := by rw [hW5]; simp
  rw [← hW5]
  clear hW5
  have hb05 : Below W0.heap.size W0 W5 := (hb1.trans hb4).trans (hb5.mono (Nat.le_trans hz1 hz4))
  have hbw := hB.trans (hb05.mono hB.size)
  have g0 := (hb05.cell (p := ⟨w.heap.size, 0, none⟩) (by show w.heap.size < W0.heap.size; omega)).trans c0
  have g1 := (hb05.cell (p := ⟨w.heap.size + 1, 0, none⟩) (by show w.heap.size + 1 < W0.heap.size; omega)).trans c1'
  have hr5 : RdK kB W5 A4 (n' + 1) (underZ rs nm ++ [nm]) := ⟨(Rd.of_own hown4).below hb5 (Nat.le_refl _), by rw [List.length_append, HLU.out]; rfl, fun x hx => by
    rcases List.mem_append.1 hx with hx | hx
    · exact HFI.out x (has_mem.1 ((underZ_mem HOK.out.sort).1 hx).1)
    · simp only [List.mem_singleton] at hx
      subst hx
      exact hnf⟩
  have HC := hide (containsG_calls A1 n1 c1 gs 106 #[.pointer (some ⟨w.heap.size, 0, none⟩), .pointer (some ⟨w.heap.size + 1, 0, none⟩), .pointer (some ⟨w4.heap.size, 0, none⟩)] (hasP rs nm o a) W5 (h1.below hbw (Nat.le_refl _)) hn1 Try.call106 (by
    intro W x hW hm hx
    rw [cat3]
    have hzW := hW.size
    have hz05 := hb05.size
    exact hasClos_calls x o a (underZ rs nm ++ [nm]) A4 (n' + 1) c4 w.heap.size (w.heap.size + 1) w4.heap.size W ((hW.cell (p := ⟨w.heap.size, 0, none⟩) (by show w.heap.size < W5.heap.size; omega)).trans g0) ((hW.cell (p := ⟨w.heap.size + 1, 0, none⟩) (by show w.heap.size + 1 < W5.heap.size; omega)).trans g1) ((hW.cell (p := ⟨w4.heap.size, 0, none⟩) hz5).trans g2) (hr5.below hW (Nat.le_refl _)) (by omega) (by omega) (by omega) (by omega)))
  clear hr5 hown4 g2 g0 c0 c1'
  generalize gs.any (hasP rs nm o a) = q at HC HZ
  rcases b_cases (isActB a) with hact | hact
  · rw [hact] at HZ
    have HA := hide hact
    clear hact
    go_wp2_with fail
    refine (isAction_calls a _).mono ?_
    rw [HA.out]
    rintro e w6 ⟨rfl, rfl⟩
    go_wp2
    go_ret
    exact ⟨ret_bool (by rw [HZ.out]; rfl), hbw⟩
  · rw [hact] at HZ
    have HA := hide hact
    clear hact
    go_wp2_with fail
    refine (isAction_calls a _).mono ?_
    rw [HA.out]
    rintro e w6 ⟨rfl, rfl⟩
    go_wp2_with fail
    refine HC.out.mono ?_
    clear HC
    rintro e w7 ⟨rfl, hb7⟩
    go_wp2
    go_ret
    exact ⟨ret_bool (by rw [HZ.out]; rfl), hbw.trans (hb7.mono hbw.size)⟩

/-! ### the reference -/
theorem may_snoc {rs : List RoleZ} {gs : List GrantZ} {t : Nat} {o : ByteArray} {a : Int} {k : Nat} {x : GrantZ} (hx : gs[k]? = some x) (h : (gs.take k).any (byG rs t o a) = false) (hp : byG rs t o a x = false) : (gs.take (k + 1)).any (byG rs t o a) = false := any_snoc hx h hp
theorem may_yes {rs : List RoleZ} {gs : List GrantZ} {t : Nat} {o : ByteArray} {a : Int} {k : Nat} {x : GrantZ} (hx : gs[k]? = some x) (hp : byG rs t o a x = true) : mayB rs gs t o a = true := List.any_eq_true.2 ⟨x, List.mem_of_getElem? hx, hp⟩
theorem may_no {rs : List RoleZ} {gs : List GrantZ} {t : Nat} {o : ByteArray} {a : Int} {n : Nat} (hl : gs.length = n) (h : (gs.take n).any (byG rs t o a) = false) : mayB rs gs t o a = false := by rwa [List.take_of_length_le (by omega)] at h

set_option maxHeartbeats 4000000 in
theorem l28May_calls (A : Option Addr) (n c : Nat) (rs : List RoleZ) (A1 : Option Addr) (n1 c1 : Nat) (gs : List GrantZ) (t : Nat) (o : ByteArray) (a : Int) (w : World) (h : RdRz w A n rs) (h1 : RdK kGrant w A1 n1 gs) (hok : RolesOk rs) (hg : ∀ x ∈ gs, hasR rs x.role = true) (hn : n ≤ 1048576) (hn1 : n1 ≤ 1048576) :
    Calls Try.prog 73 #[.slice A n c, .slice A1 n1 c1, .int .i64 (t : Int), .string o, .int .i64 a] w fun e w' => e = .returned (.bool (mayB rs gs t o a)) ∧ Below w.heap.size w w' := by
  have HL := hide h.len
  have HL1 := hide h1.2.1
  have HG := hide hg
  have HM := hide (l28Under_calls A n c rs t w h hn (fun r hr u hu => roles_under hok hr hu))
  clear hok hg
  go_enter Try.func73, Try.ntmps73
  go_wp2_with fail
  refine HM.out.mono ?_
  clear HM
  rintro e w1 ⟨A', c', rfl, hown, hb1⟩
  have hrd : RdK kBo w1 A' n (underB rs t) := ⟨Rd.of_own hown, by rw [under_len]; exact HL.out, fun _ _ => trivial⟩
  have HRD := hide hrd
  have h' := h.below hb1 (Nat.le_refl _)
  have h1' := h1.below hb1 (Nat.le_refl _)
  clear hown hrd h h1
  go_wp2
  go_loop [12] (fun i => ∃ (K : Nat), K ≤ n1 ∧ i = .int .i64 K ∧ Hid ((gs.take K).any (byG rs t o a) = false)) (fun i => n1 - (intOf i).toNat)
  case atStart => exact ⟨0, Nat.zero_le _, rfl, by simp [Hid]⟩
  case round =>
    obtain ⟨K, hK, rfl, HC⟩ := hrel
    by_cases hlt : K < n1
    · obtain ⟨b, off, f0, f1, f2, rfl, hbl, hx, hc0, hc1, hc2, hs0, hs1, hs2, hs3⟩ := h1'.atGrant hlt
      have hhas := HG.out _ (List.mem_of_getElem? hx.out)
      simp only at hhas
      have HF := hide (l28Find_calls A n c rs f0 w1 h' hn)
      rw [findI_yes hhas] at HF
      have hfn : findN rs f0 < n := by have := hasR_iff.1 hhas; have := HL.out; omega
      obtain ⟨b2, off2, q, rfl, hbl2, hq, hcq⟩ := HRD.out.atBo hfn
      have HZ : Hid (byG rs t o a ⟨f0, f1, f2⟩ = ((decide (findN rs f0 = t) || q) && decide (f1 = o) && decide (a ≤ f2))) := by
        unfold Hid byG
        rw [List.getD, hq.out]
        rfl
      clear hhas hq
      generalize findN rs f0 = f at *
      by_cases hft : f = t
      all_goals
        first
        | (have hft1 : ((f : Int) == (t : Int)) = true := by simp [hft]
           have HE0 := hide (decide_eq_true hft)
           have HE : Hid (byG rs t o a ⟨f0, f1, f2⟩ = (true && decide (f1 = o) && decide (a ≤ f2))) := by unfold Hid; rw [HZ.out, HE0.out]; rfl
           clear hft HE0
           obtain ⟨q', hq'⟩ : ∃ q' : Bool, q' = true := ⟨_, rfl⟩)
        | (have hft1 : ((f : Int) == (t : Int)) = false := by simp; omega
           have HE0 := hide (decide_eq_false hft)
           have HE : Hid (byG rs t o a ⟨f0, f1, f2⟩ = (q && decide (f1 = o) && decide (a ≤ f2))) := by unfold Hid; rw [HZ.out, HE0.out]; rfl
           clear hft HE0
           obtain ⟨q', hq'⟩ : ∃ q' : Bool, q' = q := ⟨_, rfl⟩)
        rw [← hq'] at HE
        have HQ := hide hq'
        clear hq' HZ
        rcases b_cases q' with rfl | rfl
        · first
          | (have hq1 := HQ.out; cases hq1; done)
          | (have HN := hide (may_snoc hx.out HC.out (HE.out.trans (by simp)))
             have hq0 := HQ.out
             try rw [← hq0] at hcq
             clear hq0
             go_wp2_with fail
             refine HF.out.mono ?_
             rintro e w2 ⟨rfl, rfl⟩
             go_wp2
             go_round
             case rel => exact ⟨K + 1, by omega, by go_num, HN⟩
             case measure => simp [intOf]; omega)
        · have hq0 := HQ.out
          try rw [← hq0] at hcq
          clear hq0
          by_cases e1 : f1 = o
          case neg =>
            obtain ⟨p1, p2⟩ := str_ne e1
            have HN := hide (may_snoc hx.out HC.out (HE.out.trans (by simp [e1])))
            clear e1
            go_wp2_with fail
            refine HF.out.mono ?_
            rintro e w2 ⟨rfl, rfl⟩
            go_wp2
            go_round
            case rel => exact ⟨K + 1, by omega, by go_num, HN⟩
            case measure => simp [intOf]; omega
          obtain ⟨p1, p2⟩ := str_eq e1
          by_cases e2 : a ≤ f2
          case neg =>
            have HN := hide (may_snoc hx.out HC.out (HE.out.trans (by simp [e2])))
            clear e1
            go_wp2_with fail
            refine HF.out.mono ?_
            rintro e w2 ⟨rfl, rfl⟩
            go_wp2
            go_round
            case rel => exact ⟨K + 1, by omega, by go_num, HN⟩
            case measure => simp [intOf]; omega
          have HN := hide (may_yes (gs := gs) hx.out (HE.out.trans (by simp [e1, e2])))
          clear e1
          go_wp2_with fail
          refine HF.out.mono ?_
          rintro e w2 ⟨rfl, rfl⟩
          go_wp2
          go_ret
          exact ⟨ret_bool HN.out.symm, hb1⟩
    · have hKn : K = n1 := by omega
      have HN := hide (may_no HL1.out (hKn ▸ HC.out))
      clear hKn
      go_wp2
      go_ret
      exact ⟨ret_bool HN.out.symm, hb1⟩

end Go.Proofs.Ytidhbpnibgegdaa
