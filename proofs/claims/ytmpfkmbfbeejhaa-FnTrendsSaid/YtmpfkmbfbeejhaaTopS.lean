/- TopDays of the reference; a number put to its place. -/
import Derived.Test.YtmpfkmbfbeejhaaTopZ
import Derived.Test.YtmpfkmbfbeejhaaMoving
import Derived.Test.YtmpfkmbfbeejhaaHasI
namespace Go.Proofs.Ytmpfkmbfbeejhaa
open Go.RowKit
set_option linter.unusedVariables false

/-- Behind i numbers, into which x is put. -/
def PutI (ys : List Int) (x : Int) (i : Nat) (dn : Bool) (os : List Int) : Prop :=
  os.Perm (ys.take i ++ (if dn then [x] else [])) ∧ os.Pairwise (· ≤ ·) ∧ (∀ y ∈ os, ∀ z ∈ ys.drop i, y ≤ z) ∧ (dn = false → ∀ y ∈ os, y < x)
theorem put_zero (ys : List Int) (x : Int) : PutI ys x 0 false [] := ⟨by simp, by simp, by simp, by simp⟩
theorem PutI.len {ys os : List Int} {x : Int} {i : Nat} {dn : Bool} (h : PutI ys x i dn os) (hi : i ≤ ys.length) : os.length = i + (if dn then 1 else 0) := by
  rw [h.1.length_eq, List.length_append, List.length_take]
  cases dn <;> simp <;> omega
theorem PutI.mem {ys os : List Int} {x y : Int} {i : Nat} {dn : Bool} (h : PutI ys x i dn os) (hy : y ∈ os) : y ∈ ys ∨ y = x := by
  rcases List.mem_append.1 (h.1.mem_iff.1 hy) with h1 | h1
  · exact .inl (List.mem_of_mem_take h1)
  · cases dn <;> simp at h1
    exact .inr h1
theorem put_snoc {ys os : List Int} {x y : Int} {i : Nat} {dn : Bool} (hs : ys.Pairwise (· ≤ ·)) (h : PutI ys x i dn os) (hy : ys[i]? = some y) (hd : dn = false → y < x) : PutI ys x (i + 1) dn (os ++ [y]) := by
  obtain ⟨h1, h2, h3, h4⟩ := h
  obtain ⟨hi, rfl⟩ := List.getElem?_eq_some_iff.1 hy
  have hD : ys.drop i = ys[i] :: ys.drop (i + 1) := List.drop_eq_getElem_cons hi
  have hsd : (ys[i] :: ys.drop (i + 1)).Pairwise (· ≤ ·) := by rw [← hD]; exact hs.sublist (List.drop_sublist _ _)
  have hin : ys[i] ∈ ys.drop i := by rw [hD]; exact List.mem_cons_self
  refine ⟨?_, ?_, ?_, ?_⟩
  · rw [take_snoc hy]
    refine (h1.append_right _).trans ?_
    rw [List.append_assoc, List.append_assoc]
    exact List.Perm.append_left _ List.perm_append_comm
  · refine List.pairwise_append.2 ⟨h2, by simp, fun a ha b hb => ?_⟩
    have : b = ys[i] := by simpa using hb
    subst this
    exact h3 a ha _ hin
  · intro a ha z hz
    rcases List.mem_append.1 ha with ha | ha
    · exact h3 a ha z (by rw [hD]; exact List.mem_cons_of_mem _ hz)
    · have : a = ys[i] := by simpa using ha
      subst this
      exact (List.pairwise_cons.1 hsd).1 z hz
  · intro e a ha
    rcases List.mem_append.1 ha with ha | ha
    · exact h4 e a ha
    · have : a = ys[i] := by simpa using ha
      subst this
      exact hd e
theorem put_now {ys os : List Int} {x y : Int} {i : Nat} (hs : ys.Pairwise (· ≤ ·)) (h : PutI ys x i false os) (hy : ys[i]? = some y) (hd : x ≤ y) : PutI ys x i true (os ++ [x]) := by
  obtain ⟨h1, h2, h3, h4⟩ := h
  obtain ⟨hi, rfl⟩ := List.getElem?_eq_some_iff.1 hy
  have hD : ys.drop i = ys[i] :: ys.drop (i + 1) := List.drop_eq_getElem_cons hi
  have hsd : (ys[i] :: ys.drop (i + 1)).Pairwise (· ≤ ·) := by rw [← hD]; exact hs.sublist (List.drop_sublist _ _)
  refine ⟨?_, ?_, ?_, by simp⟩
  · simpa using h1.append_right [x]
  · refine List.pairwise_append.2 ⟨h2, by simp, fun a ha b hb => ?_⟩
    have : b = x := by simpa using hb
    have := h4 rfl a ha
    omega
  · intro a ha z hz
    rcases List.mem_append.1 ha with ha | ha
    · exact h3 a ha z hz
    · have : a = x := by simpa using ha
      rw [hD] at hz
      rcases List.mem_cons.1 hz with rfl | hz
      · omega
      · have := (List.pairwise_cons.1 hsd).1 z hz
        omega
theorem put_end {ys os : List Int} {x : Int} {n : Nat} (hn : ys.length = n) (h : PutI ys x n true os) : os = sortZ (ys ++ [x]) := by
  subst hn
  refine sortZ_of ?_ h.2.1
  have := h.1
  rwa [List.take_length] at this
theorem put_last {ys os : List Int} {x : Int} {n : Nat} (hn : ys.length = n) (h : PutI ys x n false os) : os ++ [x] = sortZ (ys ++ [x]) := by
  subst hn
  obtain ⟨h1, h2, h3, h4⟩ := h
  refine sortZ_of ?_ ?_
  · have := h1
    rw [List.take_length] at this
    simpa using this.append_right [x]
  · refine List.pairwise_append.2 ⟨h2, by simp, fun a ha b hb => ?_⟩
    have : b = x := by simpa using hb
    have := h4 rfl a ha
    omega

theorem ret_val {u v : Value} (h : u = v) : Ending.returned u = Ending.returned v := by rw [h]

set_option maxRecDepth 100000 in
set_option maxHeartbeats 4000000 in
theorem l00Put_calls (A : Option Addr) (n c : Nat) (ys : List Int) (x : Int) (w : World) (h : RdI w A n ys) (hn : n ≤ 1048576) (hs : ys.Pairwise (· ≤ ·)) (hx : x ∉ ys) :
    Calls Try.prog 42 #[.slice A n c, .int .i64 x] w fun e w' => ∃ A' c', e = .returned (.slice A' (n + 1 : Nat) c') ∧ w'.ownsRow w.heap.size 2 1 (.slice A' (n + 1 : Nat) c') (n + 1) (cI (sortZ (ys ++ [x]))) ∧ Below w.heap.size w w' := by
  have HL := hide h.len
  have HS := hide hs
  have hown0 := World.ownsRow_lit (base := w.heap.size) (e := 2) (size := 1) w #[] 0 (Nat.le_refl _) (by simp) rfl
  have P0 := hide (put_zero ys x)
  go_enter Try.func42, Try.ntmps42
  go_wp2_with fail
  go_loopw [5, 6, 7] (fun v dn i wr => ∃ (k m : Nat) (b : Bool) (os : List Int), k ≤ n ∧ i = .int .i64 k ∧ dn = .bool b ∧ m = os.length ∧ Hid (PutI ys x k b os) ∧ wr.ownsRow w.heap.size 2 1 v m (cI os) ∧ Below w.heap.size w wr) (fun _ _ i _ => n - (intOf i).toNat)
  case atStart => exact ⟨0, 0, false, [], by omega, rfl, rfl, rfl, P0, by simpa [cI] using hown0, (Below.refl _ _).alloc (Nat.le_refl _) _⟩
  case round =>
    clear hown0 P0 hs
    obtain ⟨k, m, b, os, hk, rfl, rfl, hm, HP, hown, hb⟩ := hrel
    have HO := hide hown
    have HM := hide hm
    have hml : m ≤ n + 1 := by rw [hm, HP.out.len (by rw [HL.out]; exact hk)]; split <;> omega
    clear hown hm
    have hbs := hb.size
    by_cases hlt : k < n
    · obtain ⟨bl, off, y, rfl, hbl, hy, hc0, hy1, hy2⟩ := h.at hlt
      have hc := (hb.cell (p := ⟨bl, off + k, none⟩) hbl).trans hc0
      clear hc0
      cases b with
      | true =>
        have NX := hide (put_snoc HS.out HP.out hy.out (by simp))
        go_wp2_with (at_builtin; refine appI rfl _ _ rfl w.heap.size u5 m os y rfl HO.out rfl (by omega) (by omega) ?_; intro v4 w4 hown4 hb4 hz4)
        go_roundw
        case rel => exact ⟨k + 1, m + 1, true, os ++ [y], by omega, by go_num, rfl, by rw [HM.out]; simp, NX.out, hown4, hb.trans hb4⟩
        case measure => simp [intOf]; omega
      | false =>
        by_cases hlx : y < x
        · have NX := hide (put_snoc HS.out HP.out hy.out (fun _ => hlx))
          have hnx : ¬ x ≤ y := by omega
          go_wp2_with (at_builtin; refine appI rfl _ _ rfl w.heap.size u5 m os y rfl HO.out rfl (by omega) (by omega) ?_; intro v4 w4 hown4 hb4 hz4)
          go_roundw
          case rel => exact ⟨k + 1, m + 1, false, os ++ [y], by omega, by go_num, rfl, by rw [HM.out]; simp, NX.out, hown4, hb.trans hb4⟩
          case measure => simp [intOf]; omega
        · have hxy : x ≤ y := by omega
          have hne : x ≠ y := fun e => hx (by rw [e]; exact List.mem_of_getElem? hy.out)
          have hgt : x < y := by omega
          have NX := hide (put_snoc HS.out (put_now HS.out HP.out hy.out hxy) hy.out (by simp))
          clear hne hlx
          go_upto_region 10 with (at_builtin; refine appI rfl _ _ rfl w.heap.size u5 m os x rfl HO.out rfl (by omega) (by omega) ?_; intro v4 w4 hown4 hb4 hz4)
          have hc4 : w4.cell? ⟨bl, off + k, none⟩ = some (.int .i64 y) := (hb4.cell (p := ⟨bl, off + k, none⟩) hbl).trans hc
          have HO4 := hide hown4
          clear hown4 hc
          go_wp2_with (at_builtin; refine appI rfl _ _ rfl w.heap.size v4 (m + 1) (os ++ [x]) y rfl HO4.out rfl (by omega) (by omega) ?_; intro v5 w5 hown5 hb5 hz5)
          go_roundw
          case rel => exact ⟨k + 1, m + 1 + 1, true, os ++ [x] ++ [y], by omega, by go_num, rfl, by rw [HM.out]; simp, NX.out, hown5, hb.trans (hb4.trans hb5)⟩
          case measure => simp [intOf]; omega
    have hkn : k = n := by omega
    subst hkn
    cases b with
    | true =>
      have HE := hide (put_end HL.out HP.out)
      have hmn : m = k + 1 := by rw [HM.out, HP.out.len (by rw [HL.out]; exact Nat.le_refl _)]; rfl
      have ho := HO.out
      rw [HE.out, hmn] at ho
      obtain ⟨A9, c9, hv⟩ := own_slice ho
      have HV9 := hide hv
      have HO9 := hide ho
      clear hv ho hmn
      go_wp2
      go_ret
      exact ⟨A9, c9, ret_val HV9.out, by rw [← HV9.out]; exact HO9.out, hb⟩
    | false =>
      have HE := hide (put_last HL.out HP.out)
      have hmn : Hid (m = k) := by unfold Hid; rw [HM.out, HP.out.len (by rw [HL.out]; exact Nat.le_refl _)]; rfl
      go_wp2_with (at_builtin; refine appI rfl _ _ rfl w.heap.size u5 m os x rfl HO.out rfl (by omega) (by omega) ?_; intro v4 w4 hown4 hb4 hz4)
      rw [HE.out, hmn.out] at hown4
      obtain ⟨A9, c9, hv⟩ := own_slice hown4
      have HV9 := hide hv
      have HO9 := hide hown4
      clear hv hown4
      go_wp2
      go_ret
      exact ⟨A9, c9, ret_val HV9.out, by rw [← HV9.out]; exact HO9.out, hb.trans hb4⟩

/-- What TopDays returns. -/
def topC (vs : List Int) (many : Int) : Int := keptC vs (withinB many 0 vs.length)
def topV (vs : List Int) (many : Int) : List Int := if topC vs many = 0 then topZ vs many.toNat else []
theorem topV_bad {vs : List Int} {m : Int} (h : topC vs m ≠ 0) : topV vs m = [] := by unfold topV; rw [if_neg h]
theorem topV_ok {vs : List Int} {m : Int} (h : topC vs m = 0) : topV vs m = topZ vs m.toNat := by unfold topV; rw [if_pos h]
theorem valI_at {vs : List Int} {k : Nat} {x : Int} (h : vs[k]? = some x) : valI vs k = x := by unfold valI; rw [Int.toNat_natCast, List.getD_eq_getElem?_getD, h]; rfl
theorem topZ_i64 {vs : List Int} {k : Nat} (hl : vs.length ≤ 60) : ∀ x ∈ topZ vs k, I64 x := fun x hx => by have := topZ_bound hx; unfold I64; omega

set_option maxRecDepth 100000 in
set_option maxHeartbeats 4000000 in
theorem specTopDays_calls (A : Option Addr) (n c : Nat) (xs : List Int) (f : Int) (w : World) (h : RdI w A n xs) (hf : I64 f) (hn : n ≤ 1048576) :
    Calls Try.prog 6 #[.slice A n c, .int .i64 f] w fun e w' => ∃ A' n' c', e = .returned (.tuple #[.slice A' n' c', .int .i64 (topC xs f)]) ∧ FrI w' w.heap.size w'.heap.size 2 A' n' (topV xs f) ∧ n' ≤ 1048576 ∧ Below w.heap.size w w' := by
  have HL := hide h.len
  have HX := hide h.2
  rcases b_cases (okSer xs) with hok | hok
  · have HC : Hid (topC xs f = 1) := by unfold Hid topC keptC; rw [hok]; rfl
    go_enter Try.func6, Try.ntmps6
    go_wp2_with fail
    refine (l26Ok_calls _ _ _ _ _ h hn).mono ?_
    rintro e w' ⟨rfl, rfl⟩
    rw [hok]
    go_wp2
    go_ret2
    refine ⟨none, 0, 0, ret_two rfl (congrArg (Value.int .i64) HC.out.symm), ?_, by omega, Below.refl _ _⟩
    rw [topV_bad (by rw [HC.out]; omega)]
    exact FrI.nil
  rcases b_cases (withinB f 0 n) with hwi | hwi
  · have HC : Hid (topC xs f = 2) := by unfold Hid topC keptC; rw [hok, HL.out, hwi]; rfl
    go_enter Try.func6, Try.ntmps6
    go_wp2_with fail
    refine (l26Ok_calls _ _ _ _ _ h hn).mono ?_
    rintro e w' ⟨rfl, rfl⟩
    rw [hok]
    go_wp2_with fail
    refine (l00In_calls _ _ _ _).mono ?_
    rintro e w' ⟨rfl, rfl⟩
    rw [hwi]
    go_wp2
    go_ret2
    refine ⟨none, 0, 0, ret_two rfl (congrArg (Value.int .i64) HC.out.symm), ?_, by omega, Below.refl _ _⟩
    rw [topV_bad (by rw [HC.out]; omega)]
    exact FrI.nil
  have HC : Hid (topC xs f = 0) := by unfold Hid topC keptC; rw [hok, HL.out, hwi]; rfl
  have HV := hide (topV_ok HC.out)
  obtain ⟨h1, h60⟩ := ok_len hok
  obtain ⟨f1, f2⟩ := withinB_iff.1 hwi
  obtain ⟨F, rfl⟩ : ∃ F : Nat, f = F := ⟨f.toNat, by omega⟩
  have hFn : F ≤ n := by omega
  have hI := hide (fun k => topZ_i64 (k := k) h60)
  rw [HL.out] at h1 h60
  rw [Int.toNat_natCast] at HV
  have HOK := hide hok
  have HWI := hide hwi
  clear hok hwi f1 f2
  go_enter Try.func6, Try.ntmps6
  go_wp2_with fail
  refine (l26Ok_calls _ _ _ _ _ h hn).mono ?_
  rintro e w' ⟨rfl, rfl⟩
  rw [HOK.out]
  go_wp2_with fail
  refine (l00In_calls _ _ _ _).mono ?_
  rintro e w' ⟨rfl, rfl⟩
  rw [HWI.out]
  have hin0 := World.ownsRow_lit (base := w.heap.size) (e := 2) (size := 1) w #[] 0 (Nat.le_refl _) (by simp) rfl
  go_wp2_with fail
  go_loopw [6, 7, 8] (fun v _ _ wr => ∃ (k c3 : Nat) (A3 : Option Addr), k ≤ F ∧ v = .slice A3 k c3 ∧ wr.ownsRow w.heap.size 2 1 (.slice A3 k c3) k (cI (topZ xs k)) ∧ Below w.heap.size w wr) (fun v _ _ _ => F - (match v with | .slice _ k _ => k | _ => 0))
  case atStart => exact ⟨0, 0, some ⟨w.heap.size, 0, none⟩, by omega, rfl, by rw [topZ_zero]; simpa [cI] using hin0, (Below.refl _ _).alloc (Nat.le_refl _) _⟩
  case round =>
    clear hin0
    obtain ⟨k, c3, A3, hk, rfl, hown, hb⟩ := hrel
    obtain ⟨wo, rfl⟩ : ∃ wo : World, wo = wr := ⟨_, rfl⟩
    have HO := hide hown
    have hro := RdI.of_own hown (hI.out k)
    clear hown
    have hbs := hb.size
    have hrx := h.below hb (Nat.le_refl _)
    by_cases hkF : k < F
    · have hkn : k ≤ n := by omega
      have HRO := hide hro
      have HRX := hide hrx
      clear hro hrx
      go_wp2_with fail
      go_loopw [7, 8] (fun b i wi => ∃ (q : Nat) (B : Int), q ≤ n ∧ i = .int .i64 q ∧ b = .int .i64 B ∧ -1 ≤ B ∧ B < q ∧ Hid (NextB xs k q B) ∧ ∃ j, wi = wo.drewN j) (fun _ i _ => n - (intOf i).toNat)
      case atStart => exact ⟨0, -1, by omega, rfl, rfl, by omega, by omega, nextB_zero xs k, 0, rfl⟩
      case round =>
        obtain ⟨q, B, hq, rfl, rfl, hB1, hB2, NB, hj⟩ := hrel
        obtain ⟨wi, hwi⟩ : ∃ wi, wi = wr := ⟨_, rfl⟩
        rw [← hwi] at hj ⊢
        clear hwi
        have HJ := hide hj
        clear hj
        have ho2 : RdI wi A3 k (topZ xs k) := by obtain ⟨j, hj⟩ := HJ.out; rw [hj]; exact HRO.out.drewN j
        have hx2 : RdI wi A n xs := by obtain ⟨j, hj⟩ := HJ.out; rw [hj]; exact HRX.out.drewN j
        have HNJ : Hid (∀ m, ∃ j, wi.drewN m = wo.drewN j) := by obtain ⟨j, hj⟩ := HJ.out; intro m; exact ⟨_, by rw [hj, World.drewN_drewN]⟩
        have HO2 := hide ho2
        clear ho2
        by_cases hqn : q < n
        · have HX2 := hide hx2
          obtain ⟨bl, off, x, hA, hbl, hx, hc, hx1, hx3⟩ := hx2.at hqn
          clear hx2
          have HCL := hide fun (m : Nat) => Calls.quiet_of_same ((l00Has_calls A3 k c3 (topZ xs k) q (wi.drewN m) (HO2.out.drewN m) (by omega)).mono fun _ _ hh => ⟨hh.1, hh.2.symm⟩)
          subst hA
          by_cases hin : (q : Int) ∈ topZ xs k
          · have hd0 : decide ((q : Int) ∈ topZ xs k) = true := decide_eq_true hin
            have NX := hide (nextB_has NB.out hin)
            rw [hd0] at HCL
            clear hin hd0
            go_wp2
            go_quiet ((go_at_call 41; exact HCL.out _))
            go_wp2
            go_roundw
            case rel => exact ⟨q + 1, B, by omega, by go_num, rfl, by omega, by omega, NX.out, HNJ.out _⟩
            case measure => simp [intOf]; omega
          · have hd0 : decide ((q : Int) ∈ topZ xs k) = false := decide_eq_false hin
            have HIN := hide hin
            rw [hd0] at HCL
            clear hin hd0
            by_cases hB0 : B < 0
            · have hBe : B = -1 := by omega
              subst hBe
              have NX := hide (nextB_take NB.out HIN.out (.inl hB0))
              have hg : decide ((-1 : Int) < 0) = true := rfl
              clear hB0 hB1 hB2
              go_wp2
              go_quiet ((go_at_call 41; exact HCL.out _))
              go_wp2
              go_roundw
              case rel => exact ⟨q + 1, q, by omega, by go_num, rfl, by omega, by omega, NX.out, HNJ.out _⟩
              case measure => simp [intOf]; omega
            · obtain ⟨p, rfl⟩ : ∃ p : Nat, B = p := ⟨B.toNat, by omega⟩
              have hpn : p < n := by omega
              obtain ⟨bl2, off2, y, hA, hbl2, hy, hc2, hy1, hy2⟩ := HX2.out.at hpn
              obtain ⟨rfl, rfl⟩ : bl = bl2 ∧ off = off2 := by simpa using hA
              clear hA hbl hbl2
              have hg : decide ((p : Int) < 0) = false := decide_eq_false hB0
              have i1 : (0 : Int) ≤ (q : Int) := by omega
              have i2 : (q : Int) < (n : Int) := by omega
              have i3 : (0 : Int) ≤ (p : Int) := by omega
              have i4 : (p : Int) < (n : Int) := by omega
              have hvx := valI_at hx.out
              have hvy := valI_at hy.out
              by_cases hlt : y < x
              · have NX := hide (nextB_take NB.out HIN.out (.inr (by rw [hvx, hvy]; exact hlt)))
                have hd1 : decide (y < x) = true := decide_eq_true hlt
                clear hvx hvy hB0 hB1 hB2
                go_wp2
                go_quiet ((go_at_call 41; exact HCL.out _))
                go_wp2
                go_roundw
                case rel => exact ⟨q + 1, q, by omega, by go_num, rfl, by omega, by omega, NX.out, HNJ.out _⟩
                case measure => simp [intOf]; omega
              · have NX := hide (nextB_keep NB.out hB0 (by rw [hvx, hvy]; exact hlt))
                have hd1 : decide (y < x) = false := decide_eq_false hlt
                have hp2 : (p : Int) < (q : Int) + 1 := by omega
                clear hvx hvy hB0 hB1 hB2
                go_wp2
                go_quiet ((go_at_call 41; exact HCL.out _))
                go_wp2
                go_roundw
                case rel => exact ⟨q + 1, p, by omega, by go_num, rfl, by omega, by omega, NX.out, HNJ.out _⟩
                case measure => simp [intOf]; omega
        · have hqe : q = n := by omega
          subst hqe
          obtain ⟨e1, e2, e3, e4⟩ := nextB_end (k := k) (by rw [HL.out]; omega) (by rw [HL.out]; exact NB.out)
          have HP := hide (l00Put_calls A3 k c3 (topZ xs k) B wi HO2.out (by omega) (sortZ_rise _) e3)
          have hwb : Below wo.heap.size wo wi := by obtain ⟨j, hj⟩ := HJ.out; rw [hj]; exact below_drewN (Below.refl _ _) _
          have hwz := hwb.size
          have E4 := hide e4
          clear e1 e2 e3 e4 hqn
          go_wp2_with fail
          refine HP.out.mono ?_
          rintro e w2 ⟨A9, c9, rfl, hown9, hb9⟩
          rw [← E4.out] at hown9
          have HO9 : Hid (w2.ownsRow w.heap.size 2 1 (.slice A9 (k + 1 : Nat) c9) (k + 1) (cI (topZ xs (k + 1)))) := own_mono2 hown9 (show w.heap.size ≤ wi.heap.size by omega)
          have hb10 : Below w.heap.size w w2 := hb.trans ((hwb.mono hbs).trans (hb9.mono (show w.heap.size ≤ wi.heap.size by omega)))
          clear hown9 hb9
          go_wp2
          go_roundw
          case rel => exact ⟨k + 1, c9, A9, by omega, by go_num, HO9.out, hb10⟩
          case measure => simp; omega
    · have hkE : k = F := by omega
      subst hkE
      have ho := HO.out
      go_wp2
      go_ret2
      refine ⟨A3, k, c3, ret_two rfl (congrArg (Value.int .i64) HC.out.symm), ?_, by omega, hb⟩
      rw [HV.out]
      exact FrI.of_own HO.out (hI.out k)

end Go.Proofs.Ytmpfkmbfbeejhaa
