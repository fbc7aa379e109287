/- OddDays of the program and of the reference. -/
import Derived.Test.YtmhmfoeibgdjcaaMedOf
namespace Go.Proofs.Ytmhmfoeibgdjcaa
open Go.RowKit
set_option linter.unusedVariables false

/-- How far from the median; which days are far. -/
def offL (xs : List Int) (m : Int) : List Int := xs.map fun x => absZ (x - m)
theorem offL_len (xs : List Int) (m : Int) : (offL xs m).length = xs.length := by simp [offL]
theorem offL_bd {xs : List Int} {m : Int} (h : ∀ x ∈ xs, 0 ≤ x ∧ x ≤ 1000000) (hm : 0 ≤ m ∧ m ≤ 1000000) : ∀ x ∈ offL xs m, 0 ≤ x ∧ x ≤ 1000000 := by
  intro y hy
  obtain ⟨x, hx, rfl⟩ := List.mem_map.1 hy
  have := h x hx
  unfold absZ
  split <;> omega
theorem offL_snoc {xs : List Int} {m x : Int} {k : Nat} (hx : xs[k]? = some x) : offL (xs.take (k + 1)) m = offL (xs.take k) m ++ [absZ (x - m)] := by
  unfold offL
  rw [take_snoc hx]; simp
def oddZ (os : List Int) (lim : Int) : Nat → List Int
  | 0 => []
  | k + 1 => if lim < os.getD k 0 then oddZ os lim k ++ [(k : Int)] else oddZ os lim k
theorem oddZ_len (os : List Int) (lim : Int) (k : Nat) : (oddZ os lim k).length ≤ k := by
  induction k with
  | zero => simp [oddZ]
  | succ k ih =>
    rw [oddZ]
    split
    · simp; omega
    · omega
theorem oddZ_yes {os : List Int} {lim x : Int} {k : Nat} (hx : os[k]? = some x) (h : lim < x) : oddZ os lim (k + 1) = oddZ os lim k ++ [(k : Int)] := by rw [oddZ, getD_at hx, if_pos h]
theorem oddZ_no {os : List Int} {lim x : Int} {k : Nat} (hx : os[k]? = some x) (h : ¬ lim < x) : oddZ os lim (k + 1) = oddZ os lim k := by rw [oddZ, getD_at hx, if_neg h]
theorem oddZ_bd (os : List Int) (lim : Int) (k : Nat) : ∀ x ∈ oddZ os lim k, 0 ≤ x ∧ x < k := by
  induction k with
  | zero => simp [oddZ]
  | succ k ih =>
    intro x hx
    rw [oddZ] at hx
    split at hx
    · rcases List.mem_append.1 hx with h | h
      · have := ih x h; omega
      · simp only [List.mem_singleton] at h; omega
    · have := ih x hx; omega
def odC (xs : List Int) (f : Int) : Int := keptC xs (withinB f 1 100)
def odV (xs : List Int) (f : Int) : List Int := if odC xs f = 0 then oddZ (offL xs (medZ xs)) (f * medZ (offL xs (medZ xs))) xs.length else []
theorem odV_bad {xs : List Int} {f : Int} (h : odC xs f ≠ 0) : odV xs f = [] := by unfold odV; rw [if_neg h]
theorem odV_ok {xs : List Int} {f : Int} {n : Nat} (hl : xs.length = n) (h : odC xs f = 0) : odV xs f = oddZ (offL xs (medZ xs)) (f * medZ (offL xs (medZ xs))) n := by unfold odV; rw [if_pos h, hl]
theorem lim_bd {f m : Int} (h1 : 1 ≤ f) (h2 : f ≤ 100) (h3 : 0 ≤ m) (h4 : m ≤ 1000000) : 0 ≤ f * m ∧ f * m ≤ 100000000 := by
  refine ⟨Int.mul_nonneg (by omega) h3, ?_⟩
  have := Int.mul_le_mul h2 h4 h3 (by omega)
  omega

theorem l00Max_calls (x m : Int) (w : World) (hx : 0 ≤ x ∧ x ≤ 1000000) (hm : 0 ≤ m ∧ m ≤ 1000000) :
    Calls Try.prog 68 #[.int .i64 (x - m), .int .i64 (m - x)] w fun e w' => e = .returned (.int .i64 (absZ (x - m))) ∧ w = w' := by
  by_cases h : m - x < x - m
  · go_enter Try.func68, Try.ntmps68
    go_wp2
    go_ret
    exact ⟨ret_int (by unfold absZ; rw [if_neg (by omega)]), rfl⟩
  · go_enter Try.func68, Try.ntmps68
    go_wp2
    go_ret
    exact ⟨ret_int (by unfold absZ; split <;> omega), rfl⟩

set_option maxRecDepth 100000 in
set_option maxHeartbeats 4000000 in
theorem specOddDays_calls (A : Option Addr) (n c : Nat) (xs : List Int) (f : Int) (w : World) (h : RdI w A n xs) (hf : I64 f) (hn : n ≤ 1048576) :
    Calls Try.prog 31 #[.slice A n c, .int .i64 f] w fun e w' => ∃ A' n' c', e = .returned (.tuple #[.slice A' n' c', .int .i64 (odC xs f)]) ∧ FrI w' w.heap.size w'.heap.size 2 A' n' (odV xs f) ∧ n' ≤ 1048576 ∧ Below w.heap.size w w' := by
  have HL := hide h.len
  have HX := hide h.2
  rcases b_cases (okSer xs) with hok | hok
  · have HC : Hid (odC xs f = 1) := by unfold Hid odC keptC; rw [hok]; rfl
    go_enter Try.func31, Try.ntmps31
    go_wp2_with fail
    refine (l26Ok_calls _ _ _ _ _ h hn).mono ?_
    rintro e w' ⟨rfl, rfl⟩
    rw [hok]
    go_wp2
    go_ret2
    refine ⟨none, 0, 0, ret_two rfl (congrArg (Value.int .i64) HC.out.symm), ?_, by omega, Below.refl _ _⟩
    rw [odV_bad (by rw [HC.out]; omega)]
    exact FrI.nil
  rcases b_cases (withinB f 1 100) with hwi | hwi
  · have HC : Hid (odC xs f = 2) := by unfold Hid odC keptC; rw [hok, hwi]; rfl
    go_enter Try.func31, Try.ntmps31
    go_wp2_with fail
    refine (l26Ok_calls _ _ _ _ _ h hn).mono ?_
    rintro e w' ⟨rfl, rfl⟩
    rw [hok]
    go_wp2_with fail
    refine (l00In_calls _ _ _ _).mono ?_
    rintro e w' ⟨rfl, rfl⟩
    rw [hwi]
    go_wp2
    go_ret2
    refine ⟨none, 0, 0, ret_two rfl (congrArg (Value.int .i64) HC.out.symm), ?_, by omega, Below.refl _ _⟩
    rw [odV_bad (by rw [HC.out]; omega)]
    exact FrI.nil
  have HC : Hid (odC xs f = 0) := by unfold Hid odC keptC; rw [hok, hwi]; rfl
  have HV := hide (odV_ok HL.out HC.out)
  obtain ⟨h1, h60⟩ := ok_len hok
  rw [HL.out] at h1 h60
  obtain ⟨f1, f2⟩ := withinB_iff.1 hwi
  have hall := hide (ok_mem hok)
  have hmd := medZ_bd (ok_mem hok)
  have hob := hide (offL_bd (ok_mem hok) hmd)
  have hmo := medZ_bd hob.out
  obtain ⟨l1, l2⟩ := lim_bd f1 f2 hmo.1 hmo.2
  have HOK := hide hok
  have HWI := hide hwi
  clear hok hwi
  generalize hmg : medZ xs = md at *
  generalize hmo2 : medZ (offL xs md) = mo at *
  have HMG := hide hmg
  have HMO := hide hmo2
  clear hmg hmo2
  go_enter Try.func31, Try.ntmps31
  go_wp2_with fail
  refine (l26Ok_calls _ _ _ _ _ h hn).mono ?_
  rintro e w' ⟨rfl, rfl⟩
  rw [HOK.out]
  go_wp2_with fail
  refine (l00In_calls _ _ _ _).mono ?_
  rintro e w' ⟨rfl, rfl⟩
  rw [HWI.out]
  go_wp2_with fail
  refine (l26Median_calls _ _ _ _ _ h h60 h1 hall.out).mono ?_
  rintro e w1 ⟨rfl, hb1⟩
  rw [HMG.out]
  have hin0 := World.ownsRow_lit (base := w1.heap.size) (e := 2) (size := 1) w1 #[] 0 (Nat.le_refl _) (by simp) rfl
  go_wp2_with fail
  go_loopw [7, 8] (fun v i wr => ∃ k : Nat, k ≤ n ∧ i = .int .i64 k ∧ wr.ownsRow w1.heap.size 2 1 v k (cI (offL (xs.take k) md)) ∧ Below w1.heap.size w1 wr) (fun _ i _ => n - (intOf i).toNat)
  case atStart => exact ⟨0, by omega, rfl, by simpa [cI, offL] using hin0, (Below.refl _ _).alloc (Nat.le_refl _) _⟩
  case round =>
    clear hin0
    obtain ⟨k, hk, rfl, hown, hb⟩ := hrel
    have HO := hide hown
    clear hown
    have hbs := hb.size
    by_cases hlt : k < n
    · obtain ⟨b, off, x, rfl, hbl, hx, hc, hx1, hx2⟩ := (h.below hb1 (Nat.le_refl _)).at hlt
      have bx := hall.out x (List.mem_of_getElem? hx.out)
      have HE := hide (offL_snoc (m := md) hx.out)
      have hc2 := (hb.cell (p := ⟨b, off + k, none⟩) hbl).trans hc
      have e1 : IntKind.i64.wrap (x - md) = x - md := IntWalk.i64_in _ (by omega)
      have e2 : IntKind.i64.wrap (md - x) = md - x := IntWalk.i64_in _ (by omega)
      have i1 : (0 : Int) ≤ (k : Int) := by omega
      have i2 : (k : Int) < (n : Int) := by omega
      have HSa : Hid (∀ W, Below w1.heap.size wr W → W.cell? ⟨b, off + k, none⟩ = some (.int .i64 x)) := fun W hW => (hW.cell (p := ⟨b, off + k, none⟩) hbl).trans hc2
      obtain ⟨i0, hi0, hz0, hz1, hz2⟩ := info_parts Try.info2
      have HI := hide (And.intro hi0 (And.intro hz0 (And.intro hz1 hz2)))
      clear hi0 hz0 hz1 hz2 hc hc2
      go_wp2
      go_region_held3 (fun W => W.cell? ⟨b, off + k, none⟩ = some (.int .i64 x))
        (first | exact HSa.out _ (Below.refl _ _) | exact HSa.out _ (Below.refl _ _).drew | exact HSa.out _ (((Below.refl _ _).drew).alloc (by simpa using hbs) _) | exact HSa.out _ hk4)
        (first
          | (go_at_call 68; refine (l00Max_calls x md _ bx hmd).mono ?_; rintro e w3 ⟨rfl, rfl⟩)
          | (refine step_append_lies _ (by rfl) _ _ _ (by rfl) w1.heap.size 2 i0 _ 1 8 Try.underlying22 HI.out.1 HI.out.2.1 HI.out.2.2.1 HI.out.2.2.2 rfl (by omega) u7 k (cI (offL (xs.take k) md)) (by rfl) ((own_drewN HO.out 1).alloc _)
              ⟨wr.heap.size, 0, none⟩ 1 1 [.int .i64 (absZ (x - md))] (by rfl) (by rfl) (World.news_of_block (cs := #[.int .i64 (absZ (x - md))]) (t := 2) (fr := (0, 0)) (heap_alloc_new wr.drew _)) (by simp [Value.oneCell'])
              (by omega) (by unfold maxLen; omega) (by omega) (by simp; omega) (wr.heap.size + 1) (by simp) ?_; intro gg cap w4 hown4 hgrow hat hlt4; have hk4 : Below w1.heap.size wr w4 := (((Below.refl _ wr).drew).alloc (by simpa using hbs) _).grown hgrow (by simp; omega) (fun g hg => (HO.out.lt g hg).1)))
      all_goals go_wp2
      all_goals go_roundw
      case rel =>
        refine ⟨k + 1, by omega, by go_num, ?_, hb.trans hk4⟩
        rw [HE.out]
        simpa [cI] using hown4
      case measure => simp [intOf]; omega
    have hkn : k = n := by omega
    subst hkn
    have HEX : Hid (xs.take k = xs) := List.take_of_length_le (by rw [HL.out]; omega)
    have ho := HO.out
    rw [HEX.out] at ho
    obtain ⟨g, co, rfl⟩ := own_addr ho h1
    have hro : RdI wr (some ⟨g, 0, none⟩) k (offL xs md) := RdI.of_own ho (fun y hy => by have := hob.out y hy; unfold I64; omega)
    clear ho
    go_wp2_with fail
    refine (l26Median_calls _ _ _ _ _ hro h60 h1 hob.out).mono ?_
    rintro e w2 ⟨rfl, hb2⟩
    rw [HMO.out]
    have hro2 := hro.below hb2 (Nat.le_refl _)
    clear hro
    have hB2 : Below w.heap.size w w2 := hb1.trans ((hb.mono hb1.size).trans (hb2.mono (Nat.le_trans hb1.size hbs)))
    have hs2 := hB2.size
    have hin0 := World.ownsRow_lit (base := w2.heap.size) (e := 2) (size := 1) w2 #[] 0 (Nat.le_refl _) (by simp) rfl
    go_wp2_with fail
    go_loopw [10, 11] (fun v i wx => ∃ (q m : Nat), q ≤ k ∧ i = .int .i64 q ∧ m = (oddZ (offL xs md) (f * mo) q).length ∧ wx.ownsRow w2.heap.size 2 1 v m (cI (oddZ (offL xs md) (f * mo) q)) ∧ Below w2.heap.size w2 wx) (fun _ i _ => k - (intOf i).toNat)
    case atStart => exact ⟨0, 0, by omega, rfl, rfl, by simpa [cI, oddZ] using hin0, (Below.refl _ _).alloc (Nat.le_refl _) _⟩
    case round =>
      clear hin0
      obtain ⟨q, m, hq, rfl, hm, hown, hbx⟩ := hrel
      have HM := hide hm
      have HI := hide hown
      have hml : m ≤ q := by rw [hm]; exact oddZ_len _ _ _
      clear hm hown
      have hbxs := hbx.size
      by_cases hqk : q < k
      · obtain ⟨b2, off2, x2, hA2, hbl2, hx2, hc2, hx12, hx22⟩ := (hro2.below hbx (Nat.le_refl _)).at hqk
        obtain ⟨rfl, rfl⟩ : g = b2 ∧ 0 = off2 := by simpa using hA2
        clear hA2
        rw [Nat.zero_add] at hc2
        by_cases hgt : f * mo < x2
        · have HE := hide (oddZ_yes hx2.out hgt)
          go_wp2_with (at_builtin; refine appI rfl _ _ rfl w2.heap.size u10 m (oddZ (offL xs md) (f * mo) q) q rfl HI.out rfl (by omega) (by omega) ?_; intro v4 w4 hown4 hb4 hz4)
          go_roundw
          case rel => exact ⟨q + 1, m + 1, by omega, by go_num, by rw [HE.out, HM.out]; simp, by rw [HE.out]; exact hown4, hbx.trans hb4⟩
          case measure => simp [intOf]; omega
        · have HE := hide (oddZ_no hx2.out hgt)
          go_wp2
          go_roundw
          case rel => exact ⟨q + 1, m, by omega, by go_num, by rw [HE.out]; exact HM.out, by rw [HE.out]; exact HI.out, hbx⟩
          case measure => simp [intOf]; omega
      have hqe : q = k := by omega
      have HQE := hide hqe
      clear hqe
      obtain ⟨A9, c9, hv⟩ := own_slice HI.out
      have HV9 := hide hv
      clear hv
      go_wp2
      go_ret2
      refine ⟨A9, m, c9, ret_two HV9.out (congrArg (Value.int .i64) HC.out.symm), ?_, by omega, hB2.trans (hbx.mono hs2)⟩
      have ho := own_mono2 HI.out hs2
      rw [HV9.out, HQE.out] at ho
      rw [HV.out]
      exact FrI.of_own ho (fun x hx => by have := oddZ_bd _ _ _ x hx; unfold I64; omega)

set_option maxRecDepth 100000 in
set_option maxHeartbeats 4000000 in
theorem implOddDays_calls (A : Option Addr) (n c : Nat) (xs : List Int) (f : Int) (w : World) (h : RdI w A n xs) (hf : I64 f) (hn : n ≤ 1048576) :
    Calls Try.prog 32 #[.slice A n c, .int .i64 f] w fun e w' => ∃ A' n' c', e = .returned (.tuple #[.slice A' n' c', .int .i64 (odC xs f)]) ∧ FrI w' w.heap.size w'.heap.size 2 A' n' (odV xs f) ∧ n' ≤ 1048576 ∧ Below w.heap.size w w' := by
  have HL := hide h.len
  have HX := hide h.2
  by_cases hk : odC xs f = 0
  case neg =>
    have HC : Hid (odC xs f = keptC xs (withinB f 1 100)) := rfl
    have e0 : (keptC xs (withinB f 1 100) != 0) = true := by simpa [odC] using hk
    have HK := hide hk
    clear hk
    go_enter Try.func32, Try.ntmps32
    go_wp2_with fail
    refine (within_calls _ _ _ _).mono ?_
    rintro e w' ⟨rfl, rfl⟩
    go_wp2_with fail
    refine (kept_calls _ _ _ _ _ _ h hn).mono ?_
    rintro e w' ⟨rfl, rfl⟩
    go_wp2
    go_ret2
    refine ⟨none, 0, 0, ret_two rfl (congrArg (Value.int .i64) HC.out.symm), ?_, by omega, Below.refl _ _⟩
    rw [odV_bad HK.out]
    exact FrI.nil
  obtain ⟨hok, hwi⟩ : okSer xs = true ∧ withinB f 1 100 = true := by
    rcases kept_cases xs (withinB f 1 100) with ⟨_, h3⟩ | ⟨_, _, h3⟩ | ⟨h1, h2, _⟩
    · unfold odC at hk; omega
    · unfold odC at hk; omega
    · exact ⟨h1, h2⟩
  clear hk
  have HC : Hid (odC xs f = 0) := by unfold Hid odC keptC; rw [hok, hwi]; rfl
  have HV := hide (odV_ok HL.out HC.out)
  obtain ⟨h1, h60⟩ := ok_len hok
  rw [HL.out] at h1 h60
  obtain ⟨f1, f2⟩ := withinB_iff.1 hwi
  have hall := hide (ok_mem hok)
  have hmd := medZ_bd (ok_mem hok)
  have hob := hide (offL_bd (ok_mem hok) hmd)
  have hmo := medZ_bd hob.out
  obtain ⟨l1, l2⟩ := lim_bd f1 f2 hmo.1 hmo.2
  have HOK := hide hok
  have HWI := hide hwi
  clear hok hwi
  generalize hmg : medZ xs = md at *
  generalize hmo2 : medZ (offL xs md) = mo at *
  have HMG := hide hmg
  have HMO := hide hmo2
  clear hmg hmo2
  go_enter Try.func32, Try.ntmps32
  have e0 : keptC xs true = 0 := by unfold keptC; rw [HOK.out]; rfl
  go_wp2_with fail
  refine (within_calls _ _ _ _).mono ?_
  rintro e w' ⟨rfl, rfl⟩
  rw [HWI.out]
  go_wp2_with fail
  refine (kept_calls _ _ _ _ _ _ h hn).mono ?_
  rintro e w' ⟨rfl, rfl⟩
  rw [e0]
  go_wp2_with fail
  refine (median_calls _ _ _ _ _ h h60 h1 hall.out).mono ?_
  rintro e w1 ⟨rfl, hb1⟩
  rw [HMG.out]
  go_wp2_with fail
  go_loopw [8, 26] (fun v i wr => ∃ k : Nat, k ≤ n ∧ i = .int .i64 k ∧ wr.ownsRow w1.heap.size 2 1 v k (cI (offL (xs.take k) md)) ∧ Below w1.heap.size w1 wr) (fun _ i _ => n - (intOf i).toNat)
  case atStart => exact ⟨0, by omega, rfl, by simpa [cI, offL] using World.ownsRow_nil w1 w1.heap.size 2 1, Below.refl _ _⟩
  case round =>
    obtain ⟨k, hk, rfl, hown, hb⟩ := hrel
    have HO := hide hown
    clear hown
    have hbs := hb.size
    by_cases hlt : k < n
    · obtain ⟨b, off, x, rfl, hbl, hx, hc, hx1, hx2⟩ := (h.below hb1 (Nat.le_refl _)).at hlt
      have bx := hall.out x (List.mem_of_getElem? hx.out)
      have HE := hide (offL_snoc (m := md) hx.out)
      have hc2 := (hb.cell (p := ⟨b, off + k, none⟩) hbl).trans hc
      go_wp2_with fail
      refine (abs_calls _ _ (by omega) (by omega)).mono ?_
      rintro e w' ⟨rfl, rfl⟩
      go_wp2_with (at_builtin; refine appI rfl _ _ rfl w1.heap.size u8 k (offL (xs.take k) md) (absZ (x - md)) rfl HO.out rfl (by omega) (by omega) ?_; intro v4 w4 hown4 hb4 hz4)
      go_roundw
      case rel => exact ⟨k + 1, by omega, by go_num, by rw [HE.out]; exact hown4, hb.trans hb4⟩
      case measure => simp [intOf]; omega
    have hkn : k = n := by omega
    subst hkn
    have HEX : Hid (xs.take k = xs) := List.take_of_length_le (by rw [HL.out]; omega)
    have ho := HO.out
    rw [HEX.out] at ho
    obtain ⟨g, co, rfl⟩ := own_addr ho h1
    have hro : RdI wr (some ⟨g, 0, none⟩) k (offL xs md) := RdI.of_own ho (fun y hy => by have := hob.out y hy; unfold I64; omega)
    clear ho
    go_wp2_with fail
    refine (median_calls _ _ _ _ _ hro h60 h1 hob.out).mono ?_
    rintro e w2 ⟨rfl, hb2⟩
    rw [HMO.out]
    have hro2 := hro.below hb2 (Nat.le_refl _)
    clear hro
    have hB2 : Below w.heap.size w w2 := hb1.trans ((hb.mono hb1.size).trans (hb2.mono (Nat.le_trans hb1.size hbs)))
    have hs2 := hB2.size
    go_wp2_with fail
    go_loopw [9, 44] (fun v i wx => ∃ (q m : Nat), q ≤ k ∧ i = .int .i64 q ∧ m = (oddZ (offL xs md) (f * mo) q).length ∧ wx.ownsRow w2.heap.size 2 1 v m (cI (oddZ (offL xs md) (f * mo) q)) ∧ Below w2.heap.size w2 wx) (fun _ i _ => k - (intOf i).toNat)
    case atStart => exact ⟨0, 0, by omega, rfl, rfl, by simpa [cI, oddZ] using World.ownsRow_nil w2 w2.heap.size 2 1, Below.refl _ _⟩
    case round =>
      obtain ⟨q, m, hq, rfl, hm, hown, hbx⟩ := hrel
      have HM := hide hm
      have HI := hide hown
      have hml : m ≤ q := by rw [hm]; exact oddZ_len _ _ _
      clear hm hown
      have hbxs := hbx.size
      by_cases hqk : q < k
      · obtain ⟨b2, off2, x2, hA2, hbl2, hx2, hc2, hx12, hx22⟩ := (hro2.below hbx (Nat.le_refl _)).at hqk
        obtain ⟨rfl, rfl⟩ : g = b2 ∧ 0 = off2 := by simpa using hA2
        clear hA2
        rw [Nat.zero_add] at hc2
        by_cases hgt : f * mo < x2
        · have HE := hide (oddZ_yes hx2.out hgt)
          go_wp2_with (at_builtin; refine appI rfl _ _ rfl w2.heap.size u9 m (oddZ (offL xs md) (f * mo) q) q rfl HI.out rfl (by omega) (by omega) ?_; intro v4 w4 hown4 hb4 hz4)
          go_roundw
          case rel => exact ⟨q + 1, m + 1, by omega, by go_num, by rw [HE.out, HM.out]; simp, by rw [HE.out]; exact hown4, hbx.trans hb4⟩
          case measure => simp [intOf]; omega
        · have HE := hide (oddZ_no hx2.out hgt)
          go_wp2
          go_roundw
          case rel => exact ⟨q + 1, m, by omega, by go_num, by rw [HE.out]; exact HM.out, by rw [HE.out]; exact HI.out, hbx⟩
          case measure => simp [intOf]; omega
      have hqe : q = k := by omega
      have HQE := hide hqe
      clear hqe
      obtain ⟨A9, c9, hv⟩ := own_slice HI.out
      have HV9 := hide hv
      clear hv
      go_wp2
      go_ret2
      refine ⟨A9, m, c9, ret_two HV9.out (congrArg (Value.int .i64) HC.out.symm), ?_, by omega, hB2.trans (hbx.mono hs2)⟩
      have ho := own_mono2 HI.out hs2
      rw [HV9.out, HQE.out] at ho
      rw [HV.out]
      exact FrI.of_own ho (fun x hx => by have := oddZ_bd _ _ _ x hx; unfold I64; omega)

end Go.Proofs.Ytmhmfoeibgdjcaa
