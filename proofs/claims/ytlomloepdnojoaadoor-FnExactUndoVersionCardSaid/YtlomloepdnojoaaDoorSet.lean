/- Contracts on settings and states (lists of settings): the laws' helpers, SameState of the program and of the reference. -/
import Derived.Test.YtlomloepdnojoaaDoorRows
import Derived.Test.YtlomloepdnojoaaDoorBase
import Derived.Deep.RegionHeld3
namespace Go.Proofs.YtlomloepdnojoaaDoor
open Go.RowKit
set_option linter.unusedVariables false

/-- A setting. -/
structure SetZ where
  name : ByteArray
  value : Int
instance : DecidableEq SetZ := fun a b => decidable_of_iff (a.name = b.name ∧ a.value = b.value) (by cases a; cases b; simp)
def cS (s : SetZ) : List Value := [.string s.name, .int .i64 s.value]
def SetZ.fine (s : SetZ) : Prop := s.name.size ≤ 9223372036854775807 ∧ I64 s.value
/-- A slice of settings that reads as ss. -/
def RdS (w : World) (A : Option Addr) (n : Nat) (ss : List SetZ) : Prop := Rd w A n 2 (ss.map cS).flatten ∧ ss.length = n ∧ ∀ s ∈ ss, s.fine

section
variable {w w' : World} {A : Option Addr} {n : Nat} {ss : List SetZ}
theorem cS_len {ss : List SetZ} : ∀ x ∈ ss.map cS, x.length = 2 := by
  intro x hx
  obtain ⟨s, _, rfl⟩ := List.mem_map.1 hx
  rfl
theorem RdS.below {B : Nat} (h : RdS w A n ss) (hb : Below B w w') (hB : w.heap.size ≤ B) : RdS w' A n ss := ⟨h.1.below hb hB, h.2⟩
theorem RdS.at {k : Nat} (h : RdS w A n ss) (hk : k < n) :
    ∃ b off s v, A = some ⟨b, off, none⟩ ∧ b < w.heap.size ∧ Hid (ss[k]? = some ⟨s, v⟩) ∧ w.cell? ⟨b, off + k * 2, none⟩ = some (.string s) ∧ w.cell? ⟨b, off + k * 2 + 1, none⟩ = some (.int .i64 v) ∧ s.size ≤ 9223372036854775807 ∧ -9223372036854775808 ≤ v ∧ v ≤ 9223372036854775807 := by
  obtain ⟨b, off, r, e, hb, hr, hc⟩ := h.1.row cS_len hk (by rw [List.length_map, h.2.1])
  have hkl : k < ss.length := by rw [h.2.1]; exact hk
  have hx := List.getElem?_eq_getElem hkl
  rw [List.getElem?_map, hx] at hr
  simp only [Option.map_some, Option.some.injEq] at hr
  subst hr
  have hf := h.2.2 _ (List.getElem_mem hkl)
  exact ⟨b, off, _, _, e, hb, hx, hc 0 _ rfl, hc 1 _ rfl, hf.1, hf.2.1, hf.2.2⟩
end

set_option maxHeartbeats 400000 in
theorem szSetting_calls (s : ByteArray) (v l : Int) (w : World) (h0 : 0 ≤ l) (h1 : l ≤ 1048576) (hs : s.size ≤ 9223372036854775807) :
    Calls Tryd.prog 146 #[.agg #[.string s, .int .i64 v], .int .i64 l] w (SzPost l ((s.size : Int) ≤ l) w) := by
  by_cases c1 : l - s.size < 0
  · go_enter Tryd.func146, Tryd.ntmps146
    go_wp2
    go_ret
    exact ⟨-1, rfl, by omega, by omega, by omega, (Below.refl _ _).alloc (Nat.le_refl _) _⟩
  · go_enter Tryd.func146, Tryd.ntmps146
    go_wp2
    go_ret
    exact ⟨_, rfl, by omega, by omega, by omega, (Below.refl _ _).alloc (Nat.le_refl _) _⟩

set_option maxHeartbeats 400000 in
theorem toSetting_calls (s : ByteArray) (v : Int) (w : World) :
    Calls Tryd.prog 148 #[.agg #[.string s, .int .i64 v]] w fun e w' => e = .returned (.agg #[.string s, .int .i64 v]) ∧ Below w.heap.size w w' := by
  go_enter Tryd.func148, Tryd.ntmps148
  go_wp2
  refine bodyPost_ret (v := .agg #[.string s, .int .i64 v]) (by simp [results, Tryd.results148, go_sem]) rfl ⟨rfl, ?_⟩
  exact (((Below.refl _ _).alloc (Nat.le_refl _) _).alloc (by simp) _).alloc (by simp; omega) _

/-- Are two settings alike? -/
def eqSB (s : ByteArray) (v : Int) (s' : ByteArray) (v' : Int) : Bool := decide (s = s') && decide (v = v')
set_option maxHeartbeats 1000000 in
theorem eqSetting_calls (s s' : ByteArray) (v v' : Int) (w : World) :
    Calls Tryd.prog 151 #[.agg #[.string s, .int .i64 v], .agg #[.string s', .int .i64 v']] w fun e w' => e = .returned (.bool (eqSB s v s' v')) ∧ Below w.heap.size w w' := by
  have B := hide (((Below.refl w.heap.size w).alloc (Nat.le_refl _) (.cells #[.string s, .int .i64 v] 108)).alloc (by simp) (.cells #[.string s', .int .i64 v'] 108))
  have hfin : Hid (eqSB s v s' v' = (decide (s = s') && decide (v = v'))) := rfl
  by_cases c1 : s = s'
  · obtain ⟨e1, e1'⟩ := str_eq c1
    by_cases c2 : v = v'
    · subst c1
      subst c2
      clear e1 e1'
      go_enter Tryd.func151, Tryd.ntmps151
      go_wp2
      go_ret
      exact ⟨ret_bool (by rw [hfin.out]; simp), B.out⟩
    · have e2 : (v == v') = false := by simpa using c2
      have e2' : (v != v') = true := by simpa using c2
      have C1 := hide c1
      clear c1
      go_enter Tryd.func151, Tryd.ntmps151
      go_wp2
      go_ret
      exact ⟨ret_bool (by rw [hfin.out]; simp [c2]), B.out⟩
  · obtain ⟨e1, e1'⟩ := str_ne c1
    go_enter Tryd.func151, Tryd.ntmps151
    go_wp2
    go_ret
    exact ⟨ret_bool (by rw [hfin.out]; simp [c1]), B.out⟩

set_option maxHeartbeats 1000000 in
theorem szSettingS_calls (A : Option Addr) (n c : Nat) (ss : List SetZ) (l : Int) (w : World) (h : RdS w A n ss) (h0 : 0 ≤ l) (h1 : l ≤ 1048576) (hn : n ≤ 9223372036854775807) :
    Calls Tryd.prog 102 #[.slice A n c, .int .i64 l] w (SzPost l ((n : Int) ≤ l ∧ ∀ s ∈ ss, (s.name.size : Int) ≤ l) w) := by
  have HL := hide h.2.1
  by_cases c1 : l - n < 0
  · go_enter Tryd.func102, Tryd.ntmps102
    go_wp2
    go_ret
    exact ⟨-1, rfl, by omega, by omega, by omega, Below.refl _ _⟩
  · go_enter Tryd.func102, Tryd.ntmps102
    go_wp2
    go_loopw [1, 5] (fun l' i wr => ∃ (k : Nat) (q : Int), k ≤ n ∧ i = .int .i64 k ∧ l' = .int .i64 q ∧ 0 ≤ q ∧ q ≤ l ∧ Below w.heap.size w wr ∧ Hid (∀ s ∈ ss.take k, (s.name.size : Int) ≤ l)) (fun _ i _ => n - (intOf i).toNat)
    case atStart => exact ⟨0, l - n, by omega, rfl, rfl, by omega, by omega, Below.refl _ _, by simp [Hid]⟩
    case round =>
      obtain ⟨k, q, hk, rfl, rfl, hq1, hq2, hb, hall⟩ := hrel
      by_cases hlt : k < n
      · obtain ⟨b, off, s, v, rfl, hbl, hx, hc, hc2, hs1, hv1, hv2⟩ := (h.below hb (Nat.le_refl _)).at hlt
        go_wp2_with fail
        refine (szSetting_calls _ _ _ _ hq1 (by omega) hs1).mono ?_
        rintro e w1 ⟨r, rfl, hr1, hr2, hr3, hb1⟩
        by_cases hneg : r < 0
        · go_wp2
          go_ret
          exact ⟨-1, rfl, by omega, by omega, by omega, hb.trans (hb1.mono hb.size)⟩
        · have HA : Hid (∀ s ∈ ss.take (k + 1), (s.name.size : Int) ≤ l) := by
            unfold Hid
            rw [take_snoc hx.out]
            intro y hy
            rcases List.mem_append.1 hy with hy | hy
            · exact hall.out y hy
            · simp at hy
              subst hy
              have := hr3 (by omega)
              simp only
              omega
          clear hr3
          go_wp2
          go_roundw
          case rel => exact ⟨k + 1, r, by omega, by go_num, rfl, by omega, by omega, hb.trans (hb1.mono hb.size), HA⟩
          case measure => simp [intOf]; omega
      · have hkn : k = n := by omega
        have HK := hide hkn
        clear hkn
        go_wp2
        go_ret
        refine ⟨q, rfl, by omega, by omega, fun _ => ⟨by omega, ?_⟩, hb⟩
        have := hall.out
        rwa [List.take_of_length_le (by rw [HL.out, HK.out]; omega)] at this

theorem Tryd.infoSetting : (Tryd.prog.info? 108).map (fun i => (i.zero, i.size, i.bytes)) = some (some (.agg #[.string ⟨#[]⟩, .int .i64 0]), 2, 24) := by kernel_rfl

theorem flat_take_snoc {ss : List SetZ} {k : Nat} {s : SetZ} (h : ss[k]? = some s) : ((ss.take (k + 1)).map cS).flatten = ((ss.take k).map cS).flatten ++ [.string s.name, .int .i64 s.value] := by
  rw [take_snoc h]; simp [cS]

set_option maxHeartbeats 1000000 in
theorem toSettingS_calls (A : Option Addr) (n c : Nat) (ss : List SetZ) (w : World) (h : RdS w A n ss) (hn : n ≤ 1048576) :
    Calls Tryd.prog 107 #[.slice A n c] w fun e w' => ∃ A' c', e = .returned (.slice A' n c') ∧ w'.ownsRow w.heap.size 108 2 (.slice A' n c') n (ss.map cS).flatten ∧ Below w.heap.size w w' := by
  obtain ⟨i0, hi, hz0, hz1, hz2⟩ := info_parts Tryd.infoSetting
  have HL := hide h.2.1
  go_enter Tryd.func107, Tryd.ntmps107
  go_wp2_with (refine wpList_make_full _ rfl _ _ 58 rfl w.heap.size 108 i0 (.agg #[.string ⟨#[]⟩, .int .i64 0]) 2 Tryd.underlying58 hi hz0 hz1 .i64 .i64 _ _ n rfl rfl rfl rfl (by rw [hz2]; omega) (by unfold maxLen; omega) (Nat.le_refl _) ?_; intro w1 hown1 hgr1)
  have hb1 : Below w.heap.size w w1 := (Below.refl _ _).grown hgr1 (Nat.le_refl _) (fun k hk => by cases hk)
  go_loopw [4] (fun i wr => ∃ (k : Nat) (cur : List Value), k ≤ n ∧ i = .int .i64 k ∧ wr.ownsRow w.heap.size 108 2 (.slice (some ⟨w.heap.size, 0, none⟩) n n) n cur ∧ Hid (cur.take (k * 2) = ((ss.take k).map cS).flatten) ∧ Below w.heap.size w wr) (fun i _ => n - (intOf i).toNat)
  case atStart => exact ⟨0, _, Nat.zero_le _, rfl, hown1, by simp [Hid], hb1⟩
  case round =>
    obtain ⟨k, cur, hk, rfl, hown, HC, hb⟩ := hrel
    have HO := hide hown
    clear hown1
    by_cases hlt : k < n
    · obtain ⟨b, off, s, v, rfl, hbl, hx, hc, hc2, hs1, hv1, hv2⟩ := (h.below hb (Nat.le_refl _)).at hlt
      clear hown
      go_wp2_with fail
      refine (toSetting_calls _ _ _).mono ?_
      rintro e w2 ⟨rfl, hb2⟩
      have ho2 := own_below HO.out hb2 (Nat.le_refl _)
      obtain ⟨v0, q1, q2, hst⟩ := own_store (k := k * 2) ho2 (by omega)
      obtain ⟨v1, q3, q4, _⟩ := own_store (k := k * 2 + 1) ho2 (by omega)
      obtain ⟨_, _, _, hst2⟩ := own_store (k := k * 2 + 1) (hst.out (.string s)) (by omega)
      clear ho2
      go_wp2
      go_roundw
      case rel =>
        refine ⟨k + 1, _, by omega, by go_num, hst2.out (.int .i64 v), ?_, ((hb.trans (hb2.mono hb.size)).setCell (by simp) _).setCell (by simp) _⟩
        unfold Hid
        rw [take_set_snoc2 (by rw [HO.out.1]; omega), HC.out, flat_take_snoc hx.out]
      case measure => simp [intOf]; omega
    · have hkn : k = n := by omega
      subst hkn
      clear hown
      go_wp2
      go_ret
      refine ⟨_, _, rfl, ?_, hb⟩
      have h1 := HC.out
      rw [List.take_of_length_le (by rw [HO.out.1]; omega), List.take_of_length_le (by rw [HL.out]; omega)] at h1
      rw [← h1]
      exact HO.out

theorem RdS.of_own {w : World} {A : Option Addr} {n c base : Nat} {e : TypeId} {ss : List SetZ} (h : w.ownsRow base e 2 (.slice A n c) n (ss.map cS).flatten) (hl : ss.length = n) (hx : ∀ s ∈ ss, s.fine) : RdS w A n ss := ⟨Rd.of_own h, hl, hx⟩

/-- Are two states alike? -/
def sameS (ss ts : List SetZ) : Bool := decide (ss = ts)
theorem eqSB_iff {s s' : ByteArray} {v v' : Int} : eqSB s v s' v' = true ↔ (⟨s, v⟩ : SetZ) = ⟨s', v'⟩ := by
  simp [eqSB]
theorem eqSB_not {s s' : ByteArray} {v v' : Int} : eqSB s v s' v' = false ↔ (⟨s, v⟩ : SetZ) ≠ ⟨s', v'⟩ := by
  rw [← Bool.not_eq_true, eqSB_iff]

set_option maxHeartbeats 1000000 in
theorem eqSettingS_calls (A A' : Option Addr) (n n' c c' : Nat) (ss ts : List SetZ) (w : World) (h : RdS w A n ss) (h' : RdS w A' n' ts) (hn : n ≤ 1048576) (hn' : n' ≤ 1048576) :
    Calls Tryd.prog 112 #[.slice A n c, .slice A' n' c'] w fun e w' => e = .returned (.bool (decide (ss = ts))) ∧ Below w.heap.size w w' := by
  have HL := hide h.2.1
  have HL' := hide h'.2.1
  by_cases hnn : n = n'
  · subst hnn
    go_enter Tryd.func112, Tryd.ntmps112
    go_wp2
    go_loopw [5] (fun i wr => ∃ (k : Nat), k ≤ n ∧ i = .int .i64 k ∧ Hid (ss.take k = ts.take k) ∧ Below w.heap.size w wr) (fun i _ => n - (intOf i).toNat)
    case atStart => exact ⟨0, Nat.zero_le _, rfl, by simp [Hid], Below.refl _ _⟩
    case round =>
      obtain ⟨k, hk, rfl, HC, hb⟩ := hrel
      by_cases hlt : k < n
      · obtain ⟨b, off, s, v, rfl, hbl, hx, hc, hc2, hs1, hv1, hv2⟩ := (h.below hb (Nat.le_refl _)).at hlt
        obtain ⟨b', off', s', v', rfl, hbl', hy, hc', hc2', hs1', hv1', hv2'⟩ := (h'.below hb (Nat.le_refl _)).at hlt
        cases he : eqSB s v s' v'
        · go_wp2
          go_region_held3 (fun w' => w'.cell? ⟨b, off + k * 2, none⟩ = some (.string s) ∧ w'.cell? ⟨b, off + k * 2 + 1, none⟩ = some (.int .i64 v) ∧ w'.cell? ⟨b', off' + k * 2, none⟩ = some (.string s') ∧ w'.cell? ⟨b', off' + k * 2 + 1, none⟩ = some (.int .i64 v'))
            (first | exact ⟨hc, hc2, hc', hc2'⟩ | exact ⟨(hb3.cell (p := ⟨b, off + k * 2, none⟩) hbl).trans hc, (hb3.cell (p := ⟨b, off + k * 2 + 1, none⟩) hbl).trans hc2, (hb3.cell (p := ⟨b', off' + k * 2, none⟩) hbl').trans hc', (hb3.cell (p := ⟨b', off' + k * 2 + 1, none⟩) hbl').trans hc2'⟩)
            (first | (go_at_call 151; refine (eqSetting_calls _ _ _ _ _).mono ?_; rintro e w3 ⟨rfl, hb3⟩))
          go_wp2
          go_ret
          exact ⟨ret_bool (decide_eq_false (ne_of_at hx.out hy.out (eqSB_not.1 he))).symm, hb.drew.trans (hb3.mono hb.size)⟩
        · go_wp2
          go_region_held3 (fun w' => w'.cell? ⟨b, off + k * 2, none⟩ = some (.string s) ∧ w'.cell? ⟨b, off + k * 2 + 1, none⟩ = some (.int .i64 v) ∧ w'.cell? ⟨b', off' + k * 2, none⟩ = some (.string s') ∧ w'.cell? ⟨b', off' + k * 2 + 1, none⟩ = some (.int .i64 v'))
            (first | exact ⟨hc, hc2, hc', hc2'⟩ | exact ⟨(hb3.cell (p := ⟨b, off + k * 2, none⟩) hbl).trans hc, (hb3.cell (p := ⟨b, off + k * 2 + 1, none⟩) hbl).trans hc2, (hb3.cell (p := ⟨b', off' + k * 2, none⟩) hbl').trans hc', (hb3.cell (p := ⟨b', off' + k * 2 + 1, none⟩) hbl').trans hc2'⟩)
            (first | (go_at_call 151; refine (eqSetting_calls _ _ _ _ _).mono ?_; rintro e w3 ⟨rfl, hb3⟩))
          go_wp2
          go_roundw
          case rel =>
            refine ⟨k + 1, by omega, by go_num, ?_, hb.drew.trans (hb3.mono hb.size)⟩
            unfold Hid
            rw [take_snoc hx.out, take_snoc hy.out, HC.out, eqSB_iff.1 he]
          case measure => simp [intOf]; omega
      · have hkn : k = n := by omega
        subst hkn
        go_wp2
        go_ret
        exact ⟨ret_bool (decide_eq_true (eq_of_takes HL.out HL'.out HC.out)).symm, hb⟩
  · have hne : ((n : Int) != n') = true := by simp; omega
    go_enter Tryd.func112, Tryd.ntmps112
    go_wp2
    go_ret
    exact ⟨ret_bool (decide_eq_false (ne_of_len HL.out HL'.out hnn)).symm, Below.refl _ _⟩

set_option maxHeartbeats 1000000 in
theorem l27Same_calls (A A' : Option Addr) (n n' c c' : Nat) (ss ts : List SetZ) (w : World) (h : RdS w A n ss) (h' : RdS w A' n' ts) (hn : n ≤ 1048576) (hn' : n' ≤ 1048576) :
    Calls Tryd.prog 92 #[.slice A n c, .slice A' n' c'] w fun e w' => e = .returned (.bool (decide (ss = ts))) ∧ ∃ m, w' = w.drewN m := by
  have HL := hide h.2.1
  have HL' := hide h'.2.1
  by_cases hnn : n = n'
  · subst hnn
    go_enter Tryd.func92, Tryd.ntmps92
    go_wp2
    go_loopw [5] (fun i wr => ∃ (k : Nat), k ≤ n ∧ i = .int .i64 k ∧ Hid (ss.take k = ts.take k) ∧ ∃ m, wr = w.drewN m) (fun i _ => n - (intOf i).toNat)
    case atStart => exact ⟨0, Nat.zero_le _, rfl, by simp [Hid], 0, rfl⟩
    case round =>
      obtain ⟨k, hk, rfl, HC, m, rfl⟩ := hrel
      by_cases hlt : k < n
      · obtain ⟨b, off, s, v, rfl, hbl, hx, hc, hc2, hs1, hv1, hv2⟩ := h.at hlt
        obtain ⟨b', off', s', v', rfl, hbl', hy, hc', hc2', hs1', hv1', hv2'⟩ := h'.at hlt
        by_cases c1 : s = s'
        · by_cases c2 : v = v'
          · subst c1
            subst c2
            go_wp2
            go_quiet (fail)
            go_wp2
            go_roundw
            case rel =>
              refine ⟨k + 1, by omega, by go_num, ?_, (by first | exact ⟨_, rfl⟩ | exact drewN2 _ _ _)⟩
              unfold Hid
              rw [take_snoc hx.out, take_snoc hy.out, HC.out]
            case measure => simp [intOf]; omega
          · have e2 : (v == v') = false := by simpa using c2
            obtain ⟨e1, e1'⟩ := str_eq c1
            have C1 := hide c1
            clear c1
            go_wp2
            go_quiet (fail)
            go_wp2
            go_ret
            exact ⟨ret_bool (decide_eq_false (ne_of_at hx.out hy.out (by simp [c2]))).symm, (by first | exact ⟨_, rfl⟩ | exact drewN2 _ _ _)⟩
        · obtain ⟨e1, e1'⟩ := str_ne c1
          go_wp2
          go_quiet (fail)
          go_wp2
          go_ret
          exact ⟨ret_bool (decide_eq_false (ne_of_at hx.out hy.out (by simp [c1]))).symm, (by first | exact ⟨_, rfl⟩ | exact drewN2 _ _ _)⟩
      · have hkn : k = n := by omega
        subst hkn
        go_wp2
        go_ret
        exact ⟨ret_bool (decide_eq_true (eq_of_takes HL.out HL'.out HC.out)).symm, _, rfl⟩
  · have hne : ((n : Int) != n') = true := by simp; omega
    go_enter Tryd.func92, Tryd.ntmps92
    go_wp2
    go_ret
    exact ⟨ret_bool (decide_eq_false (ne_of_len HL.out HL'.out hnn)).symm, 0, rfl⟩

theorem specSameState_calls (A A' : Option Addr) (n n' c c' : Nat) (ss ts : List SetZ) (w : World) (h : RdS w A n ss) (h' : RdS w A' n' ts) (hn : n ≤ 1048576) (hn' : n' ≤ 1048576) :
    Calls Tryd.prog 40 #[.slice A n c, .slice A' n' c'] w fun e w' => e = .returned (.bool (decide (ss = ts))) ∧ ∃ m, w' = w.drewN m := by
  go_enter Tryd.func40, Tryd.ntmps40
  go_wp2_with (go_at_call 92; refine (l27Same_calls _ _ _ _ _ _ _ _ _ h h' hn hn').mono ?_; rintro e w1 ⟨rfl, m, rfl⟩)
  go_ret
  exact ⟨rfl, _, rfl⟩

end Go.Proofs.YtlomloepdnojoaaDoor
