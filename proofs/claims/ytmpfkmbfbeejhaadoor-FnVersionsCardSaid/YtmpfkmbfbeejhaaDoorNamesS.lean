/- l27Set, l27Names and l27Get of the reference. -/
import Derived.Test.YtmpfkmbfbeejhaaDoorMg
namespace Go.Proofs.YtmpfkmbfbeejhaaDoor
open Go.RowKit
set_option linter.unusedVariables false

theorem own_mono {w : World} {base base' : Nat} {e : TypeId} {size : Nat} {v : Value} {n : Nat} {xs : List Value} (h : w.ownsRow base e size v n xs) (h1 : base' ≤ base) : w.ownsRow base' e size v n xs := by
  refine ⟨h.1, ?_⟩
  rcases h.2 with hn | ⟨g, cap, cur, rfl, hb, rest⟩
  · exact .inl hn
  · exact .inr ⟨g, cap, cur, rfl, by omega, rest⟩

/-- What l27Set has made of the first k settings. -/
def setK (ss : List SetZ) (e : SetZ) (k : Nat) (q : Bool) : List SetZ := if q = true then setZ (ss.take k) e else ss.take k
def SetInv (ss : List SetZ) (nm : ByteArray) (k : Nat) (q : Bool) : Prop := (q = false → ∀ x ∈ ss.take k, strLess x.name nm = true) ∧ (q = true → ∃ x ∈ ss.take k, strLess x.name nm = false)
theorem setInv_yes {ss : List SetZ} {nm : ByteArray} {k : Nat} {s : SetZ} (hx : ss[k]? = some s) {q : Bool} (h : q = true ∧ (∃ x ∈ ss.take k, strLess x.name nm = false) ∨ strLess s.name nm = false) : SetInv ss nm (k + 1) true := by
  refine ⟨(fun h => by cases h), fun _ => ?_⟩
  rw [take_snoc hx]
  rcases h with ⟨_, x, hx, hl⟩ | h
  · exact ⟨x, List.mem_append_left _ hx, hl⟩
  · exact ⟨s, by simp, h⟩
theorem setInv_no {ss : List SetZ} {nm : ByteArray} {k : Nat} {s : SetZ} (hx : ss[k]? = some s) (h : SetInv ss nm k false) (hs : strLess s.name nm = true) : SetInv ss nm (k + 1) false := by
  refine ⟨fun _ => ?_, (fun h => by cases h)⟩
  rw [take_snoc hx]
  intro x hx
  rcases List.mem_append.1 hx with hx | hx
  · exact h.1 rfl x hx
  · simp only [List.mem_singleton] at hx
    subst hx
    exact hs
theorem take_ge {ss : List SetZ} (hs : SortedZ ss) {nm : ByteArray} {k : Nat} {s : SetZ} (hx : ss[k]? = some s) (h : ∃ x ∈ ss.take k, strLess x.name nm = false) : strLess nm s.name = true := by
  obtain ⟨x, hm, hl⟩ := h
  obtain ⟨i, hi⟩ := List.mem_iff_getElem?.1 hm
  have hik : i < k := by
    have := (List.getElem?_eq_some_iff.1 hi).1
    simp at this
    omega
  rw [List.getElem?_take, if_pos hik] at hi
  have h1 := hs i k x s hik hi hx
  rcases b_cases (strLess nm s.name) with e | e
  · by_cases hq : nm = s.name
    · subst hq
      rw [h1] at hl
      cases hl
    · have h2 := strLess_trans h1 (not_less e hq)
      rw [h2] at hl
      cases hl
  · exact e

/-- What l27Set leaves. -/
def SetPost (ss : List SetZ) (s : SetZ) (w : World) (e : Ending) (w' : World) : Prop :=
  ∃ v' m, e = .returned v' ∧ w'.ownsRow w.heap.size 57 2 v' m (cK kSetting (setZ ss s)) ∧ (setZ ss s).length = m ∧ Below w.heap.size w w'

set_option maxHeartbeats 4000000 in
theorem l27Set_calls (A : Option Addr) (n c : Nat) (ss : List SetZ) (nm : ByteArray) (v : Int) (w : World) (h : RdS w A n ss) (hn : n ≤ 1048576) (hs : SortedZ ss) :
    Calls Tryd.prog 52 #[.slice A n c, .agg #[.string nm, .int .i64 v]] w (SetPost ss ⟨nm, v⟩ w) := by
  have HL := hide h.2.1
  have HS := hide hs
  clear hs
  obtain ⟨W0, hW0⟩ : ∃ W0, W0 = w.alloc (.cells #[.string nm, .int .i64 v] 57) := ⟨_, rfl⟩
  have BB : Below w.heap.size w W0 := hW0 ▸ (Below.refl _ _).alloc (Nat.le_refl _) _
  have z0 : W0.heap.size = w.heap.size + 1 := by rw [hW0]; simp
  have e0 : W0.cell? ⟨w.heap.size, 0, none⟩ = some (.string nm) := by rw [hW0]; simp [go_sem]
  have e1 : W0.cell? ⟨w.heap.size, 1, none⟩ = some (.int .i64 v) := by rw [hW0]; simp [go_sem]
  have hlit := World.ownsRow_lit (base := w.heap.size + 1) (e := 57) (size := 2) W0 #[] 0 (by omega) (by simp) rfl
  have B0 : Below (w.heap.size + 1) W0 (W0.alloc (.cells #[] 57)) := (Below.refl _ _).alloc (by omega) _
  rw [z0] at hlit
  have HH := hide (And.intro hlit (And.intro B0 (And.intro BB (And.intro e0 (And.intro e1 z0)))))
  clear hlit B0 BB e0 e1 z0
  subst hW0
  go_enter Tryd.func52, Tryd.ntmps52
  go_wp2
  go_loopw [5, 6, 7] (fun out d i wr => ∃ (k m : Nat) (q : Bool), k ≤ n ∧ i = .int .i64 k ∧ d = .bool q ∧ m ≤ k + q.toNat ∧ wr.ownsRow (w.heap.size + 1) 57 2 out m (cK kSetting (setK ss ⟨nm, v⟩ k q)) ∧ Hid (SetInv ss nm k q) ∧ Hid ((setK ss ⟨nm, v⟩ k q).length = m) ∧ Below (w.heap.size + 1) (w.alloc (.cells #[.string nm, .int .i64 v] 57)) wr) (fun _ _ i _ => n - (intOf i).toNat)
  case atStart => exact ⟨0, 0, false, Nat.zero_le _, rfl, rfl, by simp, by simpa [setK, cK] using HH.out.1, ⟨fun _ => by simp, fun h => by cases h⟩, by simp [Hid, setK], HH.out.2.1⟩
  case round =>
    obtain ⟨k, m, q, hk, rfl, rfl, hmk, hown, HI, HM, hb⟩ := hrel
    have HO := hide hown
    clear hown
    have hsz := hb.size
    simp at hsz
    have hbl0 : w.heap.size < w.heap.size + 1 := Nat.lt_succ_self _
    have hbx := HH.out.2.2.1.trans (hb.mono (by omega))
    have d0 : wr.cell? ⟨w.heap.size, 0, none⟩ = some (.string nm) := (hb.cell (p := ⟨w.heap.size, 0, none⟩) hbl0).trans HH.out.2.2.2.1
    have d1 : wr.cell? ⟨w.heap.size, 1, none⟩ = some (.int .i64 v) := (hb.cell (p := ⟨w.heap.size, 1, none⟩) hbl0).trans HH.out.2.2.2.2.1
    by_cases hlt : k < n
    · obtain ⟨b, off, s, vs, rfl, hbl, hx, hcw, hc2w, hs1, hv1, hv2⟩ := h.at hlt
      have hc := (hbx.cell (p := ⟨b, off + k * 2, none⟩) hbl).trans hcw
      have hc2 := (hbx.cell (p := ⟨b, off + k * 2 + 1, none⟩) hbl).trans hc2w
      have HCW := hide (And.intro hcw hc2w)
      clear hcw hc2w
      have hmk1 : m ≤ k + 1 := by have := Bool.toNat_le q; omega
      rcases b_cases q with rfl | rfl
      · -- nothing put yet
        simp only [Bool.toNat_false] at hmk
        rcases str_ways s nm with ⟨q1, q2, q3, q4, q5, q6, q7⟩ | ⟨q1, q2, q3, q4, q5, q6, q7⟩ | ⟨q1, q2, q3, q4, q5, q6, q7⟩
        · have HI2 := hide (setInv_no hx.out HI.out q5)
          have HE : Hid (setK ss ⟨nm, v⟩ (k + 1) false = setK ss ⟨nm, v⟩ k false ++ [⟨s, vs⟩]) := by simp [Hid, setK, take_snoc hx.out]
          clear q2 q4 q5 q6 q7
          go_wp2
          go_quiet (fail)
          go_wp2
          go_quiet (fail)
          go_wp2_with (at_builtin; refine appSetting rfl _ _ rfl (w.heap.size + 1) u5 m (setK ss ⟨nm, v⟩ k false) ⟨s, vs⟩ rfl HO.out rfl (by omega) (by first | omega | (simp; omega)) ?_; intro v' w4 hown4 hb4 hz4)
          go_roundw
          case rel => exact ⟨k + 1, m + 1, false, by omega, by go_num, rfl, by simp only [Bool.toNat_false]; omega, by rw [HE.out]; exact hown4, HI2.out, by unfold Hid; rw [HE.out, List.length_append, HM.out]; rfl, (by first | exact (below_drewN (below_drewN hb _) _).trans hb4 | exact (below_drewN hb _).trans hb4)⟩
          case measure => simp [intOf]; omega
        · have HI2 := hide (setInv_yes (q := false) hx.out (.inr q5))
          have HE : Hid (setK ss ⟨nm, v⟩ (k + 1) true = setK ss ⟨nm, v⟩ k false ++ [⟨nm, v⟩]) := by
            simp only [Hid, setK, if_true, Bool.false_eq_true, if_false]
            rw [take_snoc hx.out]
            exact set_at_same (HI.out.1 rfl) q7
          clear q2 q4 q5 q6
          subst q7
          go_wp2
          go_quiet (fail)
          go_wp2_with (at_builtin; refine appSetting rfl _ _ rfl (w.heap.size + 1) u5 m (setK ss ⟨s, v⟩ k false) ⟨s, v⟩ rfl HO.out rfl (by omega) (by first | omega | (simp; omega)) ?_; intro v' w4 hown4 hb4 hz4)
          have hb4' : Below (w.heap.size + 1) (w.alloc (.cells #[.string s, .int .i64 v] 57)) w4 := (by first | exact (below_drewN (below_drewN hb _) _).trans hb4 | exact (below_drewN hb _).trans hb4)
          have hbx4 := HH.out.2.2.1.trans (hb4'.mono (by omega))
          have d0 : w4.cell? ⟨w.heap.size, 0, none⟩ = some (.string s) := (hb4'.cell (p := ⟨w.heap.size, 0, none⟩) hbl0).trans HH.out.2.2.2.1
          have hc := (hbx4.cell (p := ⟨b, off + k * 2, none⟩) hbl).trans HCW.out.1
          have H4 := hide hown4
          clear hown4
          go_quiet (fail)
          go_wp2
          go_roundw
          case rel => exact ⟨k + 1, m + 1, true, by omega, by go_num, rfl, by simp only [Bool.toNat_true] at *; omega, by rw [HE.out]; exact H4.out, HI2.out, by unfold Hid; rw [HE.out, List.length_append, HM.out]; rfl, below_drewN hb4' _⟩
          case measure => simp [intOf]; omega
        · have HI2 := hide (setInv_yes (q := false) hx.out (.inr q5))
          have HE : Hid (setK ss ⟨nm, v⟩ (k + 1) true = setK ss ⟨nm, v⟩ k false ++ [⟨nm, v⟩] ++ [⟨s, vs⟩]) := by
            simp only [Hid, setK, if_true, Bool.false_eq_true, if_false]
            rw [take_snoc hx.out, set_at_more (HI.out.1 rfl) q6]
            simp
          clear q2 q4 q5 q6 q7
          go_wp2
          go_quiet (fail)
          go_wp2_with (at_builtin; refine appSetting rfl _ _ rfl (w.heap.size + 1) u5 m (setK ss ⟨nm, v⟩ k false) ⟨nm, v⟩ rfl HO.out rfl (by omega) (by first | omega | (simp; omega)) ?_; intro v' w4 hown4 hb4 hz4)
          have hb4' : Below (w.heap.size + 1) (w.alloc (.cells #[.string nm, .int .i64 v] 57)) w4 := (by first | exact (below_drewN (below_drewN hb _) _).trans hb4 | exact (below_drewN hb _).trans hb4)
          have hbx4 := HH.out.2.2.1.trans (hb4'.mono (by omega))
          have d0 : w4.cell? ⟨w.heap.size, 0, none⟩ = some (.string nm) := (hb4'.cell (p := ⟨w.heap.size, 0, none⟩) hbl0).trans HH.out.2.2.2.1
          have hc := (hbx4.cell (p := ⟨b, off + k * 2, none⟩) hbl).trans HCW.out.1
          have hc2 := (hbx4.cell (p := ⟨b, off + k * 2 + 1, none⟩) hbl).trans HCW.out.2
          have H4 := hide hown4
          have hsz4 := hb4'.size
          simp at hsz4
          clear hown4
          go_quiet (fail)
          go_wp2_with (at_builtin; refine appSetting rfl _ _ rfl (w.heap.size + 1) v' (m + 1) (setK ss ⟨nm, v⟩ k false ++ [(⟨nm, v⟩ : SetZ)]) ⟨s, vs⟩ rfl (own_drewN H4.out _) rfl (by omega) (by first | omega | (simp; omega)) ?_; intro v'' w5 hown5 hb5 hz5)
          go_roundw
          case rel => exact ⟨k + 1, m + 2, true, by omega, by go_num, rfl, by simp only [Bool.toNat_true]; omega, by rw [HE.out]; exact hown5, HI2.out, by unfold Hid; rw [HE.out, List.length_append, List.length_append, HM.out]; rfl, (below_drewN hb4' _).trans hb5⟩
          case measure => simp [intOf]; omega
      · -- already put
        have hge := take_ge HS.out hx.out (HI.out.2 rfl)
        have HI2 := hide (setInv_yes (q := true) hx.out (.inl ⟨rfl, HI.out.2 rfl⟩))
        have HE : Hid (setK ss ⟨nm, v⟩ (k + 1) true = setK ss ⟨nm, v⟩ k true ++ [⟨s, vs⟩]) := by
          simp only [Hid, setK, if_true]
          rw [take_snoc hx.out]
          exact set_done (HI.out.2 rfl)
        obtain ⟨p1, p2⟩ := str_ne (fun e : s = nm => less_ne hge e.symm)
        clear hge
        go_wp2
        go_quiet (fail)
        go_wp2
        go_quiet (fail)
        go_wp2_with (at_builtin; refine appSetting rfl _ _ rfl (w.heap.size + 1) u5 m (setK ss ⟨nm, v⟩ k true) ⟨s, vs⟩ rfl HO.out rfl (by omega) (by first | omega | (simp; omega)) ?_; intro v' w4 hown4 hb4 hz4)
        go_roundw
        case rel => exact ⟨k + 1, m + 1, true, by omega, by go_num, rfl, by simp only [Bool.toNat_true] at *; omega, by rw [HE.out]; exact hown4, HI2.out, by unfold Hid; rw [HE.out, List.length_append, HM.out]; rfl, (by first | exact (below_drewN (below_drewN hb _) _).trans hb4 | exact (below_drewN hb _).trans hb4)⟩
        case measure => simp [intOf]; omega
    · have hkn : k = n := by omega
      have hmk1 : m ≤ k + 1 := by have := Bool.toNat_le q; omega
      subst hkn
      rcases b_cases q with rfl | rfl
      · have HE : Hid (setZ ss ⟨nm, v⟩ = setK ss ⟨nm, v⟩ k false ++ [⟨nm, v⟩]) := by
          have h1 := HI.out.1 rfl
          simp only [Hid, setK, Bool.false_eq_true, if_false]
          rw [List.take_of_length_le (by rw [HL.out]; omega)] at h1 ⊢
          exact set_less h1
        go_wp2_with (at_builtin; refine appSetting rfl _ _ rfl (w.heap.size + 1) u5 m (setK ss ⟨nm, v⟩ k false) ⟨nm, v⟩ rfl HO.out rfl (by omega) (by first | omega | (simp; omega)) ?_; intro v' w4 hown4 hb4 hz4)
        go_ret
        exact ⟨v', m + 1, rfl, by rw [HE.out]; exact own_mono hown4 (by omega), by rw [HE.out, List.length_append, HM.out]; rfl, hbx.trans (hb4.mono (by omega))⟩
      · have HE : Hid (setZ ss ⟨nm, v⟩ = setK ss ⟨nm, v⟩ k true) := by
          simp only [Hid, setK, if_true]
          rw [List.take_of_length_le (by rw [HL.out]; omega)]
        go_wp2
        go_ret
        exact ⟨_, m, rfl, by rw [HE.out]; exact own_mono HO.out (by omega), by rw [HE.out, HM.out], hbx⟩

end Go.Proofs.YtmpfkmbfbeejhaaDoor
