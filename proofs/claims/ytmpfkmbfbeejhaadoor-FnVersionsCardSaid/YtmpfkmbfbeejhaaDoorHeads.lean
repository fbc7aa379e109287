/- HeadsOf of the program and of the reference. -/
import Derived.Test.YtmpfkmbfbeejhaaDoorAncestors
namespace Go.Proofs.YtmpfkmbfbeejhaaDoor
open Go.RowKit
set_option linter.unusedVariables false

/-- Is a number no version's parent? -/
def headB (vs : List VerZ) (x : Int) : Bool := !vs.any (fun v => decide (v.parent = x))
/-- The heads among the first k versions. -/
def headsK (vs : List VerZ) (k : Nat) : List Int := ((vs.take k).map VerZ.number).filter (headB vs)
theorem headsK_yes {vs : List VerZ} {k : Nat} {v : VerZ} (h : vs[k]? = some v) (hb : headB vs v.number = true) : headsK vs (k + 1) = headsK vs k ++ [v.number] := by
  unfold headsK; rw [take_snoc h]; simp [hb]
theorem headsK_no {vs : List VerZ} {k : Nat} {v : VerZ} (h : vs[k]? = some v) (hb : headB vs v.number = false) : headsK vs (k + 1) = headsK vs k := by
  unfold headsK; rw [take_snoc h]; simp [hb]
theorem headsK_len (vs : List VerZ) (k : Nat) : (headsK vs k).length ≤ k := by
  unfold headsK
  refine Nat.le_trans (List.length_filter_le _ _) ?_
  simp
  omega
/-- What HeadsOf returns. -/
def heaC (vs : List VerZ) : Int := codeV vs []
def heaR (vs : List VerZ) : List Int := if heaC vs = 0 then headsK vs vs.length else []
theorem codeV_none {vs : List VerZ} : codeV vs [] = if histB vs then 0 else 1 := by unfold codeV; simp
theorem heads_i64 {vs : List VerZ} (hh : histB vs = true) (k : Nat) : ∀ x ∈ headsK vs k, I64 x := by
  intro x hx
  unfold headsK at hx
  have h1 := (List.mem_filter.1 hx).1
  obtain ⟨v, hv, rfl⟩ := List.mem_map.1 h1
  obtain ⟨i, hi⟩ := List.mem_iff_getElem?.1 (List.mem_of_mem_take hv)
  have h2 := hist_at hh hi
  have h3 := (List.getElem?_eq_some_iff.1 hi).1
  have h4 := hist_len hh
  exact ⟨by omega, by omega⟩

theorem heads1_calls (nu pa x : Int) (me : ByteArray) (Aq : Option Addr) (nq cq pb : Nat) (w : World) (hc : w.cell? ⟨pb, 0, none⟩ = some (.int .i64 x)) :
    Calls Tryd.prog 43 #[.agg #[.int .i64 nu, .int .i64 pa, .string me, .slice Aq nq cq], .pointer (some ⟨pb, 0, none⟩)] w fun e w' => e = .returned (.bool (decide (pa = x))) ∧ Below w.heap.size w w' := by
  have B := hide ((Below.refl w.heap.size w).alloc (Nat.le_refl _) (.cells #[.int .i64 nu, .int .i64 pa, .string me, .slice Aq nq cq] 48))
  have hc' : (w.alloc (.cells #[.int .i64 nu, .int .i64 pa, .string me, .slice Aq nq cq] 48)).cell? ⟨pb, 0, none⟩ = some (.int .i64 x) := (B.out.cell (World.block_lt_of_cell? w _ hc)).trans hc
  by_cases c1 : pa = x
  · subst c1
    go_enter Tryd.func43, Tryd.ntmps43
    go_wp2
    go_ret
    exact ⟨ret_bool (by simp), B.out⟩
  · have e1 : (pa == x) = false := by simpa using c1
    have HN : Hid (decide (pa = x) = false) := decide_eq_false c1
    clear c1
    go_enter Tryd.func43, Tryd.ntmps43
    go_wp2
    go_ret
    exact ⟨ret_bool HN.out.symm, B.out⟩
set_option maxHeartbeats 1000000 in
theorem indexFuncV_calls (A : Option Addr) (n c : Nat) (rs : List VerC) (x : Int) (pb : Nat) (w : World) (h : RdV w A n rs) (hn : n ≤ 1048576) (hc0 : w.cell? ⟨pb, 0, none⟩ = some (.int .i64 x)) :
    Calls Tryd.prog 66 #[.slice A n c, .func (.func 43) #[] #[.pointer (some ⟨pb, 0, none⟩)]] w fun e w' => (∃ i : Int, e = .returned (.int .i64 i) ∧ decide (0 ≤ i) = (zV rs).any (fun v => decide (v.parent = x))) ∧ Below w.heap.size w w' := by
  have HL := hide ((zV_len rs).trans h.2.1)
  have hpb := World.block_lt_of_cell? w _ hc0
  go_enter Tryd.func66, Tryd.ntmps66
  go_wp2
  go_loopw [8] (fun i wr => ∃ (k : Nat), k ≤ n ∧ i = .int .i64 k ∧ Hid (((zV rs).take k).any (fun v => decide (v.parent = x)) = false) ∧ Below w.heap.size w wr) (fun i _ => n - (intOf i).toNat)
  case atStart => exact ⟨0, Nat.zero_le _, rfl, by simp [Hid], Below.refl _ _⟩
  case round =>
    obtain ⟨k, hk, rfl, HC, hb⟩ := hrel
    by_cases hlt : k < n
    · obtain ⟨b, off, nu, pa, me, Aq, nq, cq, st, rfl, hbl, hx, hc, hc2, hc3, hc4, hn1, hn2, hp1, hp2, hme, hst, hnq⟩ := (h.below hb (Nat.le_refl _)).at hlt
      have hz := hide (zV_at hx.out)
      have hcx := (hb.cell hpb).trans hc0
      rcases b_cases (decide (pa = x)) with hd | hd
      · have HN := hide (any_take_snoc (p := fun v : VerZ => decide (v.parent = x)) hz.out HC.out hd)
        go_wp2_with fail
        refine (heads1_calls _ _ x _ _ _ _ pb _ hcx).mono ?_
        rw [hd]
        rintro e w' ⟨rfl, hb2⟩
        go_wp2
        go_roundw
        case rel => exact ⟨k + 1, by omega, by go_num, HN, hb.trans (hb2.mono hb.size)⟩
        case measure => simp [intOf]; omega
      · have HN := hide (any_of_at (p := fun v : VerZ => decide (v.parent = x)) hz.out hd)
        go_wp2_with fail
        refine (heads1_calls _ _ x _ _ _ _ pb _ hcx).mono ?_
        rw [hd]
        rintro e w' ⟨rfl, hb2⟩
        go_wp2
        go_ret
        exact ⟨⟨_, rfl, by rw [HN.out]; simp⟩, hb.trans (hb2.mono hb.size)⟩
    · have hkn : k = n := by omega
      subst hkn
      go_wp2
      go_ret
      exact ⟨⟨_, rfl, by rw [any_of_takes HL.out HC.out]; rfl⟩, hb⟩
theorem containsFuncV_calls (A : Option Addr) (n c : Nat) (rs : List VerC) (x : Int) (pb : Nat) (w : World) (h : RdV w A n rs) (hn : n ≤ 1048576) (hc0 : w.cell? ⟨pb, 0, none⟩ = some (.int .i64 x)) :
    Calls Tryd.prog 42 #[.slice A n c, .func (.func 43) #[] #[.pointer (some ⟨pb, 0, none⟩)]] w fun e w' => e = .returned (.bool ((zV rs).any (fun v => decide (v.parent = x)))) ∧ Below w.heap.size w w' := by
  go_enter Tryd.func42, Tryd.ntmps42
  go_wp2_with fail
  refine (indexFuncV_calls _ _ _ rs x pb _ h hn hc0).mono ?_
  rintro e w' ⟨⟨i, rfl, hi⟩, hb⟩
  have HI := hide hi
  clear hi
  go_wp2
  go_ret
  exact ⟨ret_bool HI.out, hb⟩
theorem codeV_nil_ok {vs : List VerZ} (h : histB vs = true) : codeV vs [] = 0 := by rw [codeV_none, h]; rfl
theorem codeV_nil_bad {vs : List VerZ} (h : histB vs = false) : codeV vs [] = 1 := by rw [codeV_none, h]; rfl
theorem heaC_ok {vs : List VerZ} (h : histB vs = true) : heaC vs = 0 := codeV_nil_ok h
theorem heaC_bad {vs : List VerZ} (h : histB vs = false) : heaC vs = 1 := codeV_nil_bad h
theorem heaR_ok {vs : List VerZ} {n : Nat} (hl : vs.length = n) (h : histB vs = true) : heaR vs = headsK vs n := by unfold heaR; rw [heaC_ok h, if_pos rfl, hl]
theorem heaR_bad {vs : List VerZ} (h : histB vs = false) : heaR vs = [] := by unfold heaR; rw [heaC_bad h]; rfl

set_option maxHeartbeats 2000000 in
theorem implHeadsOf_calls (A : Option Addr) (n c : Nat) (vs : List VerZ) (w : World) (h : RdVz w A n vs) (hn : n ≤ 1048576) (hs : Short vs) :
    Calls Tryd.prog 15 #[.slice A n c] w fun e w' => ∃ A' n' c', e = .returned (.tuple #[.slice A' n' c', .int .i64 (heaC vs)]) ∧ FrI w' w.heap.size w'.heap.size 2 A' n' (heaR vs) ∧ n' ≤ 1048576 ∧ Below w.heap.size w w' := by
  have hr0 : RdI w none 0 [] := ⟨Rd.nil, by simp⟩
  have HV := versioned_calls A n c vs none 0 0 [] w h hn hs hr0 (by omega)
  rcases b_cases (histB vs) with hd | hd
  · have HC := hide (heaC_bad hd)
    have HR := hide (heaR_bad hd)
    rw [codeV_nil_bad hd] at HV
    go_enter Tryd.func15, Tryd.ntmps15
    go_wp2_with fail
    refine HV.mono ?_
    clear HV
    rintro e w1 ⟨rfl, hb1⟩
    go_wp2
    go_ret2
    refine ⟨none, 0, 0, ret_two rfl (congrArg (Value.int .i64) HC.out.symm), ?_, by omega, hb1⟩
    rw [HR.out]
    exact FrI.nil
  have HC := hide (heaC_ok hd)
  have HR := hide (heaR_ok h.len hd)
  have HL := hide h.len
  have h32 := hist_len hd
  rw [HL.out] at h32
  have HH := hide (heads_i64 hd)
  rw [codeV_nil_ok hd] at HV
  obtain ⟨rs, h, rfl⟩ := h
  clear hd hr0
  go_enter Tryd.func15, Tryd.ntmps15
  go_wp2_with fail
  refine HV.mono ?_
  clear HV
  rintro e w1 ⟨rfl, hb1⟩
  have hown0 := World.ownsRow_nil w1 w.heap.size 2 1
  go_wp2
  go_loopw [5, 15] (fun v i wr => ∃ (k m : Nat), k ≤ n ∧ i = .int .i64 k ∧ Hid (m = (headsK (zV rs) k).length) ∧ m ≤ k ∧ wr.ownsRow w.heap.size 2 1 v m (cI (headsK (zV rs) k)) ∧ Below w.heap.size w wr) (fun _ i _ => n - (intOf i).toNat)
  case atStart => exact ⟨0, 0, Nat.zero_le _, rfl, rfl, by omega, by simpa [cI, headsK] using hown0, hb1⟩
  case round =>
    clear hown0
    obtain ⟨k, m, hk, rfl, HM, hmk, hown, hb⟩ := hrel
    have HO := hide hown
    clear hown
    by_cases hlt : k < n
    · obtain ⟨b, off, nu, pa, me, Aq, nq, cq, st, rfl, hbl, hx, hc, hc2, hc3, hc4, hn1, hn2, hp1, hp2, hme, hst, hnq⟩ := (h.below hb (Nat.le_refl _)).at hlt
      have hz := hide (zV_at hx.out)
      have BB := hide ((Below.refl wr.heap.size wr).alloc (Nat.le_refl _) (.cells #[.int .i64 nu, .int .i64 pa, .string me, .slice Aq nq cq] 48))
      have hbW := hb.trans (BB.out.mono hb.size)
      have hc0 : (wr.alloc (.cells #[.int .i64 nu, .int .i64 pa, .string me, .slice Aq nq cq] 48)).cell? ⟨wr.heap.size, 0, none⟩ = some (.int .i64 nu) := by simp [go_sem]
      have HCV := hide (containsFuncV_calls _ n c rs nu wr.heap.size _ (h.below hbW (Nat.le_refl _)) hn hc0)
      clear hc0
      rcases b_cases ((zV rs).any (fun v => decide (v.parent = nu))) with hd | hd
      · have HN := hide (headsK_yes hz.out (congrArg not hd))
        go_wp2_with fail
        refine HCV.out.mono ?_
        rw [hd]
        clear HCV
        rintro e w2 ⟨rfl, hb2⟩
        have hcell : w2.cell? ⟨wr.heap.size, 0, none⟩ = some (.int .i64 nu) := (hb2.cell (by simp)).trans (by simp [go_sem])
        have hb3 := BB.out.trans (hb2.mono BB.out.size)
        have hbx := hb.trans (hb3.mono hb.size)
        have ho2 := hide (own_below HO.out hb3 (Nat.le_refl _))
        have hsz := hbx.size
        go_wp2_with (at_builtin; refine appI rfl _ _ rfl w.heap.size u5 m (headsK (zV rs) k) nu rfl ho2.out rfl (by omega) (by omega) ?_; intro v' w4 hown4 hb4 hz4)
        go_roundw
        case rel => exact ⟨k + 1, m + 1, by omega, by go_num, by unfold Hid; rw [HN.out, List.length_append, ← HM.out]; rfl, by omega, by rw [HN.out]; exact hown4, hbx.trans hb4⟩
        case measure => simp [intOf]; omega
      · have HN := hide (headsK_no hz.out (congrArg not hd))
        go_wp2_with fail
        refine HCV.out.mono ?_
        rw [hd]
        clear HCV
        rintro e w2 ⟨rfl, hb2⟩
        have hb3 := BB.out.trans (hb2.mono BB.out.size)
        have hbx := hb.trans (hb3.mono hb.size)
        have ho2 := hide (own_below HO.out hb3 (Nat.le_refl _))
        go_wp2
        go_roundw
        case rel => exact ⟨k + 1, m, by omega, by go_num, by unfold Hid; rw [HN.out]; exact HM.out, by omega, by rw [HN.out]; exact ho2.out, hbx⟩
        case measure => simp [intOf]; omega
    · have hkn : k = n := by omega
      subst hkn
      have hm6 : m ≤ 1048576 := by omega
      obtain ⟨A2, c2, rfl⟩ := own_slice HO.out
      go_wp2
      go_ret2
      refine ⟨_, _, _, ret_two rfl (congrArg (Value.int .i64) HC.out.symm), ?_, hm6, hb⟩
      rw [HR.out]
      exact FrI.of_own HO.out (HH.out k)
end Go.Proofs.YtmpfkmbfbeejhaaDoor
