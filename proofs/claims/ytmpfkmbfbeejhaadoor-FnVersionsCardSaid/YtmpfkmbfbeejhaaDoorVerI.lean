/- VersionText of the program. Made out of the reference's walk by a program, the builder's part typed. -/
import Derived.Test.YtmpfkmbfbeejhaaDoorVerT
import Derived.Test.YtmpfkmbfbeejhaaDoorBuil
import Derived.Test.YtmpfkmbfbeejhaaDoorShels
namespace Go.Proofs.YtmpfkmbfbeejhaaDoor
open Go.RowKit
set_option linter.unusedVariables false

theorem builder_below {T e : TypeId} {B b X : Nat} {bs : List Value} {w w' : World} (h : Lib.IsBuilder T e B b bs w) (hb : Below X w w') (hX : w.heap.size ≤ X) : Lib.IsBuilder T e B b bs w' := by
  have key : ∀ p, Lib.BuilderAt T e B b p bs w → Lib.BuilderAt T e B b p bs w' := by
    rintro p ⟨hB, v, hk, hown, hne⟩
    have hlt : b < w.heap.size := Lib.BuilderAt.lt ⟨hB, v, hk, hown, hne⟩
    exact ⟨hB, v, (hb.block b (Nat.lt_of_lt_of_le hlt hX)).trans hk, own_below hown hb hX, hne⟩
  exact h.elim (fun h => .inl (key _ h)) (fun h => .inr (key _ h))
theorem builder_apart {T e : TypeId} {B b X : Nat} {bs : List Value} {w w' : World} (h : Lib.IsBuilder T e B b bs w) (hb : Below X w w') (hX : w.heap.size ≤ X) : b < w.heap.size ∧ ∀ k, w.heap.size ≤ k → ∀ p v, w'.heap[b]? = some (.cells #[p, v] T (0, 0)) → v.ownBlock ≠ some k := by
  have key : ∀ q, Lib.BuilderAt T e B b q bs w → b < w.heap.size ∧ ∀ k, w.heap.size ≤ k → ∀ p v, w'.heap[b]? = some (.cells #[p, v] T (0, 0)) → v.ownBlock ≠ some k := by
    rintro q ⟨hB, v, hk, hown, hne⟩
    have hlt : b < w.heap.size := Lib.BuilderAt.lt ⟨hB, v, hk, hown, hne⟩
    refine ⟨hlt, fun k hkl p v' hv' e => ?_⟩
    rw [hb.block b (Nat.lt_of_lt_of_le hlt hX), hk] at hv'
    simp at hv'
    rw [← hv'.2] at e
    have := (hown.lt k e).2
    omega
  exact h.elim (key _) (key _)
theorem cell_of_heapEq {w w' : World} {k j : Nat} (h : w'.heap[k]? = w.heap[k]?) : w'.cell? ⟨k, j, none⟩ = w.cell? ⟨k, j, none⟩ := by simp [World.cell?, h]
theorem builder_new (w : World) (T : TypeId) (e : TypeId) : Lib.IsBuilder T e w.heap.size w.heap.size [] (w.alloc (.cells #[.pointer none, .slice none 0 0] T)) :=
  .inl ⟨Nat.le_refl _, .slice none 0 0, heap_alloc_new w _, ⟨rfl, .inl ⟨rfl, rfl⟩⟩, by simp [Value.ownBlock]⟩
theorem str_app (a b : ByteArray) : Lib.strCells a ++ Lib.strCells b = Lib.strCells (a ++ b) := by
  rw [Lib.strCells_eq, Lib.strCells_eq, Lib.strCells_eq, ← Lib.byteCells_append]
  exact congrArg Lib.byteCells (by simp)

set_option maxRecDepth 100000 in
set_option maxHeartbeats 8000000 in
theorem implVersionText_calls (nu pa : Int) (me : ByteArray) (A : Option Addr) (n c : Nat) (st : List SetZ) (w : World) (hT : TabP w) (h : RdS w A n st) (hnu : I64 nu) (hpa : I64 pa) (hme : me.size ≤ 9223372036854775807) (hn : n ≤ 1048576) :
    Calls Tryd.prog 19 #[.agg #[.int .i64 nu, .int .i64 pa, .string me, .slice A n c]] w fun e w' => e = .returned (.string (verT ⟨nu, pa, me, st⟩)) ∧ Below w.heap.size w w' := by
  have HL := hide h.2.1
  have HVB : Hid (verB ⟨nu, pa, me, st⟩ = (withinB nu 1 32 && withinB pa 0 (nu - 1) && memoB me && stateB st)) := rfl
  have HBAD : Hid (verB ⟨nu, pa, me, st⟩ = false → verT ⟨nu, pa, me, st⟩ = ⟨#[]⟩) := verT_bad
  have HGOOD : Hid (verB ⟨nu, pa, me, st⟩ = true → verT ⟨nu, pa, me, st⟩ = partsZ (headZ nu pa) st ++ memZ me) := verT_good
  obtain ⟨W0, hW0⟩ : ∃ W0, W0 = w.alloc (.cells #[.int .i64 nu, .int .i64 pa, .string me, .slice A n c] 48) := ⟨_, rfl⟩
  have hB : Below w.heap.size w W0 := by rw [hW0]; exact (Below.refl _ _).alloc (Nat.le_refl _) _
  have e0 : W0.cell? ⟨w.heap.size, 0, none⟩ = some (.int .i64 nu) := by rw [hW0]; simp
  have e1 : W0.cell? ⟨w.heap.size, 1, none⟩ = some (.int .i64 pa) := by rw [hW0]; simp
  have e2 : W0.cell? ⟨w.heap.size, 2, none⟩ = some (.string me) := by rw [hW0]; simp
  have e3 : W0.cell? ⟨w.heap.size, 3, none⟩ = some (.slice A n c) := by rw [hW0]; simp
  have hz : w.heap.size < W0.heap.size := by rw [hW0]; simp
  have HI : Hid (∀ n l h W, Calls Tryd.prog 29 #[.int .i64 n, .int .i64 l, .int .i64 h] W fun e w' => e = .returned (.bool (withinB n l h)) ∧ W = w') := within_calls
  have HM := hide (validMemo_calls me W0 hme)
  have HS : Hid (∀ W, Below w.heap.size w W → Calls Tryd.prog 26 #[.slice A n c] W fun e w' => e = .returned (.bool (stateB st)) ∧ Below W.heap.size W w') := fun W hW => implValidState_calls A n c st W (h.below hW (Nat.le_refl _)) hn
  rcases b_cases (withinB nu 1 32) with h1 | h1
  · have HV := hide (HBAD.out (by rw [HVB.out, h1]; rfl))
    have HC := hide h1
    clear h1
    go_enter Tryd.func19, Tryd.ntmps19
    go_wp2_with fail
    rw [← hW0]
    clear hW0
    refine (HI.out _ _ _ _).mono ?_
    rw [HC.out]
    rintro e w1 ⟨rfl, rfl⟩
    go_wp2
    go_ret
    exact ⟨ret_strE HV.out.symm, hB⟩
  have HC1 := hide h1
  have hnu1 : 1 ≤ nu ∧ nu ≤ 32 := by
    unfold withinB at h1
    simp only [Bool.and_eq_true] at h1
    exact ⟨of_decide_eq_true h1.1, of_decide_eq_true h1.2⟩
  rcases b_cases (withinB pa 0 (nu - 1)) with h2 | h2
  · have HV := hide (HBAD.out (by rw [HVB.out, h1, h2]; rfl))
    have HC := hide h2
    clear h1 h2
    go_enter Tryd.func19, Tryd.ntmps19
    go_wp2_with fail
    rw [← hW0]
    clear hW0
    refine (HI.out _ _ _ _).mono ?_
    rw [HC1.out]
    rintro e w1 ⟨rfl, rfl⟩
    go_wp2_with fail
    refine (HI.out _ _ _ _).mono ?_
    rw [HC.out]
    rintro e w1 ⟨rfl, rfl⟩
    go_wp2
    go_ret
    exact ⟨ret_strE HV.out.symm, hB⟩
  have HC2 := hide h2
  rcases b_cases (memoB me) with h3 | h3
  · have HV := hide (HBAD.out (by rw [HVB.out, h1, h2, h3]; rfl))
    rw [h3] at HM
    clear h1 h2 h3
    go_enter Tryd.func19, Tryd.ntmps19
    go_wp2_with fail
    rw [← hW0]
    clear hW0
    refine (HI.out _ _ _ _).mono ?_
    rw [HC1.out]
    rintro e w1 ⟨rfl, rfl⟩
    go_wp2_with fail
    refine (HI.out _ _ _ _).mono ?_
    rw [HC2.out]
    rintro e w1 ⟨rfl, rfl⟩
    go_wp2_with fail
    refine HM.out.mono ?_
    rintro e w1 ⟨rfl, hb1⟩
    have hB1 := hB.trans (hb1.mono hB.size)
    have e4 := (hb1.cell (p := ⟨w.heap.size, 3, none⟩) hz).trans e3
    go_wp2
    go_ret
    exact ⟨ret_strE HV.out.symm, hB1⟩
  rcases b_cases (stateB st) with h4 | h4
  · have HV := hide (HBAD.out (by rw [HVB.out, h1, h2, h3, h4]; rfl))
    rw [h3] at HM
    rw [h4] at HS
    clear h1 h2 h3 h4
    go_enter Tryd.func19, Tryd.ntmps19
    go_wp2_with fail
    rw [← hW0]
    clear hW0
    refine (HI.out _ _ _ _).mono ?_
    rw [HC1.out]
    rintro e w1 ⟨rfl, rfl⟩
    go_wp2_with fail
    refine (HI.out _ _ _ _).mono ?_
    rw [HC2.out]
    rintro e w1 ⟨rfl, rfl⟩
    go_wp2_with fail
    refine HM.out.mono ?_
    rintro e w1 ⟨rfl, hb1⟩
    have hB1 := hB.trans (hb1.mono hB.size)
    have e4 := (hb1.cell (p := ⟨w.heap.size, 3, none⟩) hz).trans e3
    go_wp2_with fail
    refine (HS.out _ hB1).mono ?_
    rintro e w2 ⟨rfl, hb2⟩
    go_wp2
    go_ret
    exact ⟨ret_strE HV.out.symm, hB1.trans (hb2.mono hB1.size)⟩
  have HV := hide (HGOOD.out (by rw [HVB.out, h1, h2, h3, h4]; rfl))
  have HNM := hide (state_name h4)
  have hn24 := state_len h4
  rw [HL.out] at hn24
  have hm20 := memo_len h3
  rw [h3] at HM
  rw [h4] at HS
  clear h1 h2 h3 h4 HVB HBAD HGOOD
  go_enter Tryd.func19, Tryd.ntmps19
  go_wp2_with fail
  rw [← hW0]
  clear hW0
  refine (HI.out _ _ _ _).mono ?_
  rw [HC1.out]
  rintro e w1 ⟨rfl, rfl⟩
  go_wp2_with fail
  refine (HI.out _ _ _ _).mono ?_
  rw [HC2.out]
  rintro e w1 ⟨rfl, rfl⟩
  go_wp2_with fail
  refine HM.out.mono ?_
  rintro e w1 ⟨rfl, hb1⟩
  have hB1 := hB.trans (hb1.mono hB.size)
  have e4 := (hb1.cell (p := ⟨w.heap.size, 3, none⟩) hz).trans e3
  go_wp2_with fail
  refine (HS.out _ hB1).mono ?_
  rintro e Wd ⟨rfl, hbd⟩
  have hBd := hB1.trans (hbd.mono hB1.size)
  have hz1 := Nat.lt_of_lt_of_le hz hb1.size
  have d0 := (hbd.cell (p := ⟨w.heap.size, 0, none⟩) hz1).trans ((hb1.cell (p := ⟨w.heap.size, 0, none⟩) hz).trans e0)
  have d1 := (hbd.cell (p := ⟨w.heap.size, 1, none⟩) hz1).trans ((hb1.cell (p := ⟨w.heap.size, 1, none⟩) hz).trans e1)
  have d2 := (hbd.cell (p := ⟨w.heap.size, 2, none⟩) hz1).trans ((hb1.cell (p := ⟨w.heap.size, 2, none⟩) hz).trans e2)
  have d3 := (hbd.cell (p := ⟨w.heap.size, 3, none⟩) hz1).trans e4
  have hzd : w.heap.size < Wd.heap.size := Nat.lt_of_lt_of_le hz1 hbd.size
  obtain ⟨Wb, hWb⟩ : ∃ Wb, Wb = Wd.alloc (.cells #[.pointer none, .slice none 0 0] 79) := ⟨_, rfl⟩
  have hBw : Below Wd.heap.size Wd Wb := by rw [hWb]; exact (Below.refl _ _).alloc (Nat.le_refl _) _
  have hBb := hBd.trans (hBw.mono hBd.size)
  have HB0 : Hid (Lib.IsBuilder 79 5 Wd.heap.size Wd.heap.size [] Wb) := by rw [hWb]; exact builder_new Wd _ _
  have hzb : Wd.heap.size < Wb.heap.size := by rw [hWb]; simp
  have b0 := (hBw.cell (p := ⟨w.heap.size, 0, none⟩) hzd).trans d0
  have b1 := (hBw.cell (p := ⟨w.heap.size, 1, none⟩) hzd).trans d1
  have b2 := (hBw.cell (p := ⟨w.heap.size, 2, none⟩) hzd).trans d2
  have b3 := (hBw.cell (p := ⟨w.heap.size, 3, none⟩) hzd).trans d3
  have HRd : Hid (RdS Wd A n st) := h.below hBd (Nat.le_refl _)
  have HTB : Hid (∀ W, Below Wd.heap.size Wd W → TabP W) := fun W hW => (hT.here hBd).below hW (Nat.le_refl _)
  have HT : Hid (TabP Wb.drew) := (hT.here hBb).drew
  have H1 : Hid (∀ w, TabP w → Calls Tryd.prog 39 #[.int .i64 nu] w fun e w' => e = .returned (.string (decZ nu)) ∧ Below w.heap.size w w') := fun w ht => decimal_calls nu w ht hnu
  have H2 : Hid (∀ w, TabP w → Calls Tryd.prog 39 #[.int .i64 pa] w fun e w' => e = .returned (.string (decZ pa)) ∧ Below w.heap.size w w') := fun w ht => decimal_calls pa w ht hpa
  have s1 := itoa_len hnu
  have s2 := itoa_len hpa
  obtain ⟨l1, l2, l3, l4⟩ := size_lit1
  have c1 := fun w : World => run_string_add_sum (P := Tryd.prog) w (decZ nu) ⟨#[60]⟩ (by omega)
  have c2 := fun w : World => run_string_add_sum (P := Tryd.prog) w (decZ nu ++ ⟨#[60]⟩) (decZ pa) (by rw [ByteArray.size_append]; omega)
  have hhs : (headZ nu pa).size ≤ 50 := by unfold headZ; simp only [ByteArray.size_append]; omega
  have HHD : Hid (decZ nu ++ ⟨#[60]⟩ ++ decZ pa = headZ nu pa) := rfl
  have HW : Hid (∀ (s : ByteArray) (l : List Value) W, Lib.IsBuilder 79 5 Wd.heap.size Wd.heap.size l W → l.length + s.size ≤ 140737488355328 → Wd.heap.size ≤ W.heap.size → Calls Tryd.prog 46 #[.pointer (some ⟨Wd.heap.size, 0, none⟩), .string s] W fun e w' => e = .returned (.tuple #[.int .i64 s.size, .nilIface]) ∧ Lib.IsBuilder 79 5 Wd.heap.size Wd.heap.size (l ++ Lib.strCells s) w' ∧ Below Wd.heap.size W w' ∧ ∀ k, k ≠ Wd.heap.size → k < W.heap.size → (∀ p v, W.heap[Wd.heap.size]? = some (.cells #[p, v] 79 (0, 0)) → v.ownBlock ≠ some k) → w'.heap[k]? = W.heap[k]?) := fun s l W h1 h2 h3 => writeS_calls _ _ l s W h1 h2 h3
  have HW1 : Hid (∀ w1 w2, Below Wb.drew.heap.size Wb.drew w1 → Below w1.heap.size w1 w2 → Calls Tryd.prog 46 #[.pointer (some ⟨Wd.heap.size, 0, none⟩), .string (decZ nu ++ ⟨#[60]⟩ ++ decZ pa)] w2 fun e w' => e = .returned (.tuple #[.int .i64 (decZ nu ++ ⟨#[60]⟩ ++ decZ pa).size, .nilIface]) ∧ Lib.IsBuilder 79 5 Wd.heap.size Wd.heap.size (Lib.strCells (headZ nu pa)) w' ∧ Below Wd.heap.size Wd w') := by
    intro w1 w2 h1 h2
    have hb : Below Wb.heap.size Wb w2 := ((Below.refl _ Wb).drew.trans h1).trans (h2.mono (by have := h1.size; simpa using this))
    rw [HHD.out]
    refine (HW.out (headZ nu pa) [] w2 (builder_below HB0.out hb (Nat.le_refl _)) (by simp; omega) (by have := hb.size; omega)).mono ?_
    rintro e w' ⟨rfl, hq, hb3, _⟩
    exact ⟨rfl, hq, (hBw.trans (hb.mono hBw.size)).trans hb3⟩
  clear HI HM HS HC1 HC2 e0 e1 e2 e3 e4 hz hz1 hB h l1 l2 l3 l4 hb1 hbd hT hB1 hBb
  go_wp2
  rw [← hWb]
  clear hWb
  go_region_held3 (fun w' => w'.cell? ⟨w.heap.size, 0, none⟩ = some (.int .i64 nu) ∧ w'.cell? ⟨w.heap.size, 1, none⟩ = some (.int .i64 pa))
    (first | exact ⟨b0, b1⟩ | exact ⟨(hb1.cell (p := ⟨w.heap.size, 0, none⟩) (Nat.lt_trans hzd hzb)).trans b0, (hb1.cell (p := ⟨w.heap.size, 1, none⟩) (Nat.lt_trans hzd hzb)).trans b1⟩ | exact ⟨(hb2.cell (p := ⟨w.heap.size, 0, none⟩) (Nat.lt_of_lt_of_le (Nat.lt_trans hzd hzb) hb1.size)).trans ((hb1.cell (p := ⟨w.heap.size, 0, none⟩) (Nat.lt_trans hzd hzb)).trans b0), (hb2.cell (p := ⟨w.heap.size, 1, none⟩) (Nat.lt_of_lt_of_le (Nat.lt_trans hzd hzb) hb1.size)).trans ((hb1.cell (p := ⟨w.heap.size, 1, none⟩) (Nat.lt_trans hzd hzb)).trans b1)⟩ | exact ⟨(hb3.cell (p := ⟨w.heap.size, 0, none⟩) hzd).trans d0, (hb3.cell (p := ⟨w.heap.size, 1, none⟩) hzd).trans d1⟩)
    (first
      | ((with_reducible refine (H1.out _ HT.out).mono ?_); rintro e w1 ⟨rfl, hb1⟩)
      | ((with_reducible refine (H2.out _ (TabP.here (w' := w1) HT.out hb1)).mono ?_); rintro e w2 ⟨rfl, hb2⟩)
      | ((with_reducible refine (H2.out _ (TabP.drew (TabP.here (w' := w1) HT.out hb1))).mono ?_); rintro e w2 ⟨rfl, hb2⟩)
      | ((with_reducible refine (HW1.out w1 w2 hb1 hb2).mono ?_); rintro e w3 ⟨rfl, hq3, hb3⟩)
      | ((with_reducible refine (HW1.out w1.drew w2 hb1.drew hb2).mono ?_); rintro e w3 ⟨rfl, hq3, hb3⟩)
      | fail)
  all_goals
    have k3 := (hb3.cell (p := ⟨w.heap.size, 3, none⟩) hzd).trans d3
    have HQ3 := hide hq3
    have HB3 := hide hb3
    have HHS := hide hhs
    clear hb1 hb2 hb3 hq3 c1 c2 HHD HW1 hhs s1 s2 H1 H2 HB0 b0 b1 b2 b3 HT hBw
    generalize headZ nu pa = hd at *
    go_wp2
    go_loopw [43] (fun i wr => ∃ (K : Nat) (ob : ByteArray), K ≤ n ∧ i = .int .i64 K ∧ ob.size ≤ 50 + 32 * K ∧ Hid (ob = partsZ hd (st.take K)) ∧ Hid (Lib.IsBuilder 79 5 Wd.heap.size Wd.heap.size (Lib.strCells ob) wr) ∧ Below Wd.heap.size Wd wr) (fun i _ => n - (intOf i).toNat)
    case atStart => exact ⟨0, hd, Nat.zero_le _, rfl, HHS.out, rfl, HQ3.out, HB3.out⟩
    case round =>
      clear HQ3 HB3 k3
      obtain ⟨K, ob, hK, rfl, hos, HOB, HQ, hb⟩ := hrel
      have k2 := (hb.cell (p := ⟨w.heap.size, 2, none⟩) hzd).trans d2
      by_cases hlt : K < n
      · obtain ⟨b, off, sn, sv, rfl, hbl, hx, f0, f1, _, hv1, hv2⟩ := (HRd.out.below hb (Nat.le_refl _)).at hlt
        have hsn := HNM.out _ (List.mem_of_getElem? hx.out)
        simp only at hsn
        have hv : I64 sv := ⟨hv1, hv2⟩
        obtain ⟨W1, hW1⟩ : ∃ W1, W1 = wr.alloc (.cells #[.string sn, .int .i64 sv] 57) := ⟨_, rfl⟩
        have hw1 : Below wr.heap.size wr W1 := by rw [hW1]; exact (Below.refl _ _).alloc (Nat.le_refl _) _
        have hbW1 := hb.trans (hw1.mono hb.size)
        have g0 : W1.cell? ⟨wr.heap.size, 0, none⟩ = some (.string sn) := by rw [hW1]; simp
        have g1 : W1.cell? ⟨wr.heap.size, 1, none⟩ = some (.int .i64 sv) := by rw [hW1]; simp
        have hz1 : wr.heap.size < W1.heap.size := by rw [hW1]; simp
        have HM : Hid (Calls Tryd.prog 39 #[.int .i64 sv] W1.drew fun e w' => e = .returned (.string (decZ sv)) ∧ Below W1.drew.heap.size W1.drew w') := decimal_calls sv W1.drew (HTB.out W1 hbW1).drew hv
        have s1 := itoa_len hv
        have hps := part_size (s := ⟨sn, sv⟩) hsn hv
        have HN : Hid (ob ++ partZ ⟨sn, sv⟩ = partsZ hd (st.take (K + 1))) := by unfold Hid; rw [parts_step hx.out, HOB.out]
        have HPZ : Hid (⟨#[32]⟩ ++ sn ++ ⟨#[61]⟩ ++ decZ sv = partZ ⟨sn, sv⟩) := rfl
        obtain ⟨l1, l2, _, _⟩ := size_lit1
        have c1 := fun w : World => run_string_add_sum (P := Tryd.prog) w ⟨#[32]⟩ sn (by omega)
        have c2 := fun w : World => run_string_add_sum (P := Tryd.prog) w (⟨#[32]⟩ ++ sn) ⟨#[61]⟩ (by rw [ByteArray.size_append]; omega)
        have c3 := fun w : World => run_string_add_sum (P := Tryd.prog) w (⟨#[32]⟩ ++ sn ++ ⟨#[61]⟩) (decZ sv) (by rw [ByteArray.size_append, ByteArray.size_append]; omega)
        have hos2 : (ob ++ partZ ⟨sn, sv⟩).size ≤ 50 + 32 * (K + 1) := by rw [ByteArray.size_append]; omega
        have HW2 : Hid (∀ w2, Below W1.drew.heap.size W1.drew w2 → Calls Tryd.prog 46 #[.pointer (some ⟨Wd.heap.size, 0, none⟩), .string (⟨#[32]⟩ ++ sn ++ ⟨#[61]⟩ ++ decZ sv)] w2 fun e w' => e = .returned (.tuple #[.int .i64 (⟨#[32]⟩ ++ sn ++ ⟨#[61]⟩ ++ decZ sv : ByteArray).size, .nilIface]) ∧ Lib.IsBuilder 79 5 Wd.heap.size Wd.heap.size (Lib.strCells (ob ++ partZ ⟨sn, sv⟩)) w' ∧ Below Wd.heap.size Wd w' ∧ w'.cell? ⟨wr.heap.size, 0, none⟩ = some (.string sn) ∧ w'.cell? ⟨wr.heap.size, 1, none⟩ = some (.int .i64 sv)) := by
          intro w2 h2
          have hb2 : Below W1.heap.size W1 w2 := (Below.refl _ W1).drew.trans h2
          rw [HPZ.out]
          refine (HW.out (partZ ⟨sn, sv⟩) (Lib.strCells ob) w2 (builder_below (builder_below HQ.out hw1 (Nat.le_refl _)) hb2 (Nat.le_refl _)) (by rw [Lib.strCells_length]; omega) (by have := hbW1.size; have := hb2.size; omega)).mono ?_
          rintro e w' ⟨rfl, hq, hb3, hkp⟩
          obtain ⟨ha1, ha2⟩ := builder_apart HQ.out (hw1.trans (hb2.mono hw1.size)) (Nat.le_refl _)
          have hkk := hkp wr.heap.size (by omega) (Nat.lt_of_lt_of_le hz1 hb2.size) (ha2 _ (Nat.le_refl _))
          exact ⟨rfl, by rw [← str_app]; exact hq, (hbW1.trans (hb2.mono hbW1.size)).trans hb3, (cell_of_heapEq hkk).trans ((hb2.cell (p := ⟨wr.heap.size, 0, none⟩) hz1).trans g0), (cell_of_heapEq hkk).trans ((hb2.cell (p := ⟨wr.heap.size, 1, none⟩) hz1).trans g1)⟩
        have hi1 : (0 : Int) ≤ (K : Int) := by omega
        have hi2 : (K : Int) < (n : Int) := by omega
        clear l1 l2 hps HPZ hx s1 HQ
        go_wp2
        rw [← hW1]
        clear hW1 f0 f1
        go_region_held3 (fun w' => w'.cell? ⟨wr.heap.size, 0, none⟩ = some (.string sn) ∧ w'.cell? ⟨wr.heap.size, 1, none⟩ = some (.int .i64 sv))
          (first | exact ⟨g0, g1⟩ | exact ⟨(hb2.cell (p := ⟨wr.heap.size, 0, none⟩) hz1).trans g0, (hb2.cell (p := ⟨wr.heap.size, 1, none⟩) hz1).trans g1⟩ | exact ⟨q0, q1⟩)
          (first
            | ((with_reducible refine HM.out.mono ?_); rintro e w2 ⟨rfl, hb2⟩)
            | ((with_reducible refine (HW2.out w2 hb2).mono ?_); rintro e w3 ⟨rfl, hq3, hb3, q0, q1⟩)
            | fail)
        all_goals
          have HQ4 := hide hq3
          clear hb2 hq3 q0 q1 g0 g1 c1 c2 c3 HW2 HM
          go_wp2
          go_roundw
          case rel => exact ⟨K + 1, _, by omega, by go_num, hos2, HN.out, HQ4.out, hb3⟩
          case measure => simp [intOf]; omega
      · have hKn : K = n := by omega
        subst hKn
        have HOB2 : Hid (ob = partsZ hd st) := by
          have := HOB.out
          rw [List.take_of_length_le (by rw [HL.out]; exact Nat.le_refl _)] at this
          exact this
        have HST : Hid (∀ (t : ByteArray) W, Lib.IsBuilder 79 5 Wd.heap.size Wd.heap.size (Lib.strCells t) W → Wd.heap.size ≤ W.heap.size → Calls Tryd.prog 47 #[.pointer (some ⟨Wd.heap.size, 0, none⟩)] W fun e w' => e = .returned (.string t) ∧ Below Wd.heap.size W w') := fun t W h1 h2 => Tryd.Builder_String_any Wd.heap.size Wd.heap.size t.data.toList W h1 h2
        have hzr := hb.size
        by_cases hm0 : me.size = 0
        · have HME : Hid (memZ me = ⟨#[]⟩) := by unfold Hid memZ; rw [if_pos hm0]
          have g1 := mem_empty hm0
          clear hm0
          go_wp2_with fail
          refine (HST.out ob wr HQ.out hzr).mono ?_
          rintro e w4 ⟨rfl, hb4⟩
          go_wp2
          go_ret
          exact ⟨ret_strE (by rw [HV.out, HME.out, app_empty, HOB2.out]), hBd.trans ((hb.trans hb4).mono hBd.size)⟩
        · have HME : Hid (⟨#[32, 35, 32]⟩ ++ me = memZ me) := by unfold Hid memZ; rw [if_neg hm0]
          have g1 := mem_some hm0
          obtain ⟨_, _, _, l4⟩ := size_lit1
          have c1 := fun w : World => run_string_add_sum (P := Tryd.prog) w ⟨#[32, 35, 32]⟩ me (by omega)
          have hms : (memZ me).size ≤ 23 := by rw [← HME.out, ByteArray.size_append]; omega
          have HW4 : Hid (Calls Tryd.prog 46 #[.pointer (some ⟨Wd.heap.size, 0, none⟩), .string (⟨#[32, 35, 32]⟩ ++ me)] wr fun e w' => e = .returned (.tuple #[.int .i64 (⟨#[32, 35, 32]⟩ ++ me : ByteArray).size, .nilIface]) ∧ Lib.IsBuilder 79 5 Wd.heap.size Wd.heap.size (Lib.strCells (ob ++ memZ me)) w' ∧ Below Wd.heap.size wr w') := by
            rw [HME.out]
            refine (HW.out (memZ me) (Lib.strCells ob) wr HQ.out (by rw [Lib.strCells_length]; omega) hzr).mono ?_
            rintro e w' ⟨rfl, hq, hb3, _⟩
            exact ⟨rfl, by rw [← str_app]; exact hq, hb3⟩
          clear hm0 l4
          go_wp2_with fail
          refine HW4.out.mono ?_
          rintro e w4 ⟨rfl, hq4, hb4⟩
          have hzr4 := hb4.size
          go_wp2_with fail
          refine (HST.out _ w4 hq4 (by omega)).mono ?_
          rintro e w5 ⟨rfl, hb5⟩
          go_wp2
          go_ret
          exact ⟨ret_strE (by rw [HV.out, HOB2.out]), hBd.trans (((hb.trans hb4).trans hb5).mono hBd.size)⟩

end Go.Proofs.YtmpfkmbfbeejhaaDoor
