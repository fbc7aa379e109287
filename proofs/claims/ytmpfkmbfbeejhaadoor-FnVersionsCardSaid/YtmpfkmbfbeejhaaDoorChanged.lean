/- impl.changed: one change of a state on the call's own memory. -/
import Derived.Test.YtmpfkmbfbeejhaaDoorInsSetting
import Derived.Test.YtmpfkmbfbeejhaaDoorChgZ
import Derived.Test.YtmpfkmbfbeejhaaDoorMg
import Derived.Test.YtmpfkmbfbeejhaaDoorConfS
namespace Go.Proofs.YtmpfkmbfbeejhaaDoor
open Go.RowKit
set_option linter.unusedVariables false

set_option maxHeartbeats 1000000 in
theorem insNone_calls (base vb c : Nat) (s : SetZ) (w : World) (hbase : base ≤ w.heap.size) (hvb : w.heap[vb]? = some (.cells (kSetting.c s).toArray 57 (0, 0))) :
    Calls Tryd.prog 58 #[.slice none 0 0, .int .i64 0, .slice (some ⟨vb, 0, none⟩) 1 1] w (InsPostSetting base 0 0 [] s w) := by
  have hvl : vb < w.heap.size := (Array.getElem?_eq_some_iff.1 hvb).1
  have hRd : Rd w (some ⟨vb, 0, none⟩) 1 2 (cK kSetting [s]) := ⟨by simp [cK_len, kSetting], fun _ => ⟨vb, 0, rfl, hvl, fun j u hj => by
    rw [Nat.zero_add]
    exact cell_heap hvb (by simpa [cK] using hj)⟩⟩
  have HRd := hide hRd
  have HO := hide (World.ownsRow_nil w base 57 2)
  clear hRd hvb
  go_enter Tryd.func58, Tryd.ntmps58
  go_wp2_with (at_builtin; refine appsSetting rfl _ _ rfl base (.slice none 0 0) 0 [] rfl HO.out (some ⟨vb, 0, none⟩) 1 1 [s] rfl HRd.out (by omega) hbase ?_; intro v4 w4 hown4 hb4 hz4)
  obtain ⟨g4, c4, rfl⟩ := own_addr2 hown4 (by omega)
  go_ret
  exact ⟨g4, c4, rfl, hown4, hb4⟩

theorem cK_setS {ss : List SetZ} {i : Nat} {e : SetZ} (h : i < ss.length) : ((cK kSetting ss).set (i * 2) (.string e.name)).set (i * 2 + 1) (.int .i64 e.value) = cK kSetting (ss.set i e) := by
  induction ss generalizing i with
  | nil => simp at h
  | cons s r ih =>
    have e1 : ∀ (x : SetZ) (l : List SetZ), cK kSetting (x :: l) = .string x.name :: .int .i64 x.value :: cK kSetting l := fun _ _ => rfl
    cases i with
    | zero => rw [List.set_cons_zero, e1, e1]; rfl
    | succ i =>
      rw [List.set_cons_succ, e1, e1, show (i + 1) * 2 = i * 2 + 1 + 1 by omega, List.set_cons_succ, List.set_cons_succ, List.set_cons_succ, List.set_cons_succ, ih (by simpa using h)]

/-- What one change leaves. -/
def ChgPost (base : Nat) (ss : List SetZ) (cz : ChangeZ) (w : World) (e : Ending) (w' : World) : Prop :=
  ∃ A' n' c', e = .returned (.tuple #[.slice A' n' c', .int .i64 (chgC ss cz)]) ∧ (chgC ss cz = 0 → w'.ownsRow base 57 2 (.slice A' n' c') n' (cK kSetting (chgL ss cz)) ∧ n' ≤ 24) ∧ Below base w w'

set_option maxRecDepth 100000 in
set_option maxHeartbeats 4000000 in
theorem changed_calls (A : Option Addr) (n c base : Nat) (ss : List SetZ) (k v : Int) (nm : ByteArray) (w : World) (hown : w.ownsRow base 57 2 (.slice A n c) n (cK kSetting ss)) (hl : ss.length = n) (hx : ∀ s ∈ ss, s.fine) (hn : n ≤ 24) (hs : SortedZ ss) (hbase : base ≤ w.heap.size) :
    Calls Tryd.prog 32 #[.slice A n c, .agg #[.int .i64 k, .string nm, .int .i64 v]] w (ChgPost base ss ⟨k, nm, v⟩ w) := by
  obtain ⟨W0, hW0⟩ : ∃ W0, W0 = w.alloc (.cells #[.int .i64 k, .string nm, .int .i64 v] 60) := ⟨_, rfl⟩
  have BB : Below w.heap.size w W0 := hW0 ▸ (Below.refl _ _).alloc (Nat.le_refl _) _
  have z0 : W0.heap.size = w.heap.size + 1 := by rw [hW0]; simp
  have e0 : W0.cell? ⟨w.heap.size, 0, none⟩ = some (.int .i64 k) := by rw [hW0]; simp [go_sem]
  have e1 : W0.cell? ⟨w.heap.size, 1, none⟩ = some (.string nm) := by rw [hW0]; simp [go_sem]
  have e2 : W0.cell? ⟨w.heap.size, 2, none⟩ = some (.int .i64 v) := by rw [hW0]; simp [go_sem]
  have hown0 := own_below hown BB (Nat.le_refl _)
  have hrd0 := own_state hown0 hl hx
  have HSA := hide (settingAt_calls A n c ss nm W0 hrd0 (by omega) hs)
  go_enter Tryd.func32, Tryd.ntmps32
  go_upto_region 1 with (fail)
  rw [← hW0]
  clear hW0
  go_wp2_with fail
  refine HSA.out.mono ?_
  rintro e w1 ⟨i, q, rfl, hi, hq, hb1⟩
  have hz1 := hb1.size
  have c0 := (hb1.cell (p := ⟨w.heap.size, 0, none⟩) (by show w.heap.size < W0.heap.size; omega)).trans e0
  have c1 := (hb1.cell (p := ⟨w.heap.size, 1, none⟩) (by show w.heap.size < W0.heap.size; omega)).trans e1
  have c2 := (hb1.cell (p := ⟨w.heap.size, 2, none⟩) (by show w.heap.size < W0.heap.size; omega)).trans e2
  have HO1 := hide (own_below hown0 hb1 (Nat.le_refl _))
  have HIQ := hide (And.intro hi hq)
  have hB1 : Below base w w1 := (BB.mono hbase).trans (hb1.mono (by omega))
  clear e0 e1 e2 hown hown0 hrd0 hi hq hb1
  by_cases hk1 : k = 1
  · subst hk1
    cases q
    · have HNF : Hid (∀ s, ss[i]? = some s → s.name ≠ nm) := by
        intro s hs1 he
        have h1 := HIQ.out.2.2 ⟨s.value, by rw [hs1, ← he]⟩
        cases h1
      have HLN := hide (len_new (e := ⟨nm, v⟩) HIQ.out.1 HNF.out)
      by_cases hfull : 24 ≤ n
      · have hfi : (24 : Int) ≤ (n : Int) := by omega
        have HC : Hid (chgC ss ⟨1, nm, v⟩ = 5) := by
          unfold Hid chgC
          rw [if_pos rfl, if_pos (by rw [HLN.out]; omega)]
        go_wp2
        go_ret2
        exact ⟨none, 0, 0, ret_two rfl (congrArg (Value.int .i64) HC.out.symm), fun h => by rw [HC.out] at h; omega, hB1⟩
      · have HC : Hid (chgC ss ⟨1, nm, v⟩ = 0) := by
          unfold Hid chgC
          rw [if_pos rfl, if_neg (by rw [HLN.out]; omega)]
        have HLs : Hid (chgL ss ⟨1, nm, v⟩ = ss.take i ++ [⟨nm, v⟩] ++ ss.drop i) := by
          unfold Hid chgL
          rw [if_pos rfl]
          exact set_new HIQ.out.1 HNF.out
        have hB2 : Below base w1 (w1.alloc (.cells #[.string nm, .int .i64 v] 57)) := (Below.refl _ _).alloc (by have := hB1.size; omega) _
        have HIns : Hid (Calls Tryd.prog 58 #[.slice A n c, .int .i64 i, .slice (some ⟨w1.heap.size, 0, none⟩) 1 1] (w1.alloc (.cells #[.string nm, .int .i64 v] 57)) (InsPostSetting base n i ss ⟨nm, v⟩ (w1.alloc (.cells #[.string nm, .int .i64 v] 57)))) := by
          have hoa := own_below HO1.out ((Below.refl w1.heap.size w1).alloc (Nat.le_refl _) (.cells #[.string nm, .int .i64 v] 57)) (Nat.le_refl _)
          have hnew := heap_alloc_new w1 (.cells #[.string nm, .int .i64 v] 57)
          have hbz : base ≤ (w1.alloc (.cells #[.string nm, .int .i64 v] 57)).heap.size := by have := hB1.size; simp; omega
          have hi1 := HIQ.out.1.1
          rcases HO1.out.2 with ⟨hv, hn0⟩ | ⟨g, cap, cur, hv, hbg, hgg, _⟩
          · injection hv with hv1 _ hv3
            subst hv1 hv3 hn0
            have hs0 : ss = [] := List.eq_nil_of_length_eq_zero hl
            subst hs0
            have hi0 : i = 0 := by simpa using hi1
            subst hi0
            exact insNone_calls base _ 0 ⟨nm, v⟩ _ hbz hnew
          · injection hv with hv1 _ hv3
            subst hv1 hv3
            have hgl : g < w1.heap.size := (Array.getElem?_eq_some_iff.1 hgg).1
            exact insSetting_calls g n c base i _ ss ⟨nm, v⟩ _ hoa (by omega) (by omega) hbz hnew (by omega)
        go_wp2_with fail
        refine HIns.out.mono ?_
        rintro e w2 ⟨g', c', rfl, hown2, hb2⟩
        go_wp2
        go_ret2
        exact ⟨_, _, _, ret_two rfl (congrArg (Value.int .i64) HC.out.symm), fun _ => ⟨by rw [HLs.out]; exact hown2, by omega⟩, hB1.trans (hB2.trans hb2)⟩
    · obtain ⟨v0, hsi⟩ := HIQ.out.2.1 rfl
      have hil : i < n := by rw [← hl]; exact (List.getElem?_eq_some_iff.1 hsi).1
      have HC : Hid (chgC ss ⟨1, nm, v⟩ = 0) := by
        unfold Hid chgC
        rw [if_pos rfl, if_neg (by rw [len_found (e := ⟨nm, v⟩) HIQ.out.1 hsi rfl]; omega)]
      have HLs : Hid (chgL ss ⟨1, nm, v⟩ = ss.set i ⟨nm, v⟩) := by
        unfold Hid chgL
        rw [if_pos rfl]
        exact set_found HIQ.out.1 hsi rfl
      obtain ⟨g, c', hA⟩ := own_addr2 HO1.out (by omega)
      obtain ⟨rfl, rfl⟩ : A = some ⟨g, 0, none⟩ ∧ c = c' := by simpa using hA
      clear hA
      have hbg := (HO1.out.lt g rfl).1
      obtain ⟨u1, p1, p2, hst⟩ := own_store (k := i * 2) HO1.out (by omega)
      obtain ⟨u2, r1, r2, _⟩ := own_store (k := i * 2 + 1) HO1.out (by omega)
      obtain ⟨u3, s1, s2, hst2⟩ := own_store (k := i * 2 + 1) (hst.out (.string nm)) (by omega)
      have H3 := hide (hst2.out (.int .i64 v))
      go_wp2
      go_ret2
      refine ⟨_, _, _, ret_two rfl (congrArg (Value.int .i64) HC.out.symm), fun _ => ⟨?_, hn⟩, (hB1.setCell (by simpa using hbg) _).setCell (by simpa using hbg) _⟩
      rw [HLs.out, ← cK_setS (by omega)]
      exact H3.out
  · have hk1' : (k == 1) = false := by simpa using hk1
    cases q
    · have HC : Hid (chgC ss ⟨k, nm, v⟩ = 3) := by
        unfold Hid chgC
        rw [if_neg hk1]
        have hg : getZ ss nm = none := by
          rw [idx_get HIQ.out.1 hs]
          cases hsi : ss[i]? with
          | none => rfl
          | some s =>
            by_cases he : s.name = nm
            · exact absurd (HIQ.out.2.2 ⟨s.value, by rw [hsi, ← he]⟩) (by simp)
            · simp [he]
        rw [hg]
      go_wp2
      go_ret2
      exact ⟨none, 0, 0, ret_two rfl (congrArg (Value.int .i64) HC.out.symm), fun h => by rw [HC.out] at h; omega, hB1⟩
    · obtain ⟨v0, hsi⟩ := HIQ.out.2.1 rfl
      have hil : i < n := by rw [← hl]; exact (List.getElem?_eq_some_iff.1 hsi).1
      have hg : getZ ss nm = some ⟨nm, v0⟩ := by
        rw [idx_get HIQ.out.1 hs, hsi]
        simp
      have HG := hide hg
      clear hg
      obtain ⟨b, off, s', v', hA, hbl, hx', hc, hc2, hs1', hv1', hv2'⟩ := (own_state HO1.out hl hx).at hil
      obtain ⟨rfl, rfl⟩ : nm = s' ∧ v0 = v' := by
        have := hsi.symm.trans hx'.out
        simpa using this
      obtain ⟨g, c', hA2⟩ := own_addr2 HO1.out (by omega)
      obtain ⟨rfl, rfl⟩ : A = some ⟨g, 0, none⟩ ∧ c = c' := by simpa using hA2
      obtain ⟨rfl, rfl⟩ : g = b ∧ 0 = off := by simpa using hA
      clear hA hA2
      rw [Nat.zero_add] at hc hc2
      have q1 := (str_eq (rfl : nm = nm)).1
      have HSI := hide hsi
      clear hsi hx'
      by_cases hv : v0 = v
      · subst hv
        obtain ⟨n', rfl⟩ : ∃ n', n = n' + 1 := ⟨n - 1, by omega⟩
        have HC : Hid (chgC ss ⟨k, nm, v0⟩ = 0) := by
          unfold Hid chgC
          rw [if_neg hk1, HG.out]
          simp
        have HLs : Hid (chgL ss ⟨k, nm, v0⟩ = ss.take i ++ ss.drop (i + 1)) := by
          unfold Hid chgL
          rw [if_neg hk1]
          exact idx_less hs HSI.out
        go_wp2
        go_quiet (fail)
        go_wp2_with fail
        refine (delSetting_calls g n' c base i ss _ (own_drewN HO1.out _) (by omega) (by omega) (by have := hB1.size; show base ≤ w1.heap.size; omega)).mono ?_
        rintro e w2 ⟨g', c', rfl, hown2, hb2⟩
        go_wp2
        go_ret2
        exact ⟨_, _, _, ret_two rfl (congrArg (Value.int .i64) HC.out.symm), fun _ => ⟨by rw [HLs.out]; exact hown2, by omega⟩, (below_drewN hB1 _).trans hb2⟩
      · have hvv : (v0 == v) = false := by simpa using hv
        have HC : Hid (chgC ss ⟨k, nm, v⟩ = 6) := by
          unfold Hid chgC
          rw [if_neg hk1, HG.out]
          simp [hv]
        go_wp2
        go_quiet (fail)
        go_wp2
        go_ret2
        exact ⟨none, 0, 0, ret_two rfl (congrArg (Value.int .i64) HC.out.symm), fun h => by rw [HC.out] at h; omega, below_drewN hB1 _⟩

end Go.Proofs.YtmpfkmbfbeejhaaDoor
