/- copyVersion, commit: a list of versions with one more. -/
import Derived.Test.YtmpfkmbfbeejhaaDoorClone
namespace Go.Proofs.YtmpfkmbfbeejhaaDoor
open Go.RowKit
set_option linter.unusedVariables false

theorem heap2 (w : World) (X Y : Obj) : ((w.alloc X).alloc Y).heap[w.heap.size]? = some X ∧ ((w.alloc X).alloc Y).heap[w.heap.size + 1]? = some Y := by
  have e : ((w.alloc X).alloc Y).heap = (w.heap.push X).push Y := rfl
  rw [e]
  constructor
  · rw [Array.getElem?_push, if_neg (by simp), Array.getElem?_push_size]
  · rw [show w.heap.size + 1 = (w.heap.push X).size by simp, Array.getElem?_push_size]

set_option maxHeartbeats 1000000 in
theorem copyVersion_calls (nu pa : Int) (me : ByteArray) (Aq : Option Addr) (nq cq : Nat) (st : List SetZ) (w : World) (h : RdS w Aq nq st) (hn : nq ≤ 1048576) :
    Calls Tryd.prog 62 #[.agg #[.int .i64 nu, .int .i64 pa, .string me, .slice Aq nq cq]] w fun e w' => ∃ A' c', e = .returned (.agg #[.int .i64 nu, .int .i64 pa, .string me, .slice A' nq c']) ∧ Fr w' w.heap.size w'.heap.size 57 2 A' nq (st.map cS).flatten ∧ Below w.heap.size w w' := by
  go_enter Tryd.func62, Tryd.ntmps62
  go_wp2_with fail
  obtain ⟨w3, hw3⟩ : ∃ w3, w3 = ((w.alloc (.cells #[.int .i64 nu, .int .i64 pa, .string me, .slice Aq nq cq] 48)).alloc (.cells #[.int .i64 0, .int .i64 0, .string ⟨#[]⟩, .slice none 0 0] 48)) := ⟨_, rfl⟩
  rw [← hw3]
  have hz : w3.heap.size = w.heap.size + 1 + 1 := by rw [hw3]; simp
  have hB : Below w.heap.size w w3 := by
    rw [hw3]
    exact ((Below.refl _ _).alloc (Nat.le_refl _) _).alloc (by simp) _
  have hr1 : w3.heap[w.heap.size]? = some (.cells #[.int .i64 nu, .int .i64 pa, .string me, .slice Aq nq cq] 48 (0, 0)) := by rw [hw3]; exact (heap2 _ _ _).1
  have hr2 : w3.heap[w.heap.size + 1]? = some (.cells #[.int .i64 0, .int .i64 0, .string ⟨#[]⟩, .slice none 0 0] 48 (0, 0)) := by rw [hw3]; exact (heap2 _ _ _).2
  clear hw3
  refine (cloneS_calls _ _ _ st _ (h.below hB (Nat.le_refl _)) hn).mono ?_
  rintro e w4 ⟨A', c', rfl, hown, hb4⟩
  have hk1 := (hb4.block (w.heap.size) (by omega)).trans hr1
  have hk2 := (hb4.block (w.heap.size + 1) (by omega)).trans hr2
  have c10 := cell_of_row w4 (w.heap.size) 0 _ _ _ hk1
  have c11 := cell_of_row w4 (w.heap.size) 1 _ _ _ hk1
  have c12 := cell_of_row w4 (w.heap.size) 2 _ _ _ hk1
  have c13 := cell_of_row w4 (w.heap.size) 3 _ _ _ hk1
  have c20 := cell_of_row w4 (w.heap.size + 1) 0 _ _ _ hk2
  have c21 := cell_of_row w4 (w.heap.size + 1) 1 _ _ _ hk2
  have c22 := cell_of_row w4 (w.heap.size + 1) 2 _ _ _ hk2
  have c23 := cell_of_row w4 (w.heap.size + 1) 3 _ _ _ hk2
  have f20 := frozen_of_row w4 (w.heap.size + 1) 0 _ _ hk2
  have f21 := frozen_of_row w4 (w.heap.size + 1) 1 _ _ hk2
  have f22 := frozen_of_row w4 (w.heap.size + 1) 2 _ _ hk2
  have f23 := frozen_of_row w4 (w.heap.size + 1) 3 _ _ hk2
  have f13 := frozen_of_row w4 (w.heap.size) 3 _ _ hk1
  simp at c10 c11 c12 c13 c20 c21 c22 c23
  have hF := hide (Fr.of_own hown)
  have hbx := hB.trans (hb4.mono hB.size)
  have hz4 := hb4.size
  clear hown hr1 hr2 hk1 hk2 h
  go_wp2
  refine bodyPost_ret (v := .agg #[.int .i64 nu, .int .i64 pa, .string me, .slice A' nq c']) (by simp [results, Tryd.results62, go_sem, *]) rfl ⟨A', c', rfl, ?_, ?_⟩
  · have w5 : Wr w.heap.size w3.heap.size w4 (((((w4.setCell ⟨w.heap.size, 3, none⟩ (.slice A' nq c')).setCell ⟨w.heap.size + 1, 0, none⟩ (.int .i64 nu)).setCell ⟨w.heap.size + 1, 1, none⟩ (.int .i64 pa)).setCell ⟨w.heap.size + 1, 2, none⟩ (.string me)).setCell ⟨w.heap.size + 1, 3, none⟩ (.slice A' nq c')) :=
      ((((Wr.setCell _ _ (by omega) (by omega)).trans (Wr.setCell _ _ (by omega) (by omega))).trans (Wr.setCell _ _ (by omega) (by omega))).trans (Wr.setCell _ _ (by omega) (by omega))).trans (Wr.setCell _ _ (by omega) (by omega))
    exact (hF.out.wr w5 (.inr (Nat.le_refl _))).mono (by omega) w5.size
  · exact ((((hbx.setCell (by simp) _).setCell (by simp) _).setCell (by simp) _).setCell (by simp) _).setCell (by simp) _

/-- A history with one more version: the code, and the list. -/
def addC (vs : List VerZ) : Int := if 32 ≤ vs.length then 5 else 0
def addR (vs : List VerZ) (pa : Int) (me : ByteArray) (st : List SetZ) : List VerZ := if 32 ≤ vs.length then [] else vs ++ [⟨(vs.length : Int) + 1, pa, me, st⟩]
def AddPost (vs : List VerZ) (pa : Int) (me : ByteArray) (st : List SetZ) (w : World) (e : Ending) (w' : World) : Prop :=
  ∃ A' n' c', e = .returned (.tuple #[.slice A' n' c', .int .i64 (addC vs)]) ∧ FrVz w' w.heap.size w'.heap.size A' n' (addR vs pa me st) ∧ n' ≤ 1048576 ∧ Below w.heap.size w w'
theorem FrVz.nil {w : World} {lo hi : Nat} : FrVz w lo hi none 0 [] :=
  ⟨[], ⟨rfl, by simp, lo, 0, Nat.le_refl _, Nat.zero_le _, Fr.nil, fun _ => 0, fun _ => 0, ⟨fun _ => Nat.le_refl _, fun _ _ h _ => absurd h (by simp), by simp⟩, fun j hj => absurd hj (by omega), fun j hj => absurd hj (by omega)⟩, rfl⟩
theorem zV_snoc (rs : List VerC) (r : VerC) : zV (rs ++ [r]) = zV rs ++ [r.z] := by simp [zV]
theorem zV_take_snoc {rs : List VerC} {k : Nat} {r : VerC} (h : rs[k]? = some r) : zV (rs.take (k + 1)) = zV (rs.take k) ++ [r.z] := by rw [take_snoc h, zV_snoc]

set_option maxHeartbeats 4000000 in
theorem commit_calls (A : Option Addr) (n c : Nat) (vs : List VerZ) (pa : Int) (me : ByteArray) (A3 : Option Addr) (n3 c3 : Nat) (st : List SetZ) (w : World) (h : RdVz w A n vs) (h3 : RdS w A3 n3 st) (hn : n ≤ 1048576) (hs : Short vs) (hn3 : n3 ≤ 1048576) (hpa : I64 pa) (hme : me.size ≤ 9223372036854775807) :
    Calls Tryd.prog 37 #[.slice A n c, .int .i64 pa, .string me, .slice A3 n3 c3] w (AddPost vs pa me st w) := by
  have HL := hide h.len
  by_cases h32 : 32 ≤ n
  · have HC : Hid (addC vs = 5 ∧ addR vs pa me st = []) := by unfold Hid addC addR; rw [HL.out, if_pos h32, if_pos h32]; exact ⟨rfl, rfl⟩
    go_enter Tryd.func37, Tryd.ntmps37
    go_wp2
    go_ret2
    refine ⟨none, 0, 0, ret_two rfl (congrArg (Value.int .i64) HC.out.1.symm), ?_, by omega, Below.refl _ _⟩
    rw [HC.out.2]
    exact FrVz.nil
  have HC : Hid (addC vs = 0 ∧ addR vs pa me st = vs ++ [⟨(n : Int) + 1, pa, me, st⟩]) := by unfold Hid addC addR; rw [HL.out, if_neg h32, if_neg h32]; exact ⟨rfl, rfl⟩
  obtain ⟨rs, h, rfl⟩ := h
  have HS := hide (hs.of h)
  have HRL := hide h.2.1
  have HG3 : Hid ((⟨(n : Int) + 1, pa, me, none, n3, 0, st⟩ : VerC).good) := ⟨⟨by simp only; omega, by simp only; omega⟩, hpa, hme, h3.2.1, h3.2.2, by simp only; omega⟩
  have hsz := hide (fun (w : World) => sizeV_calls A n c w hn)
  clear hs
  have hown0 := World.ownsRow_nil w w.heap.size 48 4
  go_enter Tryd.func37, Tryd.ntmps37
  go_wp2
  go_loopw [10, 18] (fun v i wr => ∃ (k : Nat), k ≤ n ∧ i = .int .i64 k ∧ Hid (∃ rs', GrV wr w.heap.size w.heap.size v k rs' ∧ zV rs' = zV (rs.take k)) ∧ Below w.heap.size w wr) (fun _ i _ => n - (intOf i).toNat)
  case atStart => exact ⟨0, Nat.zero_le _, rfl, ⟨[], GrV.nil hown0, rfl⟩, Below.refl _ _⟩
  case round =>
    clear hown0
    obtain ⟨k, hk, rfl, HG, hb⟩ := hrel
    obtain ⟨rs', hG, hz⟩ := HG.out
    have HGG := hide hG
    have HZ := hide hz
    clear HG hG hz
    by_cases hlt : k < n
    · obtain ⟨b, off, nu, pa', me', Aq, nq, cq, st', rfl, hbl, hx, hc, hc2, hc3, hc4, hn1, hn2, hp1, hp2, hme', hst, hnq⟩ := (h.below hb (Nat.le_refl _)).at hlt
      have hq6 := HS.out _ (List.mem_of_getElem? hx.out)
      simp only at hq6
      have BB := hide ((Below.refl wr.heap.size wr).alloc (Nat.le_refl _) (.cells #[.int .i64 nu, .int .i64 pa', .string me', .slice Aq nq cq] 48))
      go_wp2_with fail
      refine (copyVersion_calls _ _ _ _ _ _ st' _ (hst.below BB.out (Nat.le_refl _)) hq6).mono ?_
      rintro e w2 ⟨A', c', rfl, hF, hb2⟩
      have HF := hide hF
      have hb3 := BB.out.trans (hb2.mono BB.out.size)
      have ho2 := hide (own_below HGG.out.1 hb3 (Nat.le_refl _))
      have hbx := hb.trans (hb3.mono hb.size)
      have hsz2 := hbx.size
      have hz1 := BB.out.size
      have hz2 := hb2.size
      have HGd : Hid ((⟨nu, pa', me', A', nq, c', st'⟩ : VerC).good) := ⟨⟨hn1, hn2⟩, ⟨hp1, hp2⟩, hme', hst.2.1, hst.2.2, by simp only; omega⟩
      clear hF
      go_wp2_with (at_builtin; refine appV rfl _ _ rfl w.heap.size u10 k _ ⟨nu, pa', me', A', nq, c', st'⟩ rfl ho2.out rfl (by omega) (by omega) ?_; intro v' w4 hown4 hgr4 hb4 hz4)
      have H4 := hide (And.intro hown4 hgr4)
      clear hown4 hgr4
      go_roundw
      case rel =>
        refine ⟨k + 1, by omega, by go_num, ⟨_, HGG.out.push (r := ⟨nu, pa', me', A', nq, c', st'⟩) hb3 HF.out hz2 (Nat.le_refl _) (.inl hz1) (Nat.le_refl _) (Nat.le_trans hb.size hz1) HGd.out H4.out.1 H4.out.2, ?_⟩, hbx.trans hb4⟩
        rw [zV_snoc, HZ.out, zV_take_snoc hx.out]
        rfl
      case measure => simp [intOf]; omega
    · have hkn : k = n := by omega
      subst hkn
      go_wp2_with fail
      refine (hsz.out _).mono ?_
      rintro e w1 ⟨rfl, rfl⟩
      go_wp2_with fail
      refine (copyVersion_calls _ _ _ _ _ _ st _ (h3.below hb (Nat.le_refl _)) hn3).mono ?_
      rintro e w2 ⟨A', c', rfl, hF, hb2⟩
      have HF := hide hF
      have ho2 := hide (own_below HGG.out.1 hb2 (Nat.le_refl _))
      have hbx := hb.trans (hb2.mono hb.size)
      have hsz2 := hbx.size
      have hz2 := hb2.size
      clear hF
      go_wp2_with (at_builtin; refine appV rfl _ _ rfl w.heap.size u10 k _ ⟨(k : Int) + 1, pa, me, A', n3, c', st⟩ rfl ho2.out rfl (by omega) (by omega) ?_; intro v' w4 hown4 hgr4 hb4 hz4)
      obtain ⟨A5, c5, rfl⟩ := own_slice hown4
      have H4 := hide (And.intro hown4 hgr4)
      clear hown4 hgr4
      go_ret2
      have hGf := HGG.out.push (r := ⟨(k : Int) + 1, pa, me, A', n3, c', st⟩) (lo2 := w.heap.size) hb2 HF.out hz2 (Nat.le_refl _) (.inl (Nat.le_refl _)) (Nat.le_refl _) hb.size HG3.out H4.out.1 H4.out.2
      refine ⟨_, _, _, ret_two rfl (congrArg (Value.int .i64) HC.out.1.symm), ⟨_, hGf.frV (Nat.le_refl _), ?_⟩, by omega, hbx.trans hb4⟩
      rw [zV_snoc, HZ.out, HC.out.2, List.take_of_length_le (by rw [HRL.out]; omega)]
      rfl

end Go.Proofs.YtmpfkmbfbeejhaaDoor
