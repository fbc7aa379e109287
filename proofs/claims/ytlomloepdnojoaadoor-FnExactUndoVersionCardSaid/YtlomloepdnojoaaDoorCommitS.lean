/- l27Own and l27Add of the reference. -/
import Derived.Test.YtlomloepdnojoaaDoorCommit
import Derived.Deep.AppendLies
import Derived.Deep.Cut
namespace Go.Proofs.YtlomloepdnojoaaDoor
open Go.RowKit
set_option linter.unusedVariables false

theorem box4 {W w2 : World} {base B : Nat} {a0 a1 a2 a3 : Value} {e : TypeId} (hb : Below base W w2) (hB : B < base) (h : W.heap[B]? = some (.cells #[a0, a1, a2, a3] e (0, 0))) :
    w2.cell? ⟨B, 0, none⟩ = some a0 ∧ w2.cell? ⟨B, 1, none⟩ = some a1 ∧ w2.cell? ⟨B, 2, none⟩ = some a2 ∧ w2.cell? ⟨B, 3, none⟩ = some a3 ∧ w2.frozen? ⟨B, 3, none⟩ = false := by
  have hk := (hb.block B hB).trans h
  have d0 := cell_of_row _ B 0 _ _ _ hk
  have d1 := cell_of_row _ B 1 _ _ _ hk
  have d2 := cell_of_row _ B 2 _ _ _ hk
  have d3 := cell_of_row _ B 3 _ _ _ hk
  have f3 := frozen_of_row _ B 3 _ _ hk
  simp at d0 d1 d2 d3
  exact ⟨d0, d1, d2, d3, f3⟩

/-- A list of versions of the call's own, by its growing. -/
def OwnPost (vs : List VerZ) (n : Nat) (w : World) (e : Ending) (w' : World) : Prop :=
  ∃ v' rs', e = .returned v' ∧ GrV w' w.heap.size w.heap.size v' n rs' ∧ zV rs' = vs ∧ Below w.heap.size w w'

set_option maxHeartbeats 4000000 in
theorem l27Own_calls (A : Option Addr) (n c : Nat) (vs : List VerZ) (w : World) (h : RdVz w A n vs) (hn : n ≤ 1048576) (hs : Short vs) :
    Calls Tryd.prog 106 #[.slice A n c] w (OwnPost vs n w) := by
  have HL := hide h.len
  obtain ⟨rs, h, rfl⟩ := h
  have HS := hide (hs.of h)
  have HRL := hide h.2.1
  clear hs
  have hown0 := World.ownsRow_lit (base := w.heap.size) (e := 77) (size := 4) w #[] 0 (Nat.le_refl _) (by simp) rfl
  have hba := (Below.refl w.heap.size w).alloc (Nat.le_refl _) (.cells #[] 77)
  go_enter Tryd.func106, Tryd.ntmps106
  go_wp2
  go_loopw [3, 4] (fun v i wr => ∃ (k : Nat), k ≤ n ∧ i = .int .i64 k ∧ Hid (∃ rs', GrV wr w.heap.size w.heap.size v k rs' ∧ zV rs' = zV (rs.take k)) ∧ Below w.heap.size w wr) (fun _ i _ => n - (intOf i).toNat)
  case atStart => exact ⟨0, Nat.zero_le _, rfl, ⟨[], GrV.nil hown0, rfl⟩, hba⟩
  case round =>
    clear hown0 hba
    obtain ⟨k, hk, rfl, HG, hb⟩ := hrel
    obtain ⟨rs', hG, hz⟩ := HG.out
    have HGG := hide hG
    have HZ := hide hz
    clear HG hG hz
    by_cases hlt : k < n
    · obtain ⟨b, off, nu, pa', me', Aq, nq, cq, st', rfl, hbl, hx, hc, hc2, hc3, hc4, hn1, hn2, hp1, hp2, hme', hst, hnq⟩ := (h.below hb (Nat.le_refl _)).at hlt
      have hq6 := HS.out _ (List.mem_of_getElem? hx.out)
      simp only at hq6
      obtain ⟨W1, hW1⟩ : ∃ W1, W1 = wr.alloc (.cells #[.int .i64 nu, .int .i64 pa', .string me', .slice Aq nq cq] 77) := ⟨_, rfl⟩
      have BB1 : Below wr.heap.size wr W1 := hW1 ▸ (Below.refl wr.heap.size wr).alloc (Nat.le_refl _) _
      have hr1 : W1.heap[wr.heap.size]? = some (.cells #[.int .i64 nu, .int .i64 pa', .string me', .slice Aq nq cq] 77 (0, 0)) := by rw [hW1]; exact heap_alloc_new wr _
      have z1 : W1.heap.size = wr.heap.size + 1 := by rw [hW1]; simp
      have hlit := World.ownsRow_lit (base := W1.heap.size) (e := 108) (size := 2) W1 #[] 0 (Nat.le_refl _) (by simp) rfl
      have BB2 := (Below.refl W1.heap.size W1).alloc (Nat.le_refl _) (.cells #[] 108)
      have hr2 := (BB2.block wr.heap.size (by omega)).trans hr1
      have BB := BB1.trans (BB2.mono BB1.size)
      have hst2 := hst.1.below BB (Nat.le_refl _)
      rw [z1] at hlit
      have HH := hide (And.intro hlit (And.intro hst2 (And.intro BB (And.intro BB2 (And.intro hr2 z1)))))
      clear hlit hst2 BB BB2 BB1 hr1 hr2 z1
      subst hW1
      go_upto_region 7 with (at_builtin; refine appsSetting rfl _ _ rfl (wr.heap.size + 1) _ 0 [] rfl HH.out.1 Aq nq cq st' rfl HH.out.2.1 (by omega) (by simp) ?_; intro v2 w2 hown2 hb2 hz2; obtain ⟨d0, d1, d2, d3, f3⟩ := box4 hb2 (Nat.lt_succ_self _) HH.out.2.2.2.2.1; rw [Nat.zero_add, List.nil_append] at hown2; obtain ⟨A', c', rfl⟩ := own_slice hown2)
      obtain ⟨_, _, BB, BB2, hr2, z1⟩ := HH.out
      have hz2' : wr.heap.size + 1 ≤ w2.heap.size := by rw [← z1]; exact Nat.le_trans BB2.size hz2
      have hF := Fr.of_own hown2
      have hbW : Below wr.heap.size wr w2 := BB.trans (hb2.mono (by omega))
      have hw3 : Wr wr.heap.size (wr.heap.size + 1) w2 (w2.setCell ⟨wr.heap.size, 3, none⟩ (.slice A' nq c')) := Wr.setCell _ _ (Nat.le_refl _) (by omega)
      have hb3 : Below wr.heap.size wr (w2.setCell ⟨wr.heap.size, 3, none⟩ (.slice A' nq c')) := hbW.setCell (by simp) _
      have HF := hide (hF.wr hw3 (.inr (Nat.le_refl _)))
      have ho2 := hide (own_below HGG.out.1 hb3 (Nat.le_refl _))
      have hbx := hide (hb.trans (hb3.mono hb.size))
      have hsz2 := hb.size
      have hz5 : (w2.setCell ⟨wr.heap.size, 3, none⟩ (.slice A' nq c')).heap.size = w2.heap.size := by simp
      have HZ5 := hide (And.intro hz5 hb3)
      have HGd : Hid ((⟨nu, pa', me', A', nq, c', st'⟩ : VerC).good) := ⟨⟨hn1, hn2⟩, ⟨hp1, hp2⟩, hme', hst.2.1, hst.2.2, by simp only; omega⟩
      clear hF hown2 HH BB BB2 hr2 z1 hbW hw3 hz5 hb3 hb2
      go_wp2_with (at_builtin; refine appV rfl _ _ rfl w.heap.size u3 k _ ⟨nu, pa', me', A', nq, c', st'⟩ rfl ho2.out (by first | rfl | (simp only [World.heap_size_setCell]; rfl) | (simp; rfl)) (by omega) (by simp; omega) ?_; intro v' w4 hown4 hgr4 hb4 hz4)
      have H4 := hide (And.intro hown4 hgr4)
      clear hown4 hgr4
      go_roundw
      case rel =>
        refine ⟨k + 1, by omega, by go_num, ⟨_, HGG.out.push (r := ⟨nu, pa', me', A', nq, c', st'⟩) HZ5.out.2 HF.out hz2' (by rw [HZ5.out.1]; exact Nat.le_refl _) (.inl (by omega)) (Nat.le_refl _) (by omega) HGd.out H4.out.1 H4.out.2, ?_⟩, hbx.out.trans hb4⟩
        rw [zV_snoc, HZ.out, zV_take_snoc hx.out]
        rfl
      case measure => simp [intOf]; omega
    · have hkn : k = n := by omega
      subst hkn
      go_wp2
      go_ret
      refine ⟨_, rs', rfl, HGG.out, ?_, hb⟩
      rw [HZ.out, List.take_of_length_le (by rw [HRL.out]; omega)]

end Go.Proofs.YtlomloepdnojoaaDoor
