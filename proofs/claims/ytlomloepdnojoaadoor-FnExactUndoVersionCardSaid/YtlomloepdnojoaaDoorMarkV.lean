/- markVersionS: it writes only between lo and hi. -/
import Derived.Test.YtlomloepdnojoaaDoorMarkS
import Derived.Test.YtlomloepdnojoaaDoorVerZ
namespace Go.Proofs.YtlomloepdnojoaaDoor
open Go.RowKit
set_option linter.unusedVariables false

/-- Writes among a list of versions of the call's own leave its shape: the slices of the states stay where they are. -/
def ShapeV (w : World) (a0 a1 : Nat) (f g : Nat → Nat) (A : Option Addr) (n : Nat) (rs : List VerC) : Prop :=
  (∃ cur, Fr w a0 a1 77 4 A n cur ∧ ∀ i r, rs[i]? = some r → cur[i * 4 + 3]? = some (.slice r.A r.n r.c)) ∧ ∀ i r, rs[i]? = some r → ∃ cs, Fr w (f i) (g i) 108 2 r.A r.n cs

theorem flatV_at {rs : List VerC} {i : Nat} {r : VerC} (h : rs[i]? = some r) : ((rs.map cV).flatten)[i * 4 + 3]? = some (.slice r.A r.n r.c) := by
  rw [flatten_at (s := 4) cV_len (q := i) (k := 3) (r := cV r) (by rw [List.getElem?_map, h]; rfl) (by omega)]
  rfl

set_option maxHeartbeats 4000000 in
theorem markVersionSR_calls (A : Option Addr) (n c : Nat) (lo hi : Nat) (rs : List VerC) (k : Nat) (w : World) (h : FrV w lo hi A n rs) (hn : n ≤ 1048576) (hq : ∀ r ∈ rs, r.n ≤ 1048576) (hk : 1 ≤ k) (hk2 : k ≤ 1099511627776) (hhi : hi ≤ w.heap.size) :
    Calls Tryd.prog 15 #[.slice A n c, .int .i64 k] w fun e w' => ∃ k' : Nat, e = .returned (.int .i64 k') ∧ k ≤ k' ∧ k' ≤ k + 2097155 * n ∧ Wr lo hi w w' := by
  obtain ⟨hl, hg, a0, a1, h0, h1, hF, f, g, ha, hf1, hd⟩ := h
  have HL := hide hl
  have HQ := hide hq
  have HM := hide ha.2.1
  rw [hl] at HM
  have HS := hide (show ShapeV w a0 a1 f g A n rs from ⟨⟨_, hF, fun i r hr => flatV_at hr⟩, fun i r hr => ⟨_, ha.2.2 i r hr⟩⟩)
  have HD := hide hd
  have HB := hide (And.intro h0 (And.intro h1 hf1))
  clear hq hF ha hf1 hd hg h0 h1 hl
  go_enter Tryd.func15, Tryd.ntmps15
  go_wp2
  go_loopw [1, 5] (fun q i wr => ∃ (j m : Nat), j ≤ n ∧ i = .int .i64 j ∧ q = .int .i64 m ∧ k ≤ m ∧ m ≤ k + 2097155 * j ∧ Hid (ShapeV wr a0 a1 f g A n rs ∧ hi ≤ wr.heap.size) ∧ Wr lo hi w wr) (fun _ i _ => n - (intOf i).toNat)
  case atStart => exact ⟨0, k, Nat.zero_le _, rfl, rfl, Nat.le_refl _, by omega, ⟨HS.out, hhi⟩, Wr.refl _ _ _⟩
  case round =>
    obtain ⟨j, m, hj, rfl, rfl, hm1, hm2, HF, hw⟩ := hrel
    by_cases hlt : j < n
    · obtain ⟨⟨⟨cur, hF, hcs⟩, hst⟩, hhi2⟩ := HF.out
      have hjl : j < rs.length := by rw [HL.out]; exact hlt
      obtain ⟨⟨nu, pa, me, Aq, nq, cq, st⟩, hx⟩ : ∃ r, rs[j]? = some r := ⟨_, List.getElem?_eq_getElem hjl⟩
      obtain ⟨css, hFs⟩ := hst j _ hx
      have hc3 := hcs j _ hx
      have hnq := HQ.out _ (List.mem_of_getElem? hx)
      simp only at hFs hc3 hnq
      have hm1' := (HB.out.2.2 j hlt).1
      have hm2' := (HB.out.2.2 j hlt).2
      have hdj := HD.out j hlt
      obtain ⟨hb1, hb2, _⟩ := HB.out
      obtain ⟨b, off, v0, rfl, hl, hh, q1, q2, hs0⟩ := hF.store (j := j * 4) (by omega)
      obtain ⟨b', off', v1, hA, _, _, q3, q4, _⟩ := hF.store (j := j * 4 + 1) (by omega)
      obtain ⟨rfl, rfl⟩ : b = b' ∧ off = off' := by injection hA with hA; injection hA; exact ⟨‹_›, ‹_›⟩
      clear hA
      obtain ⟨b', off', _, hA, _, _, q3', q4', hs1⟩ := (hs0.out (.int .i64 m)).store (j := j * 4 + 1) (by omega)
      obtain ⟨rfl, rfl⟩ : b = b' ∧ off = off' := by injection hA with hA; injection hA; exact ⟨‹_›, ‹_›⟩
      clear hA
      have HK := hide (And.intro hcs (And.intro hst (And.intro hx (And.intro hFs (And.intro hc3 (And.intro hm1' (And.intro hm2' (And.intro hdj (And.intro hb1 (And.intro hb2 hF.1))))))))))
      clear hcs hst hx hFs hc3 hm1' hm2' hdj hb1 hb2 hF
      have e1 : off + (j * 4 + 1) = off + j * 4 + 1 := by omega
      rw [e1] at q3 q4 q3' q4' hs1
      clear e1
      have F1 := hs1.out (.int .i64 ((m : Int) + 1))
      have hw1 : Wr a0 a1 wr ((wr.setCell ⟨b, off + j * 4, none⟩ (.int .i64 m)).setCell ⟨b, off + j * 4 + 1, none⟩ (.int .i64 ((m : Int) + 1))) := (Wr.setCell _ _ hl hh).trans (Wr.setCell _ _ hl hh)
      have hz1 : hi ≤ ((wr.setCell ⟨b, off + j * 4, none⟩ (.int .i64 m)).setCell ⟨b, off + j * 4 + 1, none⟩ (.int .i64 ((m : Int) + 1))).heap.size := by simpa using hhi2
      go_wp2_with fail
      have e1 : (m : Int) + 1 + 1 = ((m + 2 : Nat) : Int) := by omega
      rw [e1]
      clear e1
      refine (markText_calls (m + 2) _ (by omega) (by omega)).mono ?_
      rintro e w2 ⟨rfl, hb2⟩
      have hB := HB.out
      have F2 := F1.below hb2 (by omega)
      have hw2 := hw1.trans (Wr.of_below hb2)
      have hz2 := Nat.le_trans hz1 hb2.size
      clear F1 hw1 hz1
      obtain ⟨b', off', v2, hA, _, _, q5, q6, hs2⟩ := F2.store (j := j * 4 + 2) (by omega)
      obtain ⟨rfl, rfl⟩ : b = b' ∧ off = off' := by injection hA with hA; injection hA; exact ⟨‹_›, ‹_›⟩
      clear hA
      have e1 : off + (j * 4 + 2) = off + j * 4 + 2 := by omega
      rw [e1] at q5 q6 hs2
      clear e1
      have F3 := hs2.out (.string (mT (m + 2)))
      have hw3 := hw2.trans (Wr.setCell w2 (off := off + j * 4 + 2) (.string (mT (m + 2))) hl hh)
      have hz3 : hi ≤ (w2.setCell ⟨b, off + j * 4 + 2, none⟩ (.string (mT (m + 2)))).heap.size := by simpa using hz2
      obtain ⟨hcs, hst, hx, hFs, hc3, hm1', hm2', hdj, hb1, hb2', hF1⟩ := HK.out
      have hcell3 : (w2.setCell ⟨b, off + j * 4 + 2, none⟩ (.string (mT (m + 2)))).cell? ⟨b, off + j * 4 + 3, none⟩ = some (.slice Aq nq cq) := by
        obtain ⟨b', off', hA, _, hr⟩ := F3.rd.2 (by omega)
        obtain ⟨rfl, rfl⟩ : b = b' ∧ off = off' := by injection hA with hA; injection hA; exact ⟨‹_›, ‹_›⟩
        rw [show off + j * 4 + 3 = off + (j * 4 + 3) by omega]
        refine hr _ _ ?_
        rw [List.getElem?_set_ne (by omega), List.getElem?_set_ne (by omega), List.getElem?_set_ne (by omega)]
        exact hc3
      have FSa := hFs.wr hw3 (by omega)
      have HX := hide (And.intro F3 (And.intro hw3 (And.intro hz3 FSa)))
      clear F2 F3 hw2 hw3 hz2 hz3 FSa hcs hst hx hFs hc3 hm1' hm2' hdj hb1 hb2' hF1 q3' q4' hB
      go_wp2_with fail
      have e1 : (m : Int) + 2 + 1 = ((m + 3 : Nat) : Int) := by omega
      rw [e1]
      clear e1
      have hfh : g j ≤ (w2.setCell ⟨b, off + j * 4 + 2, none⟩ (.string (mT (m + 2)))).heap.size := by
        have h1 := HX.out.2.2.1
        have h2 := HB.out
        have h3 := (h2.2.2 j hlt).2
        omega
      refine (markSettingSN_calls _ _ _ _ _ css (m + 3) _ HX.out.2.2.2 hnq (by omega) (by omega) hfh).mono ?_
      rintro e w4 ⟨rfl, FS4, hw4⟩
      have HW := hide (And.intro FS4 hw4)
      clear FS4 hw4 hfh
      go_wp2
      go_roundw
      case rel =>
        obtain ⟨F3, hw3, hz3, _⟩ := HX.out
        obtain ⟨FS4, hw4⟩ := HW.out
        obtain ⟨hcs, hst, hx, hFs, hc3, hm1', hm2', hdj, hb1, hb2', hF1⟩ := HK.out
        refine ⟨j + 1, m + 3 + 2 * nq, by omega, by go_num, by go_num, by omega, by omega, ⟨⟨⟨_, F3.wr hw4 (by omega), ?_⟩, ?_⟩, Nat.le_trans hz3 hw4.size⟩, (hw.trans (hw3.mono hb1 hb2')).trans (hw4.mono (by omega) (by omega))⟩
        · intro i r hr
          rw [List.getElem?_set_ne (by omega), List.getElem?_set_ne (by omega), List.getElem?_set_ne (by omega)]
          exact hcs i r hr
        · intro i r hr
          have hi := (List.getElem?_eq_some_iff.1 hr).1
          rw [HL.out] at hi
          by_cases hij : i = j
          · subst hij
            obtain rfl : r = _ := Option.some.inj (hr.symm.trans hx)
            exact ⟨_, FS4⟩
          · obtain ⟨cs', hc'⟩ := hst i r hr
            have hdi := HD.out i hi
            refine ⟨cs', (hc'.wr hw3 (by omega)).wr hw4 ?_⟩
            exact HM.out i j hi hlt hij
      case measure => simp [intOf]; omega
    · have hjn : j = n := by omega
      subst hjn
      go_wp2
      go_ret
      exact ⟨m, rfl, hm1, hm2, hw⟩

theorem markVersionSz_calls (A : Option Addr) (n c : Nat) (lo hi : Nat) (vs : List VerZ) (k : Int) (w : World) (h : FrVz w lo hi A n vs) (hn : n ≤ 1048576) (hs : Short vs) (hk : 1 ≤ k) (hk2 : k ≤ 1099511627776) (hhi : hi ≤ w.heap.size) :
    Calls Tryd.prog 15 #[.slice A n c, .int .i64 k] w fun e w' => ∃ k' : Int, e = .returned (.int .i64 k') ∧ k ≤ k' ∧ k' ≤ k + 2200000000000 ∧ Wr lo hi w w' := by
  obtain ⟨rs, h, rfl⟩ := h
  obtain ⟨k0, rfl⟩ : ∃ k0 : Nat, k = (k0 : Int) := ⟨k.toNat, by omega⟩
  refine (markVersionSR_calls A n c lo hi rs k0 w h hn (hs.of h.rd) (by omega) (by omega) hhi).mono ?_
  rintro e w' ⟨k', rfl, h1, h2, hw⟩
  exact ⟨k', rfl, by omega, by omega, hw⟩

end Go.Proofs.YtlomloepdnojoaaDoor
