/- markVersionS and heldVersionS: what a marked list of versions reads as. -/
import Derived.Test.YtlomloepdnojoaaDoorMarkV
import Derived.Test.YtlomloepdnojoaaDoorStSetting
import Derived.Test.YtlomloepdnojoaaDoorCommit
namespace Go.Proofs.YtlomloepdnojoaaDoor
open Go.RowKit
set_option linter.unusedVariables false

/-- Where the marks of versions end whose states are ns long. -/
def mvK (k : Nat) : List Nat → Nat
  | [] => k
  | n :: ns => mvK (k + 3 + 2 * n) ns
/-- The marks. -/
def mvL (k : Nat) : List Nat → List VerZ
  | [] => []
  | n :: ns => ⟨(k : Int), (k : Int) + 1, mT (k + 2), markSettingL (k + 3) n⟩ :: mvL (k + 3 + 2 * n) ns
theorem mvK_append (k : Nat) (ns : List Nat) (n : Nat) : mvK k (ns ++ [n]) = mvK k ns + 3 + 2 * n := by
  induction ns generalizing k with
  | nil => rfl
  | cons m ns ih => simp only [List.cons_append, mvK]; exact ih _
theorem mvL_append (k : Nat) (ns : List Nat) (n : Nat) : mvL k (ns ++ [n]) = mvL k ns ++ [⟨(mvK k ns : Int), (mvK k ns : Int) + 1, mT (mvK k ns + 2), markSettingL (mvK k ns + 3) n⟩] := by
  induction ns generalizing k with
  | nil => rfl
  | cons m ns ih => simp only [List.cons_append, mvL, mvK]; rw [ih]
theorem mvK_ge (k : Nat) (ns : List Nat) : k ≤ mvK k ns := by
  induction ns generalizing k with
  | nil => exact Nat.le_refl _
  | cons m ns ih => simp only [mvK]; exact Nat.le_trans (by omega) (ih _)
theorem mvK_le (k : Nat) (ns : List Nat) (h : ∀ n ∈ ns, n ≤ 1048576) : mvK k ns ≤ k + 2097155 * ns.length := by
  induction ns generalizing k with
  | nil => simp [mvK]
  | cons m ns ih =>
    simp only [mvK, List.length_cons]
    have h1 := ih (k + 3 + 2 * m) (fun x hx => h x (by simp [hx]))
    have h2 := h m (by simp)
    omega
theorem mvL_len (k : Nat) (ns : List Nat) : (mvL k ns).length = ns.length := by
  induction ns generalizing k with
  | nil => rfl
  | cons m ns ih => simp only [mvL, List.length_cons, ih]
theorem mvL_at (k : Nat) {ns : List Nat} {j n : Nat} (h : ns[j]? = some n) : (mvL k ns)[j]? = some ⟨(mvK k (ns.take j) : Int), (mvK k (ns.take j) : Int) + 1, mT (mvK k (ns.take j) + 2), markSettingL (mvK k (ns.take j) + 3) n⟩ := by
  induction ns generalizing k j with
  | nil => simp at h
  | cons m ns ih =>
    cases j with
    | zero =>
      simp only [List.getElem?_cons_zero, Option.some.injEq] at h
      subst h
      rfl
    | succ j =>
      simp only [List.getElem?_cons_succ] at h
      simp only [mvL, List.getElem?_cons_succ, List.take_succ_cons, mvK]
      exact ih _ h
theorem markL_eq (k n : Nat) : markL k n = markSettingL k n := by
  induction n with
  | zero => rfl
  | succ n ih =>
    simp only [markL, markSettingL, ih]
    congr 3
theorem take_set3of4 {α : Type} {l : List α} {k : Nat} {u v x y : α} (h : k * 4 + 3 < l.length) (hy : l[k * 4 + 3]? = some y) : (((l.set (k * 4) u).set (k * 4 + 1) v).set (k * 4 + 2) x).take ((k + 1) * 4) = l.take (k * 4) ++ [u, v, x, y] := by
  have e : (k + 1) * 4 = k * 4 + 1 + 1 + 1 + 1 := by omega
  rw [e, take_snoc (k := k * 4 + 3) (x := y) (by rw [List.getElem?_set_ne (by omega), List.getElem?_set_ne (by omega), List.getElem?_set_ne (by omega)]; exact hy), take_set_snoc (by simp; omega), take_set_snoc (by simp; omega), take_set_snoc (by omega)]
  simp
def lensV (rs : List VerC) : List Nat := rs.map VerC.n

set_option maxHeartbeats 4000000 in
theorem markVersionSC_calls (A : Option Addr) (n c : Nat) (lo hi : Nat) (rs : List VerC) (k : Nat) (w : World) (h : FrV w lo hi A n rs) (hn : n ≤ 1048576) (hq : ∀ r ∈ rs, r.n ≤ 1048576) (hk : 1 ≤ k) (hk2 : k ≤ 1099511627776) (hhi : hi ≤ w.heap.size) :
    Calls Tryd.prog 15 #[.slice A n c, .int .i64 k] w fun e w' => e = .returned (.int .i64 (mvK k (lensV rs) : Nat)) ∧ (∃ ms, FrV w' lo hi A n ms ∧ zV ms = mvL k (lensV rs)) ∧ Wr lo hi w w' := by
  obtain ⟨hl, hg, a0, a1, h0, h1, hF, f, g, ha, hf1, hd⟩ := h
  have HL := hide hl
  have HG := hide hg
  have HAP := hide (And.intro ha.1 ha.2.1)
  have HQ := hide hq
  have HM := hide ha.2.1
  rw [hl] at HM
  have HS := hide (show ShapeV w a0 a1 f g A n rs from ⟨⟨_, hF, fun i r hr => flatV_at hr⟩, fun i r hr => ⟨_, ha.2.2 i r hr⟩⟩)
  have HD := hide hd
  have HB := hide (And.intro h0 (And.intro h1 hf1))
  clear hq hF ha hf1 hd hg h0 h1 hl
  go_enter Tryd.func15, Tryd.ntmps15
  go_wp2
  go_loopw [1, 5] (fun q i wr => ∃ (j m : Nat), j ≤ n ∧ i = .int .i64 j ∧ q = .int .i64 m ∧ k ≤ m ∧ m ≤ k + 2097155 * j ∧ Hid (∃ cur ms, Fr wr a0 a1 77 4 A n cur ∧ (∀ i r, rs[i]? = some r → cur[i * 4 + 3]? = some (.slice r.A r.n r.c)) ∧ (∀ i r, rs[i]? = some r → ∃ cs, Fr wr (f i) (g i) 108 2 r.A r.n cs) ∧ cur.take (j * 4) = (ms.map cV).flatten ∧ ms.length = j ∧ zV ms = mvL k ((lensV rs).take j) ∧ (∀ r ∈ ms, r.good) ∧ (∀ i r, ms[i]? = some r → Fr wr (f i) (g i) 108 2 r.A r.n (r.state.map cS).flatten) ∧ m = mvK k ((lensV rs).take j) ∧ hi ≤ wr.heap.size) ∧ Wr lo hi w wr) (fun _ i _ => n - (intOf i).toNat)
  case atStart => exact ⟨0, k, Nat.zero_le _, rfl, rfl, Nat.le_refl _, by omega, ⟨_, [], HS.out.1.choose_spec.1, HS.out.1.choose_spec.2, HS.out.2, by simp, rfl, rfl, by simp, by simp, rfl, hhi⟩, Wr.refl _ _ _⟩
  case round =>
    obtain ⟨j, m, hj, rfl, rfl, hm1, hm2, HF, hw⟩ := hrel
    by_cases hlt : j < n
    · obtain ⟨cur, ms, hF, hcs, hst, hms1, hms2, hms3, hms4, hms5, hms6, hhi2⟩ := HF.out
      have HMS := hide (And.intro hms1 (And.intro hms2 (And.intro hms3 (And.intro hms4 (And.intro hms5 hms6)))))
      clear hms1 hms2 hms3 hms4 hms5 hms6
      have hjl : j < rs.length := by rw [HL.out]; exact hlt
      obtain ⟨⟨nu, pa, me, Aq, nq, cq, st⟩, hx⟩ : ∃ r, rs[j]? = some r := ⟨_, List.getElem?_eq_getElem hjl⟩
      obtain ⟨css, hFs⟩ := hst j _ hx
      have hc3 := hcs j _ hx
      have hnq := HQ.out _ (List.mem_of_getElem? hx)
      simp only at hFs hc3 hnq
      have hm1' := (HB.out.2.2 j hlt).1
      have hm2' := (HB.out.2.2 j hlt).2
      have hdj := HD.out j hlt
      obtain ⟨hb1, hb2, _⟩ := HB.out
      obtain ⟨b, off, v0, rfl, hl, hh, q1, q2, hs0⟩ := hF.store (j := j * 4) (by omega)
      obtain ⟨b', off', v1, hA, _, _, q3, q4, _⟩ := hF.store (j := j * 4 + 1) (by omega)
      obtain ⟨rfl, rfl⟩ : b = b' ∧ off = off' := by injection hA with hA; injection hA; exact ⟨‹_›, ‹_›⟩
      clear hA
      obtain ⟨b', off', _, hA, _, _, q3', q4', hs1⟩ := (hs0.out (.int .i64 m)).store (j := j * 4 + 1) (by omega)
      obtain ⟨rfl, rfl⟩ : b = b' ∧ off = off' := by injection hA with hA; injection hA; exact ⟨‹_›, ‹_›⟩
      clear hA
      have HK := hide (And.intro hcs (And.intro hst (And.intro hx (And.intro hFs (And.intro hc3 (And.intro hm1' (And.intro hm2' (And.intro hdj (And.intro hb1 (And.intro hb2 hF.1))))))))))
      clear hcs hst hx hFs hc3 hm1' hm2' hdj hb1 hb2 hF
      have e1 : off + (j * 4 + 1) = off + j * 4 + 1 := by omega
      rw [e1] at q3 q4 q3' q4' hs1
      clear e1
      have F1 := hs1.out (.int .i64 ((m : Int) + 1))
      have hw1 : Wr a0 a1 wr ((wr.setCell ⟨b, off + j * 4, none⟩ (.int .i64 m)).setCell ⟨b, off + j * 4 + 1, none⟩ (.int .i64 ((m : Int) + 1))) := (Wr.setCell _ _ hl hh).trans (Wr.setCell _ _ hl hh)
      have hz1 : hi ≤ ((wr.setCell ⟨b, off + j * 4, none⟩ (.int .i64 m)).setCell ⟨b, off + j * 4 + 1, none⟩ (.int .i64 ((m : Int) + 1))).heap.size := by simpa using hhi2
      go_wp2_with fail
      have e1 : (m : Int) + 1 + 1 = ((m + 2 : Nat) : Int) := by omega
      rw [e1]
      clear e1
      refine (markText_calls (m + 2) _ (by omega) (by omega)).mono ?_
      rintro e w2 ⟨rfl, hb2⟩
      have hB := HB.out
      have F2 := F1.below hb2 (by omega)
      have hw2 := hw1.trans (Wr.of_below hb2)
      have hz2 := Nat.le_trans hz1 hb2.size
      clear F1 hw1 hz1
      obtain ⟨b', off', v2, hA, _, _, q5, q6, hs2⟩ := F2.store (j := j * 4 + 2) (by omega)
      obtain ⟨rfl, rfl⟩ : b = b' ∧ off = off' := by injection hA with hA; injection hA; exact ⟨‹_›, ‹_›⟩
      clear hA
      have e1 : off + (j * 4 + 2) = off + j * 4 + 2 := by omega
      rw [e1] at q5 q6 hs2
      clear e1
      have F3 := hs2.out (.string (mT (m + 2)))
      have hw3 := hw2.trans (Wr.setCell w2 (off := off + j * 4 + 2) (.string (mT (m + 2))) hl hh)
      have hz3 : hi ≤ (w2.setCell ⟨b, off + j * 4 + 2, none⟩ (.string (mT (m + 2)))).heap.size := by simpa using hz2
      obtain ⟨hcs, hst, hx, hFs, hc3, hm1', hm2', hdj, hb1, hb2', hF1⟩ := HK.out
      have hcell3 : (w2.setCell ⟨b, off + j * 4 + 2, none⟩ (.string (mT (m + 2)))).cell? ⟨b, off + j * 4 + 3, none⟩ = some (.slice Aq nq cq) := by
        obtain ⟨b', off', hA, _, hr⟩ := F3.rd.2 (by omega)
        obtain ⟨rfl, rfl⟩ : b = b' ∧ off = off' := by injection hA with hA; injection hA; exact ⟨‹_›, ‹_›⟩
        rw [show off + j * 4 + 3 = off + (j * 4 + 3) by omega]
        refine hr _ _ ?_
        rw [List.getElem?_set_ne (by omega), List.getElem?_set_ne (by omega), List.getElem?_set_ne (by omega)]
        exact hc3
      have FSa := hFs.wr hw3 (by omega)
      have HX := hide (And.intro F3 (And.intro hw3 (And.intro hz3 FSa)))
      clear F2 F3 hw2 hw3 hz2 hz3 FSa hcs hst hx hFs hc3 hm1' hm2' hdj hb1 hb2' hF1 q3' q4' hB
      go_wp2_with fail
      have e1 : (m : Int) + 2 + 1 = ((m + 3 : Nat) : Int) := by omega
      rw [e1]
      clear e1
      have hfh : g j ≤ (w2.setCell ⟨b, off + j * 4 + 2, none⟩ (.string (mT (m + 2)))).heap.size := by
        have h1 := HX.out.2.2.1
        have h2 := HB.out
        have h3 := (h2.2.2 j hlt).2
        omega
      refine (markSettingSN_calls _ _ _ _ _ css (m + 3) _ HX.out.2.2.2 hnq (by omega) (by omega) hfh).mono ?_
      rintro e w4 ⟨rfl, FS4, hw4⟩
      have HW := hide (And.intro FS4 hw4)
      clear FS4 hw4 hfh
      go_wp2
      go_roundw
      case rel =>
        obtain ⟨F3, hw3, hz3, _⟩ := HX.out
        obtain ⟨FS4, hw4⟩ := HW.out
        obtain ⟨hcs, hst, hx, hFs, hc3, hm1', hm2', hdj, hb1, hb2', hF1⟩ := HK.out
        obtain ⟨hms1, hms2, hms3, hms4, hms5, hms6⟩ := HMS.out
        have hnl : (lensV rs)[j]? = some nq := by simp [lensV, hx]
        refine ⟨j + 1, m + 3 + 2 * nq, by omega, by go_num, by go_num, by omega, by omega, ⟨_, ms ++ [⟨(m : Int), (m : Int) + 1, mT (m + 2), Aq, nq, cq, markL (m + 3) nq⟩], F3.wr hw4 (by omega), ?_, ?_, ?_, by simp [hms2], ?_, ?_, ?_, by rw [take_snoc hnl, mvK_append, ← hms6], Nat.le_trans hz3 hw4.size⟩, (hw.trans (hw3.mono hb1 hb2')).trans (hw4.mono (by omega) (by omega))⟩
        · intro i r hr
          rw [List.getElem?_set_ne (by omega), List.getElem?_set_ne (by omega), List.getElem?_set_ne (by omega)]
          exact hcs i r hr
        · intro i r hr
          have hi := (List.getElem?_eq_some_iff.1 hr).1
          rw [HL.out] at hi
          by_cases hij : i = j
          · subst hij
            obtain rfl : r = _ := Option.some.inj (hr.symm.trans hx)
            exact ⟨_, FS4⟩
          · obtain ⟨cs', hc'⟩ := hst i r hr
            have hdi := HD.out i hi
            refine ⟨cs', (hc'.wr hw3 (by omega)).wr hw4 ?_⟩
            exact HM.out i j hi hlt hij
        · rw [take_set3of4 (by rw [hF1]; omega) hc3, hms1]
          simp [cV]
        · rw [zV_snoc, hms3, take_snoc hnl, mvL_append, ← hms6, markL_eq]
          rfl
        · intro r hr
          rcases List.mem_append.1 hr with hr | hr
          · exact hms4 r hr
          · simp only [List.mem_singleton] at hr
            subst hr
            exact ⟨⟨by simp only; omega, by simp only; omega⟩, ⟨by simp only; omega, by simp only; omega⟩, Nat.le_trans (mT_size _) (by omega), markL_len _ _, by rw [markL_eq]; exact markSettingL_fine (by omega), by simp only; omega⟩
        · intro i r hr
          rcases Nat.lt_or_ge i j with hij | hij
          · rw [List.getElem?_append_left (by omega)] at hr
            have h5 := hms5 i r hr
            exact (h5.wr hw3 (by have := HD.out i (by omega); omega)).wr hw4 (HM.out i j (by omega) hlt (by omega))
          · rw [List.getElem?_append_right (by omega)] at hr
            have hj := (List.getElem?_eq_some_iff.1 hr).1
            simp only [List.length_singleton] at hj
            obtain rfl : i = j := by omega
            rw [show i - ms.length = 0 by omega] at hr
            simp only [List.getElem?_cons_zero, Option.some.injEq] at hr
            subst hr
            exact FS4
      case measure => simp [intOf]; omega
    · have hjn : j = n := by omega
      subst hjn
      go_wp2
      go_ret
      obtain ⟨cur, ms, hF, hcs, hst, hms1, hms2, hms3, hms4, hms5, hms6, hhi2⟩ := HF.out
      obtain ⟨h0, h1, hf1⟩ := HB.out
      have hll : (lensV rs).length = j := by rw [lensV, List.length_map, HL.out]
      rw [List.take_of_length_le (by omega)] at hms3 hms6
      rw [List.take_of_length_le (by rw [hF.1]; omega)] at hms1
      subst hms1
      refine ⟨ret_int (by rw [hms6]), ⟨ms, ⟨hms2, hms4, a0, a1, h0, h1, hF, f, g, ⟨HAP.out.1, ?_, hms5⟩, hf1, HD.out⟩, hms3⟩, hw⟩
      have := HAP.out.2
      rw [HL.out] at this
      rw [hms2]
      exact this

theorem lensZ {rs : List VerC} (h : ∀ r ∈ rs, r.good) : lensV rs = (zV rs).map (fun v => v.state.length) := by
  unfold lensV zV
  rw [List.map_map]
  refine List.map_congr_left fun r hr => ?_
  exact (h r hr).2.2.2.1.symm
/-- The lengths of the states. -/
def lenS (vs : List VerZ) : List Nat := vs.map (fun v => v.state.length)

theorem markVersionSk_calls (A : Option Addr) (n c : Nat) (lo hi : Nat) (vs : List VerZ) (k : Int) (w : World) (h : FrVz w lo hi A n vs) (hn : n ≤ 1048576) (hs : Short vs) (hk : 1 ≤ k) (hk2 : k ≤ 1099511627776) (hhi : hi ≤ w.heap.size) :
    Calls Tryd.prog 15 #[.slice A n c, .int .i64 k] w fun e w' => e = .returned (.int .i64 (mvK k.toNat (lenS vs) : Nat)) ∧ FrVz w' lo hi A n (mvL k.toNat (lenS vs)) ∧ Wr lo hi w w' ∧ w.heap.size ≤ w'.heap.size := by
  obtain ⟨rs, h, rfl⟩ := h
  obtain ⟨k0, rfl⟩ : ∃ k0 : Nat, k = (k0 : Int) := ⟨k.toNat, by omega⟩
  have e := lensZ h.2.1
  refine (markVersionSC_calls A n c lo hi rs k0 w h hn (hs.of h.rd) (by omega) (by omega) hhi).mono ?_
  rintro e w' ⟨rfl, ⟨ms, hf, hz⟩, hw⟩
  unfold lenS
  rw [Int.toNat_natCast, ← lensZ h.2.1]
  exact ⟨rfl, ⟨ms, hf, hz⟩, hw, hw.size⟩

set_option maxHeartbeats 4000000 in
theorem heldVersionSR_calls (A : Option Addr) (n c : Nat) (rs : List VerC) (ns : List Nat) (k : Nat) (w : World) (h : RdV w A n rs) (hz : zV rs = mvL k ns) (hn : n ≤ 1048576) (hq : ∀ m ∈ ns, m ≤ 1048576) (hk : 1 ≤ k) (hk2 : k ≤ 1099511627776) :
    Calls Tryd.prog 16 #[.slice A n c, .int .i64 k] w fun e w' => e = .returned (.int .i64 (mvK k ns : Nat)) ∧ Below w.heap.size w w' := by
  have HZ := hide hz
  have HQ := hide hq
  have hnl : ns.length = n := by rw [← mvL_len k ns, ← hz, zV_len, h.2.1]
  have HNL := hide hnl
  clear hz hq hnl
  go_enter Tryd.func16, Tryd.ntmps16
  go_wp2
  go_loopw [1, 5] (fun q i wr => ∃ (j m : Nat), j ≤ n ∧ i = .int .i64 j ∧ q = .int .i64 m ∧ k ≤ m ∧ m ≤ k + 2097155 * j ∧ Hid (m = mvK k (ns.take j)) ∧ Below w.heap.size w wr) (fun _ i _ => n - (intOf i).toNat)
  case atStart => exact ⟨0, k, Nat.zero_le _, rfl, rfl, Nat.le_refl _, by omega, rfl, Below.refl _ _⟩
  case round =>
    obtain ⟨j, m, hj, rfl, rfl, hm1, hm2, HM, hb⟩ := hrel
    by_cases hlt : j < n
    · obtain ⟨b, off, nu, pa, me, Aq, nq, cq, st, rfl, hbl, hx, hc, hc2, hc3, hc4, hn1, hn2, hp1, hp2, hme, hst, hnq⟩ := (h.below hb (Nat.le_refl _)).at hlt
      have hx1 := hide hx.out
      obtain ⟨nj, hnj⟩ : ∃ nj, ns[j]? = some nj := ⟨_, List.getElem?_eq_getElem (by rw [HNL.out]; exact hlt)⟩
      have h6 := HQ.out nj (List.mem_of_getElem? hnj)
      have hx2 := zV_at hx.out
      rw [HZ.out, mvL_at k hnj, ← HM.out] at hx2
      simp only [Option.some.injEq, VerC.z, VerZ.mk.injEq] at hx2
      obtain ⟨rfl, rfl, rfl, hst2⟩ := hx2
      subst hst2
      have hnn : nq = nj := by rw [← hst.2.1, markSettingL_len]
      subst hnn
      have HN : Hid (m + 3 + 2 * nq = mvK k (ns.take (j + 1))) := by unfold Hid; rw [take_snoc hnj, mvK_append, ← HM.out]
      have HST := hide hst
      clear hx hnj hme hn1 hn2 hp1 hp2 hst hx1 hnq
      go_wp2
      go_region_held3 (fun w' => w'.cell? ⟨b, off + j * 4 + 2, none⟩ = some (.string (mT (m + 2))) ∧ w'.cell? ⟨b, off + j * 4 + 3, none⟩ = some (.slice Aq nq cq))
        (first | exact ⟨hc3, hc4⟩ | exact ⟨(hx1.cell (p := ⟨b, off + j * 4 + 2, none⟩) hbl).trans hc3, (hx1.cell (p := ⟨b, off + j * 4 + 3, none⟩) hbl).trans hc4⟩)
        (first | (go_at_call 61; refine (markText_z (m + 2) _ _ (by omega) (by omega) (by omega)).mono ?_; rintro e w1 ⟨rfl, hx1⟩))
      have hc3 := (hx1.cell (p := ⟨b, off + j * 4 + 2, none⟩) hbl).trans hc3
      have hc4 := (hx1.cell (p := ⟨b, off + j * 4 + 3, none⟩) hbl).trans hc4
      have hbl := Nat.lt_of_lt_of_le hbl hx1.size
      have hb2 := hb.drew.trans (hx1.mono hb.size)
      have hS : RdK kSetting w1 Aq nq (markSettingL ((m : Int) + 2 + 1).toNat nq) := by
        have e : ((m : Int) + 2 + 1).toNat = m + 3 := by omega
        rw [e]
        exact HST.out.below (((Below.refl _ wr).drew).trans hx1) (Nat.le_refl _)
      have HS := hide hS
      clear hS
      go_wp2_with fail
      refine (heldSettingS_calls _ _ _ _ _ HS.out h6 (by omega) (by omega)).mono ?_
      rintro e w2 ⟨rfl, hb3⟩
      have hbx := hb2.trans (hb3.mono hb2.size)
      go_wp2
      go_roundw
      case rel => exact ⟨j + 1, m + 3 + 2 * nq, by omega, by go_num, by go_num, by omega, by omega, HN, hbx⟩
      case measure => simp [intOf]; omega
    · have hjn : j = n := by omega
      subst hjn
      have HE : Hid (m = mvK k ns) := by unfold Hid; rw [HM.out, List.take_of_length_le (by rw [HNL.out]; omega)]
      go_wp2
      go_ret
      exact ⟨ret_int (by rw [HE.out]), hb⟩

theorem heldVersionSk_calls (A : Option Addr) (n c : Nat) (vs : List VerZ) (k : Int) (w : World) (h : RdVz w A n (mvL k.toNat (lenS vs))) (hn : n ≤ 1048576) (hs : Short vs) (hk : 1 ≤ k) (hk2 : k ≤ 1099511627776) :
    Calls Tryd.prog 16 #[.slice A n c, .int .i64 k] w fun e w' => e = .returned (.int .i64 (mvK k.toNat (lenS vs) : Nat)) ∧ Below w.heap.size w w' := by
  obtain ⟨rs, h, hz⟩ := h
  obtain ⟨k0, rfl⟩ : ∃ k0 : Nat, k = (k0 : Int) := ⟨k.toNat, by omega⟩
  rw [Int.toNat_natCast] at hz ⊢
  exact heldVersionSR_calls A n c rs _ k0 w h hz hn (by
    intro m hm
    obtain ⟨v, hv, rfl⟩ := List.mem_map.1 hm
    exact hs v hv) (by omega) (by omega)

end Go.Proofs.YtlomloepdnojoaaDoor
