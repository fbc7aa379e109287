/- readNamed, ReadGroup of the program at a group's text. Printed by gen_loag.py. -/
import Derived.Test.YtcclfmapbgdpdaaGreatDoorLoaE
import Derived.Test.YtcclfmapbgdpdaaGreatDoorShCut
import Derived.Deep.DeepCutAuto
namespace Go.Proofs.YtcclfmapbgdpdaaGreatDoor
open Go.RowKit
set_option linter.unusedVariables false

theorem Ag4.all {e : TypeId} {w : World} {B : Nat} {a0 a1 a2 a3 u0 u1 u2 u3 : Value} (h : Ag4 e w B a0 a1 a2 a3) : Ag4 e ((((w.setCell ⟨B, 0, none⟩ u0).setCell ⟨B, 1, none⟩ u1).setCell ⟨B, 2, none⟩ u2).setCell ⟨B, 3, none⟩ u3) B u0 u1 u2 u3 :=
  heap_setCell_same _ B 3 _ _ u3 (heap_setCell_same _ B 2 _ _ u2 (heap_setCell_same _ B 1 _ _ u1 (heap_setCell_same w B 0 _ _ u0 h)))
theorem index_at (c : UInt8) : ∀ (a b : List UInt8), c ∉ a → Lib.index (a ++ c :: b) [c] = (a.length : Int)
  | [], b, _ => by
    rw [List.nil_append, Lib.index]
    have hp : ([c] : List UInt8).isPrefixOf (c :: b) = true := by simp [List.isPrefixOf]
    rw [hp]
    rfl
  | x :: a, b, h => by
    rw [List.mem_cons, not_or] at h
    rw [List.cons_append, Lib.index]
    have hp : ([c] : List UInt8).isPrefixOf (x :: (a ++ c :: b)) = false := by simp [List.isPrefixOf, h.1]
    have ih := index_at c a b h.2
    rw [hp, ih]
    have e1 : (((a.length : Nat) : Int) == -1) = false := by first | (simp; done) | (simp; omega)
    simp [e1]
    try omega
theorem cut_at (c : UInt8) (a b : List UInt8) (h : c ∉ a) : (Lib.cut (a ++ c :: b) [c]).1 = a ∧ (Lib.cut (a ++ c :: b) [c]).2.1 = b := by
  unfold Lib.cut
  rw [index_at c a b h]
  have e1 : (((a.length : Nat) : Int) == -1) = false := by first | (simp; done) | (simp; omega)
  have e2 : (0 : Int) ≤ (a.length : Int) := by omega
  constructor
  · simp [e1, e2]
  · simp [e1, e2]
theorem name_no32 {s : ByteArray} (h : nameB s = true) : (32 : UInt8) ∉ bs s := by
  intro hm
  unfold nameB at h
  simp only [Bool.and_eq_true] at h
  have := List.all_eq_true.1 h.2 _ hm
  revert this
  decide

set_option maxRecDepth 100000 in
set_option maxHeartbeats 4000000 in
theorem readNamed_calls (s : ByteArray) (p q k : Int) (w : World) (HT : TabPME w) (hs : (32 : UInt8) ∉ bs s) (hs10 : s.size ≤ 10) (hp : 0 ≤ p ∧ p ≤ 1000000) (hq : 0 ≤ q ∧ q ≤ 1000000) (hk : 0 ≤ k ∧ k ≤ 1000000) :
    Calls Tryz.prog 147 #[.string (grpT s p q k), .int .i64 3] w fun e w' => ∃ A c, e = .returned (.tuple #[.string s, .slice A 3 c, .bool true]) ∧ RdI w' A 3 [p, q, k] ∧ Below w.heap.size w w' := by
  have hl3 := lisT_size (xs := [p, q, k]) (by simp) (by intro y hy; simp at hy; unfold I64; omega)
  have hbs : bs (grpT s p q k) = bs s ++ 32 :: bs (lisT [p, q, k]) := by
    unfold grpT
    rw [bs_app, bs_app]
    simp [bs]
  obtain ⟨hc1, hc2⟩ := cut_at 32 (bs s) (bs (lisT [p, q, k])) hs
  have hsz : (grpT s p q k).size ≤ 400 := by
    unfold grpT
    rw [ByteArray.size_append, ByteArray.size_append]
    have : (⟨#[32]⟩ : ByteArray).size = 1 := rfl
    omega
  obtain ⟨tm, htm⟩ := HT.1.2
  have CU := hide (Tryz.strings_Cut (grpT s p q k) ⟨#[32]⟩ tm w (by omega) htm)
  rw [show (grpT s p q k).data.toList = bs s ++ 32 :: bs (lisT [p, q, k]) from hbs, show ((⟨#[32]⟩ : ByteArray).data.toList) = [32] from rfl, hc1, hc2, arr_bs, arr_bs] at CU
  have hne : ¬ bs (lisT [p, q, k]) = [45] := by
    intro e
    have h44 : (44 : UInt8) ∈ bs (lisT [p, q, k]) := by
      rw [bs_lisT, List.map_cons, join_two 44 _ (by simp)]
      simp
    rw [e] at h44
    revert h44
    decide
  have RL := hide (fun W (hW : TabPME W) => readList_calls [p, q, k] W hW (by simp) (by intro y hy; simp at hy; omega) hne)
  obtain ⟨t, ht⟩ : ∃ t, t = grpT s p q k := ⟨_, rfl⟩
  obtain ⟨r, hr⟩ : ∃ r, r = lisT [p, q, k] := ⟨_, rfl⟩
  rw [← ht] at CU ⊢
  rw [← hr] at CU RL
  have HTT := hide HT
  clear hbs hc1 hc2 hsz hne ht hr hl3 HT htm
  go_enter Tryz.func147, Tryz.ntmps147
  go_wp2_with fail
  refine CU.out.mono ?_
  rintro e w2 ⟨rfl, j, rfl⟩
  have HB2 := hide (below_drewN (Below.refl w.heap.size w) j)
  clear CU
  go_wp2_with fail
  refine (RL.out _ (HTT.out.here HB2.out)).mono ?_
  rintro e w3 ⟨A, c, rfl, hr3, hb3⟩
  have HR3 := hide hr3
  have HB3 := hide (HB2.out.trans (hb3.mono HB2.out.size))
  clear hr3 hb3 RL HB2
  simp only [List.length_cons, List.length_nil, Nat.zero_add, Nat.reduceAdd] at HR3 ⊢
  go_wp2
  refine bodyPost_ret (v := .tuple #[.string s, .slice A 3 c, .bool true]) (by simp [results, Tryz.results147, go_sem, *]) rfl ?_
  exact ⟨A, c, rfl, HR3.out, HB3.out⟩

set_option maxRecDepth 100000 in
set_option maxHeartbeats 4000000 in
theorem readGroup_calls (s : ByteArray) (p q k : Int) (w : World) (HT : TabPME w) (hv : grpB ⟨s, p, q, k⟩ = true) :
    Calls Tryz.prog 66 #[.string (grpT s p q k)] w fun e w' => e = .returned (.tuple #[.agg #[.string s, .int .i64 p, .int .i64 q, .int .i64 k], .bool true]) ∧ Below w.heap.size w w' := by
  obtain ⟨hnm, _, hs10, hg1, hg2, hg3⟩ := grp_ok hv
  obtain ⟨w0, hw0⟩ : ∃ w0, w0 = w.alloc (.cells #[.string ⟨#[]⟩, .int .i64 0, .int .i64 0, .int .i64 0] 98) := ⟨_, rfl⟩
  have hB : Below w.heap.size w w0 := by rw [hw0]; exact (Below.refl _ _).alloc (Nat.le_refl _) _
  have HA : Hid (Ag4 98 w0 w.heap.size (.string ⟨#[]⟩) (.int .i64 0) (.int .i64 0) (.int .i64 0)) := by rw [hw0]; exact Ag4.new _ _ _ _ _ _
  have hz : w.heap.size < w0.heap.size := by rw [hw0]; simp
  have RN := hide (readNamed_calls s p q k w0 (HT.here hB) (name_no32 hnm) hs10 (by omega) (by omega) (by omega))
  have GT := hide (fun W (hW : TabP W) => groupText_calls s p q k W hW hv)
  obtain ⟨t, ht⟩ : ∃ t, t = grpT s p q k := ⟨_, rfl⟩
  rw [← ht] at RN ⊢
  simp only [← ht] at GT
  have HB := hide hB
  have HTT := hide HT
  clear hB hv ht HT hnm
  go_enter Tryz.func66, Tryz.ntmps66
  go_upto_region 1 with fail
  rw [← hw0]
  clear hw0
  go_wp2_with fail
  refine RN.out.mono ?_
  rintro e w3 ⟨A, c, rfl, hr3, hb3⟩
  have HA3 := hide (HA.out.below hb3 hz)
  have HB3 := hide (HB.out.trans (hb3.mono HB.out.size))
  have hz3 := hb3.size
  obtain ⟨b, off, x0, hA0, hbl, hx0, c0, _, _⟩ := hr3.at (show 0 < 3 by omega)
  obtain ⟨b1, off1, x1, hA1, _, hx1, c1, _, _⟩ := hr3.at (show 1 < 3 by omega)
  obtain ⟨b2, off2, x2, hA2, _, hx2, c2, _, _⟩ := hr3.at (show 2 < 3 by omega)
  subst hA0
  obtain ⟨rfl, rfl⟩ : b = b1 ∧ off = off1 := by simpa using hA1
  obtain ⟨rfl, rfl⟩ : b = b2 ∧ off = off2 := by simpa using hA2
  obtain rfl : p = x0 := by simpa using hx0.out
  obtain rfl : q = x1 := by simpa using hx1.out
  obtain rfl : k = x2 := by simpa using hx2.out
  rw [Nat.add_zero] at c0
  have HCE : Hid (∀ W, Below w3.heap.size w3 W → W.cell? ⟨b, off, none⟩ = some (.int .i64 p) ∧ W.cell? ⟨b, off + 1, none⟩ = some (.int .i64 q) ∧ W.cell? ⟨b, off + 2, none⟩ = some (.int .i64 k)) := fun W hW => ⟨(hW.cell (p := ⟨b, off, none⟩) hbl).trans c0, (hW.cell (p := ⟨b, off + 1, none⟩) hbl).trans c1, (hW.cell (p := ⟨b, off + 2, none⟩) hbl).trans c2⟩
  clear hr3 hb3 hA1 hA2 hx0 hx1 hx2 c0 c1 c2 RN HA HB
  go_upto_region 4 with fail
  go_cut [7] (fun v wx => ∃ b', v = .pointer (some ⟨b', 0, none⟩) ∧ Hid (Ag4 98 wx b' (.string s) (.int .i64 p) (.int .i64 q) (.int .i64 k)) ∧ Hid (Below w3.heap.size w3 wx) ∧ w3.heap.size ≤ b')
  case first => as_aux_lemma =>
    --[
    obtain ⟨wd, hwd⟩ : ∃ wd : World, wd = w3.drew := ⟨_, rfl⟩
    have HS0 : Hid ((fun W => W.cell? ⟨b, off, none⟩ = some (.int .i64 p) ∧ W.cell? ⟨b, off + 1, none⟩ = some (.int .i64 q) ∧ W.cell? ⟨b, off + 2, none⟩ = some (.int .i64 k)) wd) := by rw [hwd]; exact HCE.out _ (Below.refl _ _).drew
    have HWD := hide hwd
    have HBd : Hid (Below w3.heap.size w3 wd) := by rw [HWD.out]; exact (Below.refl _ _).drew
    refine wp_region_held_drew (S := fun W => W.cell? ⟨b, off, none⟩ = some (.int .i64 p) ∧ W.cell? ⟨b, off + 1, none⟩ = some (.int .i64 q) ∧ W.cell? ⟨b, off + 2, none⟩ = some (.int .i64 k)) (by kernel_rfl) (by rw [← hwd]; exact HS0.out) (fun _ => ?_)
    rw [← hwd]
    clear hwd
    refine takeH 0 17 (.string s) ⟨_, rfl, rfl, rfl, ?_⟩ (by kernel_rfl) (by kernel_rfl) (by kernel_rfl) (fun _ _ _ h => h) HS0.out ?_
    · intro wz hSw; go_simp
    try simp only [Act.put, List.setIfInBounds_toArray, List.set_cons_zero, List.set_cons_succ]
    refine takeH 1 18 (.slice (some ⟨b, off, none⟩) 3 c) ⟨_, rfl, rfl, rfl, ?_⟩ (by kernel_rfl) (by kernel_rfl) (by kernel_rfl) (fun _ _ _ h => h) HS0.out ?_
    · intro wz hSw; go_simp
    try simp only [Act.put, List.setIfInBounds_toArray, List.set_cons_zero, List.set_cons_succ]
    refine takeH 2 19 (.pointer (some ⟨b, off, none⟩)) ⟨_, rfl, rfl, rfl, ?_⟩ (by kernel_rfl) (by kernel_rfl) (by kernel_rfl) (fun _ _ _ h => h) HS0.out ?_
    · intro wz hSw; go_simp
    try simp only [Act.put, List.setIfInBounds_toArray, List.set_cons_zero, List.set_cons_succ]
    refine takeH 3 20 (.int .i64 p) ⟨_, rfl, rfl, rfl, ?_⟩ (by kernel_rfl) (by kernel_rfl) (by kernel_rfl) (fun _ _ _ h => h) HS0.out ?_
    · intro wz hSw; obtain ⟨x0, x1, x2⟩ : wz.cell? ⟨b, off, none⟩ = some (.int .i64 p) ∧ wz.cell? ⟨b, off + 1, none⟩ = some (.int .i64 q) ∧ wz.cell? ⟨b, off + 2, none⟩ = some (.int .i64 k) := hSw; go_simp
    try simp only [Act.put, List.setIfInBounds_toArray, List.set_cons_zero, List.set_cons_succ]
    refine takeH 4 21 (.slice (some ⟨b, off, none⟩) 3 c) ⟨_, rfl, rfl, rfl, ?_⟩ (by kernel_rfl) (by kernel_rfl) (by kernel_rfl) (fun _ _ _ h => h) HS0.out ?_
    · intro wz hSw; go_simp
    try simp only [Act.put, List.setIfInBounds_toArray, List.set_cons_zero, List.set_cons_succ]
    refine takeH 5 22 (.pointer (some ⟨b, off + 1, none⟩)) ⟨_, rfl, rfl, rfl, ?_⟩ (by kernel_rfl) (by kernel_rfl) (by kernel_rfl) (fun _ _ _ h => h) HS0.out ?_
    · intro wz hSw; go_simp
    try simp only [Act.put, List.setIfInBounds_toArray, List.set_cons_zero, List.set_cons_succ]
    refine takeH 6 23 (.int .i64 q) ⟨_, rfl, rfl, rfl, ?_⟩ (by kernel_rfl) (by kernel_rfl) (by kernel_rfl) (fun _ _ _ h => h) HS0.out ?_
    · intro wz hSw; obtain ⟨x0, x1, x2⟩ : wz.cell? ⟨b, off, none⟩ = some (.int .i64 p) ∧ wz.cell? ⟨b, off + 1, none⟩ = some (.int .i64 q) ∧ wz.cell? ⟨b, off + 2, none⟩ = some (.int .i64 k) := hSw; go_simp
    try simp only [Act.put, List.setIfInBounds_toArray, List.set_cons_zero, List.set_cons_succ]
    refine takeH 7 24 (.slice (some ⟨b, off, none⟩) 3 c) ⟨_, rfl, rfl, rfl, ?_⟩ (by kernel_rfl) (by kernel_rfl) (by kernel_rfl) (fun _ _ _ h => h) HS0.out ?_
    · intro wz hSw; go_simp
    try simp only [Act.put, List.setIfInBounds_toArray, List.set_cons_zero, List.set_cons_succ]
    refine takeH 8 25 (.pointer (some ⟨b, off + 2, none⟩)) ⟨_, rfl, rfl, rfl, ?_⟩ (by kernel_rfl) (by kernel_rfl) (by kernel_rfl) (fun _ _ _ h => h) HS0.out ?_
    · intro wz hSw; go_simp
    try simp only [Act.put, List.setIfInBounds_toArray, List.set_cons_zero, List.set_cons_succ]
    refine takeH 9 26 (.int .i64 k) ⟨_, rfl, rfl, rfl, ?_⟩ (by kernel_rfl) (by kernel_rfl) (by kernel_rfl) (fun _ _ _ h => h) HS0.out ?_
    · intro wz hSw; obtain ⟨x0, x1, x2⟩ : wz.cell? ⟨b, off, none⟩ = some (.int .i64 p) ∧ wz.cell? ⟨b, off + 1, none⟩ = some (.int .i64 q) ∧ wz.cell? ⟨b, off + 2, none⟩ = some (.int .i64 k) := hSw; go_simp
    try simp only [Act.put, List.setIfInBounds_toArray, List.set_cons_zero, List.set_cons_succ]
    refine takeH 10 27 (.agg #[.string s, .int .i64 p, .int .i64 q, .int .i64 k]) ⟨_, rfl, rfl, rfl, ?_⟩ (by kernel_rfl) (by kernel_rfl) (by kernel_rfl) (fun _ _ _ h => h) HS0.out ?_
    · intro wz hSw; go_simp
    try simp only [Act.put, List.setIfInBounds_toArray, List.set_cons_zero, List.set_cons_succ]
    refine wpAnyH_ready (rs := [11]) (by kernel_rfl) (by simp) ?_
    refine AllReadyH.cons rfl (fun K hK => ?_) AllReadyH.nil
    obtain ⟨wq, hwq⟩ : ∃ W, W = World.alloc wd (.cells #[.string ⟨#[]⟩, .int .i64 0, .int .i64 0, .int .i64 0] 98) := ⟨_, rfl⟩
    have hbq : Below (World.heap wd).size wd wq := by rw [hwq]; exact (Below.refl _ _).alloc (Nat.le_refl _) _
    have HNq : Hid (Ag4 98 wq (World.heap wd).size (.string ⟨#[]⟩) (.int .i64 0) (.int .i64 0) (.int .i64 0)) := by rw [hwq]; exact Ag4.new _ _ _ _ _ _
    have HBq := hide (HBd.out.trans (hbq.mono HBd.out.size))
    have HSq := hide (HCE.out wq HBq.out)
    have hgq : w3.heap.size ≤ (World.heap wd).size := HBd.out.size
    go_simp
    try go_wp2_with fail
    rw [← hwq]
    clear hwq hbq
    refine hK.out _ _ HSq.out (fun _ => ?_)
    clear hK K
    try simp only [Act.put, List.setIfInBounds_toArray, List.set_cons_zero, List.set_cons_succ]
    refine wpAnyH_ready (rs := [12]) (by kernel_rfl) (by simp) ?_
    refine AllReadyH.cons rfl (fun K hK => ?_) AllReadyH.nil
    obtain ⟨l0, l1, l2, l3, m0, m1, m2, m3⟩ := HNq.out.out
    have HNr : Hid (Ag4 98 ((((World.setCell wq ⟨(World.heap wd).size, 0, none⟩ (.string s)).setCell ⟨(World.heap wd).size, 1, none⟩ (.int .i64 p)).setCell ⟨(World.heap wd).size, 2, none⟩ (.int .i64 q)).setCell ⟨(World.heap wd).size, 3, none⟩ (.int .i64 k)) (World.heap wd).size (.string s) (.int .i64 p) (.int .i64 q) (.int .i64 k)) := Ag4.all HNq.out
    have HBr := hide (below_set4 (u0 := .string s) (u1 := .int .i64 p) (u2 := .int .i64 q) (u3 := .int .i64 k) HBq.out (C := (World.heap wd).size) hgq)
    have HSr := hide (HCE.out _ HBr.out)
    go_simp
    try go_wp2_with fail
    refine hK.out _ _ HSr.out (fun _ => ?_)
    clear l0 l1 l2 l3 m0 m1 m2 m3
    clear hK K
    try simp only [Act.put, List.setIfInBounds_toArray, List.set_cons_zero, List.set_cons_succ]
    refine wpAnyH_done (by kernel_rfl) ?_ _
    go_wp2_with fail
    go_meet
    case rel => exact ⟨(World.heap wd).size, rfl, HNr, HBr, by omega⟩
    --]
  case rest => as_aux_lemma =>
    obtain ⟨w4, rfl⟩ : ∃ w4 : World, w4 = wc := ⟨_, rfl⟩
    obtain ⟨b', hv7, HN4, HB4, hbb⟩ := hcut
    subst hv7
    obtain ⟨l0, l1, l2, l3, _⟩ := HN4.out.out
    have HA4 := hide (HA3.out.below HB4.out (by omega))
    have HB4' := hide (HB3.out.trans (HB4.out.mono HB3.out.size))
    go_wp2_with fail
    refine (GT.out w4 (HTT.out.here HB4'.out).1.1).mono ?_
    rintro e w5 ⟨rfl, hb5⟩
    clear l0 l1 l2 l3
    obtain ⟨l0, l1, l2, l3, _⟩ := (HN4.out.below hb5 (Array.getElem?_eq_some_iff.1 HN4.out).1).out
    obtain ⟨m0, m1, m2, m3, k0, k1, k2, k3⟩ := (HA4.out.below hb5 (Array.getElem?_eq_some_iff.1 HA4.out).1).out
    have HB5 := hide (HB4'.out.trans (hb5.mono HB4'.out.size))
    have q2 := (str_eq (rfl : t = t)).1
    clear hb5 GT
    go_wp2
    refine bodyPost_ret (v := .tuple #[.agg #[.string s, .int .i64 p, .int .i64 q, .int .i64 k], .bool true]) (by simp [results, Tryz.results66, go_sem, *]) rfl ?_
    exact ⟨rfl, below_set4 HB5.out (Nat.le_refl _)⟩

end Go.Proofs.YtcclfmapbgdpdaaGreatDoor
