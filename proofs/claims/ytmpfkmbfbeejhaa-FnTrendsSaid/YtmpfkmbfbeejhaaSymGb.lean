/- symMerge of the stable sort, over int64: two rows of two or more, branch b. -/
import Derived.Test.YtmpfkmbfbeejhaaSymG
namespace Go.Proofs.Ytmpfkmbfbeejhaa
open Go.Shelf Go.RowKit Go.Lib Go.Sort
set_option linter.unusedVariables false
variable {α : Type} [Inhabited α]

set_option maxHeartbeats 8000000 in
set_option maxRecDepth 1000000 in
theorem symMerge_more_b (enc : α → Value) (cf : α → α → Int) (g : Nat) (cb : Array Value) (blk off cap : Nat) (d0 d : Array α) (w0 w : World) (T E : α → α → Prop) (H : Told enc cf g cb blk off d0 w0 T E)
    (P L R S : List α) (hsub : Sub enc g cb blk off cap w0 T E d.size (L.length + R.length)) (hs : d0.size = d.size) (SS : SW enc w0 blk off d w) (hd : d.toList = P ++ L ++ R ++ S) (hL : 2 ≤ L.length) (hR : 2 ≤ R.length) (pL : L.Pairwise T) (pR : R.Pairwise T) (hE : ∀ x ∈ L, ∀ y ∈ R, E x y) (hlh : ¬ (L.length + R.length) / 2 < L.length) (a m b : Nat) (ha : a = P.length) (hm : m = a + L.length) (hb : b = m + R.length) :
    Calls Try.prog 105 #[.slice (some ⟨blk, off, none⟩) d.size cap, .int .i64 a, .int .i64 m, .int .i64 b, .func (.func g) #[] cb] w (MrgPost enc w0 blk off T P L R S d) := by
  have hcl0 := H.row.hO.cells
  simp only [Value.cells] at hcl0
  have hst := H.row.hO.store Try.prog
  have mixed : Try.prog.follows .mixedOrders = true := by kernel_rfl
  have hl : d.size = P.length + L.length + R.length + S.length := by rw [← Array.length_toList, hd]; simp; omega
  have hsm := H.small
  have eg := H.enter
  have HT := hide H
  have S0 : Hid (SW enc w0 blk off d w) := SS
  have HD := hide hd
  have HP := hide (And.intro pL (And.intro pR hE))
  have HSU := hide hsub
  obtain ⟨l, hll⟩ : ∃ l, l = L.length := ⟨_, rfl⟩
  obtain ⟨r, hr⟩ : ∃ r, r = R.length := ⟨_, rfl⟩
  rw [← hr] at hb hl hR
  rw [← hll] at hm hl hL
  have HLL := hide (And.intro hll hr)
  have HSZ := hide hs
  have hPl := hide ha
  rw [← hll, ← hr] at hlh
  subst hm
  subst hb
  have hds : a + l + r ≤ d.size := by omega
  have hds2 : d.size < 1048576 := by omega
  have g0 : ((a : Int) + (l : Int) - (a : Int)) = (l : Int) := by omega
  have g1 : ((a : Int) + (l : Int) + (r : Int) - ((a : Int) + (l : Int))) = (r : Int) := by omega
  have g2 : ¬ (l : Int) = 1 := by omega
  have g3 : ¬ (r : Int) = 1 := by omega
  have g5 : ((l : Int) == 1) = false := by rw [beq_eq_false_iff_ne]; exact g2
  have g6 : ((r : Int) == 1) = false := by rw [beq_eq_false_iff_ne]; exact g3
  obtain ⟨h, hh⟩ : ∃ h, h = (l + r) / 2 := ⟨_, rfl⟩
  clear SS hd pL pR hE hl hsm H hr hll hs ha hsub
  go_enter Try.func105, Try.ntmps105
  rw [← hh] at hlh
  have lf : ∃ lo hi : Nat, lo = 0 ∧ hi = l ∧ lo ≤ hi ∧ hi ≤ l ∧ hi ≤ h ∧ h ≤ lo + r ∧ (lo = 0 ∨ h = lo + r) ∧ (hi = l ∨ hi = h) := ⟨0, l, by omega, by omega, by omega, by omega, by omega, by omega, by omega, by omega⟩
  obtain ⟨lo, hi, q1, q2, q3, q4, q5, q6, q7⟩ := lf
  have HF := hide q7
  have g7 : ¬ ((a : Int) + ((a : Int) + (l : Int) + (r : Int))) / 2 < (a : Int) + (l : Int) := by omega
  have g8 : decide (((a : Int) + ((a : Int) + (l : Int) + (r : Int))) / 2 < (a : Int) + (l : Int)) = false := decide_eq_false g7
  clear q7
  go_wp2_with fail
  · go_loopw [20, 21, 23] (fun p q s wr => ∃ (u v : Nat), p = .int .i64 ((a + u : Nat) : Int) ∧ q = .int .i64 ((a + v : Nat) : Int) ∧ lo ≤ u ∧ u ≤ v ∧ v ≤ hi ∧ Hid ((u = lo ∨ ∃ q x y, u = q + 1 ∧ L[q]? = some x ∧ R[h - u]? = some y ∧ T x y) ∧ (v = hi ∨ ∃ q x y, h - v = q + 1 ∧ L[v]? = some x ∧ R[q]? = some y ∧ T y x)) ∧ Hid (SW enc w0 blk off d wr)) (fun p q _ _ => (intOf q).toNat - (intOf p).toNat)
    case atStart => exact ⟨lo, hi, by congr 1; omega, by congr 1; omega, Nat.le_refl _, q3, Nat.le_refl _, ⟨Or.inl rfl, Or.inl rfl⟩, S0⟩
    case round =>
      clear S0
      obtain ⟨u, v, rfl, rfl, hlu, huv, hvh, HC, S1⟩ := hrel
      by_cases hlt : u < v
      · obtain ⟨p, hp⟩ : ∃ p, p = (u + v) / 2 := ⟨_, rfl⟩
        have hp1 : u ≤ p := by omega
        have hp2 : p < v := by omega
        obtain ⟨t, ht⟩ : ∃ t, t + 1 + p = h := ⟨h - 1 - p, by omega⟩
        obtain ⟨L1, y, L2, hLe, hL1⟩ := cut_at L (k := p) (by have := HLL.out; omega)
        obtain ⟨R1, x, R2, hRe, hR1⟩ := cut_at R (k := t) (by have := HLL.out; omega)
        have hy := at_mid L1 L2 y hL1.symm
        have hx := at_mid R1 R2 x hR1.symm
        rw [← hLe] at hy
        rw [← hRe] at hx
        have hyL : y ∈ L := by rw [hLe]; simp
        have hxR : x ∈ R := by rw [hRe]; simp
        obtain ⟨c1, c2, c3⟩ := cmp_facts HT.out S1.out HSZ.out.symm (x := x) (y := y) (A := P ++ L ++ R1) (B := R2 ++ S) (A' := P ++ L1) (B' := L2 ++ R ++ S) (i := a + l + t) (j := a + p) (by rw [HD.out, hRe]; simp) (by rw [hPl.out, HLL.out.1]; simp; omega) (by rw [HD.out, hLe]; simp) (by rw [hPl.out]; simp; omega)
        obtain ⟨q, hq⟩ : ∃ q, q = a + l + t := ⟨_, rfl⟩
        rw [← hq] at c1
        have eyes := hide (fun z => HT.out.yes x y (HP.out.2.2 y hyL x hxR) z)
        have eno := hide (fun z => HT.out.no x y (HP.out.2.2 y hyL x hxR) z)
        have HY := hide (And.intro hy hx)
        clear hLe hL1 hRe hR1 hyL hxR hy hx
        obtain ⟨qi, hqi⟩ : ∃ qi, qi = a + p := ⟨_, rfl⟩
        rw [← hqi] at c2
        obtain ⟨X, hX⟩ : ∃ X : Int, ((a : Int) + ((a : Int) + (l : Int) + (r : Int))) / 2 + ((a : Int) + (l : Int)) - 1 = X := ⟨_, rfl⟩
        obtain ⟨Y, hY⟩ : ∃ Y : Int, ((a : Int) + (u : Int) + ((a : Int) + (v : Int))) / 2 = Y := ⟨_, rfl⟩
        have ra : IntKind.i64.wrap (X - Y) = (q : Int) := by rw [IntKind.wrap_i64]; omega
        have ea : (q : Int).toNat = q := by omega
        have pa : (0 : Int) ≤ (q : Int) := by omega
        have ba : (q : Int) < (d.size : Int) := by omega
        have ec : Y.toNat = qi := by omega
        have pc : (0 : Int) ≤ Y := by omega
        have bc : Y < (d.size : Int) := by omega
        have rc : IntKind.i64.wrap Y = Y := by rw [IntKind.wrap_i64]; omega
        have EM := hide (show Y = ((a + p : Nat) : Int) by omega)
        have HX := hide hX
        have HYY := hide hY
        have hps : a + p + 1 < 1048576 := by omega
        have HQ := hide (And.intro hq (And.intro hqi (And.intro hp1 (And.intro hp2 (And.intro hps ht)))))
        clear hq hqi hp hp1 hp2 hps ht hX hY
        rcases Decidable.em (cf x y < 0) with hv | hv
        · have hd1 : decide (cf x y < 0) = true := decide_eq_true hv
          have HT1 := hide (eyes.out hv)
          clear hv eyes eno
          go_wp2_with fail
          rw [HX.out, HYY.out]
          go_quiet_grown (first | (go_at_fn g; refine Calls.grown_of (c3 _ _)))
          have S2 : Hid (SW enc w0 blk off d (grow (wr.drewN nq) osq)) := S1.out.grown nq osq
          clear c1 c2 c3 S1
          generalize grow (wr.drewN nq) osq = w2 at S2 ⊢
          clear nq osq
          rw [EM.out, ← HX.out]
          clear ea pa ba ra ec pc bc rc
          go_wp2
          try rw [g8]
          go_roundw
          case rel =>
            have := HQ.out
            have key : Hid ((u = lo ∨ ∃ q x y, u = q + 1 ∧ L[q]? = some x ∧ R[h - u]? = some y ∧ T x y) ∧ (p = hi ∨ ∃ q x y, h - p = q + 1 ∧ L[p]? = some x ∧ R[q]? = some y ∧ T y x)) := ⟨HC.out.1, Or.inr ⟨t, y, x, by omega, HY.out.1, HY.out.2, HT1.out⟩⟩
            exact ⟨u, p, rfl, rfl, hlu, by omega, by omega, key, S2⟩
          case measure => have := HQ.out; simp [intOf]; omega
        · have hd1 : decide (cf x y < 0) = false := decide_eq_false hv
          have HT1 := hide (eno.out hv)
          clear hv eyes eno
          go_wp2_with fail
          rw [HX.out, HYY.out]
          go_quiet_grown (first | (go_at_fn g; refine Calls.grown_of (c3 _ _)))
          have S2 : Hid (SW enc w0 blk off d (grow (wr.drewN nq) osq)) := S1.out.grown nq osq
          clear c1 c2 c3 S1
          generalize grow (wr.drewN nq) osq = w2 at S2 ⊢
          clear nq osq
          rw [EM.out, ← HX.out]
          have hpz : a + p + 1 < 1048576 := HQ.out.2.2.2.2.1
          clear ea pa ba ra ec pc bc rc
          go_wp2
          try rw [g8]
          go_roundw
          case rel =>
            have := HQ.out
            have key : Hid ((p + 1 = lo ∨ ∃ q x y, p + 1 = q + 1 ∧ L[q]? = some x ∧ R[h - (p + 1)]? = some y ∧ T x y) ∧ (v = hi ∨ ∃ q x y, h - v = q + 1 ∧ L[v]? = some x ∧ R[q]? = some y ∧ T y x)) := ⟨Or.inr ⟨p, y, x, rfl, HY.out.1, by rw [show h - (p + 1) = t by omega]; exact HY.out.2, HT1.out⟩, HC.out.2⟩
            exact ⟨p + 1, v, by go_num, rfl, by omega, by omega, hvh, key, S2⟩
          case measure => have := HQ.out; simp [intOf]; omega
      · obtain rfl : u = v := by omega
        clear hlt
        obtain ⟨t, ht⟩ : ∃ t, t + u = h := ⟨h - u, by omega⟩
        have htr : t ≤ r := by omega
        have hul : u ≤ l := by omega
        have c1 : L.take u = [] ∨ R.drop t = [] ∨ ∃ q x y, u = q + 1 ∧ L[q]? = some x ∧ R[t]? = some y ∧ T x y := by
          rcases HC.out.1 with e | ⟨q, x, y, e1, e2, e3, e4⟩
          · rcases HF.out.1 with f | f
            · exact Or.inl (by rw [e, f]; rfl)
            · exact Or.inr (Or.inl (List.drop_eq_nil_of_le (by have := HLL.out; omega)))
          · exact Or.inr (Or.inr ⟨q, x, y, e1, e2, by rw [← e3]; congr 1; omega, e4⟩)
        have c2 : L.drop u = [] ∨ R.take t = [] ∨ ∃ q x y, t = q + 1 ∧ L[u]? = some x ∧ R[q]? = some y ∧ T y x := by
          rcases HC.out.2 with e | ⟨q, x, y, e1, e2, e3, e4⟩
          · rcases HF.out.2 with f | f
            · exact Or.inl (List.drop_eq_nil_of_le (by have := HLL.out; omega))
            · exact Or.inr (Or.inl (by rw [show t = 0 by omega]; rfl))
          · exact Or.inr (Or.inr ⟨q, x, y, by omega, e2, e3, e4⟩)
        have HX := hide (cross HT.out.trans HP.out.1 HP.out.2.1 c1 c2)
        have e0 : Hid (d.toList = P ++ L.take u ++ L.drop u ++ R.take t ++ (R.drop t ++ S)) := by
          unfold Hid
          have j1 := List.take_append_drop u L
          have j2 := List.take_append_drop t R
          rw [HD.out, show P ++ L ++ R ++ S = P ++ (L.take u ++ L.drop u) ++ (R.take t ++ R.drop t) ++ S by rw [j1, j2]]
          simp only [List.append_assoc]
        clear c1 c2
        obtain ⟨z, hz⟩ : ∃ z, z = a + l + t := ⟨_, rfl⟩
        obtain ⟨y, hy⟩ : ∃ y, y = a + h := ⟨_, rfl⟩
        have em : ((a : Int) + ((a : Int) + (l : Int) + (r : Int))) / 2 = (y : Int) := by omega
        have ee : (y : Int) + ((a : Int) + (l : Int)) - ((a : Int) + (u : Int)) = (z : Int) := by omega
        rw [em]
        rw [em] at g7 g8
        have hL1 : (L.take u).length = u := by have := HLL.out; rw [List.length_take]; omega
        have hL2 : (L.drop u).length = l - u := by have := HLL.out; rw [List.length_drop]; omega
        have hR1 : (R.take t).length = t := by have := HLL.out; rw [List.length_take]; omega
        have hR2 : (R.drop t).length = r - t := by have := HLL.out; rw [List.length_drop]; omega
        have pw := HP.out
        have t1 : (L.take u).Pairwise T := pw.1.sublist (List.take_sublist _ _)
        have t2 : (L.drop u).Pairwise T := pw.1.sublist (List.drop_sublist _ _)
        have t3 : (R.take t).Pairwise T := pw.2.1.sublist (List.take_sublist _ _)
        have t4 : (R.drop t).Pairwise T := pw.2.1.sublist (List.drop_sublist _ _)
        have x1 : ∀ x ∈ L.take u, ∀ y ∈ R.take t, E x y := fun x hx y hy => pw.2.2 x (List.mem_of_mem_take hx) y (List.mem_of_mem_take hy)
        have x2 : ∀ x ∈ L.drop u, ∀ y ∈ R.drop t, E x y := fun x hx y hy => pw.2.2 x (List.mem_of_mem_drop hx) y (List.mem_of_mem_drop hy)
        have RCf := hide (rotate_calls enc g cb blk off cap d0 d w0 wr (P ++ L.take u) (L.drop u) (R.take t) (R.drop t ++ S) HT.out.row HSZ.out S1.out e0.out)
        obtain ⟨L1, gL1⟩ : ∃ q, q = L.take u := ⟨_, rfl⟩
        obtain ⟨L2, gL2⟩ : ∃ q, q = L.drop u := ⟨_, rfl⟩
        obtain ⟨R1, gR1⟩ : ∃ q, q = R.take t := ⟨_, rfl⟩
        obtain ⟨R2, gR2⟩ : ∃ q, q = R.drop t := ⟨_, rfl⟩
        rw [← gL1, ← gL2, ← gR1, ← gR2] at e0 RCf
        rw [← gL1] at hL1 t1 x1
        rw [← gR1] at hR1 t3 x1
        rw [← gL2] at hL2 t2 x2
        rw [← gR2] at hR2 t4 x2
        have HXJ : Hid (∀ M1 M2 : List α, M1.Perm (L1 ++ R1) → M2.Perm (L2 ++ R2) → M1.Pairwise T → M2.Pairwise T → (M1 ++ M2).Pairwise T ∧ (M1 ++ M2).Perm (L ++ R)) := by
          unfold Hid
          subst gL1 gL2 gR1 gR2
          exact fun M1 M2 p1 p2 s1 s2 => join_two HX.out p1 p2 s1 s2
        clear gL1 gL2 gR1 gR2
        have HU := hide (And.intro hL1 (And.intro hL2 (And.intro hR1 hR2)))
        have HV := hide (And.intro t1 (And.intro t2 (And.intro t3 (And.intro t4 (And.intro x1 x2)))))
        have HN := hide (And.intro hz (And.intro hy (And.intro ht (And.intro htr (And.intro hul (And.intro hPl.out (And.intro HLL.out (And.intro hds (And.intro hds2 (show 2 ≤ h ∧ h < l + r by omega))))))))))
        have hzy : y < 1048576 ∧ z < 1048576 ∧ a + u < 1048576 := by omega
        clear hL1 hL2 hR1 hR2 t1 t2 t3 t4 x1 x2 HX pw HC HF
        have hcs : (t = 0 ∧ u = l) ∨ (0 < t ∧ u = 0 ∧ t < r) ∨ (0 < t ∧ u = 0 ∧ t = r) ∨ (0 < t ∧ 0 < u ∧ u = l) ∨ (0 < t ∧ 0 < u ∧ u < l ∧ t < r) := by omega
        clear hh hz hy ht htr hul hlh
        rcases hcs with ⟨k0, k1⟩ | ⟨k0, k1, k2⟩ | ⟨k0, k1, k2⟩ | ⟨k0, k1, k2⟩ | ⟨k0, k1, k2, k3⟩
        ·
          have n0 := HN.out
          have q1 : ¬ ((a : Int) + (u : Int) < (a : Int) + (l : Int)) := by omega
          have q1n : ¬ (u < l) := by omega
          have q2 : ¬ ((a : Int) + (l : Int) < (z : Int)) := by omega
          have q3 : ((a : Int) < (a : Int) + (u : Int)) := by omega
          have q3n : (0 < u) := by omega
          have q4 : ¬ ((a : Int) + (u : Int) < (y : Int)) := by omega
          have q5 : ¬ ((y : Int) < (z : Int)) := by omega
          have q6 : ((z : Int) < (a : Int) + (l : Int) + (r : Int)) := by omega
          have m2 : L2 = [] := List.eq_nil_of_length_eq_zero (by have := HU.out; omega)
          have m3 : R1 = [] := List.eq_nil_of_length_eq_zero (by have := HU.out; omega)
          obtain ⟨d1, hd1⟩ : ∃ q, q = d := ⟨_, rfl⟩
          obtain ⟨w1, hw1⟩ : ∃ q, q = wr := ⟨_, rfl⟩
          have F1 : Hid (d1.toList = P ++ L1 ++ R1 ++ (L2 ++ (R2 ++ S))) := by unfold Hid; rw [hd1, e0.out, m2]; simp
          have hs1 : Hid (d1.size = d.size) := by unfold Hid; rw [hd1]
          have S2 : Hid (SW enc w0 blk off d1 w1) := by rw [hd1, hw1]; exact S1
          rw [← hw1]
          clear hd1 hw1 RCf n0 k0 k1
          obtain ⟨M1, hM1⟩ : ∃ q, q = L1 ++ R1 := ⟨_, rfl⟩
          obtain ⟨d2, hd2⟩ : ∃ q, q = d1 := ⟨_, rfl⟩
          obtain ⟨w2, hw2⟩ : ∃ q, q = w1 := ⟨_, rfl⟩
          have F2 : Hid (d2.toList = P ++ M1 ++ (L2 ++ (R2 ++ S)) ∧ M1.Perm (L1 ++ R1) ∧ M1.Pairwise T ∧ d2.size = d.size) := ⟨by rw [hd2, F1.out, hM1]; simp, by rw [hM1], by rw [hM1, m3]; simpa using HV.out.1, by rw [hd2]; exact hs1.out⟩
          have S3 : Hid (SW enc w0 blk off d2 w2) := by rw [hd2, hw2]; exact S2
          rw [← hw2]
          clear hd2 hw2 hM1
          have hM1l : Hid (M1.length = u + t) := by have := F2.out.2.1.length_eq; rw [List.length_append] at this; have := HU.out; unfold Hid; omega
          obtain ⟨M2, hM2⟩ : ∃ q, q = L2 ++ R2 := ⟨_, rfl⟩
          obtain ⟨d3, hd3⟩ : ∃ q, q = d2 := ⟨_, rfl⟩
          obtain ⟨w3, hw3⟩ : ∃ q, q = w2 := ⟨_, rfl⟩
          have F3 : Hid (d3.toList = P ++ (M1 ++ M2) ++ S ∧ M2.Perm (L2 ++ R2) ∧ M2.Pairwise T ∧ d3.size = d.size) := ⟨by rw [hd3, F2.out.1, hM2]; simp, by rw [hM2], by rw [hM2, m2]; simpa using HV.out.2.2.2.1, by rw [hd3]; exact F2.out.2.2.2⟩
          have S4 : Hid (SW enc w0 blk off d3 w3) := by rw [hd3, hw3]; exact S3
          rw [← hw3]
          clear hd3 hw3 hM2
          have J := HXJ.out M1 M2 F2.out.2.1 F3.out.2.1 F2.out.2.2.1 F3.out.2.2.1
          go_wp2
          go_end0
          exact ⟨rfl, _, d3, F3.out.1, J.2, J.1, F3.out.2.2.2, S4.out⟩
        ·
          have n0 := HN.out
          have q1 : ((a : Int) + (u : Int) < (a : Int) + (l : Int)) := by omega
          have q1n : (u < l) := by omega
          have q2 : ((a : Int) + (l : Int) < (z : Int)) := by omega
          have q3 : ¬ ((a : Int) < (a : Int) + (u : Int)) := by omega
          have q3n : ¬ (0 < u) := by omega
          have q4 : ((a : Int) + (u : Int) < (y : Int)) := by omega
          have q5 : ((y : Int) < (z : Int)) := by omega
          have q6 : ((z : Int) < (a : Int) + (l : Int) + (r : Int)) := by omega
          have m1 : L1 = [] := List.eq_nil_of_length_eq_zero (by have := HU.out; omega)
          have m2 : Hid (L2 ≠ []) := by unfold Hid; intro e; rw [e] at HU; have hu := HU.out; have := HN.out; simp at hu; omega
          have m3 : Hid (R1 ≠ []) := by unfold Hid; intro e; rw [e] at HU; have hu := HU.out; have := HN.out; simp at hu; omega
          have RC := hide (RCf.out m2.out m3.out hds2 (a + u) (a + l) z (by rw [List.length_append]; have := HU.out; omega) (by rw [List.length_append]; have := HU.out; omega) (by have := HU.out; omega))
          clear RCf n0 k0 k1 k2
          go_wp2_with fail
          (try rw [ee])
          refine RC.out.mono ?_
          rintro e w1 ⟨rfl, d1, h1, h2, h3⟩
          have F1 : Hid (d1.toList = P ++ L1 ++ R1 ++ (L2 ++ (R2 ++ S))) := by unfold Hid; rw [h1]; simp
          have hs1 := hide h2
          have S2 := hide h3
          clear h1 h2 h3 RC
          obtain ⟨M1, hM1⟩ : ∃ q, q = L1 ++ R1 := ⟨_, rfl⟩
          obtain ⟨d2, hd2⟩ : ∃ q, q = d1 := ⟨_, rfl⟩
          obtain ⟨w2, hw2⟩ : ∃ q, q = w1 := ⟨_, rfl⟩
          have F2 : Hid (d2.toList = P ++ M1 ++ (L2 ++ (R2 ++ S)) ∧ M1.Perm (L1 ++ R1) ∧ M1.Pairwise T ∧ d2.size = d.size) := ⟨by rw [hd2, F1.out, hM1]; simp, by rw [hM1], by rw [hM1, m1]; simpa using HV.out.2.2.1, by rw [hd2]; exact hs1.out⟩
          have S3 : Hid (SW enc w0 blk off d2 w2) := by rw [hd2, hw2]; exact S2
          rw [← hw2]
          clear hd2 hw2 hM1
          have hM1l : Hid (M1.length = u + t) := by have := F2.out.2.1.length_eq; rw [List.length_append] at this; have := HU.out; unfold Hid; omega
          have m4 : Hid (R2 ≠ []) := by unfold Hid; intro e; rw [e] at HU; have hu := HU.out; have := HN.out; simp at hu; omega
          have SB := hide (HSU.out d2 w2 (P ++ M1) L2 R2 S y z (a + l + r) (by have := HU.out; have := HN.out; omega) F2.out.2.2.2 S3.out (by rw [F2.out.1]; simp) m2.out m4.out HV.out.2.1 HV.out.2.2.2.1 HV.out.2.2.2.2.2 (by rw [List.length_append]; have := HN.out; have := hM1l.out; omega) (by have := HU.out; have := HN.out; omega) (by have := HU.out; have := HN.out; omega))
          go_wp2_with fail
          (try rw [ee])
          refine SB.out.mono ?_
          rintro e w3 ⟨rfl, M2, d3, h1, h2, h3, h4, h5⟩
          have F3 : Hid (d3.toList = P ++ (M1 ++ M2) ++ S ∧ M2.Perm (L2 ++ R2) ∧ M2.Pairwise T ∧ d3.size = d.size) := ⟨by rw [h1]; simp, h2, h3, by rw [h4]; exact F2.out.2.2.2⟩
          have S4 := hide h5
          clear h1 h2 h3 h4 h5 SB
          have J := HXJ.out M1 M2 F2.out.2.1 F3.out.2.1 F2.out.2.2.1 F3.out.2.2.1
          go_wp2
          go_end0
          exact ⟨rfl, _, d3, F3.out.1, J.2, J.1, F3.out.2.2.2, S4.out⟩
        ·
          have n0 := HN.out
          have q1 : ((a : Int) + (u : Int) < (a : Int) + (l : Int)) := by omega
          have q1n : (u < l) := by omega
          have q2 : ((a : Int) + (l : Int) < (z : Int)) := by omega
          have q3 : ¬ ((a : Int) < (a : Int) + (u : Int)) := by omega
          have q3n : ¬ (0 < u) := by omega
          have q4 : ((a : Int) + (u : Int) < (y : Int)) := by omega
          have q5 : ((y : Int) < (z : Int)) := by omega
          have q6 : ¬ ((z : Int) < (a : Int) + (l : Int) + (r : Int)) := by omega
          have m1 : L1 = [] := List.eq_nil_of_length_eq_zero (by have := HU.out; omega)
          have m4 : R2 = [] := List.eq_nil_of_length_eq_zero (by have := HU.out; omega)
          have m2 : Hid (L2 ≠ []) := by unfold Hid; intro e; rw [e] at HU; have hu := HU.out; have := HN.out; simp at hu; omega
          have m3 : Hid (R1 ≠ []) := by unfold Hid; intro e; rw [e] at HU; have hu := HU.out; have := HN.out; simp at hu; omega
          have RC := hide (RCf.out m2.out m3.out hds2 (a + u) (a + l) z (by rw [List.length_append]; have := HU.out; omega) (by rw [List.length_append]; have := HU.out; omega) (by have := HU.out; omega))
          clear RCf n0 k0 k1 k2
          go_wp2_with fail
          (try rw [ee])
          refine RC.out.mono ?_
          rintro e w1 ⟨rfl, d1, h1, h2, h3⟩
          have F1 : Hid (d1.toList = P ++ L1 ++ R1 ++ (L2 ++ (R2 ++ S))) := by unfold Hid; rw [h1]; simp
          have hs1 := hide h2
          have S2 := hide h3
          clear h1 h2 h3 RC
          obtain ⟨M1, hM1⟩ : ∃ q, q = L1 ++ R1 := ⟨_, rfl⟩
          obtain ⟨d2, hd2⟩ : ∃ q, q = d1 := ⟨_, rfl⟩
          obtain ⟨w2, hw2⟩ : ∃ q, q = w1 := ⟨_, rfl⟩
          have F2 : Hid (d2.toList = P ++ M1 ++ (L2 ++ (R2 ++ S)) ∧ M1.Perm (L1 ++ R1) ∧ M1.Pairwise T ∧ d2.size = d.size) := ⟨by rw [hd2, F1.out, hM1]; simp, by rw [hM1], by rw [hM1, m1]; simpa using HV.out.2.2.1, by rw [hd2]; exact hs1.out⟩
          have S3 : Hid (SW enc w0 blk off d2 w2) := by rw [hd2, hw2]; exact S2
          rw [← hw2]
          clear hd2 hw2 hM1
          have hM1l : Hid (M1.length = u + t) := by have := F2.out.2.1.length_eq; rw [List.length_append] at this; have := HU.out; unfold Hid; omega
          obtain ⟨M2, hM2⟩ : ∃ q, q = L2 ++ R2 := ⟨_, rfl⟩
          obtain ⟨d3, hd3⟩ : ∃ q, q = d2 := ⟨_, rfl⟩
          obtain ⟨w3, hw3⟩ : ∃ q, q = w2 := ⟨_, rfl⟩
          have F3 : Hid (d3.toList = P ++ (M1 ++ M2) ++ S ∧ M2.Perm (L2 ++ R2) ∧ M2.Pairwise T ∧ d3.size = d.size) := ⟨by rw [hd3, F2.out.1, hM2]; simp, by rw [hM2], by rw [hM2, m4]; simpa using HV.out.2.1, by rw [hd3]; exact F2.out.2.2.2⟩
          have S4 : Hid (SW enc w0 blk off d3 w3) := by rw [hd3, hw3]; exact S3
          rw [← hw3]
          clear hd3 hw3 hM2
          have J := HXJ.out M1 M2 F2.out.2.1 F3.out.2.1 F2.out.2.2.1 F3.out.2.2.1
          go_wp2
          go_end0
          exact ⟨rfl, _, d3, F3.out.1, J.2, J.1, F3.out.2.2.2, S4.out⟩
        ·
          have n0 := HN.out
          have q1 : ¬ ((a : Int) + (u : Int) < (a : Int) + (l : Int)) := by omega
          have q1n : ¬ (u < l) := by omega
          have q2 : ((a : Int) + (l : Int) < (z : Int)) := by omega
          have q3 : ((a : Int) < (a : Int) + (u : Int)) := by omega
          have q3n : (0 < u) := by omega
          have q4 : ((a : Int) + (u : Int) < (y : Int)) := by omega
          have q5 : ¬ ((y : Int) < (z : Int)) := by omega
          have q6 : ((z : Int) < (a : Int) + (l : Int) + (r : Int)) := by omega
          have m2 : L2 = [] := List.eq_nil_of_length_eq_zero (by have := HU.out; omega)
          obtain ⟨d1, hd1⟩ : ∃ q, q = d := ⟨_, rfl⟩
          obtain ⟨w1, hw1⟩ : ∃ q, q = wr := ⟨_, rfl⟩
          have F1 : Hid (d1.toList = P ++ L1 ++ R1 ++ (L2 ++ (R2 ++ S))) := by unfold Hid; rw [hd1, e0.out, m2]; simp
          have hs1 : Hid (d1.size = d.size) := by unfold Hid; rw [hd1]
          have S2 : Hid (SW enc w0 blk off d1 w1) := by rw [hd1, hw1]; exact S1
          rw [← hw1]
          clear hd1 hw1 RCf n0 k0 k1 k2
          have m5 : Hid (L1 ≠ []) := by unfold Hid; intro e; rw [e] at HU; have hu := HU.out; have := HN.out; simp at hu; omega
          have m3 : Hid (R1 ≠ []) := by unfold Hid; intro e; rw [e] at HU; have hu := HU.out; have := HN.out; simp at hu; omega
          have SA := hide (HSU.out d1 w1 P L1 R1 (L2 ++ (R2 ++ S)) a (a + u) y (by have := HU.out; have := HN.out; omega) hs1.out S2.out F1.out m5.out m3.out HV.out.1 HV.out.2.2.1 HV.out.2.2.2.2.1 HN.out.2.2.2.2.2.1 (by have := HU.out; omega) (by have := HU.out; have := HN.out; omega))
          go_wp2_with fail
          (try rw [ee])
          refine SA.out.mono ?_
          rintro e w2 ⟨rfl, M1, d2, h1, h2, h3, h4, h5⟩
          have F2 : Hid (d2.toList = P ++ M1 ++ (L2 ++ (R2 ++ S)) ∧ M1.Perm (L1 ++ R1) ∧ M1.Pairwise T ∧ d2.size = d.size) := ⟨by rw [h1], h2, h3, by rw [h4]; exact hs1.out⟩
          have S3 := hide h5
          clear h1 h2 h3 h4 h5 SA
          have hM1l : Hid (M1.length = u + t) := by have := F2.out.2.1.length_eq; rw [List.length_append] at this; have := HU.out; unfold Hid; omega
          obtain ⟨M2, hM2⟩ : ∃ q, q = L2 ++ R2 := ⟨_, rfl⟩
          obtain ⟨d3, hd3⟩ : ∃ q, q = d2 := ⟨_, rfl⟩
          obtain ⟨w3, hw3⟩ : ∃ q, q = w2 := ⟨_, rfl⟩
          have F3 : Hid (d3.toList = P ++ (M1 ++ M2) ++ S ∧ M2.Perm (L2 ++ R2) ∧ M2.Pairwise T ∧ d3.size = d.size) := ⟨by rw [hd3, F2.out.1, hM2]; simp, by rw [hM2], by rw [hM2, m2]; simpa using HV.out.2.2.2.1, by rw [hd3]; exact F2.out.2.2.2⟩
          have S4 : Hid (SW enc w0 blk off d3 w3) := by rw [hd3, hw3]; exact S3
          rw [← hw3]
          clear hd3 hw3 hM2
          have J := HXJ.out M1 M2 F2.out.2.1 F3.out.2.1 F2.out.2.2.1 F3.out.2.2.1
          go_wp2
          go_end0
          exact ⟨rfl, _, d3, F3.out.1, J.2, J.1, F3.out.2.2.2, S4.out⟩
        ·
          have n0 := HN.out
          have q1 : ((a : Int) + (u : Int) < (a : Int) + (l : Int)) := by omega
          have q1n : (u < l) := by omega
          have q2 : ((a : Int) + (l : Int) < (z : Int)) := by omega
          have q3 : ((a : Int) < (a : Int) + (u : Int)) := by omega
          have q3n : (0 < u) := by omega
          have q4 : ((a : Int) + (u : Int) < (y : Int)) := by omega
          have q5 : ((y : Int) < (z : Int)) := by omega
          have q6 : ((z : Int) < (a : Int) + (l : Int) + (r : Int)) := by omega
          have m2 : Hid (L2 ≠ []) := by unfold Hid; intro e; rw [e] at HU; have hu := HU.out; have := HN.out; simp at hu; omega
          have m3 : Hid (R1 ≠ []) := by unfold Hid; intro e; rw [e] at HU; have hu := HU.out; have := HN.out; simp at hu; omega
          have RC := hide (RCf.out m2.out m3.out hds2 (a + u) (a + l) z (by rw [List.length_append]; have := HU.out; omega) (by rw [List.length_append]; have := HU.out; omega) (by have := HU.out; omega))
          clear RCf n0 k0 k1 k2 k3
          go_wp2_with fail
          (try rw [ee])
          refine RC.out.mono ?_
          rintro e w1 ⟨rfl, d1, h1, h2, h3⟩
          have F1 : Hid (d1.toList = P ++ L1 ++ R1 ++ (L2 ++ (R2 ++ S))) := by unfold Hid; rw [h1]; simp
          have hs1 := hide h2
          have S2 := hide h3
          clear h1 h2 h3 RC
          have m5 : Hid (L1 ≠ []) := by unfold Hid; intro e; rw [e] at HU; have hu := HU.out; have := HN.out; simp at hu; omega
          have SA := hide (HSU.out d1 w1 P L1 R1 (L2 ++ (R2 ++ S)) a (a + u) y (by have := HU.out; have := HN.out; omega) hs1.out S2.out F1.out m5.out m3.out HV.out.1 HV.out.2.2.1 HV.out.2.2.2.2.1 HN.out.2.2.2.2.2.1 (by have := HU.out; omega) (by have := HU.out; have := HN.out; omega))
          go_wp2_with fail
          (try rw [ee])
          refine SA.out.mono ?_
          rintro e w2 ⟨rfl, M1, d2, h1, h2, h3, h4, h5⟩
          have F2 : Hid (d2.toList = P ++ M1 ++ (L2 ++ (R2 ++ S)) ∧ M1.Perm (L1 ++ R1) ∧ M1.Pairwise T ∧ d2.size = d.size) := ⟨by rw [h1], h2, h3, by rw [h4]; exact hs1.out⟩
          have S3 := hide h5
          clear h1 h2 h3 h4 h5 SA
          have hM1l : Hid (M1.length = u + t) := by have := F2.out.2.1.length_eq; rw [List.length_append] at this; have := HU.out; unfold Hid; omega
          have m4 : Hid (R2 ≠ []) := by unfold Hid; intro e; rw [e] at HU; have hu := HU.out; have := HN.out; simp at hu; omega
          have SB := hide (HSU.out d2 w2 (P ++ M1) L2 R2 S y z (a + l + r) (by have := HU.out; have := HN.out; omega) F2.out.2.2.2 S3.out (by rw [F2.out.1]; simp) m2.out m4.out HV.out.2.1 HV.out.2.2.2.1 HV.out.2.2.2.2.2 (by rw [List.length_append]; have := HN.out; have := hM1l.out; omega) (by have := HU.out; have := HN.out; omega) (by have := HU.out; have := HN.out; omega))
          go_wp2_with fail
          (try rw [ee])
          refine SB.out.mono ?_
          rintro e w3 ⟨rfl, M2, d3, h1, h2, h3, h4, h5⟩
          have F3 : Hid (d3.toList = P ++ (M1 ++ M2) ++ S ∧ M2.Perm (L2 ++ R2) ∧ M2.Pairwise T ∧ d3.size = d.size) := ⟨by rw [h1]; simp, h2, h3, by rw [h4]; exact F2.out.2.2.2⟩
          have S4 := hide h5
          clear h1 h2 h3 h4 h5 SB
          have J := HXJ.out M1 M2 F2.out.2.1 F3.out.2.1 F2.out.2.2.1 F3.out.2.2.1
          go_wp2
          go_end0
          exact ⟨rfl, _, d3, F3.out.1, J.2, J.1, F3.out.2.2.2, S4.out⟩
  all_goals (exfalso; omega)

end Go.Proofs.Ytmpfkmbfbeejhaa
