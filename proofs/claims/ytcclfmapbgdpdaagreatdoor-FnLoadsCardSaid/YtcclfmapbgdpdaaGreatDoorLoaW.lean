/- filler.search of the program: the search for the most people. Printed by gen_loam.py. -/
import Derived.Test.YtcclfmapbgdpdaaGreatDoorLoaM
import Derived.Test.YtcclfmapbgdpdaaGreatDoorLoaV
import Derived.Test.YtcclfmapbgdpdaaGreatDoorFill
import Derived.Test.YtcclfmapbgdpdaaGreatDoorJoinZ
import Derived.Deep.DeepCutAuto
namespace Go.Proofs.YtcclfmapbgdpdaaGreatDoor
open Go.RowKit
set_option linter.unusedVariables false

theorem grp_cellsF {W : World} {b off n k : Nat} {xs : List GrpZ} {f0 : ByteArray} {f1 f2 f3 : Int} (h : RdK kGrp W (some ⟨b, off, none⟩) n xs) (hk : k < n) (hx : xs[k]? = some ⟨f0, f1, f2, f3⟩) :
    W.cell? ⟨b, off + k * 4, none⟩ = some (.string f0) ∧ W.cell? ⟨b, off + k * 4 + 1, none⟩ = some (.int .i64 f1) ∧ W.cell? ⟨b, off + k * 4 + 2, none⟩ = some (.int .i64 f2) ∧ W.cell? ⟨b, off + k * 4 + 3, none⟩ = some (.int .i64 f3) := by
  obtain ⟨b', off', g0, g1, g2, g3, hA, _, hy, c0, c1, c2, c3, _⟩ := h.atGrp hk
  obtain ⟨rfl, rfl⟩ : b = b' ∧ off = off' := by simpa using hA
  have he := hy.out
  rw [hx] at he
  simp only [Option.some.injEq, GrpZ.mk.injEq] at he
  obtain ⟨rfl, rfl, rfl, rfl⟩ := he
  exact ⟨c0, c1, c2, c3⟩
/-- What the search does with group k. -/
def filF (nd : List RmZ) (r : RmZ) (j : Nat) (set : List Int) (sum : RmZ) (k : Nat) (b : List Int × Int) : List Int × Int := if fitsZ (plusZ sum (nd.getD k zeroR)) r = true then filZ nd r j (set ++ [(k : Int)]) (plusZ sum (nd.getD k zeroR)) (k + 1) b else b
theorem filZ_eq {nd : List RmZ} {r : RmZ} {j : Nat} {set : List Int} {sum : RmZ} {frm : Nat} {b : List Int × Int} (h : nd.length - frm ≤ j) : filZ nd r j set sum frm b = itr (filF nd r (j - 1) set sum) frm (nd.length - frm) (if b.2 < sum.p then (set, sum.p) else b) := by
  cases j with
  | zero => rw [show nd.length - frm = 0 by omega]; rfl
  | succ j => rfl
theorem itr_nextF {β : Type} (f : Nat → β → β) (a j : Nat) (b : β) : itr f a (j + 1) b = f (a + j) (itr f a j b) := rfl
theorem nodF_eq (j : Nat) : nodF j = 1 + j * nodF (j - 1) := by
  cases j with
  | zero => rfl
  | succ j => rfl

theorem sizeG_calls (A : Option Addr) (n c : Nat) (w : World) (hn : n ≤ 1048576) : Calls Tryz.prog 146 #[.slice A n c] w fun e w' => e = .returned (.int .i64 (n : Int)) ∧ w = w' := by
  go_enter Tryz.func146, Tryz.ntmps146
  go_wp2
  go_ret
  exact ⟨rfl, rfl⟩
def FilOk (g : Nat) (A : Option Addr) (n c : Nat) (xs : List GrpZ) (rp rb rk : Int) (j : Nat) : Prop :=
  ∀ (set : List Int) (p q1 t : Int) (frm : Nat) (b : List Int × Int) (left : Nat) (S : Option Addr) (q cs : Nat) (Ab : Option Addr) (nb cb : Nat) (w : World),
   frm ≤ n → n - frm ≤ j → (set = [] → frm = 0) → (∀ y, set.getLast? = some y → y + 1 = (frm : Int)) → (∀ y ∈ set, 0 ≤ y ∧ y < (n : Int)) → (0 ≤ p ∧ p ≤ 200) → (0 ≤ q1 ∧ q1 ≤ 40) → (0 ≤ t ∧ t ≤ 100000) → nodF j ≤ left → left ≤ 20000 → set.length = q → q ≤ frm → RdA w g S q set → (∀ W, Below g w W → RdK kGrp W A n xs) → FlP w g A n c ⟨rp, rb, rk⟩ left Ab nb cb b →
   Calls Tryz.prog 145 #[.pointer (some ⟨g, 0, none⟩), .slice S q cs, .agg #[.int .i64 p, .int .i64 q1, .int .i64 t]] w fun e w' => e = .returned (.tuple #[]) ∧ ∃ left' Ab' nb' cb', left ≤ left' + nodF j ∧ left' ≤ left ∧ FlP w' g A n c ⟨rp, rb, rk⟩ left' Ab' nb' cb' (filZ (xs.map needZ) ⟨rp, rb, rk⟩ j set ⟨p, q1, t⟩ frm b) ∧ Wr g (g + 1) w w'

set_option maxHeartbeats 16000000 in
set_option maxRecDepth 100000 in
theorem fil_step (g : Nat) (A : Option Addr) (n c : Nat) (xs : List GrpZ) (rp rb rk : Int) (hn : n ≤ 12) (hln : xs.length = n) (hv : grpsB xs = true) (hr : rp ≤ 200 ∧ rb ≤ 40 ∧ rk ≤ 100000) (j : Nat) (ih : 1 ≤ j → FilOk g A n c xs rp rb rk (j - 1)) : FilOk g A n c xs rp rb rk j := by
  intro set p q1 t frm b left S q cs Ab nb cb w hfn hnj hse hsl hsb hp hq1 ht hnod hl2 hql hqf hS hL hF
  obtain ⟨N, hN⟩ : ∃ N, N = nodF (j - 1) := ⟨_, rfl⟩
  have hnd : nodF j = 1 + j * N := by rw [hN]; exact nodF_eq j
  rw [hnd] at hnod
  obtain ⟨l, rfl⟩ : ∃ l, left = l + 1 := ⟨left - 1, by omega⟩
  have hml : (xs.map needZ).length = n := by rw [List.length_map]; exact hln
  obtain ⟨B0, hB0⟩ : ∃ B0, B0 = (if b.2 < p then (set, p) else b) := ⟨_, rfl⟩
  obtain ⟨F, hFF⟩ : ∃ F, F = filF (xs.map needZ) ⟨rp, rb, rk⟩ (j - 1) set ⟨p, q1, t⟩ := ⟨_, rfl⟩
  have HGO : Hid (filZ (xs.map needZ) ⟨rp, rb, rk⟩ j set ⟨p, q1, t⟩ frm b = itr F frm (n - frm) B0) := by
    unfold Hid
    rw [filZ_eq (by rw [hml]; exact hnj), hml, hFF, hB0]
  have HFF := hide hFF
  have HIH := hide ih
  have HN := hide hN
  have HB0 := hide hB0
  have HMP := hide hml
  have hgw := hF.lt
  have HSB := hide hsb
  have HSL := hide hql
  have HL := hide hL
  have HND := hide hnd
  obtain ⟨bx, hbx⟩ : ∃ bx, bx = w.heap.size := ⟨_, rfl⟩
  obtain ⟨w0, hw0⟩ : ∃ w0, w0 = w.alloc (.cells #[.int .i64 p, .int .i64 q1, .int .i64 t] 87) := ⟨_, rfl⟩
  have hb0 : Below w.heap.size w w0 := by rw [hw0]; exact (Below.refl _ _).alloc (Nat.le_refl _) _
  have hz0 : bx < w0.heap.size := by rw [hw0, hbx]; simp
  have hgx : g ≠ bx := by have := hF.lt; omega
  have HA0 : Hid (At3 87 w0 bx (.int .i64 p) (.int .i64 q1) (.int .i64 t)) := by rw [hw0, hbx]; exact At3.new _ _ _ _ _
  have HF0 := hide (hF.below hb0)
  have HS0 := hide (hS.below hb0)
  have HW0 : Hid (Wr g (g + 1) w w0) := Wr.of_below hb0
  obtain ⟨z0, z1, _⟩ := HF0.out.cells
  have f0 := HF0.out.fz 0
  have z0' : w0.cell? ⟨g, 0, none⟩ = some (.int .i64 ((l : Int) + 1)) := by rw [z0]; simp
  have ND := hide (node_calls g l w0 (by omega) z0' f0)
  have HBX := hide hbx
  clear z0 hF hS hL hb0 hsb hql hFF hB0 hN hnd ih
  go_enter Tryz.func145, Tryz.ntmps145
  go_upto_region 1 with fail
  rw [← hw0, ← hbx]
  clear hw0 hbx
  go_wp2_with fail
  refine ND.out.mono ?_
  rintro e w1 ⟨rfl, hw1⟩
  have hwr1 : Wr g (g + 1) w0 w1 := by rw [hw1]; exact Wr.setCell _ _ (Nat.le_refl _) (Nat.lt_succ_self _)
  have HF1 : Hid (FlP w1 g A n c ⟨rp, rb, rk⟩ l Ab nb cb b) := by rw [hw1]; exact HF0.out.node
  have HS1 := hide (HS0.out.wr hwr1)
  have HA1 : Hid (At3 87 w1 bx (.int .i64 p) (.int .i64 q1) (.int .i64 t)) := (hwr1.block bx hz0 (by omega)).trans HA0.out
  have HW1 := hide (HW0.out.trans hwr1)
  have hz1 := hwr1.size
  clear hw1 hwr1 z0' z1 f0 ND HF0 HS0 HA0 HW0
  obtain ⟨_, _, _, _, _, _, _, y7⟩ := HF1.out.cells
  obtain ⟨a0, a1, a2, _⟩ := HA1.out.out
  go_wp2_with fail
  go_quiet (fail)
  obtain ⟨w2, hw2⟩ : ∃ w2, w2 = w1.drewN nq := ⟨_, rfl⟩
  rw [← hw2]
  have HF2 : Hid (FlP w2 g A n c ⟨rp, rb, rk⟩ l Ab nb cb b) := by rw [hw2]; exact ⟨HF1.out.fl, HF1.out.bs⟩
  have HS2 : Hid (RdA w2 g S q set) := by rw [hw2]; exact HS1.out
  have HA2 : Hid (At3 87 w2 bx (.int .i64 p) (.int .i64 q1) (.int .i64 t)) := by rw [hw2]; exact HA1.out
  have HX2 : Hid (w2.cell? ⟨bx, 0, none⟩ = some (.int .i64 p)) := HA2.out.out.1
  have HW2 : Hid (Wr g (g + 1) w w2) := by rw [hw2]; exact HW1.out.drewN _
  have hz2 : bx < w2.heap.size := by rw [hw2]; exact Nat.lt_of_lt_of_le hz0 hz1
  clear hw2 y7 a0 a1 a2 HF1 HS1 HA1 HW1 hz0 hz1
  go_upto_if 27 with fail
  go_cut [] (fun wx => ∃ (Ab' : Option Addr) (nb' cb' : Nat) (b' : List Int × Int), b' = (if b.2 < p then (set, p) else b) ∧ Hid (FlP wx g A n c ⟨rp, rb, rk⟩ l Ab' nb' cb' b') ∧ Hid (Wr g (g + 1) w2 wx))
  case first => as_aux_lemma =>
    by_cases hbp : b.2 < p
    · go_upto_region 3 with fail
      obtain ⟨wd, hwd⟩ : ∃ wd : World, wd = w2.drew := ⟨_, rfl⟩
      have HS0 : Hid ((fun W => W.cell? ⟨bx, 0, none⟩ = some (.int .i64 p)) wd) := by rw [hwd]; exact HX2.out
      have HWD := hide hwd
      have HFd : Hid (FlP wd g A n c ⟨rp, rb, rk⟩ l Ab nb cb b) := by rw [HWD.out]; exact ⟨HF2.out.fl, HF2.out.bs⟩
      have HSd : Hid (RdA wd g S q set) := by rw [HWD.out]; exact HS2.out
      refine wp_region_held_drew (S := fun W => W.cell? ⟨bx, 0, none⟩ = some (.int .i64 p)) (by kernel_rfl) (by rw [← hwd]; exact HS0.out) (fun _ => ?_)
      rw [← hwd]
      clear hwd
      refine takeH 0 28 (.pointer (some ⟨g, 0, none⟩)) ⟨_, rfl, rfl, rfl, ?_⟩ (by kernel_rfl) (by kernel_rfl) (by kernel_rfl) (fun _ _ _ h => h) HS0.out ?_
      · intro wz hSw; go_simp
      try simp only [Act.put, List.setIfInBounds_toArray, List.set_cons_zero, List.set_cons_succ]
      refine takeH 1 29 (.pointer (some ⟨g, 0, none⟩)) ⟨_, rfl, rfl, rfl, ?_⟩ (by kernel_rfl) (by kernel_rfl) (by kernel_rfl) (fun _ _ _ h => h) HS0.out ?_
      · intro wz hSw; go_simp
      try simp only [Act.put, List.setIfInBounds_toArray, List.set_cons_zero, List.set_cons_succ]
      refine takeH 2 30 (.slice S q cs) ⟨_, rfl, rfl, rfl, ?_⟩ (by kernel_rfl) (by kernel_rfl) (by kernel_rfl) (fun _ _ _ h => h) HS0.out ?_
      · intro wz hSw; go_simp
      try simp only [Act.put, List.setIfInBounds_toArray, List.set_cons_zero, List.set_cons_succ]
      refine takeH 3 31 (.pointer (some ⟨bx, 0, none⟩)) ⟨_, rfl, rfl, rfl, ?_⟩ (by kernel_rfl) (by kernel_rfl) (by kernel_rfl) (fun _ _ _ h => h) HS0.out ?_
      · intro wz hSw; go_simp
      try simp only [Act.put, List.setIfInBounds_toArray, List.set_cons_zero, List.set_cons_succ]
      refine takeH 4 32 (.int .i64 p) ⟨_, rfl, rfl, rfl, ?_⟩ (by kernel_rfl) (by kernel_rfl) (by kernel_rfl) (fun _ _ _ h => h) HS0.out ?_
      · intro wz hSw; have y0 : wz.cell? ⟨bx, 0, none⟩ = some (.int .i64 p) := hSw; go_simp
      try simp only [Act.put, List.setIfInBounds_toArray, List.set_cons_zero, List.set_cons_succ]
      refine takeH 5 33 (.pointer (some ⟨g, 0, none⟩)) ⟨_, rfl, rfl, rfl, ?_⟩ (by kernel_rfl) (by kernel_rfl) (by kernel_rfl) (fun _ _ _ h => h) HS0.out ?_
      · intro wz hSw; go_simp
      try simp only [Act.put, List.setIfInBounds_toArray, List.set_cons_zero, List.set_cons_succ]
      refine takeH 6 34 (.pointer (some ⟨g, 6, none⟩)) ⟨_, rfl, rfl, rfl, ?_⟩ (by kernel_rfl) (by kernel_rfl) (by kernel_rfl) (fun _ _ _ h => h) HS0.out ?_
      · intro wz hSw; go_simp
      try simp only [Act.put, List.setIfInBounds_toArray, List.set_cons_zero, List.set_cons_succ]
      refine wpAnyH_ready (rs := [7]) (by kernel_rfl) (by simp) ?_
      refine AllReadyH.cons rfl (fun K hK => ?_) AllReadyH.nil
      obtain ⟨_, _, _, _, _, _, y6, y7⟩ := HFd.out.cells
      have f6 := HFd.out.fz 6
      have HS6 : Hid ((wd.setCell ⟨g, 6, none⟩ (.slice S q cs)).cell? ⟨bx, 0, none⟩ = some (.int .i64 p)) := (World.cell?_setCell_far _ _ _ _ hgx).trans HS0.out
      go_simp
      try go_wp2_with fail
      refine hK.out _ _ HS6.out (fun _ => ?_)
      clear y6 y7 f6
      clear hK K
      try simp only [Act.put, List.setIfInBounds_toArray, List.set_cons_zero, List.set_cons_succ]
      refine takeH 8 35 (.pointer (some ⟨g, 0, none⟩)) ⟨_, rfl, rfl, rfl, ?_⟩ (by kernel_rfl) (by kernel_rfl) (by kernel_rfl) (fun _ _ _ h => h) HS6.out ?_
      · intro wz hSw; go_simp
      try simp only [Act.put, List.setIfInBounds_toArray, List.set_cons_zero, List.set_cons_succ]
      refine takeH 9 36 (.pointer (some ⟨g, 7, none⟩)) ⟨_, rfl, rfl, rfl, ?_⟩ (by kernel_rfl) (by kernel_rfl) (by kernel_rfl) (fun _ _ _ h => h) HS6.out ?_
      · intro wz hSw; go_simp
      try simp only [Act.put, List.setIfInBounds_toArray, List.set_cons_zero, List.set_cons_succ]
      refine wpAnyH_ready (rs := [10]) (by kernel_rfl) (by simp) ?_
      refine AllReadyH.cons rfl (fun K hK => ?_) AllReadyH.nil
      have y7 : (wd.setCell ⟨g, 6, none⟩ (.slice S q cs)).cell? ⟨g, 7, none⟩ = some (.int .i64 b.2) := (World.cell?_setCell_other _ _ _ _ (by simp)).trans HFd.out.cells.2.2.2.2.2.2.2
      have z7 := HFd.out.cells.2.2.2.2.2.2.2
      have f7 := HFd.out.fz 7
      have HS7 : Hid (((wd.setCell ⟨g, 6, none⟩ (.slice S q cs)).setCell ⟨g, 7, none⟩ (.int .i64 p)).cell? ⟨bx, 0, none⟩ = some (.int .i64 p)) := (World.cell?_setCell_far _ _ _ _ hgx).trans HS6.out
      go_simp
      try go_wp2_with fail
      refine hK.out _ _ HS7.out (fun _ => ?_)
      clear y7 z7 f7
      clear hK K
      try simp only [Act.put, List.setIfInBounds_toArray, List.set_cons_zero, List.set_cons_succ]
      refine wpAnyH_done (by kernel_rfl) ?_ _
      go_wp2_with fail
      go_meet
      case rel => exact ⟨S, q, cs, (set, p), (if_pos (by omega)).symm, HFd.out.take HSd.out, by rw [HWD.out]; exact (((Wr.refl _ _ _).drewN 1).trans (Wr.setCell _ _ (Nat.le_refl _) (Nat.lt_succ_self _))).trans (Wr.setCell _ _ (Nat.le_refl _) (Nat.lt_succ_self _))⟩
    · go_wp2_with fail
      go_meet
      case rel => exact ⟨Ab, nb, cb, b, (if_neg (by omega)).symm, HF2, Wr.refl _ _ _⟩
  case rest => as_aux_lemma =>
    obtain ⟨w3, rfl⟩ : ∃ w3 : World, w3 = wc := ⟨_, rfl⟩
    obtain ⟨Ab3, nb3, cb3, b3, hb3, HF3, HW3⟩ := hcut
    rw [← HB0.out] at hb3
    subst hb3
    have HS3 := hide (HS2.out.wr HW3.out)
    go_upto_if 39 with fail
    go_cut [6] (fun v wx => v = .int .i64 (frm : Int) ∧ wx = w3)
    case first => as_aux_lemma =>
      rcases Nat.eq_zero_or_pos q with h0 | h0
      · have h1 : set = [] := List.eq_nil_of_length_eq_zero (by rw [HSL.out]; exact h0)
        have h2 : frm = 0 := hse h1
        subst h0
        clear hqf
        go_wp2_with fail
        go_meet
        case rel => exact ⟨by rw [h2]; rfl, rfl⟩
      · obtain ⟨qp, hqp⟩ : ∃ qp, q = qp + 1 := ⟨q - 1, by omega⟩
        obtain ⟨bs, os, y, hSs, hbs, hy, hcy, hy1, hy2⟩ := HS3.out.1.at (show qp < q by omega)
        have hla : set.getLast? = some y := by rw [List.getLast?_eq_getElem?, HSL.out, hqp]; exact hy.out
        have hyf := hsl y hla
        have hyb := HSB.out y (List.mem_of_getElem? hy.out)
        subst hSs
        have i1 : (0 : Int) < (q : Int) := by omega
        have i2 : (0 : Int) ≤ (qp : Int) := by omega
        have i3 : (qp : Int) < (q : Int) := by omega
        have ew : IntKind.i64.wrap ((q : Int) - 1) = (qp : Int) := by rw [IntKind.wrap_i64]; omega
        have d4 : decide (0 < q) = true := decide_eq_true h0
        have HYF := hide hyf
        clear hqp hla hyf hy hsl
        go_wp2_with fail
        go_meet
        case rel => exact ⟨by rw [HYF.out], rfl⟩
    case rest => as_aux_lemma =>
      obtain ⟨hv6, hwx⟩ := hcut
      subst hv6
      subst hwx
      obtain ⟨w4, rfl⟩ : ∃ w4 : World, w4 = wc := ⟨_, rfl⟩
      go_wp2_with fail
      go_loopw [7, 8] (fun kk _ wr => ∃ (d l' : Nat) (Ab' : Option Addr) (nb' cb' : Nat), d ≤ n - frm ∧ kk = .int .i64 ((frm + d : Nat) : Int) ∧ l ≤ l' + d * N ∧ l' ≤ l ∧ Hid (FlP wr g A n c ⟨rp, rb, rk⟩ l' Ab' nb' cb' (itr F frm d b3)) ∧ Hid (Wr g (g + 1) w2 wr)) (fun kk _ _ => n - (intOf kk).toNat)
      case atStart => exact ⟨0, l, Ab3, nb3, cb3, Nat.zero_le _, rfl, by omega, Nat.le_refl _, HF3, HW3⟩
      case round => as_aux_lemma =>
        obtain ⟨d, l', Ab', nb', cb', hd, rfl, hla, hlb, HFr, HWr⟩ := hrel
        obtain ⟨i, hi⟩ : ∃ i, i = frm + d := ⟨_, rfl⟩
        rw [← hi]
        have HI := hide hi
        have hid : frm + d = i := hi.symm
        obtain ⟨B, hB⟩ : ∃ B, B = itr F frm d b3 := ⟨_, rfl⟩
        rw [← hB] at HFr
        have HBB := hide hB
        have SZ := hide (sizeG_calls A n c wr (by omega))
        have HBr : Hid (Below g w wr) := Wr.below (Wr.below (Below.refl g w) HW2.out (Nat.le_refl _) (Nat.le_of_lt hgw)) HWr.out (Nat.le_refl _) (by have := HW2.out.size; omega)
        have HAr : Hid (At3 87 wr bx (.int .i64 p) (.int .i64 q1) (.int .i64 t)) := (HWr.out.block bx hz2 (by omega)).trans HA2.out
        have HSr := hide (HS2.out.wr HWr.out)
        have hgr := HFr.out.lt
        obtain ⟨_, _, z2, _⟩ := HFr.out.cells
        have i1 : (0 : Int) ≤ (i : Int) := by omega
        clear hi hB
        go_wp2_with fail
        refine SZ.out.mono ?_
        rintro e w' ⟨rfl, rfl⟩
        clear SZ
        by_cases hin : i < n
        · --[
          have i2 : (i : Int) < (n : Int) := by omega
          obtain ⟨b0, off, f0, f1, f2, f3, hA, hbl, hx, _, _, _, _, hs0, _⟩ := (HL.out wr HBr.out).atGrp hin
          obtain ⟨_, _, _, hg1, hg2, hg3⟩ := grp_ok (grps_mem hv _ (List.mem_of_getElem? hx.out))
          obtain ⟨kx, hkx⟩ : ∃ kx : Int, kx = 75 * f1 + 15 * f2 + f3 := ⟨_, rfl⟩
          have hgd : (xs.map needZ).getD i zeroR = ⟨f1, f2, kx⟩ := by rw [hkx]; exact need_getD hx.out
          have HGD := hide hgd
          have HNE : Hid (∀ W, Calls Tryz.prog 135 #[.agg #[.string f0, .int .i64 f1, .int .i64 f2, .int .i64 f3]] W fun e w' => e = .returned (.agg #[.int .i64 f1, .int .i64 f2, .int .i64 kx]) ∧ Below W.heap.size W w') := fun W => by
            have h := need_calls f0 f1 f2 f3 W ⟨by omega, hg1.2⟩ hg2 hg3
            rw [← hkx] at h
            exact h
          have HPL : Hid (∀ W, Calls Tryz.prog 134 #[.agg #[.int .i64 p, .int .i64 q1, .int .i64 t], .agg #[.int .i64 f1, .int .i64 f2, .int .i64 kx]] W fun e w' => e = .returned (.agg #[.int .i64 (p + f1), .int .i64 (q1 + f2), .int .i64 (t + kx)]) ∧ Below W.heap.size W w') := fun W => plus_calls p q1 t f1 f2 kx W (by unfold SmR; simp only; omega) (by unfold SmR; simp only; omega)
          have hkx0 : 0 ≤ kx := by omega
          have hkx1 : kx ≤ 200000 := by omega
          subst hA
          have HCL : Hid (∀ W, Below wr.heap.size wr W → W.cell? ⟨bx, 0, none⟩ = some (.int .i64 p) ∧ W.cell? ⟨bx, 1, none⟩ = some (.int .i64 q1) ∧ W.cell? ⟨bx, 2, none⟩ = some (.int .i64 t) ∧ W.cell? ⟨g, 2, none⟩ = some (.slice (some ⟨b0, off, none⟩) n c) ∧ W.cell? ⟨b0, off + i * 4, none⟩ = some (.string f0) ∧ W.cell? ⟨b0, off + i * 4 + 1, none⟩ = some (.int .i64 f1) ∧ W.cell? ⟨b0, off + i * 4 + 2, none⟩ = some (.int .i64 f2) ∧ W.cell? ⟨b0, off + i * 4 + 3, none⟩ = some (.int .i64 f3)) := fun W hW => by
            obtain ⟨a0, a1, a2, _⟩ := (HAr.out.below hW (lt_blk HAr.out)).out
            obtain ⟨_, _, a3, _⟩ := (HFr.out.below hW).cells
            exact ⟨a0, a1, a2, a3, grp_cellsF (HL.out W (HBr.out.trans (hW.mono (Nat.le_of_lt hgr)))) hin hx.out⟩
          have HX := hide hx.out
          clear hx hkx hgd hbl hs0
          go_upto_region 10 with fail
          clear z2
          go_cut [8] (fun v wx => ∃ b', v = .pointer (some ⟨b', 0, none⟩) ∧ Hid (At3 87 wx b' (.int .i64 (p + f1)) (.int .i64 (q1 + f2)) (.int .i64 (t + kx))) ∧ Hid (Below wr.heap.size wr wx) ∧ wr.heap.size ≤ b')
          case first => as_aux_lemma =>
            --[
            obtain ⟨wd, hwd⟩ : ∃ wd : World, wd = wr.drew := ⟨_, rfl⟩
            have HS0 : Hid ((fun W => Below wr.heap.size wr W) wd) := by rw [hwd]; exact (Below.refl _ _).drew
            have HWD := hide hwd
            refine wp_region_held_drew (S := fun W => Below wr.heap.size wr W) (by kernel_rfl) (by rw [← hwd]; exact HS0.out) (fun _ => ?_)
            rw [← hwd]
            clear hwd
            refine takeH 0 57 (.agg #[.int .i64 p, .int .i64 q1, .int .i64 t]) ⟨_, rfl, rfl, rfl, ?_⟩ (by kernel_rfl) (by kernel_rfl) (by kernel_rfl) (fun _ _ _ h => h) HS0.out ?_
            · intro wz hSw; obtain ⟨x0, x1, x2, x3, x4, x5, x6, x7⟩ := HCL.out wz hSw; go_simp
            try simp only [Act.put, List.setIfInBounds_toArray, List.set_cons_zero, List.set_cons_succ]
            refine takeH 1 58 (.pointer (some ⟨g, 0, none⟩)) ⟨_, rfl, rfl, rfl, ?_⟩ (by kernel_rfl) (by kernel_rfl) (by kernel_rfl) (fun _ _ _ h => h) HS0.out ?_
            · intro wz hSw; go_simp
            try simp only [Act.put, List.setIfInBounds_toArray, List.set_cons_zero, List.set_cons_succ]
            refine takeH 2 59 (.pointer (some ⟨g, 0, none⟩)) ⟨_, rfl, rfl, rfl, ?_⟩ (by kernel_rfl) (by kernel_rfl) (by kernel_rfl) (fun _ _ _ h => h) HS0.out ?_
            · intro wz hSw; go_simp
            try simp only [Act.put, List.setIfInBounds_toArray, List.set_cons_zero, List.set_cons_succ]
            refine takeH 3 60 (.pointer (some ⟨g, 2, none⟩)) ⟨_, rfl, rfl, rfl, ?_⟩ (by kernel_rfl) (by kernel_rfl) (by kernel_rfl) (fun _ _ _ h => h) HS0.out ?_
            · intro wz hSw; go_simp
            try simp only [Act.put, List.setIfInBounds_toArray, List.set_cons_zero, List.set_cons_succ]
            refine takeH 4 61 (.slice (some ⟨b0, off, none⟩) n c) ⟨_, rfl, rfl, rfl, ?_⟩ (by kernel_rfl) (by kernel_rfl) (by kernel_rfl) (fun _ _ _ h => h) HS0.out ?_
            · intro wz hSw; obtain ⟨x0, x1, x2, x3, x4, x5, x6, x7⟩ := HCL.out wz hSw; go_simp
            try simp only [Act.put, List.setIfInBounds_toArray, List.set_cons_zero, List.set_cons_succ]
            refine takeH 5 62 (.int .i64 (i : Int)) ⟨_, rfl, rfl, rfl, ?_⟩ (by kernel_rfl) (by kernel_rfl) (by kernel_rfl) (fun _ _ _ h => h) HS0.out ?_
            · intro wz hSw; go_simp
            try simp only [Act.put, List.setIfInBounds_toArray, List.set_cons_zero, List.set_cons_succ]
            refine takeH 6 63 (.pointer (some ⟨b0, off + i * 4, none⟩)) ⟨_, rfl, rfl, rfl, ?_⟩ (by kernel_rfl) (by kernel_rfl) (by kernel_rfl) (fun _ _ _ h => h) HS0.out ?_
            · intro wz hSw; go_simp
            try simp only [Act.put, List.setIfInBounds_toArray, List.set_cons_zero, List.set_cons_succ]
            refine takeH 7 64 (.agg #[.string f0, .int .i64 f1, .int .i64 f2, .int .i64 f3]) ⟨_, rfl, rfl, rfl, ?_⟩ (by kernel_rfl) (by kernel_rfl) (by kernel_rfl) (fun _ _ _ h => h) HS0.out ?_
            · intro wz hSw; obtain ⟨x0, x1, x2, x3, x4, x5, x6, x7⟩ := HCL.out wz hSw; go_simp
            try simp only [Act.put, List.setIfInBounds_toArray, List.set_cons_zero, List.set_cons_succ]
            refine wpAnyH_ready (rs := [8, 10]) (by kernel_rfl) (by simp) ?_
            refine AllReadyH.cons rfl (fun K hK => ?_) (AllReadyH.cons rfl (fun K hK => ?_) AllReadyH.nil)
            · go_simp
              refine (HNE.out wd).mono ?_
              rintro e wq1 ⟨rfl, hbq1⟩
              have HSq1 := hide (HS0.out.trans (hbq1.mono HS0.out.size))
              clear hbq1
              try go_wp2_with fail
              refine hK.out _ _ HSq1.out (fun _ => ?_)
              clear hK K
              try simp only [Act.put, List.setIfInBounds_toArray, List.set_cons_zero, List.set_cons_succ]
              refine wpAnyH_ready (rs := [9, 10]) (by kernel_rfl) (by simp) ?_
              refine AllReadyH.cons rfl (fun K hK => ?_) (AllReadyH.cons rfl (fun K hK => ?_) AllReadyH.nil)
              · go_simp
                refine (HPL.out wq1).mono ?_
                rintro e wq2 ⟨rfl, hbq2⟩
                have HSq2 := hide (HSq1.out.trans (hbq2.mono HSq1.out.size))
                clear hbq2
                try go_wp2_with fail
                refine hK.out _ _ HSq2.out (fun _ => ?_)
                clear hK K
                try simp only [Act.put, List.setIfInBounds_toArray, List.set_cons_zero, List.set_cons_succ]
                refine wpAnyH_ready (rs := [10]) (by kernel_rfl) (by simp) ?_
                refine AllReadyH.cons rfl (fun K hK => ?_) AllReadyH.nil
                obtain ⟨wq3, hwq3⟩ : ∃ W, W = World.alloc wq2 (.cells #[.int .i64 0, .int .i64 0, .int .i64 0] 87) := ⟨_, rfl⟩
                have hbq3 : Below (World.heap wq2).size wq2 wq3 := by rw [hwq3]; exact ((Below.refl _ _).alloc (Nat.le_refl _) _)
                have HNq3 : Hid (At3 87 wq3 (World.heap wq2).size (.int .i64 0) (.int .i64 0) (.int .i64 0)) := by rw [hwq3]; exact At3.new _ _ _ _ _
                have HSq3 := hide (HSq2.out.trans (hbq3.mono HSq2.out.size))
                go_simp
                try go_wp2_with fail
                rw [← hwq3]
                have hgq3 : wr.heap.size ≤ (World.heap wq2).size := HSq2.out.size
                clear hbq3 hwq3
                refine hK.out _ _ HSq3.out (fun _ => ?_)
                clear hK K
                try simp only [Act.put, List.setIfInBounds_toArray, List.set_cons_zero, List.set_cons_succ]
                refine wpAnyH_ready (rs := [11]) (by kernel_rfl) (by simp) ?_
                refine AllReadyH.cons rfl (fun K hK => ?_) AllReadyH.nil
                obtain ⟨l0, l1, l2, m0, m1, m2⟩ := HNq3.out.out
                have HNq4 : Hid (At3 87 (((World.setCell wq3 ⟨(World.heap wq2).size, 0, none⟩ (.int .i64 (p + f1))).setCell ⟨(World.heap wq2).size, 1, none⟩ (.int .i64 (q1 + f2))).setCell ⟨(World.heap wq2).size, 2, none⟩ (.int .i64 (t + kx))) (World.heap wq2).size (.int .i64 (p + f1)) (.int .i64 (q1 + f2)) (.int .i64 (t + kx))) := HNq3.out.all
                have HSq4 := hide (below_set3 (u0 := .int .i64 (p + f1)) (u1 := .int .i64 (q1 + f2)) (u2 := .int .i64 (t + kx)) HSq3.out (C := (World.heap wq2).size) hgq3)
                go_simp
                try go_wp2_with fail
                refine hK.out _ _ HSq4.out (fun _ => ?_)
                clear l0 l1 l2 m0 m1 m2
                clear hK K
                try simp only [Act.put, List.setIfInBounds_toArray, List.set_cons_zero, List.set_cons_succ]
                refine wpAnyH_done (by kernel_rfl) ?_ _
                go_wp2_with fail
                go_meet
                case rel => exact ⟨(World.heap wq2).size, rfl, HNq4, HSq4, by omega⟩
              · obtain ⟨wq5, hwq5⟩ : ∃ W, W = World.alloc wq1 (.cells #[.int .i64 0, .int .i64 0, .int .i64 0] 87) := ⟨_, rfl⟩
                have hbq5 : Below (World.heap wq1).size wq1 wq5 := by rw [hwq5]; exact ((Below.refl _ _).alloc (Nat.le_refl _) _)
                have HNq5 : Hid (At3 87 wq5 (World.heap wq1).size (.int .i64 0) (.int .i64 0) (.int .i64 0)) := by rw [hwq5]; exact At3.new _ _ _ _ _
                have HSq5 := hide (HSq1.out.trans (hbq5.mono HSq1.out.size))
                go_simp
                try go_wp2_with fail
                rw [← hwq5]
                have hgq5 : wr.heap.size ≤ (World.heap wq1).size := HSq1.out.size
                clear hbq5 hwq5
                refine hK.out _ _ HSq5.out (fun _ => ?_)
                clear hK K
                try simp only [Act.put, List.setIfInBounds_toArray, List.set_cons_zero, List.set_cons_succ]
                refine wpAnyH_ready (rs := [9]) (by kernel_rfl) (by simp) ?_
                refine AllReadyH.cons rfl (fun K hK => ?_) AllReadyH.nil
                go_simp
                refine (HPL.out wq5).mono ?_
                rintro e wq6 ⟨rfl, hbq6⟩
                have HSq6 := hide (HSq5.out.trans (hbq6.mono HSq5.out.size))
                have NEW_6 := hide (HNq5.out.below hbq6 (lt_blk HNq5.out))
                clear hbq6
                try go_wp2_with fail
                refine hK.out _ _ HSq6.out (fun _ => ?_)
                clear hK K
                try simp only [Act.put, List.setIfInBounds_toArray, List.set_cons_zero, List.set_cons_succ]
                refine wpAnyH_ready (rs := [11]) (by kernel_rfl) (by simp) ?_
                refine AllReadyH.cons rfl (fun K hK => ?_) AllReadyH.nil
                obtain ⟨l0, l1, l2, m0, m1, m2⟩ := NEW_6.out.out
                have HNq7 : Hid (At3 87 (((World.setCell wq6 ⟨(World.heap wq1).size, 0, none⟩ (.int .i64 (p + f1))).setCell ⟨(World.heap wq1).size, 1, none⟩ (.int .i64 (q1 + f2))).setCell ⟨(World.heap wq1).size, 2, none⟩ (.int .i64 (t + kx))) (World.heap wq1).size (.int .i64 (p + f1)) (.int .i64 (q1 + f2)) (.int .i64 (t + kx))) := NEW_6.out.all
                have HSq7 := hide (below_set3 (u0 := .int .i64 (p + f1)) (u1 := .int .i64 (q1 + f2)) (u2 := .int .i64 (t + kx)) HSq6.out (C := (World.heap wq1).size) hgq5)
                go_simp
                try go_wp2_with fail
                refine hK.out _ _ HSq7.out (fun _ => ?_)
                clear l0 l1 l2 m0 m1 m2
                clear hK K
                try simp only [Act.put, List.setIfInBounds_toArray, List.set_cons_zero, List.set_cons_succ]
                refine wpAnyH_done (by kernel_rfl) ?_ _
                go_wp2_with fail
                go_meet
                case rel => exact ⟨(World.heap wq1).size, rfl, HNq7, HSq7, by omega⟩
            · obtain ⟨wq8, hwq8⟩ : ∃ W, W = World.alloc wd (.cells #[.int .i64 0, .int .i64 0, .int .i64 0] 87) := ⟨_, rfl⟩
              have hbq8 : Below (World.heap wd).size wd wq8 := by rw [hwq8]; exact ((Below.refl _ _).alloc (Nat.le_refl _) _)
              have HNq8 : Hid (At3 87 wq8 (World.heap wd).size (.int .i64 0) (.int .i64 0) (.int .i64 0)) := by rw [hwq8]; exact At3.new _ _ _ _ _
              have HSq8 := hide (HS0.out.trans (hbq8.mono HS0.out.size))
              go_simp
              try go_wp2_with fail
              rw [← hwq8]
              have hgq8 : wr.heap.size ≤ (World.heap wd).size := HS0.out.size
              clear hbq8 hwq8
              refine hK.out _ _ HSq8.out (fun _ => ?_)
              clear hK K
              try simp only [Act.put, List.setIfInBounds_toArray, List.set_cons_zero, List.set_cons_succ]
              refine wpAnyH_ready (rs := [8]) (by kernel_rfl) (by simp) ?_
              refine AllReadyH.cons rfl (fun K hK => ?_) AllReadyH.nil
              go_simp
              refine (HNE.out wq8).mono ?_
              rintro e wq9 ⟨rfl, hbq9⟩
              have HSq9 := hide (HSq8.out.trans (hbq9.mono HSq8.out.size))
              have NEW_9 := hide (HNq8.out.below hbq9 (lt_blk HNq8.out))
              clear hbq9
              try go_wp2_with fail
              refine hK.out _ _ HSq9.out (fun _ => ?_)
              clear hK K
              try simp only [Act.put, List.setIfInBounds_toArray, List.set_cons_zero, List.set_cons_succ]
              refine wpAnyH_ready (rs := [9]) (by kernel_rfl) (by simp) ?_
              refine AllReadyH.cons rfl (fun K hK => ?_) AllReadyH.nil
              go_simp
              refine (HPL.out wq9).mono ?_
              rintro e wq10 ⟨rfl, hbq10⟩
              have HSq10 := hide (HSq9.out.trans (hbq10.mono HSq9.out.size))
              have NEW_10 := hide (NEW_9.out.below hbq10 (lt_blk NEW_9.out))
              clear hbq10
              try go_wp2_with fail
              refine hK.out _ _ HSq10.out (fun _ => ?_)
              clear hK K
              try simp only [Act.put, List.setIfInBounds_toArray, List.set_cons_zero, List.set_cons_succ]
              refine wpAnyH_ready (rs := [11]) (by kernel_rfl) (by simp) ?_
              refine AllReadyH.cons rfl (fun K hK => ?_) AllReadyH.nil
              obtain ⟨l0, l1, l2, m0, m1, m2⟩ := NEW_10.out.out
              have HNq11 : Hid (At3 87 (((World.setCell wq10 ⟨(World.heap wd).size, 0, none⟩ (.int .i64 (p + f1))).setCell ⟨(World.heap wd).size, 1, none⟩ (.int .i64 (q1 + f2))).setCell ⟨(World.heap wd).size, 2, none⟩ (.int .i64 (t + kx))) (World.heap wd).size (.int .i64 (p + f1)) (.int .i64 (q1 + f2)) (.int .i64 (t + kx))) := NEW_10.out.all
              have HSq11 := hide (below_set3 (u0 := .int .i64 (p + f1)) (u1 := .int .i64 (q1 + f2)) (u2 := .int .i64 (t + kx)) HSq10.out (C := (World.heap wd).size) hgq8)
              go_simp
              try go_wp2_with fail
              refine hK.out _ _ HSq11.out (fun _ => ?_)
              clear l0 l1 l2 m0 m1 m2
              clear hK K
              try simp only [Act.put, List.setIfInBounds_toArray, List.set_cons_zero, List.set_cons_succ]
              refine wpAnyH_done (by kernel_rfl) ?_ _
              go_wp2_with fail
              go_meet
              case rel => exact ⟨(World.heap wd).size, rfl, HNq11, HSq11, by omega⟩
            --]
          case rest => as_aux_lemma =>
            obtain ⟨w3', rfl⟩ : ∃ w3' : World, w3' = wc := ⟨_, rfl⟩
            obtain ⟨b', hv8, HNX3, HB3, hbb⟩ := hcut
            subst hv8
            have HF3' := hide (HFr.out.below HB3.out)
            obtain ⟨n0, n1, n2, _⟩ := HNX3.out.out
            obtain ⟨_, _, _, r3, r4, r5, _⟩ := HF3'.out.cells
            have M0 := fun y : BelW w3' => BelW.cell n0 (lt_blk HNX3.out) y
            have M1 := fun y : BelW w3' => BelW.cell n1 (lt_blk HNX3.out) y
            have M2 := fun y : BelW w3' => BelW.cell n2 (lt_blk HNX3.out) y
            have M3 := fun y : BelW w3' => BelW.cell r3 HF3'.out.lt y
            have M4 := fun y : BelW w3' => BelW.cell r4 HF3'.out.lt y
            have M5 := fun y : BelW w3' => BelW.cell r5 HF3'.out.lt y
            have hfi := fits_iff (n := ⟨p + f1, q1 + f2, t + kx⟩) (r := ⟨rp, rb, rk⟩)
            simp only at hfi
            obtain ⟨ft, hft⟩ : ∃ ft, ft = fitsZ ⟨p + f1, q1 + f2, t + kx⟩ ⟨rp, rb, rk⟩ := ⟨_, rfl⟩
            have HFT : Hid (∀ y : BelW w3', Calls Tryz.prog 136 #[.agg #[.int .i64 (p + f1), .int .i64 (q1 + f2), .int .i64 (t + kx)], .agg #[.int .i64 rp, .int .i64 rb, .int .i64 rk]] y.1 fun e w'' => e = .returned (.bool ft) ∧ ∃ q : BelW w3', w'' = q.1) := fun y => by
              have h := Calls.bel (fits_calls (p + f1) (q1 + f2) (t + kx) rp rb rk y.1)
              rw [← hft] at h
              exact h
            have HFY : Hid (ft = true → itr F frm (d + 1) b3 = filZ (xs.map needZ) ⟨rp, rb, rk⟩ (j - 1) (set ++ [(i : Int)]) ⟨p + f1, q1 + f2, t + kx⟩ (i + 1) B) := fun h => by
              rw [itr_nextF, ← HBB.out, ← HI.out, HFF.out, filF, HGD.out]
              rw [hft] at h
              exact if_pos h
            have HFN : Hid (ft = false → itr F frm (d + 1) b3 = B) := fun h => by
              rw [itr_nextF, ← HBB.out, ← HI.out, HFF.out, filF, HGD.out]
              rw [hft] at h
              exact if_neg (by rw [show plusZ ⟨p, q1, t⟩ ⟨f1, f2, kx⟩ = ⟨p + f1, q1 + f2, t + kx⟩ from rfl, h]; simp)
            rw [← hft] at hfi
            clear hft n0 n1 n2 r3 r4 r5 HCL
            go_wp2_with fail
            refine wp_region_bel (by kernel_rfl) (by kernel_rfl) ?_
            repeat (refine WQ.step (fun K hK => ?_); go_simp; first | (refine hK _ ?_; clear hK K) | (apply Exists.intro; refine ⟨fun _ => ?_, hK _ ?_⟩; (go_at_call 136; exact HFT.out _); clear hK K))
            refine WQ.nil ?_
            rintro w4 ⟨⟨w4, hb4⟩, rfl⟩
            have HF4 := hide (HF3'.out.below hb4)
            have HNX4 := hide (HNX3.out.below hb4 (lt_blk HNX3.out))
            have hb14 := HB3.out.trans (hb4.mono HB3.out.size)
            have HR4 := hide (HSr.out.below hb14)
            have HW4 : Hid (Wr g (g + 1) w2 w4) := HWr.out.trans (Wr.of_below hb14)
            have HB4 := hide (HBr.out.trans (hb14.mono (Nat.le_of_lt hgr)))
            have hg4 : g < w4.heap.size := HF4.out.lt
            have hb4b : g < b' := by omega
            clear hb4 hb14 M0 M1 M2 M3 M4 M5 HFT HF3' HNX3
            cases ft
            · have HE := hide (HFN.out rfl)
              clear hfi HFY HFN
              go_wp2
              go_roundw
              case rel => exact ⟨d + 1, l', Ab', nb', cb', by omega, by go_num, by rw [Nat.succ_mul]; omega, hlb, by rw [HE.out]; exact HF4.out, HW4.out⟩
              case measure => simp [intOf]; omega
            · have HE := hide (HFY.out rfl)
              have hfb := hfi.1 rfl
              have hjm : d * N + N ≤ j * N := by have h9 := Nat.mul_le_mul_right N (show d + 1 ≤ j by omega); rwa [Nat.succ_mul] at h9
              have HCLO : Hid (∀ W, RdI W S q set → Calls Tryz.prog 85 #[.slice S q cs] W fun e w' => ∃ A' c', e = .returned (.slice A' q c') ∧ w'.ownsRow W.heap.size 2 1 (.slice A' q c') q (cI set) ∧ Below W.heap.size W w') := fun W h => cloneI_calls S q cs set W h (by omega)
              clear hfi HFY HFN
              go_upto_region 12 with fail
              obtain ⟨wd, hwd⟩ : ∃ wd : World, wd = w4.drew := ⟨_, rfl⟩
              have HS0 : Hid ((fun W => At3 87 W b' (.int .i64 (p + f1)) (.int .i64 (q1 + f2)) (.int .i64 (t + kx))) wd) := by rw [hwd]; exact HNX4.out
              have HWD := hide hwd
              have HBd : Hid (Below w4.heap.size w4 wd) := by rw [HWD.out]; exact (Below.refl _ _).drew
              refine wp_region_held_drew (S := fun W => At3 87 W b' (.int .i64 (p + f1)) (.int .i64 (q1 + f2)) (.int .i64 (t + kx))) (by kernel_rfl) (by rw [← hwd]; exact HS0.out) (fun _ => ?_)
              rw [← hwd]
              clear hwd
              refine takeH 0 73 (.pointer (some ⟨g, 0, none⟩)) ⟨_, rfl, rfl, rfl, ?_⟩ (by kernel_rfl) (by kernel_rfl) (by kernel_rfl) (fun _ _ _ h => h) HS0.out ?_
              · intro wz hSw; go_simp
              try simp only [Act.put, List.setIfInBounds_toArray, List.set_cons_zero, List.set_cons_succ]
              refine takeH 1 74 (.slice S q cs) ⟨_, rfl, rfl, rfl, ?_⟩ (by kernel_rfl) (by kernel_rfl) (by kernel_rfl) (fun _ _ _ h => h) HS0.out ?_
              · intro wz hSw; go_simp
              try simp only [Act.put, List.setIfInBounds_toArray, List.set_cons_zero, List.set_cons_succ]
              refine takeH 3 76 (.int .i64 (i : Int)) ⟨_, rfl, rfl, rfl, ?_⟩ (by kernel_rfl) (by kernel_rfl) (by kernel_rfl) (fun _ _ _ h => h) HS0.out ?_
              · intro wz hSw; go_simp
              try simp only [Act.put, List.setIfInBounds_toArray, List.set_cons_zero, List.set_cons_succ]
              refine takeH 6 79 (.agg #[.int .i64 (p + f1), .int .i64 (q1 + f2), .int .i64 (t + kx)]) ⟨_, rfl, rfl, rfl, ?_⟩ (by kernel_rfl) (by kernel_rfl) (by kernel_rfl) (fun _ _ _ h => h) HS0.out ?_
              · intro wz hSw; obtain ⟨x0, x1, x2, _⟩ := At3.out (show At3 87 wz b' (.int .i64 (p + f1)) (.int .i64 (q1 + f2)) (.int .i64 (t + kx)) from hSw); go_simp
              try simp only [Act.put, List.setIfInBounds_toArray, List.set_cons_zero, List.set_cons_succ]
              refine wpAnyH_ready (rs := [2, 4]) (by kernel_rfl) (by simp) ?_
              refine AllReadyH.cons rfl (fun K hK => ?_) (AllReadyH.cons rfl (fun K hK => ?_) AllReadyH.nil)
              · go_simp
                refine (HCLO.out wd (HR4.out.below HBd.out).1).mono ?_
                rintro e wq1 ⟨A5, c5, rfl, hown5, hb5⟩
                have HO5 := hide hown5
                have HBq1 := hide (HBd.out.trans (hb5.mono HBd.out.size))
                have HSq1 := hide (HNX4.out.below HBq1.out (lt_blk HNX4.out))
                have hlq1 := hb5.size
                clear hown5 hb5
                try go_wp2_with fail
                refine hK.out _ _ HSq1.out (fun _ => ?_)
                clear hK K
                try simp only [Act.put, List.setIfInBounds_toArray, List.set_cons_zero, List.set_cons_succ]
                refine wpAnyH_ready (rs := [4]) (by kernel_rfl) (by simp) ?_
                refine AllReadyH.cons rfl (fun K hK => ?_) AllReadyH.nil
                obtain ⟨wq2, hw2⟩ : ∃ W, W = World.alloc wq1 (.cells #[.int .i64 (i : Int)] 2) := ⟨_, rfl⟩
                have hb2 : Below (World.heap wq1).size wq1 wq2 := by rw [hw2]; exact (Below.refl _ _).alloc (Nat.le_refl _) _
                have HXq2 : Hid (wq2.cell? ⟨(World.heap wq1).size, 0, none⟩ = some (.int .i64 (i : Int))) := by rw [hw2]; simp [Hid]
                have hxl2 : (World.heap wq1).size < wq2.heap.size := by rw [hw2]; simp
                have HBq2 := hide (HBq1.out.trans (hb2.mono HBq1.out.size))
                have HSq2 := hide (HNX4.out.below HBq2.out (lt_blk HNX4.out))
                have HOq2 := hide (own_below HO5.out hb2 (Nat.le_refl _))
                go_simp
                try go_wp2_with fail
                rw [← hw2]
                clear hw2 hb2
                refine hK.out _ _ HSq2.out (fun _ => ?_)
                clear hK K
                try simp only [Act.put, List.setIfInBounds_toArray, List.set_cons_zero, List.set_cons_succ]
                refine wpAnyH_ready (rs := [5]) (by kernel_rfl) (by simp) ?_
                refine AllReadyH.cons rfl (fun K hK => ?_) AllReadyH.nil
                rw [if_pos (by rfl)]
                refine opAppI_gen rfl _ _ rfl (World.heap wd).size (.slice A5 q c5) q set i ⟨(World.heap wq1).size, 0, none⟩ rfl HOq2.out rfl HXq2.out (by omega) (by omega) ?_
                intro va wq3 hown hbel
                obtain ⟨A6, c6, rfl⟩ := own_slice hown
                have HO6 := hide hown
                have hob : w4.heap.size ≤ (World.heap wd).size := HBd.out.size
                have HBq3 := hide (HBq2.out.trans (hbel.mono hob))
                have HSq3 := hide (HNX4.out.below HBq3.out (lt_blk HNX4.out))
                obtain ⟨g6, hA6, hg6⟩ := own_addrB hown (by omega)
                subst hA6
                have hg6b : w4.heap.size ≤ g6 := by omega
                clear hown hbel
                try go_wp2_with fail
                refine hK.out _ _ HSq3.out (fun _ => ?_)
                clear hK K
                try simp only [Act.put, List.setIfInBounds_toArray]
                refine wpAnyH_ready (rs := [7]) (by kernel_rfl) (by simp) ?_
                refine AllReadyH.cons rfl (fun K hK => ?_) AllReadyH.nil
                have IH := hide (HIH.out (by omega) (set ++ [(i : Int)]) (p + f1) (q1 + f2) (t + kx) (i + 1) B l' (some ⟨g6, 0, none⟩) (q + 1) c6 Ab' nb' cb' wq3 (by omega) (by omega) (by simp) (by intro y hy; rw [List.getLast?_concat] at hy; simp only [Option.some.injEq] at hy; omega) (by
                  intro y hy
                  rcases List.mem_append.1 hy with h | h
                  · exact HSB.out y h
                  · have : y = (i : Int) := by simpa using h
                    omega) (by omega) (by omega) (by omega) (by rw [← HN.out]; omega) (by omega) (by rw [List.length_append, HSL.out]; rfl) (by omega) ⟨RdI.of_own HO6.out (fun y hy => by
                    rcases List.mem_append.1 hy with h | h
                    · have := HSB.out y h; unfold I64; omega
                    · have : y = (i : Int) := by simpa using h
                      unfold I64; omega), fun a ha => by simp only [Option.some.injEq] at ha; subst ha; show g6 ≠ g; omega⟩ (fun W hW => HL.out W ((HB4.out.trans (HBq3.out.mono (Nat.le_of_lt hg4))).trans hW)) (HF4.out.below HBq3.out))
                rw [← HN.out] at IH
                go_simp
                refine IH.out.mono ?_
                rintro e wq4 ⟨rfl, l7, Ab7, nb7, cb7, hl7a, hl7b, hf7, hw7⟩
                have HF7 := hide hf7
                have HW7 := hide (HW4.out.trans ((Wr.of_below HBq3.out).trans hw7))
                have HSq4 : Hid (At3 87 wq4 b' (.int .i64 (p + f1)) (.int .i64 (q1 + f2)) (.int .i64 (t + kx))) := (hw7.block b' (lt_blk HSq3.out) (by omega)).trans HSq3.out
                clear hf7 hw7 IH
                try go_wp2_with fail
                refine hK.out _ _ HSq4.out (fun _ => ?_)
                clear hK K
                try simp only [Act.put, List.setIfInBounds_toArray, List.set_cons_zero, List.set_cons_succ]
                refine wpAnyH_done (by kernel_rfl) ?_ _
                go_wp2
                go_roundw
                case rel => exact ⟨d + 1, l7, Ab7, nb7, cb7, by omega, by go_num, by rw [Nat.succ_mul]; omega, by omega, by rw [HE.out]; exact HF7.out, HW7.out⟩
                case measure => simp [intOf]; omega
              · obtain ⟨wq5, hw5⟩ : ∃ W, W = World.alloc wd (.cells #[.int .i64 (i : Int)] 2) := ⟨_, rfl⟩
                have hb5 : Below (World.heap wd).size wd wq5 := by rw [hw5]; exact (Below.refl _ _).alloc (Nat.le_refl _) _
                have HXq5 : Hid (wq5.cell? ⟨(World.heap wd).size, 0, none⟩ = some (.int .i64 (i : Int))) := by rw [hw5]; simp [Hid]
                have hxl5 : (World.heap wd).size < wq5.heap.size := by rw [hw5]; simp
                have HBq5 := hide (HBd.out.trans (hb5.mono HBd.out.size))
                have HSq5 := hide (HNX4.out.below HBq5.out (lt_blk HNX4.out))
                go_simp
                try go_wp2_with fail
                rw [← hw5]
                clear hw5 hb5
                refine hK.out _ _ HSq5.out (fun _ => ?_)
                clear hK K
                try simp only [Act.put, List.setIfInBounds_toArray, List.set_cons_zero, List.set_cons_succ]
                refine wpAnyH_ready (rs := [2]) (by kernel_rfl) (by simp) ?_
                refine AllReadyH.cons rfl (fun K hK => ?_) AllReadyH.nil
                go_simp
                refine (HCLO.out wq5 (HR4.out.below HBq5.out).1).mono ?_
                rintro e wq6 ⟨A5, c5, rfl, hown5, hb5⟩
                have HO5 := hide hown5
                have HBq6 := hide (HBq5.out.trans (hb5.mono HBq5.out.size))
                have HSq6 := hide (HNX4.out.below HBq6.out (lt_blk HNX4.out))
                have HXq6 := hide ((hb5.cell (p := ⟨(World.heap wd).size, 0, none⟩) hxl5).trans HXq5.out)
                have hlq6 := hb5.size
                clear hown5 hb5
                try go_wp2_with fail
                refine hK.out _ _ HSq6.out (fun _ => ?_)
                clear hK K
                try simp only [Act.put, List.setIfInBounds_toArray, List.set_cons_zero, List.set_cons_succ]
                refine wpAnyH_ready (rs := [5]) (by kernel_rfl) (by simp) ?_
                refine AllReadyH.cons rfl (fun K hK => ?_) AllReadyH.nil
                rw [if_pos (by rfl)]
                refine opAppI_gen rfl _ _ rfl (World.heap wq5).size (.slice A5 q c5) q set i ⟨(World.heap wd).size, 0, none⟩ rfl HO5.out rfl HXq6.out (by omega) (by omega) ?_
                intro va wq7 hown hbel
                obtain ⟨A6, c6, rfl⟩ := own_slice hown
                have HO6 := hide hown
                have hob : w4.heap.size ≤ (World.heap wq5).size := HBq5.out.size
                have HBq7 := hide (HBq6.out.trans (hbel.mono hob))
                have HSq7 := hide (HNX4.out.below HBq7.out (lt_blk HNX4.out))
                obtain ⟨g6, hA6, hg6⟩ := own_addrB hown (by omega)
                subst hA6
                have hg6b : w4.heap.size ≤ g6 := by omega
                clear hown hbel
                try go_wp2_with fail
                refine hK.out _ _ HSq7.out (fun _ => ?_)
                clear hK K
                try simp only [Act.put, List.setIfInBounds_toArray]
                refine wpAnyH_ready (rs := [7]) (by kernel_rfl) (by simp) ?_
                refine AllReadyH.cons rfl (fun K hK => ?_) AllReadyH.nil
                have IH := hide (HIH.out (by omega) (set ++ [(i : Int)]) (p + f1) (q1 + f2) (t + kx) (i + 1) B l' (some ⟨g6, 0, none⟩) (q + 1) c6 Ab' nb' cb' wq7 (by omega) (by omega) (by simp) (by intro y hy; rw [List.getLast?_concat] at hy; simp only [Option.some.injEq] at hy; omega) (by
                  intro y hy
                  rcases List.mem_append.1 hy with h | h
                  · exact HSB.out y h
                  · have : y = (i : Int) := by simpa using h
                    omega) (by omega) (by omega) (by omega) (by rw [← HN.out]; omega) (by omega) (by rw [List.length_append, HSL.out]; rfl) (by omega) ⟨RdI.of_own HO6.out (fun y hy => by
                    rcases List.mem_append.1 hy with h | h
                    · have := HSB.out y h; unfold I64; omega
                    · have : y = (i : Int) := by simpa using h
                      unfold I64; omega), fun a ha => by simp only [Option.some.injEq] at ha; subst ha; show g6 ≠ g; omega⟩ (fun W hW => HL.out W ((HB4.out.trans (HBq7.out.mono (Nat.le_of_lt hg4))).trans hW)) (HF4.out.below HBq7.out))
                rw [← HN.out] at IH
                go_simp
                refine IH.out.mono ?_
                rintro e wq8 ⟨rfl, l7, Ab7, nb7, cb7, hl7a, hl7b, hf7, hw7⟩
                have HF7 := hide hf7
                have HW7 := hide (HW4.out.trans ((Wr.of_below HBq7.out).trans hw7))
                have HSq8 : Hid (At3 87 wq8 b' (.int .i64 (p + f1)) (.int .i64 (q1 + f2)) (.int .i64 (t + kx))) := (hw7.block b' (lt_blk HSq7.out) (by omega)).trans HSq7.out
                clear hf7 hw7 IH
                try go_wp2_with fail
                refine hK.out _ _ HSq8.out (fun _ => ?_)
                clear hK K
                try simp only [Act.put, List.setIfInBounds_toArray, List.set_cons_zero, List.set_cons_succ]
                refine wpAnyH_done (by kernel_rfl) ?_ _
                go_wp2
                go_roundw
                case rel => exact ⟨d + 1, l7, Ab7, nb7, cb7, by omega, by go_num, by rw [Nat.succ_mul]; omega, by omega, by rw [HE.out]; exact HF7.out, HW7.out⟩
                case measure => simp [intOf]; omega
          --]
        · have hie : n - frm = d := by omega
          have HFI : Hid (filZ (xs.map needZ) ⟨rp, rb, rk⟩ j set ⟨p, q1, t⟩ frm b = B) := by unfold Hid; rw [HGO.out, hie]; exact HBB.out.symm
          have hdj : d * N ≤ j * N := Nat.mul_le_mul_right _ (by omega)
          go_wp2
          first | go_end0 | refine bodyPost_ret (results_none rfl _ _ _) rfl ?_
          exact ⟨rfl, l', Ab', nb', cb', by rw [HND.out]; omega, by omega, by rw [HFI.out]; exact HFr.out, HW2.out.trans HWr.out⟩

end Go.Proofs.YtcclfmapbgdpdaaGreatDoor
