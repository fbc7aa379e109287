/- loader.search of the program: one group more. Printed by gen_loas.py. -/
import Derived.Test.YtcclfmapbgdpdaaGreatDoorLoaS
import Derived.Test.YtcclfmapbgdpdaaGreatDoorJoinZ
namespace Go.Proofs.YtcclfmapbgdpdaaGreatDoor
open Go.RowKit
set_option linter.unusedVariables false


theorem grp_cells {W : World} {b off n k : Nat} {xs : List GrpZ} {f0 : ByteArray} {f1 f2 f3 : Int} (h : RdK kGrp W (some ⟨b, off, none⟩) n xs) (hk : k < n) (hx : xs[k]? = some ⟨f0, f1, f2, f3⟩) :
    W.cell? ⟨b, off + k * 4, none⟩ = some (.string f0) ∧ W.cell? ⟨b, off + k * 4 + 1, none⟩ = some (.int .i64 f1) ∧ W.cell? ⟨b, off + k * 4 + 2, none⟩ = some (.int .i64 f2) ∧ W.cell? ⟨b, off + k * 4 + 3, none⟩ = some (.int .i64 f3) := by
  obtain ⟨b', off', g0, g1, g2, g3, hA, _, hy, c0, c1, c2, c3, _⟩ := h.atGrp hk
  obtain ⟨rfl, rfl⟩ : b = b' ∧ off = off' := by simpa using hA
  have he := hy.out
  rw [hx] at he
  simp only [Option.some.injEq, GrpZ.mk.injEq] at he
  obtain ⟨rfl, rfl, rfl, rfl⟩ := he
  exact ⟨c0, c1, c2, c3⟩
theorem LdP.addr {w : World} {g n c left : Nat} {A A1 : Option Addr} {r : RmZ} {v2 v3 : Value} {few : Int} {fd : Bool} {ons : List RmZ} {rs : List Int} {best : Option (List Int × Nat)} {m c1 : Nat} (h : LdP w g A n c r left (.slice A1 m c1) v2 v3 few fd ons rs best) (hm : m = ons.length) (h0 : 0 < m) : ∃ b1, A1 = some ⟨b1, 0, none⟩ := by
  have h1 := h.on
  rw [← hm] at h1
  obtain ⟨b1, e, _⟩ := own_addrB h1 h0
  exact ⟨b1, e⟩
theorem LdP.rdk {w : World} {g n c left : Nat} {A : Option Addr} {r : RmZ} {v1 v2 v3 : Value} {few : Int} {fd : Bool} {ons : List RmZ} {rs : List Int} {best : Option (List Int × Nat)} {k : Nat} (h : LdP w g A n c r left v1 v2 v3 few fd ons rs best) (hk : k = rs.length) : w.ownsRow (g + 1) 2 1 v2 k (cI rs) := by rw [hk]; exact h.rd
theorem own_k {w : World} {base k q : Nat} {e : TypeId} {size : Nat} {v : Value} {xs : List Value} (h : w.ownsRow base e size v k xs) (hk : k = q) : w.ownsRow base e size v q xs := hk ▸ h
/-- What the search does with ride j. -/
def stepF (r : RmZ) (rest : List RmZ) (ons : List RmZ) (rs : List Int) (x : RmZ) (j : Nat) (b : Option (List Int × Nat)) : Option (List Int × Nat) := if fitsZ (plusZ (ons.getD j zeroR) x) r = true then goZ r rest (ons.set j (plusZ (ons.getD j zeroR) x)) (rs ++ [(j : Int)]) b else b
theorem goZ_step (r x : RmZ) (rest ons : List RmZ) (rs : List Int) (b : Option (List Int × Nat)) : goZ r (x :: rest) ons rs b = goZ r rest (ons ++ [x]) (rs ++ [(ons.length : Int)]) (itr (stepF r rest ons rs x) 0 ons.length b) := rfl
theorem itr_next {β : Type} (f : Nat → β → β) (j : Nat) (b : β) : itr f 0 (j + 1) b = f j (itr f 0 j b) := by rw [itr, Nat.zero_add]

set_option maxHeartbeats 16000000 in
set_option maxRecDepth 100000 in
theorem search_cons (g : Nat) (A : Option Addr) (n c : Nat) (xs : List GrpZ) (rp rb rk : Int) (hn : n ≤ 12) (hv : grpsB xs = true) (hf : AllFit xs ⟨rp, rb, rk⟩) (hr : rp ≤ 200 ∧ rb ≤ 40 ∧ rk ≤ 100000) (x : RmZ) (rest : List RmZ) (ih : SearchOk g A n c xs rp rb rk rest) : SearchOk g A n c xs rp rb rk (x :: rest) := by
  intro ons rs best left v1 v2 v3 few fd w hrest hlen hmk hsm hri hnod hl2 hL hP
  rw [List.length_cons] at hlen hnod
  obtain ⟨N1, hN1⟩ : ∃ N, N = nodZ rest.length ons.length := ⟨_, rfl⟩
  obtain ⟨N2, hN2⟩ : ∃ N, N = nodZ rest.length (ons.length + 1) := ⟨_, rfl⟩
  obtain ⟨m, hm⟩ : ∃ m, m = ons.length := ⟨_, rfl⟩
  obtain ⟨k, hk⟩ : ∃ k, k = rs.length := ⟨_, rfl⟩
  have hnd : nodZ (rest.length + 1) ons.length = 1 + m * N1 + N2 := by rw [nodZ, hN1, hN2, hm]
  rw [hnd] at hnod
  obtain ⟨l, rfl⟩ : ∃ l, left = l + 1 := ⟨left - 1, by omega⟩
  have hkn : k < n := by omega
  have hx0 : (xs.map needZ)[k]? = some x := by have h := congrArg List.head? hrest; rw [List.head?_drop, ← hk] at h; exact h.symm
  have hrest2 : rest = (xs.map needZ).drop (k + 1) := by have h := congrArg List.tail hrest; rw [List.tail_drop, ← hk] at h; exact h
  obtain ⟨b, off, f0, f1, f2, f3, hA, hbl, hx, _, _, _, _, hs0, _⟩ := (hL w (Below.refl _ _)).atGrp hkn
  have hxe : x = ⟨f1, f2, 75 * f1 + 15 * f2 + f3⟩ := by have h := need_map hx.out; rw [hx0] at h; exact Option.some.inj h
  obtain ⟨kx, hkx⟩ : ∃ kx : Int, kx = 75 * f1 + 15 * f2 + f3 := ⟨_, rfl⟩
  rw [← hkx] at hxe
  subst hxe
  subst hA
  obtain ⟨_, _, _, hg1, hg2, hg3⟩ := grp_ok (grps_mem hv _ (List.mem_of_getElem? hx.out))
  have hfx : fitsZ ⟨f1, f2, kx⟩ ⟨rp, rb, rk⟩ = true := by rw [hkx]; exact hf _ (List.mem_of_getElem? hx.out)
  have hfx2 := fits_iff.1 hfx
  simp only at hfx2
  have hkx0 : 0 ≤ kx := by omega
  have HG : Hid (∀ W, Below g w W → W.cell? ⟨b, off + k * 4, none⟩ = some (.string f0) ∧ W.cell? ⟨b, off + k * 4 + 1, none⟩ = some (.int .i64 f1) ∧ W.cell? ⟨b, off + k * 4 + 2, none⟩ = some (.int .i64 f2) ∧ W.cell? ⟨b, off + k * 4 + 3, none⟩ = some (.int .i64 f3)) := fun W hW => grp_cells (hL W hW) hkn hx.out
  have HN : Hid (∀ W, Calls Tryz.prog 135 #[.agg #[.string f0, .int .i64 f1, .int .i64 f2, .int .i64 f3]] W fun e w' => e = .returned (.agg #[.int .i64 f1, .int .i64 f2, .int .i64 kx]) ∧ Below W.heap.size W w') := fun W => by
    have h := need_calls f0 f1 f2 f3 W ⟨by omega, hg1.2⟩ hg2 hg3
    rw [← hkx] at h
    exact h
  have HL := hide hL
  have HP := hide hP
  have HM := hide hm
  have HKK := hide hk
  have HSM := hide hsm
  have HRI := hide hri
  have HIH := hide ih
  have HRE := hide hrest2
  have HN1 := hide hN1
  have HN2 := hide hN2
  have hrl : k + (rest.length + 1) = n := by omega
  have HRL := hide hrl
  have hm12 : m ≤ k := by omega
  obtain ⟨F, hF⟩ : ∃ F, F = stepF ⟨rp, rb, rk⟩ rest ons rs ⟨f1, f2, kx⟩ := ⟨_, rfl⟩
  have HF := hide hF
  have HGO : Hid (goZ ⟨rp, rb, rk⟩ (⟨f1, f2, kx⟩ :: rest) ons rs best = goZ ⟨rp, rb, rk⟩ rest (ons ++ [⟨f1, f2, kx⟩]) (rs ++ [(m : Int)]) (itr F 0 m best)) := by
    unfold Hid
    rw [goZ_step, hF, hm]
  have HND := hide hnd
  obtain ⟨z0, z1, _⟩ := hP.cells
  have fz := hP.fz 0
  have z0' : w.cell? ⟨g, 0, none⟩ = some (.int .i64 ((l : Int) + 1)) := by rw [z0]; simp
  have ND := hide (node_calls g l w (by omega) z0' fz)
  clear z0 hP hm hk hrest hlen hmk hsm hri hL hkx ih hrest2 hN1 hN2 hx0 hrl hF hbl hs0 hnd hx
  go_enter Tryz.func138, Tryz.ntmps138
  go_wp2_with fail
  refine ND.out.mono ?_
  rintro e w1 ⟨rfl, hw1⟩
  have HP1 : Hid (LdP w1 g (some ⟨b, off, none⟩) n c ⟨rp, rb, rk⟩ l v1 v2 v3 few fd ons rs best) := by rw [hw1]; exact HP.out.node
  have HK1 : Hid (Kp w w1 g v1 v2 v1 v2) := by rw [hw1]; exact Kp.set
  clear hw1 z0' z1 fz ND
  obtain ⟨A1, c1, A2, c2, e1, e2, hc1, hc2⟩ := HP1.out.vals HM.out HKK.out
  obtain ⟨_, _, z2, _, _, _, z6, z7, _⟩ := HP1.out.cells
  rw [e1] at z6
  rw [e2] at z7
  have k1 : ¬ k = n := by omega
  have k2 : ((k : Int) == (n : Int)) = false := by simp; omega
  clear e1 e2
  go_wp2_with fail
  clear z2 z6 z7 k1 k2 hc1 hc2
  go_loopw [3, 4, 5] (fun i _ _ wr => ∃ (j l' : Nat) (u1 u2 u3 : Value) (few' : Int) (fd' : Bool), j ≤ m ∧ i = .int .i64 j ∧ l ≤ l' + j * N1 ∧ l' ≤ l ∧ Hid (LdP wr g (some ⟨b, off, none⟩) n c ⟨rp, rb, rk⟩ l' u1 u2 u3 few' fd' ons rs (itr F 0 j best)) ∧ Hid (Kp w wr g v1 v2 u1 u2)) (fun i _ _ _ => m + 1 - (intOf i).toNat)
  case atStart => exact ⟨0, l, v1, v2, v3, few, fd, Nat.zero_le _, rfl, by omega, Nat.le_refl _, HP1.out, HK1.out⟩
  case round => as_aux_lemma =>
    clear HP1 HK1
    obtain ⟨j, l', u1, u2, u3, few', fd', hj, rfl, hla, hlb, HPr, HKr⟩ := hrel
    obtain ⟨A1, c1, A2, c2, e1, e2, hc1, hc2⟩ := HPr.out.vals HM.out HKK.out
    subst e1
    subst e2
    have HBr := hide (HKr.out.below HP.out)
    have hgr := HPr.out.lt
    obtain ⟨B, hB⟩ : ∃ B, B = itr F 0 j best := ⟨_, rfl⟩
    rw [← hB] at HPr
    have HBB := hide hB
    clear hB
    obtain ⟨_, _, z2, z3, z4, z5, z6, z7, _⟩ := HPr.out.cells
    by_cases hjm : j < m
    · --[
      obtain ⟨b1, hb1⟩ := HPr.out.addr HM.out (by omega)
      subst hb1
      obtain ⟨hgb, hbw, p, q, t, hxo, ⟨d0, d1, d2⟩, _, _⟩ := HPr.out.putOn HM.out hjm
      have hso := HSM.out _ (List.mem_of_getElem? hxo)
      unfold SmO at hso
      simp only at hso
      obtain ⟨hso1, hso2, hso3⟩ := hso
      have hgd : ons.getD j zeroR = ⟨p, q, t⟩ := by rw [List.getD_eq_getElem?_getD, hxo]; rfl
      obtain ⟨nx, hnx⟩ : ∃ nx : RmZ, nx = ⟨p + f1, q + f2, t + kx⟩ := ⟨_, rfl⟩
      have HFY : Hid (fitsZ ⟨p + f1, q + f2, t + kx⟩ ⟨rp, rb, rk⟩ = true → itr F 0 (j + 1) best = goZ ⟨rp, rb, rk⟩ rest (ons.set j nx) (rs ++ [(j : Int)]) B) := fun h => by
        rw [itr_next, ← HBB.out, HF.out, stepF, hgd, hnx]
        exact if_pos h
      have HFN : Hid (fitsZ ⟨p + f1, q + f2, t + kx⟩ ⟨rp, rb, rk⟩ = false → itr F 0 (j + 1) best = B) := fun h => by
        rw [itr_next, ← HBB.out, HF.out, stepF, hgd]
        exact if_neg (by rw [show plusZ ⟨p, q, t⟩ ⟨f1, f2, kx⟩ = ⟨p + f1, q + f2, t + kx⟩ from rfl, h]; simp)
      have hset : (ons.set j nx).set j ⟨p, q, t⟩ = ons := by
        rw [List.set_set]
        obtain ⟨q1, q2⟩ := List.getElem?_eq_some_iff.1 hxo
        rw [← q2]
        exact List.set_getElem_self q1
      have HST := hide hset
      have HNX := hide hnx
      obtain ⟨W1, hW1⟩ : ∃ W1, W1 = wr.alloc (.cells #[.int .i64 p, .int .i64 q, .int .i64 t] 87) := ⟨_, rfl⟩
      have hbW : Below wr.heap.size wr W1 := by rw [hW1]; exact (Below.refl _ _).alloc (Nat.le_refl _) _
      have hzW : wr.heap.size < W1.heap.size := by rw [hW1]; simp
      have HAB1 : Hid (At3 87 W1 wr.heap.size (.int .i64 p) (.int .i64 q) (.int .i64 t)) := by rw [hW1]; exact At3.new _ _ _ _ _
      have HPW := hide (HPr.out.below hbW)
      have HBW := hide hbW
      have HCL : Hid (∀ W, Below W1.heap.size W1 W → W.cell? ⟨wr.heap.size, 0, none⟩ = some (.int .i64 p) ∧ W.cell? ⟨wr.heap.size, 1, none⟩ = some (.int .i64 q) ∧ W.cell? ⟨wr.heap.size, 2, none⟩ = some (.int .i64 t) ∧ W.cell? ⟨g, 2, none⟩ = some (.slice (some ⟨b, off, none⟩) n c) ∧ W.cell? ⟨b, off + k * 4, none⟩ = some (.string f0) ∧ W.cell? ⟨b, off + k * 4 + 1, none⟩ = some (.int .i64 f1) ∧ W.cell? ⟨b, off + k * 4 + 2, none⟩ = some (.int .i64 f2) ∧ W.cell? ⟨b, off + k * 4 + 3, none⟩ = some (.int .i64 f3)) := fun W hW => by
        obtain ⟨a0, a1, a2, _⟩ := (HAB1.out.below hW hzW).out
        obtain ⟨_, _, a3, _⟩ := (HPW.out.below hW).cells
        exact ⟨a0, a1, a2, a3, HG.out W (HBr.out.trans ((HBW.out.trans (hW.mono HBW.out.size)).mono (Nat.le_of_lt hgr)))⟩
      have HPL : Hid (∀ W, Calls Tryz.prog 134 #[.agg #[.int .i64 p, .int .i64 q, .int .i64 t], .agg #[.int .i64 f1, .int .i64 f2, .int .i64 kx]] W fun e w' => e = .returned (.agg #[.int .i64 (p + f1), .int .i64 (q + f2), .int .i64 (t + kx)]) ∧ Below W.heap.size W w') := fun W => plus_calls p q t f1 f2 kx W (by unfold SmR; simp only; omega) (by unfold SmR; simp only; omega)
      have i1 : (0 : Int) ≤ (j : Int) := by omega
      have i2 : (j : Int) < (m : Int) := by omega
      have i3 : (0 : Int) ≤ (k : Int) := by omega
      have i4 : (k : Int) < (n : Int) := by omega
      have k1 : ¬ j = m := by omega
      have k2 : ((j : Int) == (m : Int)) = false := by simp; omega
      have k3 : (j : Int) ≤ (m : Int) := by omega
      have k4 : decide (j ≤ m) = true := decide_eq_true hj
      clear hgd hset hnx hxo hbW
      go_upto_region 14 with fail
      rw [← hW1]
      clear hW1 z2 z3 z4 z5 z6 z7 d0 d1 d2 k1 k2 k3 k4
      go_cut [5] (fun v wx => ∃ b', v = .pointer (some ⟨b', 0, none⟩) ∧ Hid (At3 87 wx b' (.int .i64 (p + f1)) (.int .i64 (q + f2)) (.int .i64 (t + kx))) ∧ Hid (Below W1.heap.size W1 wx) ∧ W1.heap.size ≤ b')
      case first => as_aux_lemma =>
        --[
        obtain ⟨wd, hwd⟩ : ∃ wd : World, wd = W1.drew := ⟨_, rfl⟩
        have HS0 : Hid ((fun W => Below W1.heap.size W1 W) wd) := by rw [hwd]; exact (Below.refl _ _).drew
        have HWD := hide hwd
        refine wp_region_held_drew (S := fun W => Below W1.heap.size W1 W) (by kernel_rfl) (by rw [← hwd]; exact HS0.out) (fun _ => ?_)
        rw [← hwd]
        clear hwd
        refine takeH 0 136 (.agg #[.int .i64 p, .int .i64 q, .int .i64 t]) ⟨_, rfl, rfl, rfl, ?_⟩ (by kernel_rfl) (by kernel_rfl) (by kernel_rfl) (fun _ _ _ h => h) HS0.out ?_
        · intro wz hSw; obtain ⟨x0, x1, x2, x3, x4, x5, x6, x7⟩ := HCL.out wz hSw; go_simp
        try simp only [Act.put, List.setIfInBounds_toArray, List.set_cons_zero, List.set_cons_succ]
        refine takeH 1 137 (.pointer (some ⟨g, 0, none⟩)) ⟨_, rfl, rfl, rfl, ?_⟩ (by kernel_rfl) (by kernel_rfl) (by kernel_rfl) (fun _ _ _ h => h) HS0.out ?_
        · intro wz hSw; go_simp
        try simp only [Act.put, List.setIfInBounds_toArray, List.set_cons_zero, List.set_cons_succ]
        refine takeH 2 138 (.pointer (some ⟨g, 0, none⟩)) ⟨_, rfl, rfl, rfl, ?_⟩ (by kernel_rfl) (by kernel_rfl) (by kernel_rfl) (fun _ _ _ h => h) HS0.out ?_
        · intro wz hSw; go_simp
        try simp only [Act.put, List.setIfInBounds_toArray, List.set_cons_zero, List.set_cons_succ]
        refine takeH 3 139 (.pointer (some ⟨g, 2, none⟩)) ⟨_, rfl, rfl, rfl, ?_⟩ (by kernel_rfl) (by kernel_rfl) (by kernel_rfl) (fun _ _ _ h => h) HS0.out ?_
        · intro wz hSw; go_simp
        try simp only [Act.put, List.setIfInBounds_toArray, List.set_cons_zero, List.set_cons_succ]
        refine takeH 4 140 (.slice (some ⟨b, off, none⟩) n c) ⟨_, rfl, rfl, rfl, ?_⟩ (by kernel_rfl) (by kernel_rfl) (by kernel_rfl) (fun _ _ _ h => h) HS0.out ?_
        · intro wz hSw; obtain ⟨x0, x1, x2, x3, x4, x5, x6, x7⟩ := HCL.out wz hSw; go_simp
        try simp only [Act.put, List.setIfInBounds_toArray, List.set_cons_zero, List.set_cons_succ]
        refine takeH 5 141 (.int .i64 (k : Int)) ⟨_, rfl, rfl, rfl, ?_⟩ (by kernel_rfl) (by kernel_rfl) (by kernel_rfl) (fun _ _ _ h => h) HS0.out ?_
        · intro wz hSw; go_simp
        try simp only [Act.put, List.setIfInBounds_toArray, List.set_cons_zero, List.set_cons_succ]
        refine takeH 6 142 (.pointer (some ⟨b, off + k * 4, none⟩)) ⟨_, rfl, rfl, rfl, ?_⟩ (by kernel_rfl) (by kernel_rfl) (by kernel_rfl) (fun _ _ _ h => h) HS0.out ?_
        · intro wz hSw; go_simp
        try simp only [Act.put, List.setIfInBounds_toArray, List.set_cons_zero, List.set_cons_succ]
        refine takeH 7 143 (.agg #[.string f0, .int .i64 f1, .int .i64 f2, .int .i64 f3]) ⟨_, rfl, rfl, rfl, ?_⟩ (by kernel_rfl) (by kernel_rfl) (by kernel_rfl) (fun _ _ _ h => h) HS0.out ?_
        · intro wz hSw; obtain ⟨x0, x1, x2, x3, x4, x5, x6, x7⟩ := HCL.out wz hSw; go_simp
        try simp only [Act.put, List.setIfInBounds_toArray, List.set_cons_zero, List.set_cons_succ]
        refine wpAnyH_ready (rs := [8, 10]) (by kernel_rfl) (by simp) ?_
        refine AllReadyH.cons rfl (fun K hK => ?_) (AllReadyH.cons rfl (fun K hK => ?_) AllReadyH.nil)
        · go_simp
          refine (HN.out wd).mono ?_
          rintro e wq1 ⟨rfl, hbq1⟩
          have HSq1 := hide (HS0.out.trans (hbq1.mono HS0.out.size))
          clear hbq1
          try go_wp2_with fail
          refine hK.out _ _ HSq1.out (fun _ => ?_)
          clear hK K
          try simp only [Act.put, List.setIfInBounds_toArray, List.set_cons_zero, List.set_cons_succ]
          refine wpAnyH_ready (rs := [9, 10]) (by kernel_rfl) (by simp) ?_
          refine AllReadyH.cons rfl (fun K hK => ?_) (AllReadyH.cons rfl (fun K hK => ?_) AllReadyH.nil)
          · go_simp
            refine (HPL.out wq1).mono ?_
            rintro e wq2 ⟨rfl, hbq2⟩
            have HSq2 := hide (HSq1.out.trans (hbq2.mono HSq1.out.size))
            clear hbq2
            try go_wp2_with fail
            refine hK.out _ _ HSq2.out (fun _ => ?_)
            clear hK K
            try simp only [Act.put, List.setIfInBounds_toArray, List.set_cons_zero, List.set_cons_succ]
            refine wpAnyH_ready (rs := [10]) (by kernel_rfl) (by simp) ?_
            refine AllReadyH.cons rfl (fun K hK => ?_) AllReadyH.nil
            obtain ⟨wq3, hwq3⟩ : ∃ W, W = World.alloc wq2 (.cells #[.int .i64 0, .int .i64 0, .int .i64 0] 87) := ⟨_, rfl⟩
            have hbq3 : Below (World.heap wq2).size wq2 wq3 := by rw [hwq3]; exact ((Below.refl _ _).alloc (Nat.le_refl _) _)
            have HNq3 : Hid (At3 87 wq3 (World.heap wq2).size (.int .i64 0) (.int .i64 0) (.int .i64 0)) := by rw [hwq3]; exact At3.new _ _ _ _ _
            have HSq3 := hide (HSq2.out.trans (hbq3.mono HSq2.out.size))
            go_simp
            try go_wp2_with fail
            rw [← hwq3]
            have hgq3 : W1.heap.size ≤ (World.heap wq2).size := HSq2.out.size
            clear hbq3 hwq3
            refine hK.out _ _ HSq3.out (fun _ => ?_)
            clear hK K
            try simp only [Act.put, List.setIfInBounds_toArray, List.set_cons_zero, List.set_cons_succ]
            refine wpAnyH_ready (rs := [11]) (by kernel_rfl) (by simp) ?_
            refine AllReadyH.cons rfl (fun K hK => ?_) AllReadyH.nil
            obtain ⟨l0, l1, l2, m0, m1, m2⟩ := HNq3.out.out
            have HNq4 : Hid (At3 87 (((World.setCell wq3 ⟨(World.heap wq2).size, 0, none⟩ (.int .i64 (p + f1))).setCell ⟨(World.heap wq2).size, 1, none⟩ (.int .i64 (q + f2))).setCell ⟨(World.heap wq2).size, 2, none⟩ (.int .i64 (t + kx))) (World.heap wq2).size (.int .i64 (p + f1)) (.int .i64 (q + f2)) (.int .i64 (t + kx))) := HNq3.out.all
            have HSq4 := hide (below_set3 (u0 := .int .i64 (p + f1)) (u1 := .int .i64 (q + f2)) (u2 := .int .i64 (t + kx)) HSq3.out (C := (World.heap wq2).size) hgq3)
            go_simp
            try go_wp2_with fail
            refine hK.out _ _ HSq4.out (fun _ => ?_)
            clear l0 l1 l2 m0 m1 m2
            clear hK K
            try simp only [Act.put, List.setIfInBounds_toArray, List.set_cons_zero, List.set_cons_succ]
            refine wpAnyH_done (by kernel_rfl) ?_ _
            go_wp2_with fail
            go_meet
            case rel => exact ⟨(World.heap wq2).size, rfl, HNq4, HSq4, by omega⟩
          · obtain ⟨wq5, hwq5⟩ : ∃ W, W = World.alloc wq1 (.cells #[.int .i64 0, .int .i64 0, .int .i64 0] 87) := ⟨_, rfl⟩
            have hbq5 : Below (World.heap wq1).size wq1 wq5 := by rw [hwq5]; exact ((Below.refl _ _).alloc (Nat.le_refl _) _)
            have HNq5 : Hid (At3 87 wq5 (World.heap wq1).size (.int .i64 0) (.int .i64 0) (.int .i64 0)) := by rw [hwq5]; exact At3.new _ _ _ _ _
            have HSq5 := hide (HSq1.out.trans (hbq5.mono HSq1.out.size))
            go_simp
            try go_wp2_with fail
            rw [← hwq5]
            have hgq5 : W1.heap.size ≤ (World.heap wq1).size := HSq1.out.size
            clear hbq5 hwq5
            refine hK.out _ _ HSq5.out (fun _ => ?_)
            clear hK K
            try simp only [Act.put, List.setIfInBounds_toArray, List.set_cons_zero, List.set_cons_succ]
            refine wpAnyH_ready (rs := [9]) (by kernel_rfl) (by simp) ?_
            refine AllReadyH.cons rfl (fun K hK => ?_) AllReadyH.nil
            go_simp
            refine (HPL.out wq5).mono ?_
            rintro e wq6 ⟨rfl, hbq6⟩
            have HSq6 := hide (HSq5.out.trans (hbq6.mono HSq5.out.size))
            have NEW_6 := hide (HNq5.out.below hbq6 (lt_blk HNq5.out))
            clear hbq6
            try go_wp2_with fail
            refine hK.out _ _ HSq6.out (fun _ => ?_)
            clear hK K
            try simp only [Act.put, List.setIfInBounds_toArray, List.set_cons_zero, List.set_cons_succ]
            refine wpAnyH_ready (rs := [11]) (by kernel_rfl) (by simp) ?_
            refine AllReadyH.cons rfl (fun K hK => ?_) AllReadyH.nil
            obtain ⟨l0, l1, l2, m0, m1, m2⟩ := NEW_6.out.out
            have HNq7 : Hid (At3 87 (((World.setCell wq6 ⟨(World.heap wq1).size, 0, none⟩ (.int .i64 (p + f1))).setCell ⟨(World.heap wq1).size, 1, none⟩ (.int .i64 (q + f2))).setCell ⟨(World.heap wq1).size, 2, none⟩ (.int .i64 (t + kx))) (World.heap wq1).size (.int .i64 (p + f1)) (.int .i64 (q + f2)) (.int .i64 (t + kx))) := NEW_6.out.all
            have HSq7 := hide (below_set3 (u0 := .int .i64 (p + f1)) (u1 := .int .i64 (q + f2)) (u2 := .int .i64 (t + kx)) HSq6.out (C := (World.heap wq1).size) hgq5)
            go_simp
            try go_wp2_with fail
            refine hK.out _ _ HSq7.out (fun _ => ?_)
            clear l0 l1 l2 m0 m1 m2
            clear hK K
            try simp only [Act.put, List.setIfInBounds_toArray, List.set_cons_zero, List.set_cons_succ]
            refine wpAnyH_done (by kernel_rfl) ?_ _
            go_wp2_with fail
            go_meet
            case rel => exact ⟨(World.heap wq1).size, rfl, HNq7, HSq7, by omega⟩
        · obtain ⟨wq8, hwq8⟩ : ∃ W, W = World.alloc wd (.cells #[.int .i64 0, .int .i64 0, .int .i64 0] 87) := ⟨_, rfl⟩
          have hbq8 : Below (World.heap wd).size wd wq8 := by rw [hwq8]; exact ((Below.refl _ _).alloc (Nat.le_refl _) _)
          have HNq8 : Hid (At3 87 wq8 (World.heap wd).size (.int .i64 0) (.int .i64 0) (.int .i64 0)) := by rw [hwq8]; exact At3.new _ _ _ _ _
          have HSq8 := hide (HS0.out.trans (hbq8.mono HS0.out.size))
          go_simp
          try go_wp2_with fail
          rw [← hwq8]
          have hgq8 : W1.heap.size ≤ (World.heap wd).size := HS0.out.size
          clear hbq8 hwq8
          refine hK.out _ _ HSq8.out (fun _ => ?_)
          clear hK K
          try simp only [Act.put, List.setIfInBounds_toArray, List.set_cons_zero, List.set_cons_succ]
          refine wpAnyH_ready (rs := [8]) (by kernel_rfl) (by simp) ?_
          refine AllReadyH.cons rfl (fun K hK => ?_) AllReadyH.nil
          go_simp
          refine (HN.out wq8).mono ?_
          rintro e wq9 ⟨rfl, hbq9⟩
          have HSq9 := hide (HSq8.out.trans (hbq9.mono HSq8.out.size))
          have NEW_9 := hide (HNq8.out.below hbq9 (lt_blk HNq8.out))
          clear hbq9
          try go_wp2_with fail
          refine hK.out _ _ HSq9.out (fun _ => ?_)
          clear hK K
          try simp only [Act.put, List.setIfInBounds_toArray, List.set_cons_zero, List.set_cons_succ]
          refine wpAnyH_ready (rs := [9]) (by kernel_rfl) (by simp) ?_
          refine AllReadyH.cons rfl (fun K hK => ?_) AllReadyH.nil
          go_simp
          refine (HPL.out wq9).mono ?_
          rintro e wq10 ⟨rfl, hbq10⟩
          have HSq10 := hide (HSq9.out.trans (hbq10.mono HSq9.out.size))
          have NEW_10 := hide (NEW_9.out.below hbq10 (lt_blk NEW_9.out))
          clear hbq10
          try go_wp2_with fail
          refine hK.out _ _ HSq10.out (fun _ => ?_)
          clear hK K
          try simp only [Act.put, List.setIfInBounds_toArray, List.set_cons_zero, List.set_cons_succ]
          refine wpAnyH_ready (rs := [11]) (by kernel_rfl) (by simp) ?_
          refine AllReadyH.cons rfl (fun K hK => ?_) AllReadyH.nil
          obtain ⟨l0, l1, l2, m0, m1, m2⟩ := NEW_10.out.out
          have HNq11 : Hid (At3 87 (((World.setCell wq10 ⟨(World.heap wd).size, 0, none⟩ (.int .i64 (p + f1))).setCell ⟨(World.heap wd).size, 1, none⟩ (.int .i64 (q + f2))).setCell ⟨(World.heap wd).size, 2, none⟩ (.int .i64 (t + kx))) (World.heap wd).size (.int .i64 (p + f1)) (.int .i64 (q + f2)) (.int .i64 (t + kx))) := NEW_10.out.all
          have HSq11 := hide (below_set3 (u0 := .int .i64 (p + f1)) (u1 := .int .i64 (q + f2)) (u2 := .int .i64 (t + kx)) HSq10.out (C := (World.heap wd).size) hgq8)
          go_simp
          try go_wp2_with fail
          refine hK.out _ _ HSq11.out (fun _ => ?_)
          clear l0 l1 l2 m0 m1 m2
          clear hK K
          try simp only [Act.put, List.setIfInBounds_toArray, List.set_cons_zero, List.set_cons_succ]
          refine wpAnyH_done (by kernel_rfl) ?_ _
          go_wp2_with fail
          go_meet
          case rel => exact ⟨(World.heap wd).size, rfl, HNq11, HSq11, by omega⟩
        --]
      case rest => as_aux_lemma =>
        obtain ⟨w2, rfl⟩ : ∃ w2 : World, w2 = wc := ⟨_, rfl⟩
        obtain ⟨b', hv5, HNX2, HBX, hbb⟩ := hcut
        subst hv5
        have HP2 := hide (HPW.out.below HBX.out)
        have HAB2 := hide (HAB1.out.below HBX.out hzW)
        obtain ⟨n0, n1, n2, _⟩ := HNX2.out.out
        obtain ⟨_, _, _, r3, r4, r5, _⟩ := HP2.out.cells
        have M0 := fun p : BelW w2 => BelW.cell n0 (lt_blk HNX2.out) p
        have M1 := fun p : BelW w2 => BelW.cell n1 (lt_blk HNX2.out) p
        have M2 := fun p : BelW w2 => BelW.cell n2 (lt_blk HNX2.out) p
        have M3 := fun p : BelW w2 => BelW.cell r3 HP2.out.lt p
        have M4 := fun p : BelW w2 => BelW.cell r4 HP2.out.lt p
        have M5 := fun p : BelW w2 => BelW.cell r5 HP2.out.lt p
        have hfi := fits_iff (n := ⟨p + f1, q + f2, t + kx⟩) (r := ⟨rp, rb, rk⟩)
        simp only at hfi
        obtain ⟨ft, hft⟩ : ∃ ft, ft = fitsZ ⟨p + f1, q + f2, t + kx⟩ ⟨rp, rb, rk⟩ := ⟨_, rfl⟩
        have HFT : Hid (∀ y : BelW w2, Calls Tryz.prog 136 #[.agg #[.int .i64 (p + f1), .int .i64 (q + f2), .int .i64 (t + kx)], .agg #[.int .i64 rp, .int .i64 rb, .int .i64 rk]] y.1 fun e w'' => e = .returned (.bool ft) ∧ ∃ q : BelW w2, w'' = q.1) := fun y => by
          have h := Calls.bel (fits_calls (p + f1) (q + f2) (t + kx) rp rb rk y.1)
          rw [← hft] at h
          exact h
        rw [← hft] at HFY HFN hfi
        have HW2 := hide (HBW.out.trans (HBX.out.mono HBW.out.size))
        clear hft n0 n1 n2 r3 r4 r5 HPW HAB1 HBW HBX HCL
        go_wp2_with fail
        refine wp_region_bel (by kernel_rfl) (by kernel_rfl) ?_
        repeat (refine WQ.step (fun K hK => ?_); go_simp; first | (refine hK _ ?_; clear hK K) | (apply Exists.intro; refine ⟨fun _ => ?_, hK _ ?_⟩; (go_at_call 136; exact HFT.out _); clear hK K))
        refine WQ.nil ?_
        rintro w3 ⟨⟨w3, hb3⟩, rfl⟩
        have HP3 := hide (HP2.out.below hb3)
        have HNX3 := hide (HNX2.out.below hb3 (lt_blk HNX2.out))
        have HAB3 := hide (HAB2.out.below hb3 (lt_blk HAB2.out))
        have HW3 := hide (HW2.out.trans (hb3.mono HW2.out.size))
        clear hb3 M0 M1 M2 M3 M4 M5 HFT HP2 HNX2 HAB2 HW2
        cases ft
        · have HE := hide (HFN.out rfl)
          clear hfi HFY HFN
          go_wp2
          go_roundw
          case rel => exact ⟨j + 1, l', _, _, u3, few', fd', by omega, by go_num, by rw [Nat.succ_mul]; omega, hlb, by rw [HE.out]; exact HP3.out, HKr.out.trans (Kp.of_below HW3.out)⟩
          case measure => simp [intOf]; omega
        · have HE := hide (HFY.out rfl)
          have hfb := hfi.1 rfl
          clear hfi HFY HFN
          go_upto_region 16 with fail
          go_cut [] (fun wx => wx = (((World.setCell w3.drew ⟨b1, j * 3, none⟩ (.int .i64 (p + f1))).setCell ⟨b1, j * 3 + 1, none⟩ (.int .i64 (q + f2))).setCell ⟨b1, j * 3 + 2, none⟩ (.int .i64 (t + kx))))
          case first => as_aux_lemma =>
            --[
            obtain ⟨wd, hwd⟩ : ∃ wd : World, wd = w3.drew := ⟨_, rfl⟩
            have HS0 : Hid ((fun W => Below g w3 W) wd) := by rw [hwd]; exact (Below.refl g w3).drew
            have HWD := hide hwd
            have HPd : Hid (LdP wd g (some ⟨b, off, none⟩) n c ⟨rp, rb, rk⟩ l' (.slice (some ⟨b1, 0, none⟩) m c1) (.slice A2 k c2) u3 few' fd' ons rs B) := by rw [HWD.out]; exact HP3.out.keep fun _ _ => rfl
            have HNXd : Hid (At3 87 wd b' (.int .i64 (p + f1)) (.int .i64 (q + f2)) (.int .i64 (t + kx))) := by rw [HWD.out]; exact HNX3.out
            refine wp_region_held_drew (S := fun W => Below g w3 W) (by kernel_rfl) (by rw [← hwd]; exact HS0.out) (fun _ => ?_)
            rw [← hwd]
            clear hwd
            refine takeH 0 153 (.pointer (some ⟨g, 0, none⟩)) ⟨_, rfl, rfl, rfl, ?_⟩ (by kernel_rfl) (by kernel_rfl) (by kernel_rfl) (fun _ _ _ h => h) HS0.out ?_
            · intro wz hSw; go_simp
            try simp only [Act.put, List.setIfInBounds_toArray, List.set_cons_zero, List.set_cons_succ]
            refine takeH 1 154 (.pointer (some ⟨g, 0, none⟩)) ⟨_, rfl, rfl, rfl, ?_⟩ (by kernel_rfl) (by kernel_rfl) (by kernel_rfl) (fun _ _ _ h => h) HS0.out ?_
            · intro wz hSw; go_simp
            try simp only [Act.put, List.setIfInBounds_toArray, List.set_cons_zero, List.set_cons_succ]
            refine takeH 2 155 (.pointer (some ⟨g, 6, none⟩)) ⟨_, rfl, rfl, rfl, ?_⟩ (by kernel_rfl) (by kernel_rfl) (by kernel_rfl) (fun _ _ _ h => h) HS0.out ?_
            · intro wz hSw; go_simp
            try simp only [Act.put, List.setIfInBounds_toArray, List.set_cons_zero, List.set_cons_succ]
            refine takeH 4 157 (.int .i64 (j : Int)) ⟨_, rfl, rfl, rfl, ?_⟩ (by kernel_rfl) (by kernel_rfl) (by kernel_rfl) (fun _ _ _ h => h) HS0.out ?_
            · intro wz hSw; go_simp
            try simp only [Act.put, List.setIfInBounds_toArray, List.set_cons_zero, List.set_cons_succ]
            refine wpAnyH_ready (rs := [3, 5]) (by kernel_rfl) (by simp) ?_
            refine AllReadyH.cons rfl (fun K hK => ?_) (AllReadyH.cons rfl (fun K hK => ?_) AllReadyH.nil)
            · obtain ⟨_, _, _, _, _, _, y1, _, _, _, _⟩ := HPd.out.cells
              go_simp
              try go_wp2_with fail
              refine hK.out _ _ HS0.out (fun _ => ?_)
              clear y1
              clear hK K
              try simp only [Act.put, List.setIfInBounds_toArray, List.set_cons_zero, List.set_cons_succ]
              refine wpAnyH_ready (rs := [5]) (by kernel_rfl) (by simp) ?_
              refine AllReadyH.cons rfl (fun K hK => ?_) AllReadyH.nil
              obtain ⟨y2, y502, y902, _⟩ := HNXd.out.out
              go_simp
              try go_wp2_with fail
              refine hK.out _ _ HS0.out (fun _ => ?_)
              clear y2 y502 y902
              clear hK K
              try simp only [Act.put, List.setIfInBounds_toArray, List.set_cons_zero, List.set_cons_succ]
              refine takeH 6 159 (.pointer (some ⟨b1, j * 3, none⟩)) ⟨_, rfl, rfl, rfl, ?_⟩ (by kernel_rfl) (by kernel_rfl) (by kernel_rfl) (fun _ _ _ h => h) HS0.out ?_
              · intro wz hSw; go_simp
              try simp only [Act.put, List.setIfInBounds_toArray, List.set_cons_zero, List.set_cons_succ]
              refine wpAnyH_ready (rs := [7]) (by kernel_rfl) (by simp) ?_
              refine AllReadyH.cons rfl (fun K hK => ?_) AllReadyH.nil
              obtain ⟨hq3, _, _, _, _, _, ⟨y3, y503, y603⟩, ⟨y703, y803, y903⟩, _⟩ := HPd.out.putOn HM.out hjm
              have HSq3 := hide (((Below.setCell HS0.out (p := ⟨b1, j * 3, none⟩) (Nat.le_of_lt hq3) (.int .i64 (p + f1))).setCell (p := ⟨b1, j * 3 + 1, none⟩) (Nat.le_of_lt hq3) (.int .i64 (q + f2))).setCell (p := ⟨b1, j * 3 + 2, none⟩) (Nat.le_of_lt hq3) (.int .i64 (t + kx)))
              go_simp
              try go_wp2_with fail
              refine hK.out _ _ HSq3.out (fun _ => ?_)
              clear y3 y503 y603 y703 y803 y903
              clear hK K
              try simp only [Act.put, List.setIfInBounds_toArray, List.set_cons_zero, List.set_cons_succ]
              refine wpAnyH_done (by kernel_rfl) ?_ _
              go_wp2_with fail
              go_meet
              case rel => rw [HWD.out]
            · obtain ⟨y4, y504, y904, _⟩ := HNXd.out.out
              go_simp
              try go_wp2_with fail
              refine hK.out _ _ HS0.out (fun _ => ?_)
              clear y4 y504 y904
              clear hK K
              try simp only [Act.put, List.setIfInBounds_toArray, List.set_cons_zero, List.set_cons_succ]
              refine wpAnyH_ready (rs := [3]) (by kernel_rfl) (by simp) ?_
              refine AllReadyH.cons rfl (fun K hK => ?_) AllReadyH.nil
              obtain ⟨_, _, _, _, _, _, y5, _, _, _, _⟩ := HPd.out.cells
              go_simp
              try go_wp2_with fail
              refine hK.out _ _ HS0.out (fun _ => ?_)
              clear y5
              clear hK K
              try simp only [Act.put, List.setIfInBounds_toArray, List.set_cons_zero, List.set_cons_succ]
              refine takeH 6 159 (.pointer (some ⟨b1, j * 3, none⟩)) ⟨_, rfl, rfl, rfl, ?_⟩ (by kernel_rfl) (by kernel_rfl) (by kernel_rfl) (fun _ _ _ h => h) HS0.out ?_
              · intro wz hSw; go_simp
              try simp only [Act.put, List.setIfInBounds_toArray, List.set_cons_zero, List.set_cons_succ]
              refine wpAnyH_ready (rs := [7]) (by kernel_rfl) (by simp) ?_
              refine AllReadyH.cons rfl (fun K hK => ?_) AllReadyH.nil
              obtain ⟨hq6, _, _, _, _, _, ⟨y6, y506, y606⟩, ⟨y706, y806, y906⟩, _⟩ := HPd.out.putOn HM.out hjm
              have HSq6 := hide (((Below.setCell HS0.out (p := ⟨b1, j * 3, none⟩) (Nat.le_of_lt hq6) (.int .i64 (p + f1))).setCell (p := ⟨b1, j * 3 + 1, none⟩) (Nat.le_of_lt hq6) (.int .i64 (q + f2))).setCell (p := ⟨b1, j * 3 + 2, none⟩) (Nat.le_of_lt hq6) (.int .i64 (t + kx)))
              go_simp
              try go_wp2_with fail
              refine hK.out _ _ HSq6.out (fun _ => ?_)
              clear y6 y506 y606 y706 y806 y906
              clear hK K
              try simp only [Act.put, List.setIfInBounds_toArray, List.set_cons_zero, List.set_cons_succ]
              refine wpAnyH_done (by kernel_rfl) ?_ _
              go_wp2_with fail
              go_meet
              case rel => rw [HWD.out]
            --]
          case rest => as_aux_lemma =>
            obtain ⟨w4, rfl⟩ : ∃ w4 : World, w4 = wc := ⟨_, rfl⟩
            have hp3d : LdP w3.drew g (some ⟨b, off, none⟩) n c ⟨rp, rb, rk⟩ l' (.slice (some ⟨b1, 0, none⟩) m c1) (.slice A2 k c2) u3 few' fd' ons rs B := HP3.out.keep fun _ _ => rfl
            obtain ⟨_, _, _, _, _, _, _, _, hput⟩ := hp3d.putOn HM.out hjm
            have HP4 : Hid (LdP w4 g (some ⟨b, off, none⟩) n c ⟨rp, rb, rk⟩ l' (.slice (some ⟨b1, 0, none⟩) m c1) (.slice A2 k c2) u3 few' fd' (ons.set j nx) rs B) := by
              rw [HNX.out, hcut]
              exact hput.out ⟨p + f1, q + f2, t + kx⟩
            have HK4 : Hid (Kp wr w4 g (.slice (some ⟨b1, 0, none⟩) m c1) (.slice A2 k c2) (.slice (some ⟨b1, 0, none⟩) m c1) (.slice A2 k c2)) := by
              rw [hcut]
              exact (Kp.of_below HW3.out).trans ((Kp.of_below (Below.refl _ _).drew).trans Kp.put)
            have hBne : wr.heap.size ≠ b1 := by omega
            have HAB4 : Hid (At3 87 w4 wr.heap.size (.int .i64 p) (.int .i64 q) (.int .i64 t)) := by
              rw [hcut]
              exact ((At3.other (C := b1) (show At3 87 w3.drew wr.heap.size (.int .i64 p) (.int .i64 q) (.int .i64 t) from HAB3.out) hBne).other hBne).other hBne
            have HR4 := hide (HP4.out.rdk HKK.out)
            obtain ⟨_, _, _, _, _, _, _, z7, _⟩ := HP4.out.cells
            have hz4 := HP4.out.lt
            have hz4a := HK4.out.size
            clear hcut hp3d hput HP3 HAB3 HW3 HNX3
            go_wp2_with (at_builtin; refine appI_at rfl _ _ rfl (g + 1) (.slice A2 k c2) k rs j rfl HR4.out rfl (by omega) (by omega) ?_; intro va wa hown hgrow hat; obtain ⟨A3, c3, rfl⟩ := own_slice hown; obtain ⟨y7, fy7⟩ := HP4.out.cell2 hgrow)
            obtain ⟨w6, hw6⟩ : ∃ w6, w6 = wa.setCell ⟨g, 7, none⟩ (.slice A3 (k + 1) c3) := ⟨_, rfl⟩
            rw [← hw6]
            have HP6 : Hid (LdP w6 g (some ⟨b, off, none⟩) n c ⟨rp, rb, rk⟩ l' (.slice (some ⟨b1, 0, none⟩) m c1) (.slice A3 (k + 1) c3) u3 few' fd' (ons.set j nx) (rs ++ [(j : Int)]) B) := by
              rw [hw6]
              exact HP4.out.push (own_k hown (by rw [HKK.out])) hgrow hat
            have hk46 : Kp w4 w6 g (.slice (some ⟨b1, 0, none⟩) m c1) (.slice A2 k c2) (.slice (some ⟨b1, 0, none⟩) m c1) (.slice A3 (k + 1) c3) := by
              rw [hw6]
              exact (Kp.grow2 hgrow hat).trans Kp.set
            have HK6 := hide (HK4.out.trans hk46)
            have hB1 : (Value.slice (some ⟨b1, 0, none⟩) m c1).ownBlock ≠ some wr.heap.size := fun e => hBne (by simpa [Value.ownBlock] using e.symm)
            have hB2 : (Value.slice A2 k c2).ownBlock ≠ some wr.heap.size := fun e => by have := (own_lt HPr.out.rd e).2; omega
            have hAB6 := Kp.at3 HP4.out hk46 HAB4.out (by decide) (by omega) hB1 hB2
            have hB3 : (Value.slice A3 (k + 1) c3).ownBlock ≠ some wr.heap.size := fun e => by
              rcases hat with h | h
              · rw [h] at e; exact hB2 e
              · rw [h] at e; simp only [Option.some.injEq] at e; have := lt_blk HAB4.out; omega
            have HAB6 := hide (And.intro hAB6 (And.intro hB1 hB3))
            have hz6 := HK6.out.size
            clear hw6 hown hgrow hat hk46 hB2 hAB6 y7 fy7 z7 HP4 HK4 HAB4 HR4
            have hsl : (ons.set j nx).length = m := by rw [List.length_set, ← HM.out]
            have hrl : (rs ++ [(j : Int)]).length = k + 1 := by rw [List.length_append, ← HKK.out]; rfl
            have IH := hide (HIH.out (ons.set j nx) (rs ++ [(j : Int)]) B l' _ _ u3 few' fd' w6 (by rw [hrl]; exact HRE.out) (by rw [hrl]; have := HRL.out; omega) (by rw [hsl, hrl]; omega) (fun o ho => by
                rcases List.mem_or_eq_of_mem_set ho with h | h
                · exact HSM.out o h
                · rw [h, HNX.out]; unfold SmO; simp only; omega) (fun y hy => by
                rcases List.mem_append.1 hy with h | h
                · exact HRI.out y h
                · have : y = (j : Int) := by simpa using h
                  omega) (by rw [hsl, ← (show N1 = nodZ rest.length m by rw [HM.out]; exact HN1.out)]; have h1 : (j + 1) * N1 ≤ m * N1 := Nat.mul_le_mul_right _ (by omega); rw [Nat.succ_mul] at h1; omega) (by omega) (fun W hW => HL.out W (HBr.out.trans ((Kp.below HPr.out HK6.out).trans hW))) HP6.out)
            rw [hsl, ← (show N1 = nodZ rest.length m by rw [HM.out]; exact HN1.out)] at IH
            clear hsl hrl
            (try go_wp2_with fail)
            refine IH.out.mono ?_
            rintro e w7 ⟨rfl, l7, v17, v27, x3, few7, fd7, hl7a, hl7b, hp7, hk7⟩
            obtain ⟨B7, hB7⟩ : ∃ B7, B7 = goZ ⟨rp, rb, rk⟩ rest (ons.set j nx) (rs ++ [(j : Int)]) B := ⟨_, rfl⟩
            rw [← hB7] at hp7
            obtain ⟨A5, c3, A4, c4, e1, e2, hc3, hc4⟩ := hp7.vals (m := m) (k := k + 1) (by rw [List.length_set]; exact HM.out) (by rw [List.length_append, ← HKK.out]; rfl)
            subst e1
            subst e2
            have HM7 : Hid (m = (ons.set j nx).length) := by unfold Hid; rw [List.length_set]; exact HM.out
            obtain ⟨b3, hb3⟩ := hp7.addr HM7.out (by omega)
            subst hb3
            have HP7 := hide hp7
            have HK7 := hide hk7
            have HAB7 : Hid (At3 87 w7 wr.heap.size (.int .i64 p) (.int .i64 q) (.int .i64 t)) := Kp.at3 HP6.out hk7 HAB6.out.1 (by decide) (by omega) HAB6.out.2.1 HAB6.out.2.2
            have hb3ne : wr.heap.size ≠ b3 := fun e => HAB6.out.2.1 (hk7.o1 _ (by rw [e]; rfl) (lt_blk HAB6.out.1))
            have hgb3 : g < b3 := (hp7.putOn HM7.out hjm).1
            have HE7 := hide (HE.out.trans hB7.symm)
            clear hp7 hk7 hB7 IH HP6 HAB6 HE
            have HFIN : Hid (∀ w8, w8 = World.setCell (((World.setCell w7.drew ⟨b3, j * 3, none⟩ (.int .i64 p)).setCell ⟨b3, j * 3 + 1, none⟩ (.int .i64 q)).setCell ⟨b3, j * 3 + 2, none⟩ (.int .i64 t)) ⟨g, 7, none⟩ (.slice A4 k c4) → LdP w8 g (some ⟨b, off, none⟩) n c ⟨rp, rb, rk⟩ l7 (.slice (some ⟨b3, 0, none⟩) m c3) (.slice A4 k c4) x3 few7 fd7 ons rs B7 ∧ Kp w w8 g v1 v2 (.slice (some ⟨b3, 0, none⟩) m c3) (.slice A4 k c4)) := fun w8 hcut => by
              have hp7d : LdP w7.drew g (some ⟨b, off, none⟩) n c ⟨rp, rb, rk⟩ l7 (.slice (some ⟨b3, 0, none⟩) m c3) (.slice A4 (k + 1) c4) x3 few7 fd7 (ons.set j nx) (rs ++ [(j : Int)]) B7 := HP7.out.keep fun _ _ => rfl
              obtain ⟨_, _, _, _, _, _, _, _, hput⟩ := hp7d.putOn HM7.out hjm
              have h8 := hput.out ⟨p, q, t⟩
              rw [HST.out] at h8
              have h9 := h8.cutR (by rw [HKK.out])
              rw [← HKK.out] at h9
              have h10 : Kp w7 w8 g (.slice (some ⟨b3, 0, none⟩) m c3) (.slice A4 (k + 1) c4) (.slice (some ⟨b3, 0, none⟩) m c3) (.slice A4 (k + 1) c4) := by
                rw [hcut]
                exact ((Kp.of_below (Below.refl _ _).drew).trans Kp.put).trans Kp.set
              exact ⟨by rw [hcut]; exact h9, (((HKr.out.trans HK6.out).trans HK7.out).trans h10).as rfl blk_slice⟩
            go_upto_region 19 with fail
            obtain ⟨wd, hwd⟩ : ∃ wd : World, wd = w7.drew := ⟨_, rfl⟩
            have HS0 : Hid ((fun W => Below g w7 W) wd) := by rw [hwd]; exact (Below.refl g w7).drew
            have HWD := hide hwd
            have HPd : Hid (LdP wd g (some ⟨b, off, none⟩) n c ⟨rp, rb, rk⟩ l7 (.slice (some ⟨b3, 0, none⟩) m c3) (.slice A4 (k + 1) c4) x3 few7 fd7 (ons.set j nx) (rs ++ [(j : Int)]) B7) := by rw [HWD.out]; exact HP7.out.keep fun _ _ => rfl
            have HABd : Hid (At3 87 wd wr.heap.size (.int .i64 p) (.int .i64 q) (.int .i64 t)) := by rw [HWD.out]; exact HAB7.out
            obtain ⟨_, _, _, _, _, _, _, _, hput⟩ := HPd.out.putOn HM7.out hjm
            have HPP := hide (hput.out ⟨p, q, t⟩)
            clear hput
            simp only [List.set_set] at HPP
            refine wp_region_held_drew (S := fun W => Below g w7 W) (by kernel_rfl) (by rw [← hwd]; exact HS0.out) (fun _ => ?_)
            rw [← hwd]
            clear hwd
            refine takeH 0 172 (.pointer (some ⟨g, 0, none⟩)) ⟨_, rfl, rfl, rfl, ?_⟩ (by kernel_rfl) (by kernel_rfl) (by kernel_rfl) (fun _ _ _ h => h) HS0.out ?_
            · intro wz hSw; go_simp
            try simp only [Act.put, List.setIfInBounds_toArray, List.set_cons_zero, List.set_cons_succ]
            refine takeH 1 173 (.pointer (some ⟨g, 0, none⟩)) ⟨_, rfl, rfl, rfl, ?_⟩ (by kernel_rfl) (by kernel_rfl) (by kernel_rfl) (fun _ _ _ h => h) HS0.out ?_
            · intro wz hSw; go_simp
            try simp only [Act.put, List.setIfInBounds_toArray, List.set_cons_zero, List.set_cons_succ]
            refine takeH 2 174 (.pointer (some ⟨g, 6, none⟩)) ⟨_, rfl, rfl, rfl, ?_⟩ (by kernel_rfl) (by kernel_rfl) (by kernel_rfl) (fun _ _ _ h => h) HS0.out ?_
            · intro wz hSw; go_simp
            try simp only [Act.put, List.setIfInBounds_toArray, List.set_cons_zero, List.set_cons_succ]
            refine takeH 4 176 (.int .i64 (j : Int)) ⟨_, rfl, rfl, rfl, ?_⟩ (by kernel_rfl) (by kernel_rfl) (by kernel_rfl) (fun _ _ _ h => h) HS0.out ?_
            · intro wz hSw; go_simp
            try simp only [Act.put, List.setIfInBounds_toArray, List.set_cons_zero, List.set_cons_succ]
            refine takeH 5 177 (.pointer (some ⟨g, 0, none⟩)) ⟨_, rfl, rfl, rfl, ?_⟩ (by kernel_rfl) (by kernel_rfl) (by kernel_rfl) (fun _ _ _ h => h) HS0.out ?_
            · intro wz hSw; go_simp
            try simp only [Act.put, List.setIfInBounds_toArray, List.set_cons_zero, List.set_cons_succ]
            refine takeH 7 179 (.pointer (some ⟨g, 0, none⟩)) ⟨_, rfl, rfl, rfl, ?_⟩ (by kernel_rfl) (by kernel_rfl) (by kernel_rfl) (fun _ _ _ h => h) HS0.out ?_
            · intro wz hSw; go_simp
            try simp only [Act.put, List.setIfInBounds_toArray, List.set_cons_zero, List.set_cons_succ]
            refine takeH 8 180 (.pointer (some ⟨g, 0, none⟩)) ⟨_, rfl, rfl, rfl, ?_⟩ (by kernel_rfl) (by kernel_rfl) (by kernel_rfl) (fun _ _ _ h => h) HS0.out ?_
            · intro wz hSw; go_simp
            try simp only [Act.put, List.setIfInBounds_toArray, List.set_cons_zero, List.set_cons_succ]
            refine takeH 9 181 (.pointer (some ⟨g, 7, none⟩)) ⟨_, rfl, rfl, rfl, ?_⟩ (by kernel_rfl) (by kernel_rfl) (by kernel_rfl) (fun _ _ _ h => h) HS0.out ?_
            · intro wz hSw; go_simp
            try simp only [Act.put, List.setIfInBounds_toArray, List.set_cons_zero, List.set_cons_succ]
            refine takeH 11 183 (.int .i64 (k : Int)) ⟨_, rfl, rfl, rfl, ?_⟩ (by kernel_rfl) (by kernel_rfl) (by kernel_rfl) (fun _ _ _ h => h) HS0.out ?_
            · intro wz hSw; go_simp
            try simp only [Act.put, List.setIfInBounds_toArray, List.set_cons_zero, List.set_cons_succ]
            refine wpAnyH_ready (rs := [3, 6, 10]) (by kernel_rfl) (by simp) ?_
            refine AllReadyH.cons rfl (fun K hK => ?_) (AllReadyH.cons rfl (fun K hK => ?_) (AllReadyH.cons rfl (fun K hK => ?_) AllReadyH.nil))
            · obtain ⟨_, _, _, _, _, _, y1, _, _, _, _⟩ := HPd.out.cells
              go_simp
              try go_wp2_with fail
              refine hK.out _ _ HS0.out (fun _ => ?_)
              clear y1
              clear hK K
              try simp only [Act.put, List.setIfInBounds_toArray, List.set_cons_zero, List.set_cons_succ]
              refine wpAnyH_ready (rs := [6, 10]) (by kernel_rfl) (by simp) ?_
              refine AllReadyH.cons rfl (fun K hK => ?_) (AllReadyH.cons rfl (fun K hK => ?_) AllReadyH.nil)
              · obtain ⟨y2, y502, y902, _⟩ := HABd.out.out
                go_simp
                try go_wp2_with fail
                refine hK.out _ _ HS0.out (fun _ => ?_)
                clear y2 y502 y902
                clear hK K
                try simp only [Act.put, List.setIfInBounds_toArray, List.set_cons_zero, List.set_cons_succ]
                refine wpAnyH_ready (rs := [10]) (by kernel_rfl) (by simp) ?_
                refine AllReadyH.cons rfl (fun K hK => ?_) AllReadyH.nil
                obtain ⟨_, _, _, _, _, _, _, y3, _, _, _⟩ := HPd.out.cells
                go_simp
                try go_wp2_with fail
                refine hK.out _ _ HS0.out (fun _ => ?_)
                clear y3
                clear hK K
                try simp only [Act.put, List.setIfInBounds_toArray, List.set_cons_zero, List.set_cons_succ]
                refine takeH 12 184 (.slice A4 k c4) ⟨_, rfl, rfl, rfl, ?_⟩ (by kernel_rfl) (by kernel_rfl) (by kernel_rfl) (fun _ _ _ h => h) HS0.out ?_
                · intro wz hSw; go_simp <;> (intro hq; omega)
                try simp only [Act.put, List.setIfInBounds_toArray, List.set_cons_zero, List.set_cons_succ]
                refine takeH 13 185 (.pointer (some ⟨b3, j * 3, none⟩)) ⟨_, rfl, rfl, rfl, ?_⟩ (by kernel_rfl) (by kernel_rfl) (by kernel_rfl) (fun _ _ _ h => h) HS0.out ?_
                · intro wz hSw; go_simp
                try simp only [Act.put, List.setIfInBounds_toArray, List.set_cons_zero, List.set_cons_succ]
                refine wpAnyH_ready (rs := [14]) (by kernel_rfl) (by simp) ?_
                refine AllReadyH.cons rfl (fun K hK => ?_) AllReadyH.nil
                obtain ⟨hq4, _, _, _, _, _, ⟨y4, y504, y604⟩, ⟨y704, y804, y904⟩, _⟩ := HPd.out.putOn HM7.out hjm
                have HSq4 := hide (((Below.setCell HS0.out (p := ⟨b3, j * 3, none⟩) (Nat.le_of_lt hq4) (.int .i64 p)).setCell (p := ⟨b3, j * 3 + 1, none⟩) (Nat.le_of_lt hq4) (.int .i64 q)).setCell (p := ⟨b3, j * 3 + 2, none⟩) (Nat.le_of_lt hq4) (.int .i64 t))
                go_simp
                try go_wp2_with fail
                refine hK.out _ _ HSq4.out (fun _ => ?_)
                clear y4 y504 y604 y704 y804 y904
                clear hK K
                try simp only [Act.put, List.setIfInBounds_toArray, List.set_cons_zero, List.set_cons_succ]
                refine takeH 15 186 (.pointer (some ⟨g, 0, none⟩)) ⟨_, rfl, rfl, rfl, ?_⟩ (by kernel_rfl) (by kernel_rfl) (by kernel_rfl) (fun _ _ _ h => h) HSq4.out ?_
                · intro wz hSw; go_simp
                try simp only [Act.put, List.setIfInBounds_toArray, List.set_cons_zero, List.set_cons_succ]
                refine takeH 16 187 (.pointer (some ⟨g, 7, none⟩)) ⟨_, rfl, rfl, rfl, ?_⟩ (by kernel_rfl) (by kernel_rfl) (by kernel_rfl) (fun _ _ _ h => h) HSq4.out ?_
                · intro wz hSw; go_simp
                try simp only [Act.put, List.setIfInBounds_toArray, List.set_cons_zero, List.set_cons_succ]
                refine wpAnyH_ready (rs := [17]) (by kernel_rfl) (by simp) ?_
                refine AllReadyH.cons rfl (fun K hK => ?_) AllReadyH.nil
                obtain ⟨y5, y505⟩ := And.intro (HPP.out.cells.2.2.2.2.2.2.2.1) (HPP.out.fz 7)
                have HSq5 := hide (Below.setCell HSq4.out (p := ⟨g, 7, none⟩) (Nat.le_refl g) (.slice A4 k c4))
                go_simp
                try go_wp2_with fail
                refine hK.out _ _ HSq5.out (fun _ => ?_)
                clear y5 y505
                clear hK K
                try simp only [Act.put, List.setIfInBounds_toArray, List.set_cons_zero, List.set_cons_succ]
                refine wpAnyH_done (by kernel_rfl) ?_ _
                go_wp2
                go_roundw
                case rel => exact ⟨j + 1, l7, _, _, x3, few7, fd7, by omega, by go_num, by rw [Nat.succ_mul]; omega, by omega, by rw [HE7.out]; exact (HFIN.out _ (by rw [HWD.out])).1, (HFIN.out _ (by rw [HWD.out])).2⟩
                case measure => simp [intOf]; omega
              · obtain ⟨_, _, _, _, _, _, _, y6, _, _, _⟩ := HPd.out.cells
                go_simp
                try go_wp2_with fail
                refine hK.out _ _ HS0.out (fun _ => ?_)
                clear y6
                clear hK K
                try simp only [Act.put, List.setIfInBounds_toArray, List.set_cons_zero, List.set_cons_succ]
                refine takeH 12 184 (.slice A4 k c4) ⟨_, rfl, rfl, rfl, ?_⟩ (by kernel_rfl) (by kernel_rfl) (by kernel_rfl) (fun _ _ _ h => h) HS0.out ?_
                · intro wz hSw; go_simp <;> (intro hq; omega)
                try simp only [Act.put, List.setIfInBounds_toArray, List.set_cons_zero, List.set_cons_succ]
                refine wpAnyH_ready (rs := [6]) (by kernel_rfl) (by simp) ?_
                refine AllReadyH.cons rfl (fun K hK => ?_) AllReadyH.nil
                obtain ⟨y7, y507, y907, _⟩ := HABd.out.out
                go_simp
                try go_wp2_with fail
                refine hK.out _ _ HS0.out (fun _ => ?_)
                clear y7 y507 y907
                clear hK K
                try simp only [Act.put, List.setIfInBounds_toArray, List.set_cons_zero, List.set_cons_succ]
                refine takeH 13 185 (.pointer (some ⟨b3, j * 3, none⟩)) ⟨_, rfl, rfl, rfl, ?_⟩ (by kernel_rfl) (by kernel_rfl) (by kernel_rfl) (fun _ _ _ h => h) HS0.out ?_
                · intro wz hSw; go_simp
                try simp only [Act.put, List.setIfInBounds_toArray, List.set_cons_zero, List.set_cons_succ]
                refine wpAnyH_ready (rs := [14]) (by kernel_rfl) (by simp) ?_
                refine AllReadyH.cons rfl (fun K hK => ?_) AllReadyH.nil
                obtain ⟨hq8, _, _, _, _, _, ⟨y8, y508, y608⟩, ⟨y708, y808, y908⟩, _⟩ := HPd.out.putOn HM7.out hjm
                have HSq8 := hide (((Below.setCell HS0.out (p := ⟨b3, j * 3, none⟩) (Nat.le_of_lt hq8) (.int .i64 p)).setCell (p := ⟨b3, j * 3 + 1, none⟩) (Nat.le_of_lt hq8) (.int .i64 q)).setCell (p := ⟨b3, j * 3 + 2, none⟩) (Nat.le_of_lt hq8) (.int .i64 t))
                go_simp
                try go_wp2_with fail
                refine hK.out _ _ HSq8.out (fun _ => ?_)
                clear y8 y508 y608 y708 y808 y908
                clear hK K
                try simp only [Act.put, List.setIfInBounds_toArray, List.set_cons_zero, List.set_cons_succ]
                refine takeH 15 186 (.pointer (some ⟨g, 0, none⟩)) ⟨_, rfl, rfl, rfl, ?_⟩ (by kernel_rfl) (by kernel_rfl) (by kernel_rfl) (fun _ _ _ h => h) HSq8.out ?_
                · intro wz hSw; go_simp
                try simp only [Act.put, List.setIfInBounds_toArray, List.set_cons_zero, List.set_cons_succ]
                refine takeH 16 187 (.pointer (some ⟨g, 7, none⟩)) ⟨_, rfl, rfl, rfl, ?_⟩ (by kernel_rfl) (by kernel_rfl) (by kernel_rfl) (fun _ _ _ h => h) HSq8.out ?_
                · intro wz hSw; go_simp
                try simp only [Act.put, List.setIfInBounds_toArray, List.set_cons_zero, List.set_cons_succ]
                refine wpAnyH_ready (rs := [17]) (by kernel_rfl) (by simp) ?_
                refine AllReadyH.cons rfl (fun K hK => ?_) AllReadyH.nil
                obtain ⟨y9, y509⟩ := And.intro (HPP.out.cells.2.2.2.2.2.2.2.1) (HPP.out.fz 7)
                have HSq9 := hide (Below.setCell HSq8.out (p := ⟨g, 7, none⟩) (Nat.le_refl g) (.slice A4 k c4))
                go_simp
                try go_wp2_with fail
                refine hK.out _ _ HSq9.out (fun _ => ?_)
                clear y9 y509
                clear hK K
                try simp only [Act.put, List.setIfInBounds_toArray, List.set_cons_zero, List.set_cons_succ]
                refine wpAnyH_done (by kernel_rfl) ?_ _
                go_wp2
                go_roundw
                case rel => exact ⟨j + 1, l7, _, _, x3, few7, fd7, by omega, by go_num, by rw [Nat.succ_mul]; omega, by omega, by rw [HE7.out]; exact (HFIN.out _ (by rw [HWD.out])).1, (HFIN.out _ (by rw [HWD.out])).2⟩
                case measure => simp [intOf]; omega
            · obtain ⟨y10, y510, y910, _⟩ := HABd.out.out
              go_simp
              try go_wp2_with fail
              refine hK.out _ _ HS0.out (fun _ => ?_)
              clear y10 y510 y910
              clear hK K
              try simp only [Act.put, List.setIfInBounds_toArray, List.set_cons_zero, List.set_cons_succ]
              refine wpAnyH_ready (rs := [3, 10]) (by kernel_rfl) (by simp) ?_
              refine AllReadyH.cons rfl (fun K hK => ?_) (AllReadyH.cons rfl (fun K hK => ?_) AllReadyH.nil)
              · obtain ⟨_, _, _, _, _, _, y11, _, _, _, _⟩ := HPd.out.cells
                go_simp
                try go_wp2_with fail
                refine hK.out _ _ HS0.out (fun _ => ?_)
                clear y11
                clear hK K
                try simp only [Act.put, List.setIfInBounds_toArray, List.set_cons_zero, List.set_cons_succ]
                refine wpAnyH_ready (rs := [10]) (by kernel_rfl) (by simp) ?_
                refine AllReadyH.cons rfl (fun K hK => ?_) AllReadyH.nil
                obtain ⟨_, _, _, _, _, _, _, y12, _, _, _⟩ := HPd.out.cells
                go_simp
                try go_wp2_with fail
                refine hK.out _ _ HS0.out (fun _ => ?_)
                clear y12
                clear hK K
                try simp only [Act.put, List.setIfInBounds_toArray, List.set_cons_zero, List.set_cons_succ]
                refine takeH 12 184 (.slice A4 k c4) ⟨_, rfl, rfl, rfl, ?_⟩ (by kernel_rfl) (by kernel_rfl) (by kernel_rfl) (fun _ _ _ h => h) HS0.out ?_
                · intro wz hSw; go_simp <;> (intro hq; omega)
                try simp only [Act.put, List.setIfInBounds_toArray, List.set_cons_zero, List.set_cons_succ]
                refine takeH 13 185 (.pointer (some ⟨b3, j * 3, none⟩)) ⟨_, rfl, rfl, rfl, ?_⟩ (by kernel_rfl) (by kernel_rfl) (by kernel_rfl) (fun _ _ _ h => h) HS0.out ?_
                · intro wz hSw; go_simp
                try simp only [Act.put, List.setIfInBounds_toArray, List.set_cons_zero, List.set_cons_succ]
                refine wpAnyH_ready (rs := [14]) (by kernel_rfl) (by simp) ?_
                refine AllReadyH.cons rfl (fun K hK => ?_) AllReadyH.nil
                obtain ⟨hq13, _, _, _, _, _, ⟨y13, y513, y613⟩, ⟨y713, y813, y913⟩, _⟩ := HPd.out.putOn HM7.out hjm
                have HSq13 := hide (((Below.setCell HS0.out (p := ⟨b3, j * 3, none⟩) (Nat.le_of_lt hq13) (.int .i64 p)).setCell (p := ⟨b3, j * 3 + 1, none⟩) (Nat.le_of_lt hq13) (.int .i64 q)).setCell (p := ⟨b3, j * 3 + 2, none⟩) (Nat.le_of_lt hq13) (.int .i64 t))
                go_simp
                try go_wp2_with fail
                refine hK.out _ _ HSq13.out (fun _ => ?_)
                clear y13 y513 y613 y713 y813 y913
                clear hK K
                try simp only [Act.put, List.setIfInBounds_toArray, List.set_cons_zero, List.set_cons_succ]
                refine takeH 15 186 (.pointer (some ⟨g, 0, none⟩)) ⟨_, rfl, rfl, rfl, ?_⟩ (by kernel_rfl) (by kernel_rfl) (by kernel_rfl) (fun _ _ _ h => h) HSq13.out ?_
                · intro wz hSw; go_simp
                try simp only [Act.put, List.setIfInBounds_toArray, List.set_cons_zero, List.set_cons_succ]
                refine takeH 16 187 (.pointer (some ⟨g, 7, none⟩)) ⟨_, rfl, rfl, rfl, ?_⟩ (by kernel_rfl) (by kernel_rfl) (by kernel_rfl) (fun _ _ _ h => h) HSq13.out ?_
                · intro wz hSw; go_simp
                try simp only [Act.put, List.setIfInBounds_toArray, List.set_cons_zero, List.set_cons_succ]
                refine wpAnyH_ready (rs := [17]) (by kernel_rfl) (by simp) ?_
                refine AllReadyH.cons rfl (fun K hK => ?_) AllReadyH.nil
                obtain ⟨y14, y514⟩ := And.intro (HPP.out.cells.2.2.2.2.2.2.2.1) (HPP.out.fz 7)
                have HSq14 := hide (Below.setCell HSq13.out (p := ⟨g, 7, none⟩) (Nat.le_refl g) (.slice A4 k c4))
                go_simp
                try go_wp2_with fail
                refine hK.out _ _ HSq14.out (fun _ => ?_)
                clear y14 y514
                clear hK K
                try simp only [Act.put, List.setIfInBounds_toArray, List.set_cons_zero, List.set_cons_succ]
                refine wpAnyH_done (by kernel_rfl) ?_ _
                go_wp2
                go_roundw
                case rel => exact ⟨j + 1, l7, _, _, x3, few7, fd7, by omega, by go_num, by rw [Nat.succ_mul]; omega, by omega, by rw [HE7.out]; exact (HFIN.out _ (by rw [HWD.out])).1, (HFIN.out _ (by rw [HWD.out])).2⟩
                case measure => simp [intOf]; omega
              · obtain ⟨_, _, _, _, _, _, _, y15, _, _, _⟩ := HPd.out.cells
                go_simp
                try go_wp2_with fail
                refine hK.out _ _ HS0.out (fun _ => ?_)
                clear y15
                clear hK K
                try simp only [Act.put, List.setIfInBounds_toArray, List.set_cons_zero, List.set_cons_succ]
                refine takeH 12 184 (.slice A4 k c4) ⟨_, rfl, rfl, rfl, ?_⟩ (by kernel_rfl) (by kernel_rfl) (by kernel_rfl) (fun _ _ _ h => h) HS0.out ?_
                · intro wz hSw; go_simp <;> (intro hq; omega)
                try simp only [Act.put, List.setIfInBounds_toArray, List.set_cons_zero, List.set_cons_succ]
                refine wpAnyH_ready (rs := [3]) (by kernel_rfl) (by simp) ?_
                refine AllReadyH.cons rfl (fun K hK => ?_) AllReadyH.nil
                obtain ⟨_, _, _, _, _, _, y16, _, _, _, _⟩ := HPd.out.cells
                go_simp
                try go_wp2_with fail
                refine hK.out _ _ HS0.out (fun _ => ?_)
                clear y16
                clear hK K
                try simp only [Act.put, List.setIfInBounds_toArray, List.set_cons_zero, List.set_cons_succ]
                refine takeH 13 185 (.pointer (some ⟨b3, j * 3, none⟩)) ⟨_, rfl, rfl, rfl, ?_⟩ (by kernel_rfl) (by kernel_rfl) (by kernel_rfl) (fun _ _ _ h => h) HS0.out ?_
                · intro wz hSw; go_simp
                try simp only [Act.put, List.setIfInBounds_toArray, List.set_cons_zero, List.set_cons_succ]
                refine wpAnyH_ready (rs := [14]) (by kernel_rfl) (by simp) ?_
                refine AllReadyH.cons rfl (fun K hK => ?_) AllReadyH.nil
                obtain ⟨hq17, _, _, _, _, _, ⟨y17, y517, y617⟩, ⟨y717, y817, y917⟩, _⟩ := HPd.out.putOn HM7.out hjm
                have HSq17 := hide (((Below.setCell HS0.out (p := ⟨b3, j * 3, none⟩) (Nat.le_of_lt hq17) (.int .i64 p)).setCell (p := ⟨b3, j * 3 + 1, none⟩) (Nat.le_of_lt hq17) (.int .i64 q)).setCell (p := ⟨b3, j * 3 + 2, none⟩) (Nat.le_of_lt hq17) (.int .i64 t))
                go_simp
                try go_wp2_with fail
                refine hK.out _ _ HSq17.out (fun _ => ?_)
                clear y17 y517 y617 y717 y817 y917
                clear hK K
                try simp only [Act.put, List.setIfInBounds_toArray, List.set_cons_zero, List.set_cons_succ]
                refine takeH 15 186 (.pointer (some ⟨g, 0, none⟩)) ⟨_, rfl, rfl, rfl, ?_⟩ (by kernel_rfl) (by kernel_rfl) (by kernel_rfl) (fun _ _ _ h => h) HSq17.out ?_
                · intro wz hSw; go_simp
                try simp only [Act.put, List.setIfInBounds_toArray, List.set_cons_zero, List.set_cons_succ]
                refine takeH 16 187 (.pointer (some ⟨g, 7, none⟩)) ⟨_, rfl, rfl, rfl, ?_⟩ (by kernel_rfl) (by kernel_rfl) (by kernel_rfl) (fun _ _ _ h => h) HSq17.out ?_
                · intro wz hSw; go_simp
                try simp only [Act.put, List.setIfInBounds_toArray, List.set_cons_zero, List.set_cons_succ]
                refine wpAnyH_ready (rs := [17]) (by kernel_rfl) (by simp) ?_
                refine AllReadyH.cons rfl (fun K hK => ?_) AllReadyH.nil
                obtain ⟨y18, y518⟩ := And.intro (HPP.out.cells.2.2.2.2.2.2.2.1) (HPP.out.fz 7)
                have HSq18 := hide (Below.setCell HSq17.out (p := ⟨g, 7, none⟩) (Nat.le_refl g) (.slice A4 k c4))
                go_simp
                try go_wp2_with fail
                refine hK.out _ _ HSq18.out (fun _ => ?_)
                clear y18 y518
                clear hK K
                try simp only [Act.put, List.setIfInBounds_toArray, List.set_cons_zero, List.set_cons_succ]
                refine wpAnyH_done (by kernel_rfl) ?_ _
                go_wp2
                go_roundw
                case rel => exact ⟨j + 1, l7, _, _, x3, few7, fd7, by omega, by go_num, by rw [Nat.succ_mul]; omega, by omega, by rw [HE7.out]; exact (HFIN.out _ (by rw [HWD.out])).1, (HFIN.out _ (by rw [HWD.out])).2⟩
                case measure => simp [intOf]; omega
            · obtain ⟨_, _, _, _, _, _, _, y19, _, _, _⟩ := HPd.out.cells
              go_simp
              try go_wp2_with fail
              refine hK.out _ _ HS0.out (fun _ => ?_)
              clear y19
              clear hK K
              try simp only [Act.put, List.setIfInBounds_toArray, List.set_cons_zero, List.set_cons_succ]
              refine takeH 12 184 (.slice A4 k c4) ⟨_, rfl, rfl, rfl, ?_⟩ (by kernel_rfl) (by kernel_rfl) (by kernel_rfl) (fun _ _ _ h => h) HS0.out ?_
              · intro wz hSw; go_simp <;> (intro hq; omega)
              try simp only [Act.put, List.setIfInBounds_toArray, List.set_cons_zero, List.set_cons_succ]
              refine wpAnyH_ready (rs := [3, 6]) (by kernel_rfl) (by simp) ?_
              refine AllReadyH.cons rfl (fun K hK => ?_) (AllReadyH.cons rfl (fun K hK => ?_) AllReadyH.nil)
              · obtain ⟨_, _, _, _, _, _, y20, _, _, _, _⟩ := HPd.out.cells
                go_simp
                try go_wp2_with fail
                refine hK.out _ _ HS0.out (fun _ => ?_)
                clear y20
                clear hK K
                try simp only [Act.put, List.setIfInBounds_toArray, List.set_cons_zero, List.set_cons_succ]
                refine wpAnyH_ready (rs := [6]) (by kernel_rfl) (by simp) ?_
                refine AllReadyH.cons rfl (fun K hK => ?_) AllReadyH.nil
                obtain ⟨y21, y521, y921, _⟩ := HABd.out.out
                go_simp
                try go_wp2_with fail
                refine hK.out _ _ HS0.out (fun _ => ?_)
                clear y21 y521 y921
                clear hK K
                try simp only [Act.put, List.setIfInBounds_toArray, List.set_cons_zero, List.set_cons_succ]
                refine takeH 13 185 (.pointer (some ⟨b3, j * 3, none⟩)) ⟨_, rfl, rfl, rfl, ?_⟩ (by kernel_rfl) (by kernel_rfl) (by kernel_rfl) (fun _ _ _ h => h) HS0.out ?_
                · intro wz hSw; go_simp
                try simp only [Act.put, List.setIfInBounds_toArray, List.set_cons_zero, List.set_cons_succ]
                refine wpAnyH_ready (rs := [14]) (by kernel_rfl) (by simp) ?_
                refine AllReadyH.cons rfl (fun K hK => ?_) AllReadyH.nil
                obtain ⟨hq22, _, _, _, _, _, ⟨y22, y522, y622⟩, ⟨y722, y822, y922⟩, _⟩ := HPd.out.putOn HM7.out hjm
                have HSq22 := hide (((Below.setCell HS0.out (p := ⟨b3, j * 3, none⟩) (Nat.le_of_lt hq22) (.int .i64 p)).setCell (p := ⟨b3, j * 3 + 1, none⟩) (Nat.le_of_lt hq22) (.int .i64 q)).setCell (p := ⟨b3, j * 3 + 2, none⟩) (Nat.le_of_lt hq22) (.int .i64 t))
                go_simp
                try go_wp2_with fail
                refine hK.out _ _ HSq22.out (fun _ => ?_)
                clear y22 y522 y622 y722 y822 y922
                clear hK K
                try simp only [Act.put, List.setIfInBounds_toArray, List.set_cons_zero, List.set_cons_succ]
                refine takeH 15 186 (.pointer (some ⟨g, 0, none⟩)) ⟨_, rfl, rfl, rfl, ?_⟩ (by kernel_rfl) (by kernel_rfl) (by kernel_rfl) (fun _ _ _ h => h) HSq22.out ?_
                · intro wz hSw; go_simp
                try simp only [Act.put, List.setIfInBounds_toArray, List.set_cons_zero, List.set_cons_succ]
                refine takeH 16 187 (.pointer (some ⟨g, 7, none⟩)) ⟨_, rfl, rfl, rfl, ?_⟩ (by kernel_rfl) (by kernel_rfl) (by kernel_rfl) (fun _ _ _ h => h) HSq22.out ?_
                · intro wz hSw; go_simp
                try simp only [Act.put, List.setIfInBounds_toArray, List.set_cons_zero, List.set_cons_succ]
                refine wpAnyH_ready (rs := [17]) (by kernel_rfl) (by simp) ?_
                refine AllReadyH.cons rfl (fun K hK => ?_) AllReadyH.nil
                obtain ⟨y23, y523⟩ := And.intro (HPP.out.cells.2.2.2.2.2.2.2.1) (HPP.out.fz 7)
                have HSq23 := hide (Below.setCell HSq22.out (p := ⟨g, 7, none⟩) (Nat.le_refl g) (.slice A4 k c4))
                go_simp
                try go_wp2_with fail
                refine hK.out _ _ HSq23.out (fun _ => ?_)
                clear y23 y523
                clear hK K
                try simp only [Act.put, List.setIfInBounds_toArray, List.set_cons_zero, List.set_cons_succ]
                refine wpAnyH_done (by kernel_rfl) ?_ _
                go_wp2
                go_roundw
                case rel => exact ⟨j + 1, l7, _, _, x3, few7, fd7, by omega, by go_num, by rw [Nat.succ_mul]; omega, by omega, by rw [HE7.out]; exact (HFIN.out _ (by rw [HWD.out])).1, (HFIN.out _ (by rw [HWD.out])).2⟩
                case measure => simp [intOf]; omega
              · obtain ⟨y24, y524, y924, _⟩ := HABd.out.out
                go_simp
                try go_wp2_with fail
                refine hK.out _ _ HS0.out (fun _ => ?_)
                clear y24 y524 y924
                clear hK K
                try simp only [Act.put, List.setIfInBounds_toArray, List.set_cons_zero, List.set_cons_succ]
                refine wpAnyH_ready (rs := [3]) (by kernel_rfl) (by simp) ?_
                refine AllReadyH.cons rfl (fun K hK => ?_) AllReadyH.nil
                obtain ⟨_, _, _, _, _, _, y25, _, _, _, _⟩ := HPd.out.cells
                go_simp
                try go_wp2_with fail
                refine hK.out _ _ HS0.out (fun _ => ?_)
                clear y25
                clear hK K
                try simp only [Act.put, List.setIfInBounds_toArray, List.set_cons_zero, List.set_cons_succ]
                refine takeH 13 185 (.pointer (some ⟨b3, j * 3, none⟩)) ⟨_, rfl, rfl, rfl, ?_⟩ (by kernel_rfl) (by kernel_rfl) (by kernel_rfl) (fun _ _ _ h => h) HS0.out ?_
                · intro wz hSw; go_simp
                try simp only [Act.put, List.setIfInBounds_toArray, List.set_cons_zero, List.set_cons_succ]
                refine wpAnyH_ready (rs := [14]) (by kernel_rfl) (by simp) ?_
                refine AllReadyH.cons rfl (fun K hK => ?_) AllReadyH.nil
                obtain ⟨hq26, _, _, _, _, _, ⟨y26, y526, y626⟩, ⟨y726, y826, y926⟩, _⟩ := HPd.out.putOn HM7.out hjm
                have HSq26 := hide (((Below.setCell HS0.out (p := ⟨b3, j * 3, none⟩) (Nat.le_of_lt hq26) (.int .i64 p)).setCell (p := ⟨b3, j * 3 + 1, none⟩) (Nat.le_of_lt hq26) (.int .i64 q)).setCell (p := ⟨b3, j * 3 + 2, none⟩) (Nat.le_of_lt hq26) (.int .i64 t))
                go_simp
                try go_wp2_with fail
                refine hK.out _ _ HSq26.out (fun _ => ?_)
                clear y26 y526 y626 y726 y826 y926
                clear hK K
                try simp only [Act.put, List.setIfInBounds_toArray, List.set_cons_zero, List.set_cons_succ]
                refine takeH 15 186 (.pointer (some ⟨g, 0, none⟩)) ⟨_, rfl, rfl, rfl, ?_⟩ (by kernel_rfl) (by kernel_rfl) (by kernel_rfl) (fun _ _ _ h => h) HSq26.out ?_
                · intro wz hSw; go_simp
                try simp only [Act.put, List.setIfInBounds_toArray, List.set_cons_zero, List.set_cons_succ]
                refine takeH 16 187 (.pointer (some ⟨g, 7, none⟩)) ⟨_, rfl, rfl, rfl, ?_⟩ (by kernel_rfl) (by kernel_rfl) (by kernel_rfl) (fun _ _ _ h => h) HSq26.out ?_
                · intro wz hSw; go_simp
                try simp only [Act.put, List.setIfInBounds_toArray, List.set_cons_zero, List.set_cons_succ]
                refine wpAnyH_ready (rs := [17]) (by kernel_rfl) (by simp) ?_
                refine AllReadyH.cons rfl (fun K hK => ?_) AllReadyH.nil
                obtain ⟨y27, y527⟩ := And.intro (HPP.out.cells.2.2.2.2.2.2.2.1) (HPP.out.fz 7)
                have HSq27 := hide (Below.setCell HSq26.out (p := ⟨g, 7, none⟩) (Nat.le_refl g) (.slice A4 k c4))
                go_simp
                try go_wp2_with fail
                refine hK.out _ _ HSq27.out (fun _ => ?_)
                clear y27 y527
                clear hK K
                try simp only [Act.put, List.setIfInBounds_toArray, List.set_cons_zero, List.set_cons_succ]
                refine wpAnyH_done (by kernel_rfl) ?_ _
                go_wp2
                go_roundw
                case rel => exact ⟨j + 1, l7, _, _, x3, few7, fd7, by omega, by go_num, by rw [Nat.succ_mul]; omega, by omega, by rw [HE7.out]; exact (HFIN.out _ (by rw [HWD.out])).1, (HFIN.out _ (by rw [HWD.out])).2⟩
                case measure => simp [intOf]; omega
      --]
    · --[
      obtain rfl : m = j := by omega
      have hmm : (m : Int) ≤ (m : Int) := Int.le_refl _
      have i3 : (0 : Int) ≤ (k : Int) := by omega
      have i4 : (k : Int) < (n : Int) := by omega
      go_upto_region 9 with fail
      clear z2 z3 z4 z5 z6 z7 hmm
      go_cut [] (fun wx => ∃ va, Hid (LdP wx g (some ⟨b, off, none⟩) n c ⟨rp, rb, rk⟩ l' va (.slice A2 k c2) u3 few' fd' (ons ++ [⟨f1, f2, kx⟩]) rs B) ∧ Hid (Kp wr wx g (.slice A1 m c1) (.slice A2 k c2) va (.slice A2 k c2)))
      case first => as_aux_lemma =>
        --[
        obtain ⟨wd, hwd⟩ : ∃ wd : World, wd = wr.drew := ⟨_, rfl⟩
        have HS0 : Hid ((fun W => Below g wr W) wd) := by rw [hwd]; exact (Below.refl g wr).drew
        have HWD := hide hwd
        have HPd : Hid (LdP wd g (some ⟨b, off, none⟩) n c ⟨rp, rb, rk⟩ l' (.slice A1 m c1) (.slice A2 k c2) u3 few' fd' ons rs B) := by rw [HWD.out]; exact HPr.out.keep fun _ _ => rfl
        have HKd : Hid (Kp wr wd g (.slice A1 m c1) (.slice A2 k c2) (.slice A1 m c1) (.slice A2 k c2)) := by rw [HWD.out]; exact Kp.of_below (Below.refl _ _).drew
        refine wp_region_held_drew (S := fun W => Below g wr W) (by kernel_rfl) (by rw [← hwd]; exact HS0.out) (fun _ => ?_)
        rw [← hwd]
        clear hwd
        refine takeH 0 82 (.pointer (some ⟨g, 0, none⟩)) ⟨_, rfl, rfl, rfl, ?_⟩ (by kernel_rfl) (by kernel_rfl) (by kernel_rfl) (fun _ _ _ h => h) HS0.out ?_
        · intro wz hSw; go_simp
        try simp only [Act.put, List.setIfInBounds_toArray, List.set_cons_zero, List.set_cons_succ]
        refine takeH 1 83 (.pointer (some ⟨g, 0, none⟩)) ⟨_, rfl, rfl, rfl, ?_⟩ (by kernel_rfl) (by kernel_rfl) (by kernel_rfl) (fun _ _ _ h => h) HS0.out ?_
        · intro wz hSw; go_simp
        try simp only [Act.put, List.setIfInBounds_toArray, List.set_cons_zero, List.set_cons_succ]
        refine takeH 2 84 (.pointer (some ⟨g, 0, none⟩)) ⟨_, rfl, rfl, rfl, ?_⟩ (by kernel_rfl) (by kernel_rfl) (by kernel_rfl) (fun _ _ _ h => h) HS0.out ?_
        · intro wz hSw; go_simp
        try simp only [Act.put, List.setIfInBounds_toArray, List.set_cons_zero, List.set_cons_succ]
        refine takeH 3 85 (.pointer (some ⟨g, 6, none⟩)) ⟨_, rfl, rfl, rfl, ?_⟩ (by kernel_rfl) (by kernel_rfl) (by kernel_rfl) (fun _ _ _ h => h) HS0.out ?_
        · intro wz hSw; go_simp
        try simp only [Act.put, List.setIfInBounds_toArray, List.set_cons_zero, List.set_cons_succ]
        refine takeH 5 87 (.pointer (some ⟨g, 0, none⟩)) ⟨_, rfl, rfl, rfl, ?_⟩ (by kernel_rfl) (by kernel_rfl) (by kernel_rfl) (fun _ _ _ h => h) HS0.out ?_
        · intro wz hSw; go_simp
        try simp only [Act.put, List.setIfInBounds_toArray, List.set_cons_zero, List.set_cons_succ]
        refine takeH 6 88 (.pointer (some ⟨g, 0, none⟩)) ⟨_, rfl, rfl, rfl, ?_⟩ (by kernel_rfl) (by kernel_rfl) (by kernel_rfl) (fun _ _ _ h => h) HS0.out ?_
        · intro wz hSw; go_simp
        try simp only [Act.put, List.setIfInBounds_toArray, List.set_cons_zero, List.set_cons_succ]
        refine takeH 7 89 (.pointer (some ⟨g, 2, none⟩)) ⟨_, rfl, rfl, rfl, ?_⟩ (by kernel_rfl) (by kernel_rfl) (by kernel_rfl) (fun _ _ _ h => h) HS0.out ?_
        · intro wz hSw; go_simp
        try simp only [Act.put, List.setIfInBounds_toArray, List.set_cons_zero, List.set_cons_succ]
        refine takeH 9 91 (.int .i64 (k : Int)) ⟨_, rfl, rfl, rfl, ?_⟩ (by kernel_rfl) (by kernel_rfl) (by kernel_rfl) (fun _ _ _ h => h) HS0.out ?_
        · intro wz hSw; go_simp
        try simp only [Act.put, List.setIfInBounds_toArray, List.set_cons_zero, List.set_cons_succ]
        refine wpAnyH_ready (rs := [4, 8]) (by kernel_rfl) (by simp) ?_
        refine AllReadyH.cons rfl (fun K hK => ?_) (AllReadyH.cons rfl (fun K hK => ?_) AllReadyH.nil)
        · obtain ⟨_, _, _, _, _, _, y1, _, _, _, _⟩ := HPd.out.cells
          go_simp
          try go_wp2_with fail
          refine hK.out _ _ HS0.out (fun _ => ?_)
          clear y1
          clear hK K
          try simp only [Act.put, List.setIfInBounds_toArray, List.set_cons_zero, List.set_cons_succ]
          refine wpAnyH_ready (rs := [8]) (by kernel_rfl) (by simp) ?_
          refine AllReadyH.cons rfl (fun K hK => ?_) AllReadyH.nil
          obtain ⟨_, _, y2, _, _, _, _, _, _, _, _⟩ := HPd.out.cells
          go_simp
          try go_wp2_with fail
          refine hK.out _ _ HS0.out (fun _ => ?_)
          clear y2
          clear hK K
          try simp only [Act.put, List.setIfInBounds_toArray, List.set_cons_zero, List.set_cons_succ]
          refine takeH 10 92 (.pointer (some ⟨b, off + k * 4, none⟩)) ⟨_, rfl, rfl, rfl, ?_⟩ (by kernel_rfl) (by kernel_rfl) (by kernel_rfl) (fun _ _ _ h => h) HS0.out ?_
          · intro wz hSw; go_simp
          try simp only [Act.put, List.setIfInBounds_toArray, List.set_cons_zero, List.set_cons_succ]
          refine takeH 11 93 (.agg #[.string f0, .int .i64 f1, .int .i64 f2, .int .i64 f3]) ⟨_, rfl, rfl, rfl, ?_⟩ (by kernel_rfl) (by kernel_rfl) (by kernel_rfl) (fun _ _ _ h => h) HS0.out ?_
          · intro wz hSw; obtain ⟨x4, x5, x6, x7⟩ := HG.out wz (HBr.out.trans hSw); go_simp
          try simp only [Act.put, List.setIfInBounds_toArray, List.set_cons_zero, List.set_cons_succ]
          refine wpAnyH_ready (rs := [12]) (by kernel_rfl) (by simp) ?_
          refine AllReadyH.cons rfl (fun K hK => ?_) AllReadyH.nil
          go_simp
          refine (HN.out wd).mono ?_
          rintro e wq3 ⟨rfl, hbq3⟩
          have HSq3 := hide (HS0.out.trans (hbq3.mono (Nat.le_of_lt HPd.out.lt)))
          have HPq3 := hide (HPd.out.below hbq3)
          have HKq3 := hide (HKd.out.trans (Kp.of_below hbq3))
          clear hbq3
          try go_wp2_with fail
          refine hK.out _ _ HSq3.out (fun _ => ?_)
          clear hK K
          try simp only [Act.put, List.setIfInBounds_toArray, List.set_cons_zero, List.set_cons_succ]
          refine wpAnyH_ready (rs := [13]) (by kernel_rfl) (by simp) ?_
          refine AllReadyH.cons rfl (fun K hK => ?_) AllReadyH.nil
          have hbq4 : Below (World.heap wq3).size wq3 (World.alloc wq3 (.cells #[.int .i64 f1, .int .i64 f2, .int .i64 kx] 87)) := (Below.refl _ _).alloc (Nat.le_refl _) _
          have HSq4 := hide (HSq3.out.trans (hbq4.mono (Nat.le_of_lt HPq3.out.lt)))
          have HPq4 := hide (HPq3.out.below hbq4)
          clear hbq4
          go_simp
          try go_wp2_with fail
          refine hK.out _ _ HSq4.out (fun _ => ?_)
          clear hK K
          try simp only [Act.put, List.setIfInBounds_toArray, List.set_cons_zero, List.set_cons_succ]
          refine wpAnyH_ready (rs := [14]) (by kernel_rfl) (by simp) ?_
          refine AllReadyH.cons rfl (fun K hK => ?_) AllReadyH.nil
          rw [if_pos (by rfl)]
          refine opAppRm_at rfl _ _ rfl (g + 1) (.slice A1 m c1) m ons ⟨f1, f2, kx⟩ rfl (by have h := HPq3.out.on; rw [← HM.out] at h; exact h) rfl (by omega) (by have := HPq3.out.lt; omega) ?_
          intro va wa hown hgrow hat
          obtain ⟨A3, c3, rfl⟩ := own_slice hown
          have HSq5 := hide (HSq3.out.trans (Kp.below HPq3.out (Kp.grow1 (v2 := .slice A2 k c2) hgrow hat)))
          have HAP := hide (And.intro hown (And.intro hgrow hat))
          clear hown hgrow hat
          try go_wp2_with fail
          refine hK.out _ _ HSq5.out (fun _ => ?_)
          clear hK K
          try simp only [Act.put, List.setIfInBounds_toArray, List.set_cons_zero, List.set_cons_succ]
          refine takeH 15 97 (.pointer (some ⟨g, 0, none⟩)) ⟨_, rfl, rfl, rfl, ?_⟩ (by kernel_rfl) (by kernel_rfl) (by kernel_rfl) (fun _ _ _ h => h) HSq5.out ?_
          · intro wz hSw; go_simp
          try simp only [Act.put, List.setIfInBounds_toArray, List.set_cons_zero, List.set_cons_succ]
          refine takeH 16 98 (.pointer (some ⟨g, 6, none⟩)) ⟨_, rfl, rfl, rfl, ?_⟩ (by kernel_rfl) (by kernel_rfl) (by kernel_rfl) (fun _ _ _ h => h) HSq5.out ?_
          · intro wz hSw; go_simp
          try simp only [Act.put, List.setIfInBounds_toArray, List.set_cons_zero, List.set_cons_succ]
          refine wpAnyH_ready (rs := [17]) (by kernel_rfl) (by simp) ?_
          refine AllReadyH.cons rfl (fun K hK => ?_) AllReadyH.nil
          obtain ⟨y6, y506⟩ := HPq3.out.cell1 HAP.out.2.1
          have HSq6 := hide (Below.setCell HSq5.out (p := ⟨g, 6, none⟩) (Nat.le_refl g) (.slice A3 (m + 1) c3))
          go_simp
          try go_wp2_with fail
          refine hK.out _ _ HSq6.out (fun _ => ?_)
          clear y6 y506
          clear hK K
          try simp only [Act.put, List.setIfInBounds_toArray, List.set_cons_zero, List.set_cons_succ]
          refine wpAnyH_done (by kernel_rfl) ?_ _
          go_wp2_with fail
          go_meet
          case rel => exact ⟨_, HPq3.out.pushOn (by have h := HAP.out.1; revert h; rw [HM.out]; exact id) HAP.out.2.1, HKq3.out.trans ((Kp.grow1 HAP.out.2.1 HAP.out.2.2).trans Kp.set)⟩
        · obtain ⟨_, _, y7, _, _, _, _, _, _, _, _⟩ := HPd.out.cells
          go_simp
          try go_wp2_with fail
          refine hK.out _ _ HS0.out (fun _ => ?_)
          clear y7
          clear hK K
          try simp only [Act.put, List.setIfInBounds_toArray, List.set_cons_zero, List.set_cons_succ]
          refine takeH 10 92 (.pointer (some ⟨b, off + k * 4, none⟩)) ⟨_, rfl, rfl, rfl, ?_⟩ (by kernel_rfl) (by kernel_rfl) (by kernel_rfl) (fun _ _ _ h => h) HS0.out ?_
          · intro wz hSw; go_simp
          try simp only [Act.put, List.setIfInBounds_toArray, List.set_cons_zero, List.set_cons_succ]
          refine takeH 11 93 (.agg #[.string f0, .int .i64 f1, .int .i64 f2, .int .i64 f3]) ⟨_, rfl, rfl, rfl, ?_⟩ (by kernel_rfl) (by kernel_rfl) (by kernel_rfl) (fun _ _ _ h => h) HS0.out ?_
          · intro wz hSw; obtain ⟨x4, x5, x6, x7⟩ := HG.out wz (HBr.out.trans hSw); go_simp
          try simp only [Act.put, List.setIfInBounds_toArray, List.set_cons_zero, List.set_cons_succ]
          refine wpAnyH_ready (rs := [4, 12]) (by kernel_rfl) (by simp) ?_
          refine AllReadyH.cons rfl (fun K hK => ?_) (AllReadyH.cons rfl (fun K hK => ?_) AllReadyH.nil)
          · obtain ⟨_, _, _, _, _, _, y8, _, _, _, _⟩ := HPd.out.cells
            go_simp
            try go_wp2_with fail
            refine hK.out _ _ HS0.out (fun _ => ?_)
            clear y8
            clear hK K
            try simp only [Act.put, List.setIfInBounds_toArray, List.set_cons_zero, List.set_cons_succ]
            refine wpAnyH_ready (rs := [12]) (by kernel_rfl) (by simp) ?_
            refine AllReadyH.cons rfl (fun K hK => ?_) AllReadyH.nil
            go_simp
            refine (HN.out wd).mono ?_
            rintro e wq9 ⟨rfl, hbq9⟩
            have HSq9 := hide (HS0.out.trans (hbq9.mono (Nat.le_of_lt HPd.out.lt)))
            have HPq9 := hide (HPd.out.below hbq9)
            have HKq9 := hide (HKd.out.trans (Kp.of_below hbq9))
            clear hbq9
            try go_wp2_with fail
            refine hK.out _ _ HSq9.out (fun _ => ?_)
            clear hK K
            try simp only [Act.put, List.setIfInBounds_toArray, List.set_cons_zero, List.set_cons_succ]
            refine wpAnyH_ready (rs := [13]) (by kernel_rfl) (by simp) ?_
            refine AllReadyH.cons rfl (fun K hK => ?_) AllReadyH.nil
            have hbq10 : Below (World.heap wq9).size wq9 (World.alloc wq9 (.cells #[.int .i64 f1, .int .i64 f2, .int .i64 kx] 87)) := (Below.refl _ _).alloc (Nat.le_refl _) _
            have HSq10 := hide (HSq9.out.trans (hbq10.mono (Nat.le_of_lt HPq9.out.lt)))
            have HPq10 := hide (HPq9.out.below hbq10)
            clear hbq10
            go_simp
            try go_wp2_with fail
            refine hK.out _ _ HSq10.out (fun _ => ?_)
            clear hK K
            try simp only [Act.put, List.setIfInBounds_toArray, List.set_cons_zero, List.set_cons_succ]
            refine wpAnyH_ready (rs := [14]) (by kernel_rfl) (by simp) ?_
            refine AllReadyH.cons rfl (fun K hK => ?_) AllReadyH.nil
            rw [if_pos (by rfl)]
            refine opAppRm_at rfl _ _ rfl (g + 1) (.slice A1 m c1) m ons ⟨f1, f2, kx⟩ rfl (by have h := HPq9.out.on; rw [← HM.out] at h; exact h) rfl (by omega) (by have := HPq9.out.lt; omega) ?_
            intro va wa hown hgrow hat
            obtain ⟨A3, c3, rfl⟩ := own_slice hown
            have HSq11 := hide (HSq9.out.trans (Kp.below HPq9.out (Kp.grow1 (v2 := .slice A2 k c2) hgrow hat)))
            have HAP := hide (And.intro hown (And.intro hgrow hat))
            clear hown hgrow hat
            try go_wp2_with fail
            refine hK.out _ _ HSq11.out (fun _ => ?_)
            clear hK K
            try simp only [Act.put, List.setIfInBounds_toArray, List.set_cons_zero, List.set_cons_succ]
            refine takeH 15 97 (.pointer (some ⟨g, 0, none⟩)) ⟨_, rfl, rfl, rfl, ?_⟩ (by kernel_rfl) (by kernel_rfl) (by kernel_rfl) (fun _ _ _ h => h) HSq11.out ?_
            · intro wz hSw; go_simp
            try simp only [Act.put, List.setIfInBounds_toArray, List.set_cons_zero, List.set_cons_succ]
            refine takeH 16 98 (.pointer (some ⟨g, 6, none⟩)) ⟨_, rfl, rfl, rfl, ?_⟩ (by kernel_rfl) (by kernel_rfl) (by kernel_rfl) (fun _ _ _ h => h) HSq11.out ?_
            · intro wz hSw; go_simp
            try simp only [Act.put, List.setIfInBounds_toArray, List.set_cons_zero, List.set_cons_succ]
            refine wpAnyH_ready (rs := [17]) (by kernel_rfl) (by simp) ?_
            refine AllReadyH.cons rfl (fun K hK => ?_) AllReadyH.nil
            obtain ⟨y12, y512⟩ := HPq9.out.cell1 HAP.out.2.1
            have HSq12 := hide (Below.setCell HSq11.out (p := ⟨g, 6, none⟩) (Nat.le_refl g) (.slice A3 (m + 1) c3))
            go_simp
            try go_wp2_with fail
            refine hK.out _ _ HSq12.out (fun _ => ?_)
            clear y12 y512
            clear hK K
            try simp only [Act.put, List.setIfInBounds_toArray, List.set_cons_zero, List.set_cons_succ]
            refine wpAnyH_done (by kernel_rfl) ?_ _
            go_wp2_with fail
            go_meet
            case rel => exact ⟨_, HPq9.out.pushOn (by have h := HAP.out.1; revert h; rw [HM.out]; exact id) HAP.out.2.1, HKq9.out.trans ((Kp.grow1 HAP.out.2.1 HAP.out.2.2).trans Kp.set)⟩
          · go_simp
            refine (HN.out wd).mono ?_
            rintro e wq13 ⟨rfl, hbq13⟩
            have HSq13 := hide (HS0.out.trans (hbq13.mono (Nat.le_of_lt HPd.out.lt)))
            have HPq13 := hide (HPd.out.below hbq13)
            have HKq13 := hide (HKd.out.trans (Kp.of_below hbq13))
            clear hbq13
            try go_wp2_with fail
            refine hK.out _ _ HSq13.out (fun _ => ?_)
            clear hK K
            try simp only [Act.put, List.setIfInBounds_toArray, List.set_cons_zero, List.set_cons_succ]
            refine wpAnyH_ready (rs := [4, 13]) (by kernel_rfl) (by simp) ?_
            refine AllReadyH.cons rfl (fun K hK => ?_) (AllReadyH.cons rfl (fun K hK => ?_) AllReadyH.nil)
            · obtain ⟨_, _, _, _, _, _, y14, _, _, _, _⟩ := HPq13.out.cells
              go_simp
              try go_wp2_with fail
              refine hK.out _ _ HSq13.out (fun _ => ?_)
              clear y14
              clear hK K
              try simp only [Act.put, List.setIfInBounds_toArray, List.set_cons_zero, List.set_cons_succ]
              refine wpAnyH_ready (rs := [13]) (by kernel_rfl) (by simp) ?_
              refine AllReadyH.cons rfl (fun K hK => ?_) AllReadyH.nil
              have hbq15 : Below (World.heap wq13).size wq13 (World.alloc wq13 (.cells #[.int .i64 f1, .int .i64 f2, .int .i64 kx] 87)) := (Below.refl _ _).alloc (Nat.le_refl _) _
              have HSq15 := hide (HSq13.out.trans (hbq15.mono (Nat.le_of_lt HPq13.out.lt)))
              have HPq15 := hide (HPq13.out.below hbq15)
              clear hbq15
              go_simp
              try go_wp2_with fail
              refine hK.out _ _ HSq15.out (fun _ => ?_)
              clear hK K
              try simp only [Act.put, List.setIfInBounds_toArray, List.set_cons_zero, List.set_cons_succ]
              refine wpAnyH_ready (rs := [14]) (by kernel_rfl) (by simp) ?_
              refine AllReadyH.cons rfl (fun K hK => ?_) AllReadyH.nil
              rw [if_pos (by rfl)]
              refine opAppRm_at rfl _ _ rfl (g + 1) (.slice A1 m c1) m ons ⟨f1, f2, kx⟩ rfl (by have h := HPq13.out.on; rw [← HM.out] at h; exact h) rfl (by omega) (by have := HPq13.out.lt; omega) ?_
              intro va wa hown hgrow hat
              obtain ⟨A3, c3, rfl⟩ := own_slice hown
              have HSq16 := hide (HSq13.out.trans (Kp.below HPq13.out (Kp.grow1 (v2 := .slice A2 k c2) hgrow hat)))
              have HAP := hide (And.intro hown (And.intro hgrow hat))
              clear hown hgrow hat
              try go_wp2_with fail
              refine hK.out _ _ HSq16.out (fun _ => ?_)
              clear hK K
              try simp only [Act.put, List.setIfInBounds_toArray, List.set_cons_zero, List.set_cons_succ]
              refine takeH 15 97 (.pointer (some ⟨g, 0, none⟩)) ⟨_, rfl, rfl, rfl, ?_⟩ (by kernel_rfl) (by kernel_rfl) (by kernel_rfl) (fun _ _ _ h => h) HSq16.out ?_
              · intro wz hSw; go_simp
              try simp only [Act.put, List.setIfInBounds_toArray, List.set_cons_zero, List.set_cons_succ]
              refine takeH 16 98 (.pointer (some ⟨g, 6, none⟩)) ⟨_, rfl, rfl, rfl, ?_⟩ (by kernel_rfl) (by kernel_rfl) (by kernel_rfl) (fun _ _ _ h => h) HSq16.out ?_
              · intro wz hSw; go_simp
              try simp only [Act.put, List.setIfInBounds_toArray, List.set_cons_zero, List.set_cons_succ]
              refine wpAnyH_ready (rs := [17]) (by kernel_rfl) (by simp) ?_
              refine AllReadyH.cons rfl (fun K hK => ?_) AllReadyH.nil
              obtain ⟨y17, y517⟩ := HPq13.out.cell1 HAP.out.2.1
              have HSq17 := hide (Below.setCell HSq16.out (p := ⟨g, 6, none⟩) (Nat.le_refl g) (.slice A3 (m + 1) c3))
              go_simp
              try go_wp2_with fail
              refine hK.out _ _ HSq17.out (fun _ => ?_)
              clear y17 y517
              clear hK K
              try simp only [Act.put, List.setIfInBounds_toArray, List.set_cons_zero, List.set_cons_succ]
              refine wpAnyH_done (by kernel_rfl) ?_ _
              go_wp2_with fail
              go_meet
              case rel => exact ⟨_, HPq13.out.pushOn (by have h := HAP.out.1; revert h; rw [HM.out]; exact id) HAP.out.2.1, HKq13.out.trans ((Kp.grow1 HAP.out.2.1 HAP.out.2.2).trans Kp.set)⟩
            · have hbq18 : Below (World.heap wq13).size wq13 (World.alloc wq13 (.cells #[.int .i64 f1, .int .i64 f2, .int .i64 kx] 87)) := (Below.refl _ _).alloc (Nat.le_refl _) _
              have HSq18 := hide (HSq13.out.trans (hbq18.mono (Nat.le_of_lt HPq13.out.lt)))
              have HPq18 := hide (HPq13.out.below hbq18)
              clear hbq18
              go_simp
              try go_wp2_with fail
              refine hK.out _ _ HSq18.out (fun _ => ?_)
              clear hK K
              try simp only [Act.put, List.setIfInBounds_toArray, List.set_cons_zero, List.set_cons_succ]
              refine wpAnyH_ready (rs := [4]) (by kernel_rfl) (by simp) ?_
              refine AllReadyH.cons rfl (fun K hK => ?_) AllReadyH.nil
              obtain ⟨_, _, _, _, _, _, y19, _, _, _, _⟩ := HPq18.out.cells
              go_simp
              try go_wp2_with fail
              refine hK.out _ _ HSq18.out (fun _ => ?_)
              clear y19
              clear hK K
              try simp only [Act.put, List.setIfInBounds_toArray, List.set_cons_zero, List.set_cons_succ]
              refine wpAnyH_ready (rs := [14]) (by kernel_rfl) (by simp) ?_
              refine AllReadyH.cons rfl (fun K hK => ?_) AllReadyH.nil
              rw [if_pos (by rfl)]
              refine opAppRm_at rfl _ _ rfl (g + 1) (.slice A1 m c1) m ons ⟨f1, f2, kx⟩ rfl (by have h := HPq13.out.on; rw [← HM.out] at h; exact h) rfl (by omega) (by have := HPq13.out.lt; omega) ?_
              intro va wa hown hgrow hat
              obtain ⟨A3, c3, rfl⟩ := own_slice hown
              have HSq20 := hide (HSq13.out.trans (Kp.below HPq13.out (Kp.grow1 (v2 := .slice A2 k c2) hgrow hat)))
              have HAP := hide (And.intro hown (And.intro hgrow hat))
              clear hown hgrow hat
              try go_wp2_with fail
              refine hK.out _ _ HSq20.out (fun _ => ?_)
              clear hK K
              try simp only [Act.put, List.setIfInBounds_toArray, List.set_cons_zero, List.set_cons_succ]
              refine takeH 15 97 (.pointer (some ⟨g, 0, none⟩)) ⟨_, rfl, rfl, rfl, ?_⟩ (by kernel_rfl) (by kernel_rfl) (by kernel_rfl) (fun _ _ _ h => h) HSq20.out ?_
              · intro wz hSw; go_simp
              try simp only [Act.put, List.setIfInBounds_toArray, List.set_cons_zero, List.set_cons_succ]
              refine takeH 16 98 (.pointer (some ⟨g, 6, none⟩)) ⟨_, rfl, rfl, rfl, ?_⟩ (by kernel_rfl) (by kernel_rfl) (by kernel_rfl) (fun _ _ _ h => h) HSq20.out ?_
              · intro wz hSw; go_simp
              try simp only [Act.put, List.setIfInBounds_toArray, List.set_cons_zero, List.set_cons_succ]
              refine wpAnyH_ready (rs := [17]) (by kernel_rfl) (by simp) ?_
              refine AllReadyH.cons rfl (fun K hK => ?_) AllReadyH.nil
              obtain ⟨y21, y521⟩ := HPq13.out.cell1 HAP.out.2.1
              have HSq21 := hide (Below.setCell HSq20.out (p := ⟨g, 6, none⟩) (Nat.le_refl g) (.slice A3 (m + 1) c3))
              go_simp
              try go_wp2_with fail
              refine hK.out _ _ HSq21.out (fun _ => ?_)
              clear y21 y521
              clear hK K
              try simp only [Act.put, List.setIfInBounds_toArray, List.set_cons_zero, List.set_cons_succ]
              refine wpAnyH_done (by kernel_rfl) ?_ _
              go_wp2_with fail
              go_meet
              case rel => exact ⟨_, HPq13.out.pushOn (by have h := HAP.out.1; revert h; rw [HM.out]; exact id) HAP.out.2.1, HKq13.out.trans ((Kp.grow1 HAP.out.2.1 HAP.out.2.2).trans Kp.set)⟩
        --]
      case rest => as_aux_lemma =>
        obtain ⟨w4, rfl⟩ : ∃ w4 : World, w4 = wc := ⟨_, rfl⟩
        obtain ⟨va, HP4, HK4⟩ := hcut
        have HR4 := hide (HP4.out.rdk HKK.out)
        obtain ⟨_, _, _, _, _, _, _, z7, _⟩ := HP4.out.cells
        have hz4 := HP4.out.lt
        have hz4a := HK4.out.size
        go_wp2_with (at_builtin; refine appI_at rfl _ _ rfl (g + 1) (.slice A2 k c2) k rs m rfl HR4.out rfl (by omega) (by omega) ?_; intro vb wa hown hgrow hat; obtain ⟨A3, c3, rfl⟩ := own_slice hown; obtain ⟨y7, fy7⟩ := HP4.out.cell2 hgrow)
        obtain ⟨w6, hw6⟩ : ∃ w6, w6 = wa.setCell ⟨g, 7, none⟩ (.slice A3 (k + 1) c3) := ⟨_, rfl⟩
        rw [← hw6]
        have HP6 : Hid (LdP w6 g (some ⟨b, off, none⟩) n c ⟨rp, rb, rk⟩ l' va (.slice A3 (k + 1) c3) u3 few' fd' (ons ++ [⟨f1, f2, kx⟩]) (rs ++ [(m : Int)]) B) := by
          rw [hw6]
          exact HP4.out.push (own_k hown (by rw [HKK.out])) hgrow hat
        have HK6 : Hid (Kp wr w6 g (.slice A1 m c1) (.slice A2 k c2) va (.slice A3 (k + 1) c3)) := by
          rw [hw6]
          exact HK4.out.trans ((Kp.grow2 hgrow hat).trans Kp.set)
        have hz6 := HK6.out.size
        clear hw6 hown hgrow hat y7 fy7 z7 HP4 HK4 HR4
        have hsl : (ons ++ [(⟨f1, f2, kx⟩ : RmZ)]).length = m + 1 := by rw [List.length_append, ← HM.out]; rfl
        have hrl : (rs ++ [(m : Int)]).length = k + 1 := by rw [List.length_append, ← HKK.out]; rfl
        have IH := hide (HIH.out (ons ++ [⟨f1, f2, kx⟩]) (rs ++ [(m : Int)]) B l' _ _ u3 few' fd' w6 (by rw [hrl]; exact HRE.out) (by rw [hrl]; have := HRL.out; omega) (by rw [hsl, hrl]; omega) (fun o ho => by
            rcases List.mem_append.1 ho with h | h
            · exact HSM.out o h
            · have h2 : o = ⟨f1, f2, kx⟩ := by simpa using h
              rw [h2]; unfold SmO; simp only; omega) (fun y hy => by
            rcases List.mem_append.1 hy with h | h
            · exact HRI.out y h
            · have : y = (m : Int) := by simpa using h
              omega) (by rw [hsl, ← (show N2 = nodZ rest.length (m + 1) by rw [HM.out]; exact HN2.out)]; omega) (by omega) (fun W hW => HL.out W (HBr.out.trans ((Kp.below HPr.out HK6.out).trans hW))) HP6.out)
        rw [hsl, ← (show N2 = nodZ rest.length (m + 1) by rw [HM.out]; exact HN2.out)] at IH
        (try go_wp2_with fail)
        refine IH.out.mono ?_
        rintro e w7 ⟨rfl, l7, v17, v27, x3, few7, fd7, hl7a, hl7b, hp7, hk7⟩
        obtain ⟨B7, hB7⟩ : ∃ B7, B7 = goZ ⟨rp, rb, rk⟩ rest (ons ++ [⟨f1, f2, kx⟩]) (rs ++ [(m : Int)]) B := ⟨_, rfl⟩
        rw [← hB7] at hp7
        obtain ⟨A6, c3, A4, c4, e1, e2, hc3, hc4⟩ := hp7.vals (m := m + 1) (k := k + 1) hsl.symm hrl.symm
        subst e1
        subst e2
        have HP7 := hide hp7
        have HK7 := hide hk7
        have HE7 : Hid (goZ ⟨rp, rb, rk⟩ (⟨f1, f2, kx⟩ :: rest) ons rs best = B7) := by
          unfold Hid
          rw [HGO.out, ← HBB.out]
          exact hB7.symm
        clear hp7 hk7 hB7 IH HP6 hsl hrl
        have HFIN : Hid (∀ w8, w8 = World.setCell (World.setCell w7.drew ⟨g, 6, none⟩ (.slice A6 m c3)) ⟨g, 7, none⟩ (.slice A4 k c4) → LdP w8 g (some ⟨b, off, none⟩) n c ⟨rp, rb, rk⟩ l7 (.slice A6 m c3) (.slice A4 k c4) x3 few7 fd7 ons rs B7 ∧ Kp w w8 g v1 v2 (.slice A6 m c3) (.slice A4 k c4)) := fun w8 hcut => by
          have hp7d : LdP w7.drew g (some ⟨b, off, none⟩) n c ⟨rp, rb, rk⟩ l7 (.slice A6 (m + 1) c3) (.slice A4 (k + 1) c4) x3 few7 fd7 (ons ++ [⟨f1, f2, kx⟩]) (rs ++ [(m : Int)]) B7 := HP7.out.keep fun _ _ => rfl
          have h8 := hp7d.cutOn (by rw [HM.out])
          rw [← HM.out] at h8
          have h9 := h8.cutR (by rw [HKK.out])
          rw [← HKK.out] at h9
          have h10 : Kp w7 w8 g (.slice A6 (m + 1) c3) (.slice A4 (k + 1) c4) (.slice A6 (m + 1) c3) (.slice A4 (k + 1) c4) := by
            rw [hcut]
            exact ((Kp.of_below (Below.refl _ _).drew).trans Kp.set).trans Kp.set
          exact ⟨by rw [hcut]; exact h9, (((HKr.out.trans HK6.out).trans HK7.out).trans h10).as blk_slice blk_slice⟩
        go_upto_region 12 with fail
        obtain ⟨wd, hwd⟩ : ∃ wd : World, wd = w7.drew := ⟨_, rfl⟩
        have HS0 : Hid ((fun W => Below g w7 W) wd) := by rw [hwd]; exact (Below.refl g w7).drew
        have HWD := hide hwd
        have HPd : Hid (LdP wd g (some ⟨b, off, none⟩) n c ⟨rp, rb, rk⟩ l7 (.slice A6 (m + 1) c3) (.slice A4 (k + 1) c4) x3 few7 fd7 (ons ++ [⟨f1, f2, kx⟩]) (rs ++ [(m : Int)]) B7) := by rw [HWD.out]; exact HP7.out.keep fun _ _ => rfl
        have hcut6 := HPd.out.cutOn (by rw [HM.out])
        rw [← HM.out] at hcut6
        have HPP := hide hcut6
        clear hcut6
        refine wp_region_held_drew (S := fun W => Below g w7 W) (by kernel_rfl) (by rw [← hwd]; exact HS0.out) (fun _ => ?_)
        rw [← hwd]
        clear hwd
        refine takeH 0 111 (.pointer (some ⟨g, 0, none⟩)) ⟨_, rfl, rfl, rfl, ?_⟩ (by kernel_rfl) (by kernel_rfl) (by kernel_rfl) (fun _ _ _ h => h) HS0.out ?_
        · intro wz hSw; go_simp
        try simp only [Act.put, List.setIfInBounds_toArray, List.set_cons_zero, List.set_cons_succ]
        refine takeH 1 112 (.pointer (some ⟨g, 0, none⟩)) ⟨_, rfl, rfl, rfl, ?_⟩ (by kernel_rfl) (by kernel_rfl) (by kernel_rfl) (fun _ _ _ h => h) HS0.out ?_
        · intro wz hSw; go_simp
        try simp only [Act.put, List.setIfInBounds_toArray, List.set_cons_zero, List.set_cons_succ]
        refine takeH 2 113 (.pointer (some ⟨g, 0, none⟩)) ⟨_, rfl, rfl, rfl, ?_⟩ (by kernel_rfl) (by kernel_rfl) (by kernel_rfl) (fun _ _ _ h => h) HS0.out ?_
        · intro wz hSw; go_simp
        try simp only [Act.put, List.setIfInBounds_toArray, List.set_cons_zero, List.set_cons_succ]
        refine takeH 3 114 (.pointer (some ⟨g, 0, none⟩)) ⟨_, rfl, rfl, rfl, ?_⟩ (by kernel_rfl) (by kernel_rfl) (by kernel_rfl) (fun _ _ _ h => h) HS0.out ?_
        · intro wz hSw; go_simp
        try simp only [Act.put, List.setIfInBounds_toArray, List.set_cons_zero, List.set_cons_succ]
        refine takeH 4 115 (.pointer (some ⟨g, 6, none⟩)) ⟨_, rfl, rfl, rfl, ?_⟩ (by kernel_rfl) (by kernel_rfl) (by kernel_rfl) (fun _ _ _ h => h) HS0.out ?_
        · intro wz hSw; go_simp
        try simp only [Act.put, List.setIfInBounds_toArray, List.set_cons_zero, List.set_cons_succ]
        refine takeH 6 117 (.int .i64 (m : Int)) ⟨_, rfl, rfl, rfl, ?_⟩ (by kernel_rfl) (by kernel_rfl) (by kernel_rfl) (fun _ _ _ h => h) HS0.out ?_
        · intro wz hSw; go_simp
        try simp only [Act.put, List.setIfInBounds_toArray, List.set_cons_zero, List.set_cons_succ]
        refine takeH 8 119 (.pointer (some ⟨g, 0, none⟩)) ⟨_, rfl, rfl, rfl, ?_⟩ (by kernel_rfl) (by kernel_rfl) (by kernel_rfl) (fun _ _ _ h => h) HS0.out ?_
        · intro wz hSw; go_simp
        try simp only [Act.put, List.setIfInBounds_toArray, List.set_cons_zero, List.set_cons_succ]
        refine takeH 9 120 (.pointer (some ⟨g, 0, none⟩)) ⟨_, rfl, rfl, rfl, ?_⟩ (by kernel_rfl) (by kernel_rfl) (by kernel_rfl) (fun _ _ _ h => h) HS0.out ?_
        · intro wz hSw; go_simp
        try simp only [Act.put, List.setIfInBounds_toArray, List.set_cons_zero, List.set_cons_succ]
        refine takeH 10 121 (.pointer (some ⟨g, 7, none⟩)) ⟨_, rfl, rfl, rfl, ?_⟩ (by kernel_rfl) (by kernel_rfl) (by kernel_rfl) (fun _ _ _ h => h) HS0.out ?_
        · intro wz hSw; go_simp
        try simp only [Act.put, List.setIfInBounds_toArray, List.set_cons_zero, List.set_cons_succ]
        refine takeH 12 123 (.int .i64 (k : Int)) ⟨_, rfl, rfl, rfl, ?_⟩ (by kernel_rfl) (by kernel_rfl) (by kernel_rfl) (fun _ _ _ h => h) HS0.out ?_
        · intro wz hSw; go_simp
        try simp only [Act.put, List.setIfInBounds_toArray, List.set_cons_zero, List.set_cons_succ]
        refine wpAnyH_ready (rs := [5, 11]) (by kernel_rfl) (by simp) ?_
        refine AllReadyH.cons rfl (fun K hK => ?_) (AllReadyH.cons rfl (fun K hK => ?_) AllReadyH.nil)
        · obtain ⟨_, _, _, _, _, _, y1, _, _, _, _⟩ := HPd.out.cells
          go_simp
          try go_wp2_with fail
          refine hK.out _ _ HS0.out (fun _ => ?_)
          clear y1
          clear hK K
          try simp only [Act.put, List.setIfInBounds_toArray, List.set_cons_zero, List.set_cons_succ]
          refine takeH 7 118 (.slice A6 m c3) ⟨_, rfl, rfl, rfl, ?_⟩ (by kernel_rfl) (by kernel_rfl) (by kernel_rfl) (fun _ _ _ h => h) HS0.out ?_
          · intro wz hSw; go_simp <;> (intro hq; omega)
          try simp only [Act.put, List.setIfInBounds_toArray, List.set_cons_zero, List.set_cons_succ]
          refine wpAnyH_ready (rs := [11]) (by kernel_rfl) (by simp) ?_
          refine AllReadyH.cons rfl (fun K hK => ?_) AllReadyH.nil
          obtain ⟨_, _, _, _, _, _, _, y2, _, _, _⟩ := HPd.out.cells
          go_simp
          try go_wp2_with fail
          refine hK.out _ _ HS0.out (fun _ => ?_)
          clear y2
          clear hK K
          try simp only [Act.put, List.setIfInBounds_toArray, List.set_cons_zero, List.set_cons_succ]
          refine takeH 13 124 (.slice A4 k c4) ⟨_, rfl, rfl, rfl, ?_⟩ (by kernel_rfl) (by kernel_rfl) (by kernel_rfl) (fun _ _ _ h => h) HS0.out ?_
          · intro wz hSw; go_simp <;> (intro hq; omega)
          try simp only [Act.put, List.setIfInBounds_toArray, List.set_cons_zero, List.set_cons_succ]
          refine takeH 14 125 (.pointer (some ⟨g, 0, none⟩)) ⟨_, rfl, rfl, rfl, ?_⟩ (by kernel_rfl) (by kernel_rfl) (by kernel_rfl) (fun _ _ _ h => h) HS0.out ?_
          · intro wz hSw; go_simp
          try simp only [Act.put, List.setIfInBounds_toArray, List.set_cons_zero, List.set_cons_succ]
          refine takeH 15 126 (.pointer (some ⟨g, 6, none⟩)) ⟨_, rfl, rfl, rfl, ?_⟩ (by kernel_rfl) (by kernel_rfl) (by kernel_rfl) (fun _ _ _ h => h) HS0.out ?_
          · intro wz hSw; go_simp
          try simp only [Act.put, List.setIfInBounds_toArray, List.set_cons_zero, List.set_cons_succ]
          refine wpAnyH_ready (rs := [16]) (by kernel_rfl) (by simp) ?_
          refine AllReadyH.cons rfl (fun K hK => ?_) AllReadyH.nil
          obtain ⟨y3, y503⟩ := And.intro HPd.out.cells.2.2.2.2.2.2.1 (HPd.out.fz 6)
          have HSq3 := hide (Below.setCell HS0.out (p := ⟨g, 6, none⟩) (Nat.le_refl g) (.slice A6 m c3))
          go_simp
          try go_wp2_with fail
          refine hK.out _ _ HSq3.out (fun _ => ?_)
          clear y3 y503
          clear hK K
          try simp only [Act.put, List.setIfInBounds_toArray, List.set_cons_zero, List.set_cons_succ]
          refine takeH 17 127 (.pointer (some ⟨g, 0, none⟩)) ⟨_, rfl, rfl, rfl, ?_⟩ (by kernel_rfl) (by kernel_rfl) (by kernel_rfl) (fun _ _ _ h => h) HSq3.out ?_
          · intro wz hSw; go_simp
          try simp only [Act.put, List.setIfInBounds_toArray, List.set_cons_zero, List.set_cons_succ]
          refine takeH 18 128 (.pointer (some ⟨g, 7, none⟩)) ⟨_, rfl, rfl, rfl, ?_⟩ (by kernel_rfl) (by kernel_rfl) (by kernel_rfl) (fun _ _ _ h => h) HSq3.out ?_
          · intro wz hSw; go_simp
          try simp only [Act.put, List.setIfInBounds_toArray, List.set_cons_zero, List.set_cons_succ]
          refine wpAnyH_ready (rs := [19]) (by kernel_rfl) (by simp) ?_
          refine AllReadyH.cons rfl (fun K hK => ?_) AllReadyH.nil
          obtain ⟨y4, y504⟩ := And.intro HPP.out.cells.2.2.2.2.2.2.2.1 (HPP.out.fz 7)
          have HSq4 := hide (Below.setCell HSq3.out (p := ⟨g, 7, none⟩) (Nat.le_refl g) (.slice A4 k c4))
          go_simp
          try go_wp2_with fail
          refine hK.out _ _ HSq4.out (fun _ => ?_)
          clear y4 y504
          clear hK K
          try simp only [Act.put, List.setIfInBounds_toArray, List.set_cons_zero, List.set_cons_succ]
          refine wpAnyH_done (by kernel_rfl) ?_ _
          go_wp2
          first | go_end0 | refine bodyPost_ret (results_none rfl _ _ _) rfl ?_
          exact ⟨rfl, l7, _, _, x3, few7, fd7, by first | (rw [HND.out]; omega) | (rw [List.length_cons, HND.out]; omega), by omega, by rw [HE7.out]; exact (HFIN.out _ (by rw [HWD.out])).1, (HFIN.out _ (by rw [HWD.out])).2⟩
        · obtain ⟨_, _, _, _, _, _, _, y5, _, _, _⟩ := HPd.out.cells
          go_simp
          try go_wp2_with fail
          refine hK.out _ _ HS0.out (fun _ => ?_)
          clear y5
          clear hK K
          try simp only [Act.put, List.setIfInBounds_toArray, List.set_cons_zero, List.set_cons_succ]
          refine takeH 13 124 (.slice A4 k c4) ⟨_, rfl, rfl, rfl, ?_⟩ (by kernel_rfl) (by kernel_rfl) (by kernel_rfl) (fun _ _ _ h => h) HS0.out ?_
          · intro wz hSw; go_simp <;> (intro hq; omega)
          try simp only [Act.put, List.setIfInBounds_toArray, List.set_cons_zero, List.set_cons_succ]
          refine wpAnyH_ready (rs := [5]) (by kernel_rfl) (by simp) ?_
          refine AllReadyH.cons rfl (fun K hK => ?_) AllReadyH.nil
          obtain ⟨_, _, _, _, _, _, y6, _, _, _, _⟩ := HPd.out.cells
          go_simp
          try go_wp2_with fail
          refine hK.out _ _ HS0.out (fun _ => ?_)
          clear y6
          clear hK K
          try simp only [Act.put, List.setIfInBounds_toArray, List.set_cons_zero, List.set_cons_succ]
          refine takeH 7 118 (.slice A6 m c3) ⟨_, rfl, rfl, rfl, ?_⟩ (by kernel_rfl) (by kernel_rfl) (by kernel_rfl) (fun _ _ _ h => h) HS0.out ?_
          · intro wz hSw; go_simp <;> (intro hq; omega)
          try simp only [Act.put, List.setIfInBounds_toArray, List.set_cons_zero, List.set_cons_succ]
          refine takeH 14 125 (.pointer (some ⟨g, 0, none⟩)) ⟨_, rfl, rfl, rfl, ?_⟩ (by kernel_rfl) (by kernel_rfl) (by kernel_rfl) (fun _ _ _ h => h) HS0.out ?_
          · intro wz hSw; go_simp
          try simp only [Act.put, List.setIfInBounds_toArray, List.set_cons_zero, List.set_cons_succ]
          refine takeH 15 126 (.pointer (some ⟨g, 6, none⟩)) ⟨_, rfl, rfl, rfl, ?_⟩ (by kernel_rfl) (by kernel_rfl) (by kernel_rfl) (fun _ _ _ h => h) HS0.out ?_
          · intro wz hSw; go_simp
          try simp only [Act.put, List.setIfInBounds_toArray, List.set_cons_zero, List.set_cons_succ]
          refine wpAnyH_ready (rs := [16]) (by kernel_rfl) (by simp) ?_
          refine AllReadyH.cons rfl (fun K hK => ?_) AllReadyH.nil
          obtain ⟨y7, y507⟩ := And.intro HPd.out.cells.2.2.2.2.2.2.1 (HPd.out.fz 6)
          have HSq7 := hide (Below.setCell HS0.out (p := ⟨g, 6, none⟩) (Nat.le_refl g) (.slice A6 m c3))
          go_simp
          try go_wp2_with fail
          refine hK.out _ _ HSq7.out (fun _ => ?_)
          clear y7 y507
          clear hK K
          try simp only [Act.put, List.setIfInBounds_toArray, List.set_cons_zero, List.set_cons_succ]
          refine takeH 17 127 (.pointer (some ⟨g, 0, none⟩)) ⟨_, rfl, rfl, rfl, ?_⟩ (by kernel_rfl) (by kernel_rfl) (by kernel_rfl) (fun _ _ _ h => h) HSq7.out ?_
          · intro wz hSw; go_simp
          try simp only [Act.put, List.setIfInBounds_toArray, List.set_cons_zero, List.set_cons_succ]
          refine takeH 18 128 (.pointer (some ⟨g, 7, none⟩)) ⟨_, rfl, rfl, rfl, ?_⟩ (by kernel_rfl) (by kernel_rfl) (by kernel_rfl) (fun _ _ _ h => h) HSq7.out ?_
          · intro wz hSw; go_simp
          try simp only [Act.put, List.setIfInBounds_toArray, List.set_cons_zero, List.set_cons_succ]
          refine wpAnyH_ready (rs := [19]) (by kernel_rfl) (by simp) ?_
          refine AllReadyH.cons rfl (fun K hK => ?_) AllReadyH.nil
          obtain ⟨y8, y508⟩ := And.intro HPP.out.cells.2.2.2.2.2.2.2.1 (HPP.out.fz 7)
          have HSq8 := hide (Below.setCell HSq7.out (p := ⟨g, 7, none⟩) (Nat.le_refl g) (.slice A4 k c4))
          go_simp
          try go_wp2_with fail
          refine hK.out _ _ HSq8.out (fun _ => ?_)
          clear y8 y508
          clear hK K
          try simp only [Act.put, List.setIfInBounds_toArray, List.set_cons_zero, List.set_cons_succ]
          refine wpAnyH_done (by kernel_rfl) ?_ _
          go_wp2
          first | go_end0 | refine bodyPost_ret (results_none rfl _ _ _) rfl ?_
          exact ⟨rfl, l7, _, _, x3, few7, fd7, by first | (rw [HND.out]; omega) | (rw [List.length_cons, HND.out]; omega), by omega, by rw [HE7.out]; exact (HFIN.out _ (by rw [HWD.out])).1, (HFIN.out _ (by rw [HWD.out])).2⟩
      --]

end Go.Proofs.YtcclfmapbgdpdaaGreatDoor
