/- loader.search of the program: the search for the fewest rides. Printed by gen_loas.py. -/
import Derived.Test.YtcclfmapbgdpdaaGreatDoorLoaQ
import Derived.Test.YtcclfmapbgdpdaaGreatDoorFill
import Derived.Deep.DeepCutAuto
namespace Go.Proofs.YtcclfmapbgdpdaaGreatDoor
open Go.RowKit
set_option linter.unusedVariables false

/-- A room that is put on. -/
def SmO (o : RmZ) : Prop := (0 ≤ o.p ∧ o.p ≤ 200) ∧ (0 ≤ o.b ∧ o.b ≤ 40) ∧ (0 ≤ o.k ∧ o.k ≤ 100000)
def SearchOk (g : Nat) (A : Option Addr) (n c : Nat) (xs : List GrpZ) (rp rb rk : Int) (rest : List RmZ) : Prop :=
  ∀ (ons : List RmZ) (rs : List Int) (best : Option (List Int × Nat)) (left : Nat) (v1 v2 v3 : Value) (few : Int) (fd : Bool) (w : World),
   rest = (xs.map needZ).drop rs.length → rs.length + rest.length = n → ons.length ≤ rs.length → (∀ o ∈ ons, SmO o) → (∀ v ∈ rs, 0 ≤ v ∧ v ≤ 12) → nodZ rest.length ons.length ≤ left → left ≤ 20000 → (∀ W, Below g w W → RdK kGrp W A n xs) → LdP w g A n c ⟨rp, rb, rk⟩ left v1 v2 v3 few fd ons rs best →
   Calls Tryz.prog 138 #[.pointer (some ⟨g, 0, none⟩)] w fun e w' => e = .returned (.tuple #[]) ∧ ∃ left' v1' v2' v3' few' fd', left ≤ left' + nodZ rest.length ons.length ∧ left' ≤ left ∧ LdP w' g A n c ⟨rp, rb, rk⟩ left' v1' v2' v3' few' fd' ons rs (goZ ⟨rp, rb, rk⟩ rest ons rs best) ∧ Kp w w' g v1 v2 v1' v2'

set_option maxHeartbeats 8000000 in
set_option maxRecDepth 100000 in
theorem search_nil (g : Nat) (A : Option Addr) (n c : Nat) (xs : List GrpZ) (rp rb rk : Int) (hn : n ≤ 12) : SearchOk g A n c xs rp rb rk [] := by
  intro ons rs best left v1 v2 v3 few fd w hrest hlen hmk hsm hri hnod hl2 hL hP
  rw [List.length_nil, nodZ] at hnod
  obtain ⟨l, rfl⟩ : ∃ l, left = l + 1 := ⟨left - 1, by omega⟩
  have hkn : n = rs.length := by simpa using hlen.symm
  obtain ⟨m, hm⟩ : ∃ m, m = ons.length := ⟨_, rfl⟩
  obtain ⟨A1, c1, A2, c2, e1, e2, hc1, hc2⟩ := hP.vals hm hkn
  subst e1
  subst e2
  have HCL : Hid (∀ W, LdP W g A n c ⟨rp, rb, rk⟩ l (.slice A1 m c1) (.slice A2 n c2) v3 few fd ons rs best → Calls Tryz.prog 85 #[.slice A2 n c2] W fun e w' => ∃ A' c', e = .returned (.slice A' n c') ∧ w'.ownsRow W.heap.size 2 1 (.slice A' n c') n (cI rs) ∧ Below W.heap.size W w') := fun W h => by
    have h1 := h.rd
    rw [← hkn] at h1
    exact cloneI_calls A2 n c2 rs W (RdI.of_own h1 (fun x hx => by have := hri x hx; unfold I64; omega)) (by omega)
  have HP := hide hP
  have HM := hide hm
  have HKN := hide hkn
  have hm12 : m ≤ 12 := by omega
  obtain ⟨z0, z1, _⟩ := hP.cells
  have f0 := hP.fz 0
  have z0' : w.cell? ⟨g, 0, none⟩ = some (.int .i64 ((l : Int) + 1)) := by rw [z0]; simp
  have ND := hide (node_calls g l w (by omega) z0' f0)
  clear z0 hP hm hkn hrest hlen hmk hsm hri hL
  go_enter Tryz.func138, Tryz.ntmps138
  go_wp2_with fail
  refine ND.out.mono ?_
  rintro e w1 ⟨rfl, hw1⟩
  have HP1 : Hid (LdP w1 g A n c ⟨rp, rb, rk⟩ l (.slice A1 m c1) (.slice A2 n c2) v3 few fd ons rs best) := by rw [hw1]; exact HP.out.node
  have HK1 : Hid (Kp w w1 g (.slice A1 m c1) (.slice A2 n c2) (.slice A1 m c1) (.slice A2 n c2)) := by rw [hw1]; exact Kp.set
  clear hw1 z0' z1 f0 ND HP
  obtain ⟨_, _, z2, _, _, _, z6, z7, _, z9, z10⟩ := HP1.out.cells
  have hbs := HP1.out.bs
  cases best with
  | none =>
    have hfd : fd = false := hbs
    subst hfd
    have HGO : Hid (goZ ⟨rp, rb, rk⟩ [] ons rs none = some (rs, m)) := by rw [HM.out]; rfl
    clear hbs
    go_wp2_with fail
    go_quiet (fail)
    go_wp2_with fail
    obtain ⟨w2, hw2⟩ : ∃ w2, w2 = w1.drewN nq := ⟨_, rfl⟩
    rw [← hw2]
    have HP2 : Hid (LdP w2 g A n c ⟨rp, rb, rk⟩ l (.slice A1 m c1) (.slice A2 n c2) v3 few false ons rs none) := by rw [hw2]; exact HP1.out.keep fun _ _ => rfl
    have HK2 : Hid (Kp w w2 g (.slice A1 m c1) (.slice A2 n c2) (.slice A1 m c1) (.slice A2 n c2)) := by rw [hw2]; exact HK1.out.trans (Kp.of_below (below_drewN (Below.refl _ _) _))
    clear hw2 z2 z6 z7 z9 z10 HP1 HK1
    obtain ⟨wd, hwd⟩ : ∃ wd : World, wd = w2.drew := ⟨_, rfl⟩
    have HS0 : Hid ((fun W => Below g w2 W) wd) := by rw [hwd]; exact (Below.refl g w2).drew
    have HWD := hide hwd
    have HPd : Hid (LdP wd g A n c ⟨rp, rb, rk⟩ l (.slice A1 m c1) (.slice A2 n c2) v3 few false ons rs none) := by rw [HWD.out]; exact HP2.out.keep fun _ _ => rfl
    refine wp_region_held_drew (S := fun W => Below g w2 W) (by kernel_rfl) (by rw [← hwd]; exact HS0.out) (fun _ => ?_)
    rw [← hwd]
    clear hwd
    refine takeH 0 47 (.pointer (some ⟨g, 0, none⟩)) ⟨_, rfl, rfl, rfl, ?_⟩ (by kernel_rfl) (by kernel_rfl) (by kernel_rfl) (fun _ _ _ h => h) HS0.out ?_
    · intro wz hSw; go_simp
    try simp only [Act.put, List.setIfInBounds_toArray, List.set_cons_zero, List.set_cons_succ]
    refine takeH 1 48 (.pointer (some ⟨g, 0, none⟩)) ⟨_, rfl, rfl, rfl, ?_⟩ (by kernel_rfl) (by kernel_rfl) (by kernel_rfl) (fun _ _ _ h => h) HS0.out ?_
    · intro wz hSw; go_simp
    try simp only [Act.put, List.setIfInBounds_toArray, List.set_cons_zero, List.set_cons_succ]
    refine takeH 2 49 (.pointer (some ⟨g, 0, none⟩)) ⟨_, rfl, rfl, rfl, ?_⟩ (by kernel_rfl) (by kernel_rfl) (by kernel_rfl) (fun _ _ _ h => h) HS0.out ?_
    · intro wz hSw; go_simp
    try simp only [Act.put, List.setIfInBounds_toArray, List.set_cons_zero, List.set_cons_succ]
    refine takeH 3 50 (.pointer (some ⟨g, 0, none⟩)) ⟨_, rfl, rfl, rfl, ?_⟩ (by kernel_rfl) (by kernel_rfl) (by kernel_rfl) (fun _ _ _ h => h) HS0.out ?_
    · intro wz hSw; go_simp
    try simp only [Act.put, List.setIfInBounds_toArray, List.set_cons_zero, List.set_cons_succ]
    refine takeH 4 51 (.pointer (some ⟨g, 0, none⟩)) ⟨_, rfl, rfl, rfl, ?_⟩ (by kernel_rfl) (by kernel_rfl) (by kernel_rfl) (fun _ _ _ h => h) HS0.out ?_
    · intro wz hSw; go_simp
    try simp only [Act.put, List.setIfInBounds_toArray, List.set_cons_zero, List.set_cons_succ]
    refine takeH 5 52 (.pointer (some ⟨g, 7, none⟩)) ⟨_, rfl, rfl, rfl, ?_⟩ (by kernel_rfl) (by kernel_rfl) (by kernel_rfl) (fun _ _ _ h => h) HS0.out ?_
    · intro wz hSw; go_simp
    try simp only [Act.put, List.setIfInBounds_toArray, List.set_cons_zero, List.set_cons_succ]
    refine takeH 8 55 (.pointer (some ⟨g, 0, none⟩)) ⟨_, rfl, rfl, rfl, ?_⟩ (by kernel_rfl) (by kernel_rfl) (by kernel_rfl) (fun _ _ _ h => h) HS0.out ?_
    · intro wz hSw; go_simp
    try simp only [Act.put, List.setIfInBounds_toArray, List.set_cons_zero, List.set_cons_succ]
    refine takeH 9 56 (.pointer (some ⟨g, 0, none⟩)) ⟨_, rfl, rfl, rfl, ?_⟩ (by kernel_rfl) (by kernel_rfl) (by kernel_rfl) (fun _ _ _ h => h) HS0.out ?_
    · intro wz hSw; go_simp
    try simp only [Act.put, List.setIfInBounds_toArray, List.set_cons_zero, List.set_cons_succ]
    refine takeH 10 57 (.pointer (some ⟨g, 6, none⟩)) ⟨_, rfl, rfl, rfl, ?_⟩ (by kernel_rfl) (by kernel_rfl) (by kernel_rfl) (fun _ _ _ h => h) HS0.out ?_
    · intro wz hSw; go_simp
    try simp only [Act.put, List.setIfInBounds_toArray, List.set_cons_zero, List.set_cons_succ]
    refine wpAnyH_ready (rs := [6, 11]) (by kernel_rfl) (by simp) ?_
    refine AllReadyH.cons rfl (fun K hK => ?_) (AllReadyH.cons rfl (fun K hK => ?_) AllReadyH.nil)
    · obtain ⟨_, _, _, _, _, _, _, y1, _, _, _⟩ := HPd.out.cells
      go_simp
      try go_wp2_with fail
      refine hK.out _ _ HS0.out (fun _ => ?_)
      clear y1
      clear hK K
      try simp only [Act.put, List.setIfInBounds_toArray, List.set_cons_zero, List.set_cons_succ]
      refine wpAnyH_ready (rs := [7, 11]) (by kernel_rfl) (by simp) ?_
      refine AllReadyH.cons rfl (fun K hK => ?_) (AllReadyH.cons rfl (fun K hK => ?_) AllReadyH.nil)
      · go_simp
        refine (HCL.out wd HPd.out).mono ?_
        rintro e w5 ⟨A5, c5, rfl, hown5, hb5⟩
        have HO5 := hide hown5
        have HB5 := hide hb5
        have HSq2 := hide (HS0.out.trans (hb5.mono (Nat.le_of_lt HPd.out.lt)))
        have HP5 := hide (HPd.out.below hb5)
        clear hown5 hb5
        try go_wp2_with fail
        refine hK.out _ _ HSq2.out (fun _ => ?_)
        clear hK K
        try simp only [Act.put, List.setIfInBounds_toArray, List.set_cons_zero, List.set_cons_succ]
        refine wpAnyH_ready (rs := [11]) (by kernel_rfl) (by simp) ?_
        refine AllReadyH.cons rfl (fun K hK => ?_) AllReadyH.nil
        obtain ⟨_, _, _, _, _, _, y3, _, _, _, _⟩ := HP5.out.cells
        go_simp
        try go_wp2_with fail
        refine hK.out _ _ HSq2.out (fun _ => ?_)
        clear y3
        clear hK K
        try simp only [Act.put, List.setIfInBounds_toArray, List.set_cons_zero, List.set_cons_succ]
        refine takeH 12 59 (.int .i64 (m : Int)) ⟨_, rfl, rfl, rfl, ?_⟩ (by kernel_rfl) (by kernel_rfl) (by kernel_rfl) (fun _ _ _ h => h) HSq2.out ?_
        · intro wz hSw; go_simp
        try simp only [Act.put, List.setIfInBounds_toArray, List.set_cons_zero, List.set_cons_succ]
        refine takeH 13 60 (.pointer (some ⟨g, 0, none⟩)) ⟨_, rfl, rfl, rfl, ?_⟩ (by kernel_rfl) (by kernel_rfl) (by kernel_rfl) (fun _ _ _ h => h) HSq2.out ?_
        · intro wz hSw; go_simp
        try simp only [Act.put, List.setIfInBounds_toArray, List.set_cons_zero, List.set_cons_succ]
        refine takeH 14 61 (.pointer (some ⟨g, 8, none⟩)) ⟨_, rfl, rfl, rfl, ?_⟩ (by kernel_rfl) (by kernel_rfl) (by kernel_rfl) (fun _ _ _ h => h) HSq2.out ?_
        · intro wz hSw; go_simp
        try simp only [Act.put, List.setIfInBounds_toArray, List.set_cons_zero, List.set_cons_succ]
        refine wpAnyH_ready (rs := [15]) (by kernel_rfl) (by simp) ?_
        refine AllReadyH.cons rfl (fun K hK => ?_) AllReadyH.nil
        have y4 := (cell_of_row _ g 8 _ _ _ HP5.out.ld).trans rfl
        have y504 := frozen_of_row _ g 8 _ _ HP5.out.ld
        have HSq4 := hide (Below.setCell HSq2.out (p := ⟨g, 8, none⟩) (Nat.le_refl g) (.slice A5 n c5))
        go_simp
        try go_wp2_with fail
        refine hK.out _ _ HSq4.out (fun _ => ?_)
        clear y4 y504
        clear hK K
        try simp only [Act.put, List.setIfInBounds_toArray, List.set_cons_zero, List.set_cons_succ]
        refine takeH 16 62 (.pointer (some ⟨g, 0, none⟩)) ⟨_, rfl, rfl, rfl, ?_⟩ (by kernel_rfl) (by kernel_rfl) (by kernel_rfl) (fun _ _ _ h => h) HSq4.out ?_
        · intro wz hSw; go_simp
        try simp only [Act.put, List.setIfInBounds_toArray, List.set_cons_zero, List.set_cons_succ]
        refine takeH 17 63 (.pointer (some ⟨g, 9, none⟩)) ⟨_, rfl, rfl, rfl, ?_⟩ (by kernel_rfl) (by kernel_rfl) (by kernel_rfl) (fun _ _ _ h => h) HSq4.out ?_
        · intro wz hSw; go_simp
        try simp only [Act.put, List.setIfInBounds_toArray, List.set_cons_zero, List.set_cons_succ]
        refine wpAnyH_ready (rs := [18]) (by kernel_rfl) (by simp) ?_
        refine AllReadyH.cons rfl (fun K hK => ?_) AllReadyH.nil
        have y5 := (cell_of_row _ g 9 _ _ _ (heap_setCell_same _ g 8 _ _ (.slice A5 n c5) HP5.out.ld)).trans rfl
        have y505 := frozen_of_row _ g 9 _ _ (heap_setCell_same _ g 8 _ _ (.slice A5 n c5) HP5.out.ld)
        have HSq5 := hide (Below.setCell HSq4.out (p := ⟨g, 9, none⟩) (Nat.le_refl g) (.int .i64 (m : Int)))
        go_simp
        try go_wp2_with fail
        refine hK.out _ _ HSq5.out (fun _ => ?_)
        clear y5 y505
        clear hK K
        try simp only [Act.put, List.setIfInBounds_toArray, List.set_cons_zero, List.set_cons_succ]
        refine takeH 19 64 (.pointer (some ⟨g, 0, none⟩)) ⟨_, rfl, rfl, rfl, ?_⟩ (by kernel_rfl) (by kernel_rfl) (by kernel_rfl) (fun _ _ _ h => h) HSq5.out ?_
        · intro wz hSw; go_simp
        try simp only [Act.put, List.setIfInBounds_toArray, List.set_cons_zero, List.set_cons_succ]
        refine takeH 20 65 (.pointer (some ⟨g, 10, none⟩)) ⟨_, rfl, rfl, rfl, ?_⟩ (by kernel_rfl) (by kernel_rfl) (by kernel_rfl) (fun _ _ _ h => h) HSq5.out ?_
        · intro wz hSw; go_simp
        try simp only [Act.put, List.setIfInBounds_toArray, List.set_cons_zero, List.set_cons_succ]
        refine wpAnyH_ready (rs := [21]) (by kernel_rfl) (by simp) ?_
        refine AllReadyH.cons rfl (fun K hK => ?_) AllReadyH.nil
        have y6 := (cell_of_row _ g 10 _ _ _ (heap_setCell_same _ g 9 _ _ (.int .i64 (m : Int)) (heap_setCell_same _ g 8 _ _ (.slice A5 n c5) HP5.out.ld))).trans rfl
        have y506 := frozen_of_row _ g 10 _ _ (heap_setCell_same _ g 9 _ _ (.int .i64 (m : Int)) (heap_setCell_same _ g 8 _ _ (.slice A5 n c5) HP5.out.ld))
        have HSq6 := hide (Below.setCell HSq5.out (p := ⟨g, 10, none⟩) (Nat.le_refl g) (.bool true))
        go_simp
        try go_wp2_with fail
        refine hK.out _ _ HSq6.out (fun _ => ?_)
        clear y6 y506
        clear hK K
        try simp only [Act.put, List.setIfInBounds_toArray, List.set_cons_zero, List.set_cons_succ]
        refine wpAnyH_done (by kernel_rfl) ?_ _
        go_wp2
        first | go_end0 | refine bodyPost_ret (results_none rfl _ _ _) rfl ?_
        have HT := HPd.out.take (v3' := .slice A5 n c5) HB5.out ((fun q (e : n = q) => by subst e; exact HO5.out : ∀ q, n = q → w5.ownsRow wd.heap.size 2 1 (.slice A5 n c5) q (cI rs)) _ HKN.out)
        rw [← HM.out] at HT
        exact ⟨rfl, l, _, _, _, _, _, by first | (rw [nodZ]; omega) | (rw [List.length_nil, nodZ]; omega), by omega, by rw [HGO.out]; exact HT, HK2.out.trans ((show Kp w2 wd g (.slice A1 m c1) (.slice A2 n c2) (.slice A1 m c1) (.slice A2 n c2) by rw [HWD.out]; exact Kp.of_below (Below.refl _ _).drew).trans ((Kp.of_below HB5.out).trans ((Kp.set.trans Kp.set).trans Kp.set)))⟩
      · obtain ⟨_, _, _, _, _, _, y7, _, _, _, _⟩ := HPd.out.cells
        go_simp
        try go_wp2_with fail
        refine hK.out _ _ HS0.out (fun _ => ?_)
        clear y7
        clear hK K
        try simp only [Act.put, List.setIfInBounds_toArray, List.set_cons_zero, List.set_cons_succ]
        refine takeH 12 59 (.int .i64 (m : Int)) ⟨_, rfl, rfl, rfl, ?_⟩ (by kernel_rfl) (by kernel_rfl) (by kernel_rfl) (fun _ _ _ h => h) HS0.out ?_
        · intro wz hSw; go_simp
        try simp only [Act.put, List.setIfInBounds_toArray, List.set_cons_zero, List.set_cons_succ]
        refine wpAnyH_ready (rs := [7]) (by kernel_rfl) (by simp) ?_
        refine AllReadyH.cons rfl (fun K hK => ?_) AllReadyH.nil
        go_simp
        refine (HCL.out wd HPd.out).mono ?_
        rintro e w5 ⟨A5, c5, rfl, hown5, hb5⟩
        have HO5 := hide hown5
        have HB5 := hide hb5
        have HSq8 := hide (HS0.out.trans (hb5.mono (Nat.le_of_lt HPd.out.lt)))
        have HP5 := hide (HPd.out.below hb5)
        clear hown5 hb5
        try go_wp2_with fail
        refine hK.out _ _ HSq8.out (fun _ => ?_)
        clear hK K
        try simp only [Act.put, List.setIfInBounds_toArray, List.set_cons_zero, List.set_cons_succ]
        refine takeH 13 60 (.pointer (some ⟨g, 0, none⟩)) ⟨_, rfl, rfl, rfl, ?_⟩ (by kernel_rfl) (by kernel_rfl) (by kernel_rfl) (fun _ _ _ h => h) HSq8.out ?_
        · intro wz hSw; go_simp
        try simp only [Act.put, List.setIfInBounds_toArray, List.set_cons_zero, List.set_cons_succ]
        refine takeH 14 61 (.pointer (some ⟨g, 8, none⟩)) ⟨_, rfl, rfl, rfl, ?_⟩ (by kernel_rfl) (by kernel_rfl) (by kernel_rfl) (fun _ _ _ h => h) HSq8.out ?_
        · intro wz hSw; go_simp
        try simp only [Act.put, List.setIfInBounds_toArray, List.set_cons_zero, List.set_cons_succ]
        refine wpAnyH_ready (rs := [15]) (by kernel_rfl) (by simp) ?_
        refine AllReadyH.cons rfl (fun K hK => ?_) AllReadyH.nil
        have y9 := (cell_of_row _ g 8 _ _ _ HP5.out.ld).trans rfl
        have y509 := frozen_of_row _ g 8 _ _ HP5.out.ld
        have HSq9 := hide (Below.setCell HSq8.out (p := ⟨g, 8, none⟩) (Nat.le_refl g) (.slice A5 n c5))
        go_simp
        try go_wp2_with fail
        refine hK.out _ _ HSq9.out (fun _ => ?_)
        clear y9 y509
        clear hK K
        try simp only [Act.put, List.setIfInBounds_toArray, List.set_cons_zero, List.set_cons_succ]
        refine takeH 16 62 (.pointer (some ⟨g, 0, none⟩)) ⟨_, rfl, rfl, rfl, ?_⟩ (by kernel_rfl) (by kernel_rfl) (by kernel_rfl) (fun _ _ _ h => h) HSq9.out ?_
        · intro wz hSw; go_simp
        try simp only [Act.put, List.setIfInBounds_toArray, List.set_cons_zero, List.set_cons_succ]
        refine takeH 17 63 (.pointer (some ⟨g, 9, none⟩)) ⟨_, rfl, rfl, rfl, ?_⟩ (by kernel_rfl) (by kernel_rfl) (by kernel_rfl) (fun _ _ _ h => h) HSq9.out ?_
        · intro wz hSw; go_simp
        try simp only [Act.put, List.setIfInBounds_toArray, List.set_cons_zero, List.set_cons_succ]
        refine wpAnyH_ready (rs := [18]) (by kernel_rfl) (by simp) ?_
        refine AllReadyH.cons rfl (fun K hK => ?_) AllReadyH.nil
        have y10 := (cell_of_row _ g 9 _ _ _ (heap_setCell_same _ g 8 _ _ (.slice A5 n c5) HP5.out.ld)).trans rfl
        have y510 := frozen_of_row _ g 9 _ _ (heap_setCell_same _ g 8 _ _ (.slice A5 n c5) HP5.out.ld)
        have HSq10 := hide (Below.setCell HSq9.out (p := ⟨g, 9, none⟩) (Nat.le_refl g) (.int .i64 (m : Int)))
        go_simp
        try go_wp2_with fail
        refine hK.out _ _ HSq10.out (fun _ => ?_)
        clear y10 y510
        clear hK K
        try simp only [Act.put, List.setIfInBounds_toArray, List.set_cons_zero, List.set_cons_succ]
        refine takeH 19 64 (.pointer (some ⟨g, 0, none⟩)) ⟨_, rfl, rfl, rfl, ?_⟩ (by kernel_rfl) (by kernel_rfl) (by kernel_rfl) (fun _ _ _ h => h) HSq10.out ?_
        · intro wz hSw; go_simp
        try simp only [Act.put, List.setIfInBounds_toArray, List.set_cons_zero, List.set_cons_succ]
        refine takeH 20 65 (.pointer (some ⟨g, 10, none⟩)) ⟨_, rfl, rfl, rfl, ?_⟩ (by kernel_rfl) (by kernel_rfl) (by kernel_rfl) (fun _ _ _ h => h) HSq10.out ?_
        · intro wz hSw; go_simp
        try simp only [Act.put, List.setIfInBounds_toArray, List.set_cons_zero, List.set_cons_succ]
        refine wpAnyH_ready (rs := [21]) (by kernel_rfl) (by simp) ?_
        refine AllReadyH.cons rfl (fun K hK => ?_) AllReadyH.nil
        have y11 := (cell_of_row _ g 10 _ _ _ (heap_setCell_same _ g 9 _ _ (.int .i64 (m : Int)) (heap_setCell_same _ g 8 _ _ (.slice A5 n c5) HP5.out.ld))).trans rfl
        have y511 := frozen_of_row _ g 10 _ _ (heap_setCell_same _ g 9 _ _ (.int .i64 (m : Int)) (heap_setCell_same _ g 8 _ _ (.slice A5 n c5) HP5.out.ld))
        have HSq11 := hide (Below.setCell HSq10.out (p := ⟨g, 10, none⟩) (Nat.le_refl g) (.bool true))
        go_simp
        try go_wp2_with fail
        refine hK.out _ _ HSq11.out (fun _ => ?_)
        clear y11 y511
        clear hK K
        try simp only [Act.put, List.setIfInBounds_toArray, List.set_cons_zero, List.set_cons_succ]
        refine wpAnyH_done (by kernel_rfl) ?_ _
        go_wp2
        first | go_end0 | refine bodyPost_ret (results_none rfl _ _ _) rfl ?_
        have HT := HPd.out.take (v3' := .slice A5 n c5) HB5.out ((fun q (e : n = q) => by subst e; exact HO5.out : ∀ q, n = q → w5.ownsRow wd.heap.size 2 1 (.slice A5 n c5) q (cI rs)) _ HKN.out)
        rw [← HM.out] at HT
        exact ⟨rfl, l, _, _, _, _, _, by first | (rw [nodZ]; omega) | (rw [List.length_nil, nodZ]; omega), by omega, by rw [HGO.out]; exact HT, HK2.out.trans ((show Kp w2 wd g (.slice A1 m c1) (.slice A2 n c2) (.slice A1 m c1) (.slice A2 n c2) by rw [HWD.out]; exact Kp.of_below (Below.refl _ _).drew).trans ((Kp.of_below HB5.out).trans ((Kp.set.trans Kp.set).trans Kp.set)))⟩
    · obtain ⟨_, _, _, _, _, _, y12, _, _, _, _⟩ := HPd.out.cells
      go_simp
      try go_wp2_with fail
      refine hK.out _ _ HS0.out (fun _ => ?_)
      clear y12
      clear hK K
      try simp only [Act.put, List.setIfInBounds_toArray, List.set_cons_zero, List.set_cons_succ]
      refine takeH 12 59 (.int .i64 (m : Int)) ⟨_, rfl, rfl, rfl, ?_⟩ (by kernel_rfl) (by kernel_rfl) (by kernel_rfl) (fun _ _ _ h => h) HS0.out ?_
      · intro wz hSw; go_simp
      try simp only [Act.put, List.setIfInBounds_toArray, List.set_cons_zero, List.set_cons_succ]
      refine wpAnyH_ready (rs := [6]) (by kernel_rfl) (by simp) ?_
      refine AllReadyH.cons rfl (fun K hK => ?_) AllReadyH.nil
      obtain ⟨_, _, _, _, _, _, _, y13, _, _, _⟩ := HPd.out.cells
      go_simp
      try go_wp2_with fail
      refine hK.out _ _ HS0.out (fun _ => ?_)
      clear y13
      clear hK K
      try simp only [Act.put, List.setIfInBounds_toArray, List.set_cons_zero, List.set_cons_succ]
      refine wpAnyH_ready (rs := [7]) (by kernel_rfl) (by simp) ?_
      refine AllReadyH.cons rfl (fun K hK => ?_) AllReadyH.nil
      go_simp
      refine (HCL.out wd HPd.out).mono ?_
      rintro e w5 ⟨A5, c5, rfl, hown5, hb5⟩
      have HO5 := hide hown5
      have HB5 := hide hb5
      have HSq14 := hide (HS0.out.trans (hb5.mono (Nat.le_of_lt HPd.out.lt)))
      have HP5 := hide (HPd.out.below hb5)
      clear hown5 hb5
      try go_wp2_with fail
      refine hK.out _ _ HSq14.out (fun _ => ?_)
      clear hK K
      try simp only [Act.put, List.setIfInBounds_toArray, List.set_cons_zero, List.set_cons_succ]
      refine takeH 13 60 (.pointer (some ⟨g, 0, none⟩)) ⟨_, rfl, rfl, rfl, ?_⟩ (by kernel_rfl) (by kernel_rfl) (by kernel_rfl) (fun _ _ _ h => h) HSq14.out ?_
      · intro wz hSw; go_simp
      try simp only [Act.put, List.setIfInBounds_toArray, List.set_cons_zero, List.set_cons_succ]
      refine takeH 14 61 (.pointer (some ⟨g, 8, none⟩)) ⟨_, rfl, rfl, rfl, ?_⟩ (by kernel_rfl) (by kernel_rfl) (by kernel_rfl) (fun _ _ _ h => h) HSq14.out ?_
      · intro wz hSw; go_simp
      try simp only [Act.put, List.setIfInBounds_toArray, List.set_cons_zero, List.set_cons_succ]
      refine wpAnyH_ready (rs := [15]) (by kernel_rfl) (by simp) ?_
      refine AllReadyH.cons rfl (fun K hK => ?_) AllReadyH.nil
      have y15 := (cell_of_row _ g 8 _ _ _ HP5.out.ld).trans rfl
      have y515 := frozen_of_row _ g 8 _ _ HP5.out.ld
      have HSq15 := hide (Below.setCell HSq14.out (p := ⟨g, 8, none⟩) (Nat.le_refl g) (.slice A5 n c5))
      go_simp
      try go_wp2_with fail
      refine hK.out _ _ HSq15.out (fun _ => ?_)
      clear y15 y515
      clear hK K
      try simp only [Act.put, List.setIfInBounds_toArray, List.set_cons_zero, List.set_cons_succ]
      refine takeH 16 62 (.pointer (some ⟨g, 0, none⟩)) ⟨_, rfl, rfl, rfl, ?_⟩ (by kernel_rfl) (by kernel_rfl) (by kernel_rfl) (fun _ _ _ h => h) HSq15.out ?_
      · intro wz hSw; go_simp
      try simp only [Act.put, List.setIfInBounds_toArray, List.set_cons_zero, List.set_cons_succ]
      refine takeH 17 63 (.pointer (some ⟨g, 9, none⟩)) ⟨_, rfl, rfl, rfl, ?_⟩ (by kernel_rfl) (by kernel_rfl) (by kernel_rfl) (fun _ _ _ h => h) HSq15.out ?_
      · intro wz hSw; go_simp
      try simp only [Act.put, List.setIfInBounds_toArray, List.set_cons_zero, List.set_cons_succ]
      refine wpAnyH_ready (rs := [18]) (by kernel_rfl) (by simp) ?_
      refine AllReadyH.cons rfl (fun K hK => ?_) AllReadyH.nil
      have y16 := (cell_of_row _ g 9 _ _ _ (heap_setCell_same _ g 8 _ _ (.slice A5 n c5) HP5.out.ld)).trans rfl
      have y516 := frozen_of_row _ g 9 _ _ (heap_setCell_same _ g 8 _ _ (.slice A5 n c5) HP5.out.ld)
      have HSq16 := hide (Below.setCell HSq15.out (p := ⟨g, 9, none⟩) (Nat.le_refl g) (.int .i64 (m : Int)))
      go_simp
      try go_wp2_with fail
      refine hK.out _ _ HSq16.out (fun _ => ?_)
      clear y16 y516
      clear hK K
      try simp only [Act.put, List.setIfInBounds_toArray, List.set_cons_zero, List.set_cons_succ]
      refine takeH 19 64 (.pointer (some ⟨g, 0, none⟩)) ⟨_, rfl, rfl, rfl, ?_⟩ (by kernel_rfl) (by kernel_rfl) (by kernel_rfl) (fun _ _ _ h => h) HSq16.out ?_
      · intro wz hSw; go_simp
      try simp only [Act.put, List.setIfInBounds_toArray, List.set_cons_zero, List.set_cons_succ]
      refine takeH 20 65 (.pointer (some ⟨g, 10, none⟩)) ⟨_, rfl, rfl, rfl, ?_⟩ (by kernel_rfl) (by kernel_rfl) (by kernel_rfl) (fun _ _ _ h => h) HSq16.out ?_
      · intro wz hSw; go_simp
      try simp only [Act.put, List.setIfInBounds_toArray, List.set_cons_zero, List.set_cons_succ]
      refine wpAnyH_ready (rs := [21]) (by kernel_rfl) (by simp) ?_
      refine AllReadyH.cons rfl (fun K hK => ?_) AllReadyH.nil
      have y17 := (cell_of_row _ g 10 _ _ _ (heap_setCell_same _ g 9 _ _ (.int .i64 (m : Int)) (heap_setCell_same _ g 8 _ _ (.slice A5 n c5) HP5.out.ld))).trans rfl
      have y517 := frozen_of_row _ g 10 _ _ (heap_setCell_same _ g 9 _ _ (.int .i64 (m : Int)) (heap_setCell_same _ g 8 _ _ (.slice A5 n c5) HP5.out.ld))
      have HSq17 := hide (Below.setCell HSq16.out (p := ⟨g, 10, none⟩) (Nat.le_refl g) (.bool true))
      go_simp
      try go_wp2_with fail
      refine hK.out _ _ HSq17.out (fun _ => ?_)
      clear y17 y517
      clear hK K
      try simp only [Act.put, List.setIfInBounds_toArray, List.set_cons_zero, List.set_cons_succ]
      refine wpAnyH_done (by kernel_rfl) ?_ _
      go_wp2
      first | go_end0 | refine bodyPost_ret (results_none rfl _ _ _) rfl ?_
      have HT := HPd.out.take (v3' := .slice A5 n c5) HB5.out ((fun q (e : n = q) => by subst e; exact HO5.out : ∀ q, n = q → w5.ownsRow wd.heap.size 2 1 (.slice A5 n c5) q (cI rs)) _ HKN.out)
      rw [← HM.out] at HT
      exact ⟨rfl, l, _, _, _, _, _, by first | (rw [nodZ]; omega) | (rw [List.length_nil, nodZ]; omega), by omega, by rw [HGO.out]; exact HT, HK2.out.trans ((show Kp w2 wd g (.slice A1 m c1) (.slice A2 n c2) (.slice A1 m c1) (.slice A2 n c2) by rw [HWD.out]; exact Kp.of_below (Below.refl _ _).drew).trans ((Kp.of_below HB5.out).trans ((Kp.set.trans Kp.set).trans Kp.set)))⟩
  | some b =>
    obtain ⟨bs, u⟩ := b
    obtain ⟨hfd, hfew, _, _⟩ := hbs
    simp only at hfew
    subst hfd
    subst hfew
    by_cases hlt : m < u
    · have hlt' : (m : Int) < (u : Int) := by omega
      have d1 : decide (m < u) = true := decide_eq_true hlt
      have HGO : Hid (goZ ⟨rp, rb, rk⟩ [] ons rs (some (bs, u)) = some (rs, m)) := by
        show (if ons.length < u then some (rs, ons.length) else some (bs, u)) = _
        rw [← HM.out, if_pos hlt]
      go_wp2_with fail
      go_quiet (fail)
      go_wp2_with fail
      obtain ⟨w2, hw2⟩ : ∃ w2, w2 = w1.drewN nq := ⟨_, rfl⟩
      rw [← hw2]
      have HP2 : Hid (LdP w2 g A n c ⟨rp, rb, rk⟩ l (.slice A1 m c1) (.slice A2 n c2) v3 (u : Int) true ons rs (some (bs, u))) := by rw [hw2]; exact HP1.out.keep fun _ _ => rfl
      have HK2 : Hid (Kp w w2 g (.slice A1 m c1) (.slice A2 n c2) (.slice A1 m c1) (.slice A2 n c2)) := by rw [hw2]; exact HK1.out.trans (Kp.of_below (below_drewN (Below.refl _ _) _))
      clear hw2 z2 z6 z7 z9 z10 HP1 HK1
      obtain ⟨wd, hwd⟩ : ∃ wd : World, wd = w2.drew := ⟨_, rfl⟩
      have HS0 : Hid ((fun W => Below g w2 W) wd) := by rw [hwd]; exact (Below.refl g w2).drew
      have HWD := hide hwd
      have HPd : Hid (LdP wd g A n c ⟨rp, rb, rk⟩ l (.slice A1 m c1) (.slice A2 n c2) v3 (u : Int) true ons rs (some (bs, u))) := by rw [HWD.out]; exact HP2.out.keep fun _ _ => rfl
      refine wp_region_held_drew (S := fun W => Below g w2 W) (by kernel_rfl) (by rw [← hwd]; exact HS0.out) (fun _ => ?_)
      rw [← hwd]
      clear hwd
      refine takeH 0 47 (.pointer (some ⟨g, 0, none⟩)) ⟨_, rfl, rfl, rfl, ?_⟩ (by kernel_rfl) (by kernel_rfl) (by kernel_rfl) (fun _ _ _ h => h) HS0.out ?_
      · intro wz hSw; go_simp
      try simp only [Act.put, List.setIfInBounds_toArray, List.set_cons_zero, List.set_cons_succ]
      refine takeH 1 48 (.pointer (some ⟨g, 0, none⟩)) ⟨_, rfl, rfl, rfl, ?_⟩ (by kernel_rfl) (by kernel_rfl) (by kernel_rfl) (fun _ _ _ h => h) HS0.out ?_
      · intro wz hSw; go_simp
      try simp only [Act.put, List.setIfInBounds_toArray, List.set_cons_zero, List.set_cons_succ]
      refine takeH 2 49 (.pointer (some ⟨g, 0, none⟩)) ⟨_, rfl, rfl, rfl, ?_⟩ (by kernel_rfl) (by kernel_rfl) (by kernel_rfl) (fun _ _ _ h => h) HS0.out ?_
      · intro wz hSw; go_simp
      try simp only [Act.put, List.setIfInBounds_toArray, List.set_cons_zero, List.set_cons_succ]
      refine takeH 3 50 (.pointer (some ⟨g, 0, none⟩)) ⟨_, rfl, rfl, rfl, ?_⟩ (by kernel_rfl) (by kernel_rfl) (by kernel_rfl) (fun _ _ _ h => h) HS0.out ?_
      · intro wz hSw; go_simp
      try simp only [Act.put, List.setIfInBounds_toArray, List.set_cons_zero, List.set_cons_succ]
      refine takeH 4 51 (.pointer (some ⟨g, 0, none⟩)) ⟨_, rfl, rfl, rfl, ?_⟩ (by kernel_rfl) (by kernel_rfl) (by kernel_rfl) (fun _ _ _ h => h) HS0.out ?_
      · intro wz hSw; go_simp
      try simp only [Act.put, List.setIfInBounds_toArray, List.set_cons_zero, List.set_cons_succ]
      refine takeH 5 52 (.pointer (some ⟨g, 7, none⟩)) ⟨_, rfl, rfl, rfl, ?_⟩ (by kernel_rfl) (by kernel_rfl) (by kernel_rfl) (fun _ _ _ h => h) HS0.out ?_
      · intro wz hSw; go_simp
      try simp only [Act.put, List.setIfInBounds_toArray, List.set_cons_zero, List.set_cons_succ]
      refine takeH 8 55 (.pointer (some ⟨g, 0, none⟩)) ⟨_, rfl, rfl, rfl, ?_⟩ (by kernel_rfl) (by kernel_rfl) (by kernel_rfl) (fun _ _ _ h => h) HS0.out ?_
      · intro wz hSw; go_simp
      try simp only [Act.put, List.setIfInBounds_toArray, List.set_cons_zero, List.set_cons_succ]
      refine takeH 9 56 (.pointer (some ⟨g, 0, none⟩)) ⟨_, rfl, rfl, rfl, ?_⟩ (by kernel_rfl) (by kernel_rfl) (by kernel_rfl) (fun _ _ _ h => h) HS0.out ?_
      · intro wz hSw; go_simp
      try simp only [Act.put, List.setIfInBounds_toArray, List.set_cons_zero, List.set_cons_succ]
      refine takeH 10 57 (.pointer (some ⟨g, 6, none⟩)) ⟨_, rfl, rfl, rfl, ?_⟩ (by kernel_rfl) (by kernel_rfl) (by kernel_rfl) (fun _ _ _ h => h) HS0.out ?_
      · intro wz hSw; go_simp
      try simp only [Act.put, List.setIfInBounds_toArray, List.set_cons_zero, List.set_cons_succ]
      refine wpAnyH_ready (rs := [6, 11]) (by kernel_rfl) (by simp) ?_
      refine AllReadyH.cons rfl (fun K hK => ?_) (AllReadyH.cons rfl (fun K hK => ?_) AllReadyH.nil)
      · obtain ⟨_, _, _, _, _, _, _, y1, _, _, _⟩ := HPd.out.cells
        go_simp
        try go_wp2_with fail
        refine hK.out _ _ HS0.out (fun _ => ?_)
        clear y1
        clear hK K
        try simp only [Act.put, List.setIfInBounds_toArray, List.set_cons_zero, List.set_cons_succ]
        refine wpAnyH_ready (rs := [7, 11]) (by kernel_rfl) (by simp) ?_
        refine AllReadyH.cons rfl (fun K hK => ?_) (AllReadyH.cons rfl (fun K hK => ?_) AllReadyH.nil)
        · go_simp
          refine (HCL.out wd HPd.out).mono ?_
          rintro e w5 ⟨A5, c5, rfl, hown5, hb5⟩
          have HO5 := hide hown5
          have HB5 := hide hb5
          have HSq2 := hide (HS0.out.trans (hb5.mono (Nat.le_of_lt HPd.out.lt)))
          have HP5 := hide (HPd.out.below hb5)
          clear hown5 hb5
          try go_wp2_with fail
          refine hK.out _ _ HSq2.out (fun _ => ?_)
          clear hK K
          try simp only [Act.put, List.setIfInBounds_toArray, List.set_cons_zero, List.set_cons_succ]
          refine wpAnyH_ready (rs := [11]) (by kernel_rfl) (by simp) ?_
          refine AllReadyH.cons rfl (fun K hK => ?_) AllReadyH.nil
          obtain ⟨_, _, _, _, _, _, y3, _, _, _, _⟩ := HP5.out.cells
          go_simp
          try go_wp2_with fail
          refine hK.out _ _ HSq2.out (fun _ => ?_)
          clear y3
          clear hK K
          try simp only [Act.put, List.setIfInBounds_toArray, List.set_cons_zero, List.set_cons_succ]
          refine takeH 12 59 (.int .i64 (m : Int)) ⟨_, rfl, rfl, rfl, ?_⟩ (by kernel_rfl) (by kernel_rfl) (by kernel_rfl) (fun _ _ _ h => h) HSq2.out ?_
          · intro wz hSw; go_simp
          try simp only [Act.put, List.setIfInBounds_toArray, List.set_cons_zero, List.set_cons_succ]
          refine takeH 13 60 (.pointer (some ⟨g, 0, none⟩)) ⟨_, rfl, rfl, rfl, ?_⟩ (by kernel_rfl) (by kernel_rfl) (by kernel_rfl) (fun _ _ _ h => h) HSq2.out ?_
          · intro wz hSw; go_simp
          try simp only [Act.put, List.setIfInBounds_toArray, List.set_cons_zero, List.set_cons_succ]
          refine takeH 14 61 (.pointer (some ⟨g, 8, none⟩)) ⟨_, rfl, rfl, rfl, ?_⟩ (by kernel_rfl) (by kernel_rfl) (by kernel_rfl) (fun _ _ _ h => h) HSq2.out ?_
          · intro wz hSw; go_simp
          try simp only [Act.put, List.setIfInBounds_toArray, List.set_cons_zero, List.set_cons_succ]
          refine wpAnyH_ready (rs := [15]) (by kernel_rfl) (by simp) ?_
          refine AllReadyH.cons rfl (fun K hK => ?_) AllReadyH.nil
          have y4 := (cell_of_row _ g 8 _ _ _ HP5.out.ld).trans rfl
          have y504 := frozen_of_row _ g 8 _ _ HP5.out.ld
          have HSq4 := hide (Below.setCell HSq2.out (p := ⟨g, 8, none⟩) (Nat.le_refl g) (.slice A5 n c5))
          go_simp
          try go_wp2_with fail
          refine hK.out _ _ HSq4.out (fun _ => ?_)
          clear y4 y504
          clear hK K
          try simp only [Act.put, List.setIfInBounds_toArray, List.set_cons_zero, List.set_cons_succ]
          refine takeH 16 62 (.pointer (some ⟨g, 0, none⟩)) ⟨_, rfl, rfl, rfl, ?_⟩ (by kernel_rfl) (by kernel_rfl) (by kernel_rfl) (fun _ _ _ h => h) HSq4.out ?_
          · intro wz hSw; go_simp
          try simp only [Act.put, List.setIfInBounds_toArray, List.set_cons_zero, List.set_cons_succ]
          refine takeH 17 63 (.pointer (some ⟨g, 9, none⟩)) ⟨_, rfl, rfl, rfl, ?_⟩ (by kernel_rfl) (by kernel_rfl) (by kernel_rfl) (fun _ _ _ h => h) HSq4.out ?_
          · intro wz hSw; go_simp
          try simp only [Act.put, List.setIfInBounds_toArray, List.set_cons_zero, List.set_cons_succ]
          refine wpAnyH_ready (rs := [18]) (by kernel_rfl) (by simp) ?_
          refine AllReadyH.cons rfl (fun K hK => ?_) AllReadyH.nil
          have y5 := (cell_of_row _ g 9 _ _ _ (heap_setCell_same _ g 8 _ _ (.slice A5 n c5) HP5.out.ld)).trans rfl
          have y505 := frozen_of_row _ g 9 _ _ (heap_setCell_same _ g 8 _ _ (.slice A5 n c5) HP5.out.ld)
          have HSq5 := hide (Below.setCell HSq4.out (p := ⟨g, 9, none⟩) (Nat.le_refl g) (.int .i64 (m : Int)))
          go_simp
          try go_wp2_with fail
          refine hK.out _ _ HSq5.out (fun _ => ?_)
          clear y5 y505
          clear hK K
          try simp only [Act.put, List.setIfInBounds_toArray, List.set_cons_zero, List.set_cons_succ]
          refine takeH 19 64 (.pointer (some ⟨g, 0, none⟩)) ⟨_, rfl, rfl, rfl, ?_⟩ (by kernel_rfl) (by kernel_rfl) (by kernel_rfl) (fun _ _ _ h => h) HSq5.out ?_
          · intro wz hSw; go_simp
          try simp only [Act.put, List.setIfInBounds_toArray, List.set_cons_zero, List.set_cons_succ]
          refine takeH 20 65 (.pointer (some ⟨g, 10, none⟩)) ⟨_, rfl, rfl, rfl, ?_⟩ (by kernel_rfl) (by kernel_rfl) (by kernel_rfl) (fun _ _ _ h => h) HSq5.out ?_
          · intro wz hSw; go_simp
          try simp only [Act.put, List.setIfInBounds_toArray, List.set_cons_zero, List.set_cons_succ]
          refine wpAnyH_ready (rs := [21]) (by kernel_rfl) (by simp) ?_
          refine AllReadyH.cons rfl (fun K hK => ?_) AllReadyH.nil
          have y6 := (cell_of_row _ g 10 _ _ _ (heap_setCell_same _ g 9 _ _ (.int .i64 (m : Int)) (heap_setCell_same _ g 8 _ _ (.slice A5 n c5) HP5.out.ld))).trans rfl
          have y506 := frozen_of_row _ g 10 _ _ (heap_setCell_same _ g 9 _ _ (.int .i64 (m : Int)) (heap_setCell_same _ g 8 _ _ (.slice A5 n c5) HP5.out.ld))
          have HSq6 := hide (Below.setCell HSq5.out (p := ⟨g, 10, none⟩) (Nat.le_refl g) (.bool true))
          go_simp
          try go_wp2_with fail
          refine hK.out _ _ HSq6.out (fun _ => ?_)
          clear y6 y506
          clear hK K
          try simp only [Act.put, List.setIfInBounds_toArray, List.set_cons_zero, List.set_cons_succ]
          refine wpAnyH_done (by kernel_rfl) ?_ _
          go_wp2
          first | go_end0 | refine bodyPost_ret (results_none rfl _ _ _) rfl ?_
          have HT := HPd.out.take (v3' := .slice A5 n c5) HB5.out ((fun q (e : n = q) => by subst e; exact HO5.out : ∀ q, n = q → w5.ownsRow wd.heap.size 2 1 (.slice A5 n c5) q (cI rs)) _ HKN.out)
          rw [← HM.out] at HT
          exact ⟨rfl, l, _, _, _, _, _, by first | (rw [nodZ]; omega) | (rw [List.length_nil, nodZ]; omega), by omega, by rw [HGO.out]; exact HT, HK2.out.trans ((show Kp w2 wd g (.slice A1 m c1) (.slice A2 n c2) (.slice A1 m c1) (.slice A2 n c2) by rw [HWD.out]; exact Kp.of_below (Below.refl _ _).drew).trans ((Kp.of_below HB5.out).trans ((Kp.set.trans Kp.set).trans Kp.set)))⟩
        · obtain ⟨_, _, _, _, _, _, y7, _, _, _, _⟩ := HPd.out.cells
          go_simp
          try go_wp2_with fail
          refine hK.out _ _ HS0.out (fun _ => ?_)
          clear y7
          clear hK K
          try simp only [Act.put, List.setIfInBounds_toArray, List.set_cons_zero, List.set_cons_succ]
          refine takeH 12 59 (.int .i64 (m : Int)) ⟨_, rfl, rfl, rfl, ?_⟩ (by kernel_rfl) (by kernel_rfl) (by kernel_rfl) (fun _ _ _ h => h) HS0.out ?_
          · intro wz hSw; go_simp
          try simp only [Act.put, List.setIfInBounds_toArray, List.set_cons_zero, List.set_cons_succ]
          refine wpAnyH_ready (rs := [7]) (by kernel_rfl) (by simp) ?_
          refine AllReadyH.cons rfl (fun K hK => ?_) AllReadyH.nil
          go_simp
          refine (HCL.out wd HPd.out).mono ?_
          rintro e w5 ⟨A5, c5, rfl, hown5, hb5⟩
          have HO5 := hide hown5
          have HB5 := hide hb5
          have HSq8 := hide (HS0.out.trans (hb5.mono (Nat.le_of_lt HPd.out.lt)))
          have HP5 := hide (HPd.out.below hb5)
          clear hown5 hb5
          try go_wp2_with fail
          refine hK.out _ _ HSq8.out (fun _ => ?_)
          clear hK K
          try simp only [Act.put, List.setIfInBounds_toArray, List.set_cons_zero, List.set_cons_succ]
          refine takeH 13 60 (.pointer (some ⟨g, 0, none⟩)) ⟨_, rfl, rfl, rfl, ?_⟩ (by kernel_rfl) (by kernel_rfl) (by kernel_rfl) (fun _ _ _ h => h) HSq8.out ?_
          · intro wz hSw; go_simp
          try simp only [Act.put, List.setIfInBounds_toArray, List.set_cons_zero, List.set_cons_succ]
          refine takeH 14 61 (.pointer (some ⟨g, 8, none⟩)) ⟨_, rfl, rfl, rfl, ?_⟩ (by kernel_rfl) (by kernel_rfl) (by kernel_rfl) (fun _ _ _ h => h) HSq8.out ?_
          · intro wz hSw; go_simp
          try simp only [Act.put, List.setIfInBounds_toArray, List.set_cons_zero, List.set_cons_succ]
          refine wpAnyH_ready (rs := [15]) (by kernel_rfl) (by simp) ?_
          refine AllReadyH.cons rfl (fun K hK => ?_) AllReadyH.nil
          have y9 := (cell_of_row _ g 8 _ _ _ HP5.out.ld).trans rfl
          have y509 := frozen_of_row _ g 8 _ _ HP5.out.ld
          have HSq9 := hide (Below.setCell HSq8.out (p := ⟨g, 8, none⟩) (Nat.le_refl g) (.slice A5 n c5))
          go_simp
          try go_wp2_with fail
          refine hK.out _ _ HSq9.out (fun _ => ?_)
          clear y9 y509
          clear hK K
          try simp only [Act.put, List.setIfInBounds_toArray, List.set_cons_zero, List.set_cons_succ]
          refine takeH 16 62 (.pointer (some ⟨g, 0, none⟩)) ⟨_, rfl, rfl, rfl, ?_⟩ (by kernel_rfl) (by kernel_rfl) (by kernel_rfl) (fun _ _ _ h => h) HSq9.out ?_
          · intro wz hSw; go_simp
          try simp only [Act.put, List.setIfInBounds_toArray, List.set_cons_zero, List.set_cons_succ]
          refine takeH 17 63 (.pointer (some ⟨g, 9, none⟩)) ⟨_, rfl, rfl, rfl, ?_⟩ (by kernel_rfl) (by kernel_rfl) (by kernel_rfl) (fun _ _ _ h => h) HSq9.out ?_
          · intro wz hSw; go_simp
          try simp only [Act.put, List.setIfInBounds_toArray, List.set_cons_zero, List.set_cons_succ]
          refine wpAnyH_ready (rs := [18]) (by kernel_rfl) (by simp) ?_
          refine AllReadyH.cons rfl (fun K hK => ?_) AllReadyH.nil
          have y10 := (cell_of_row _ g 9 _ _ _ (heap_setCell_same _ g 8 _ _ (.slice A5 n c5) HP5.out.ld)).trans rfl
          have y510 := frozen_of_row _ g 9 _ _ (heap_setCell_same _ g 8 _ _ (.slice A5 n c5) HP5.out.ld)
          have HSq10 := hide (Below.setCell HSq9.out (p := ⟨g, 9, none⟩) (Nat.le_refl g) (.int .i64 (m : Int)))
          go_simp
          try go_wp2_with fail
          refine hK.out _ _ HSq10.out (fun _ => ?_)
          clear y10 y510
          clear hK K
          try simp only [Act.put, List.setIfInBounds_toArray, List.set_cons_zero, List.set_cons_succ]
          refine takeH 19 64 (.pointer (some ⟨g, 0, none⟩)) ⟨_, rfl, rfl, rfl, ?_⟩ (by kernel_rfl) (by kernel_rfl) (by kernel_rfl) (fun _ _ _ h => h) HSq10.out ?_
          · intro wz hSw; go_simp
          try simp only [Act.put, List.setIfInBounds_toArray, List.set_cons_zero, List.set_cons_succ]
          refine takeH 20 65 (.pointer (some ⟨g, 10, none⟩)) ⟨_, rfl, rfl, rfl, ?_⟩ (by kernel_rfl) (by kernel_rfl) (by kernel_rfl) (fun _ _ _ h => h) HSq10.out ?_
          · intro wz hSw; go_simp
          try simp only [Act.put, List.setIfInBounds_toArray, List.set_cons_zero, List.set_cons_succ]
          refine wpAnyH_ready (rs := [21]) (by kernel_rfl) (by simp) ?_
          refine AllReadyH.cons rfl (fun K hK => ?_) AllReadyH.nil
          have y11 := (cell_of_row _ g 10 _ _ _ (heap_setCell_same _ g 9 _ _ (.int .i64 (m : Int)) (heap_setCell_same _ g 8 _ _ (.slice A5 n c5) HP5.out.ld))).trans rfl
          have y511 := frozen_of_row _ g 10 _ _ (heap_setCell_same _ g 9 _ _ (.int .i64 (m : Int)) (heap_setCell_same _ g 8 _ _ (.slice A5 n c5) HP5.out.ld))
          have HSq11 := hide (Below.setCell HSq10.out (p := ⟨g, 10, none⟩) (Nat.le_refl g) (.bool true))
          go_simp
          try go_wp2_with fail
          refine hK.out _ _ HSq11.out (fun _ => ?_)
          clear y11 y511
          clear hK K
          try simp only [Act.put, List.setIfInBounds_toArray, List.set_cons_zero, List.set_cons_succ]
          refine wpAnyH_done (by kernel_rfl) ?_ _
          go_wp2
          first | go_end0 | refine bodyPost_ret (results_none rfl _ _ _) rfl ?_
          have HT := HPd.out.take (v3' := .slice A5 n c5) HB5.out ((fun q (e : n = q) => by subst e; exact HO5.out : ∀ q, n = q → w5.ownsRow wd.heap.size 2 1 (.slice A5 n c5) q (cI rs)) _ HKN.out)
          rw [← HM.out] at HT
          exact ⟨rfl, l, _, _, _, _, _, by first | (rw [nodZ]; omega) | (rw [List.length_nil, nodZ]; omega), by omega, by rw [HGO.out]; exact HT, HK2.out.trans ((show Kp w2 wd g (.slice A1 m c1) (.slice A2 n c2) (.slice A1 m c1) (.slice A2 n c2) by rw [HWD.out]; exact Kp.of_below (Below.refl _ _).drew).trans ((Kp.of_below HB5.out).trans ((Kp.set.trans Kp.set).trans Kp.set)))⟩
      · obtain ⟨_, _, _, _, _, _, y12, _, _, _, _⟩ := HPd.out.cells
        go_simp
        try go_wp2_with fail
        refine hK.out _ _ HS0.out (fun _ => ?_)
        clear y12
        clear hK K
        try simp only [Act.put, List.setIfInBounds_toArray, List.set_cons_zero, List.set_cons_succ]
        refine takeH 12 59 (.int .i64 (m : Int)) ⟨_, rfl, rfl, rfl, ?_⟩ (by kernel_rfl) (by kernel_rfl) (by kernel_rfl) (fun _ _ _ h => h) HS0.out ?_
        · intro wz hSw; go_simp
        try simp only [Act.put, List.setIfInBounds_toArray, List.set_cons_zero, List.set_cons_succ]
        refine wpAnyH_ready (rs := [6]) (by kernel_rfl) (by simp) ?_
        refine AllReadyH.cons rfl (fun K hK => ?_) AllReadyH.nil
        obtain ⟨_, _, _, _, _, _, _, y13, _, _, _⟩ := HPd.out.cells
        go_simp
        try go_wp2_with fail
        refine hK.out _ _ HS0.out (fun _ => ?_)
        clear y13
        clear hK K
        try simp only [Act.put, List.setIfInBounds_toArray, List.set_cons_zero, List.set_cons_succ]
        refine wpAnyH_ready (rs := [7]) (by kernel_rfl) (by simp) ?_
        refine AllReadyH.cons rfl (fun K hK => ?_) AllReadyH.nil
        go_simp
        refine (HCL.out wd HPd.out).mono ?_
        rintro e w5 ⟨A5, c5, rfl, hown5, hb5⟩
        have HO5 := hide hown5
        have HB5 := hide hb5
        have HSq14 := hide (HS0.out.trans (hb5.mono (Nat.le_of_lt HPd.out.lt)))
        have HP5 := hide (HPd.out.below hb5)
        clear hown5 hb5
        try go_wp2_with fail
        refine hK.out _ _ HSq14.out (fun _ => ?_)
        clear hK K
        try simp only [Act.put, List.setIfInBounds_toArray, List.set_cons_zero, List.set_cons_succ]
        refine takeH 13 60 (.pointer (some ⟨g, 0, none⟩)) ⟨_, rfl, rfl, rfl, ?_⟩ (by kernel_rfl) (by kernel_rfl) (by kernel_rfl) (fun _ _ _ h => h) HSq14.out ?_
        · intro wz hSw; go_simp
        try simp only [Act.put, List.setIfInBounds_toArray, List.set_cons_zero, List.set_cons_succ]
        refine takeH 14 61 (.pointer (some ⟨g, 8, none⟩)) ⟨_, rfl, rfl, rfl, ?_⟩ (by kernel_rfl) (by kernel_rfl) (by kernel_rfl) (fun _ _ _ h => h) HSq14.out ?_
        · intro wz hSw; go_simp
        try simp only [Act.put, List.setIfInBounds_toArray, List.set_cons_zero, List.set_cons_succ]
        refine wpAnyH_ready (rs := [15]) (by kernel_rfl) (by simp) ?_
        refine AllReadyH.cons rfl (fun K hK => ?_) AllReadyH.nil
        have y15 := (cell_of_row _ g 8 _ _ _ HP5.out.ld).trans rfl
        have y515 := frozen_of_row _ g 8 _ _ HP5.out.ld
        have HSq15 := hide (Below.setCell HSq14.out (p := ⟨g, 8, none⟩) (Nat.le_refl g) (.slice A5 n c5))
        go_simp
        try go_wp2_with fail
        refine hK.out _ _ HSq15.out (fun _ => ?_)
        clear y15 y515
        clear hK K
        try simp only [Act.put, List.setIfInBounds_toArray, List.set_cons_zero, List.set_cons_succ]
        refine takeH 16 62 (.pointer (some ⟨g, 0, none⟩)) ⟨_, rfl, rfl, rfl, ?_⟩ (by kernel_rfl) (by kernel_rfl) (by kernel_rfl) (fun _ _ _ h => h) HSq15.out ?_
        · intro wz hSw; go_simp
        try simp only [Act.put, List.setIfInBounds_toArray, List.set_cons_zero, List.set_cons_succ]
        refine takeH 17 63 (.pointer (some ⟨g, 9, none⟩)) ⟨_, rfl, rfl, rfl, ?_⟩ (by kernel_rfl) (by kernel_rfl) (by kernel_rfl) (fun _ _ _ h => h) HSq15.out ?_
        · intro wz hSw; go_simp
        try simp only [Act.put, List.setIfInBounds_toArray, List.set_cons_zero, List.set_cons_succ]
        refine wpAnyH_ready (rs := [18]) (by kernel_rfl) (by simp) ?_
        refine AllReadyH.cons rfl (fun K hK => ?_) AllReadyH.nil
        have y16 := (cell_of_row _ g 9 _ _ _ (heap_setCell_same _ g 8 _ _ (.slice A5 n c5) HP5.out.ld)).trans rfl
        have y516 := frozen_of_row _ g 9 _ _ (heap_setCell_same _ g 8 _ _ (.slice A5 n c5) HP5.out.ld)
        have HSq16 := hide (Below.setCell HSq15.out (p := ⟨g, 9, none⟩) (Nat.le_refl g) (.int .i64 (m : Int)))
        go_simp
        try go_wp2_with fail
        refine hK.out _ _ HSq16.out (fun _ => ?_)
        clear y16 y516
        clear hK K
        try simp only [Act.put, List.setIfInBounds_toArray, List.set_cons_zero, List.set_cons_succ]
        refine takeH 19 64 (.pointer (some ⟨g, 0, none⟩)) ⟨_, rfl, rfl, rfl, ?_⟩ (by kernel_rfl) (by kernel_rfl) (by kernel_rfl) (fun _ _ _ h => h) HSq16.out ?_
        · intro wz hSw; go_simp
        try simp only [Act.put, List.setIfInBounds_toArray, List.set_cons_zero, List.set_cons_succ]
        refine takeH 20 65 (.pointer (some ⟨g, 10, none⟩)) ⟨_, rfl, rfl, rfl, ?_⟩ (by kernel_rfl) (by kernel_rfl) (by kernel_rfl) (fun _ _ _ h => h) HSq16.out ?_
        · intro wz hSw; go_simp
        try simp only [Act.put, List.setIfInBounds_toArray, List.set_cons_zero, List.set_cons_succ]
        refine wpAnyH_ready (rs := [21]) (by kernel_rfl) (by simp) ?_
        refine AllReadyH.cons rfl (fun K hK => ?_) AllReadyH.nil
        have y17 := (cell_of_row _ g 10 _ _ _ (heap_setCell_same _ g 9 _ _ (.int .i64 (m : Int)) (heap_setCell_same _ g 8 _ _ (.slice A5 n c5) HP5.out.ld))).trans rfl
        have y517 := frozen_of_row _ g 10 _ _ (heap_setCell_same _ g 9 _ _ (.int .i64 (m : Int)) (heap_setCell_same _ g 8 _ _ (.slice A5 n c5) HP5.out.ld))
        have HSq17 := hide (Below.setCell HSq16.out (p := ⟨g, 10, none⟩) (Nat.le_refl g) (.bool true))
        go_simp
        try go_wp2_with fail
        refine hK.out _ _ HSq17.out (fun _ => ?_)
        clear y17 y517
        clear hK K
        try simp only [Act.put, List.setIfInBounds_toArray, List.set_cons_zero, List.set_cons_succ]
        refine wpAnyH_done (by kernel_rfl) ?_ _
        go_wp2
        first | go_end0 | refine bodyPost_ret (results_none rfl _ _ _) rfl ?_
        have HT := HPd.out.take (v3' := .slice A5 n c5) HB5.out ((fun q (e : n = q) => by subst e; exact HO5.out : ∀ q, n = q → w5.ownsRow wd.heap.size 2 1 (.slice A5 n c5) q (cI rs)) _ HKN.out)
        rw [← HM.out] at HT
        exact ⟨rfl, l, _, _, _, _, _, by first | (rw [nodZ]; omega) | (rw [List.length_nil, nodZ]; omega), by omega, by rw [HGO.out]; exact HT, HK2.out.trans ((show Kp w2 wd g (.slice A1 m c1) (.slice A2 n c2) (.slice A1 m c1) (.slice A2 n c2) by rw [HWD.out]; exact Kp.of_below (Below.refl _ _).drew).trans ((Kp.of_below HB5.out).trans ((Kp.set.trans Kp.set).trans Kp.set)))⟩
    · have hlt' : ¬ (m : Int) < (u : Int) := by omega
      have d1 : decide (m < u) = false := decide_eq_false hlt
      have HGO : Hid (goZ ⟨rp, rb, rk⟩ [] ons rs (some (bs, u)) = some (bs, u)) := by
        show (if ons.length < u then some (rs, ons.length) else some (bs, u)) = _
        rw [← HM.out, if_neg hlt]
      go_wp2_with fail
      go_quiet (fail)
      go_wp2
      first | go_end0 | refine bodyPost_ret (results_none rfl _ _ _) rfl ?_
      exact ⟨rfl, l, _, _, _, _, _, by first | (rw [nodZ]; omega) | (rw [List.length_nil, nodZ]; omega), by omega, by rw [HGO.out]; exact HP1.out.keep fun _ _ => rfl, HK1.out.trans (Kp.of_below (below_drewN (Below.refl _ _) _))⟩

end Go.Proofs.YtcclfmapbgdpdaaGreatDoor
