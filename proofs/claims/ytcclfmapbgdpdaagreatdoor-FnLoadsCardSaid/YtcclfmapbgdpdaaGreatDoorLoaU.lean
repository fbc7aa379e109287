/- FewestRides and TooLarge of the program, where all groups fit alone. -/
import Derived.Test.YtcclfmapbgdpdaaGreatDoorLoaT
namespace Go.Proofs.YtcclfmapbgdpdaaGreatDoor
open Go.RowKit
set_option linter.unusedVariables false

theorem search_calls (g : Nat) (A : Option Addr) (n c : Nat) (xs : List GrpZ) (rp rb rk : Int) (hn : n ≤ 12) (hv : grpsB xs = true) (hf : AllFit xs ⟨rp, rb, rk⟩) (hr : rp ≤ 200 ∧ rb ≤ 40 ∧ rk ≤ 100000) : ∀ rest, SearchOk g A n c xs rp rb rk rest
  | [] => search_nil g A n c xs rp rb rk hn
  | x :: rest => search_cons g A n c xs rp rb rk hn hv hf hr x rest (search_calls g A n c xs rp rb rk hn hv hf hr rest)
theorem path_new (r : RmZ) : ∀ (rest ons : List RmZ), PathZ r rest ons (ons.length + rest.length)
  | [], ons => rfl
  | x :: rest, ons => .inr (by
    have h := path_new r rest (ons ++ [x])
    rw [List.length_append, List.length_singleton] at h
    rw [List.length_cons, show ons.length + (rest.length + 1) = ons.length + 1 + rest.length by omega]
    exact h)
/-- The search finds something. -/
theorem goZ_some {nd : List RmZ} {r : RmZ} (hal : ∀ x ∈ nd, fitsZ x r = true) : ∃ bs u, goZ r nd [] [] none = some (bs, u) ∧ AllZ nd r (bs, u) := by
  obtain ⟨⟨bs, u⟩, h, _⟩ := goZ_path nd [] [] none (path_new r nd [])
  exact ⟨bs, u, h, goZ_all hal nd [] [] none rfl (Nat.zero_le _) (on_none nd r) (by simp) _ h⟩
theorem allFit_map {xs : List GrpZ} {r : RmZ} (h : AllFit xs r) : ∀ x ∈ xs.map needZ, fitsZ x r = true := fun x hx => by
  obtain ⟨y, hy, rfl⟩ := List.mem_map.1 hx
  exact h y hy

theorem isBudget_calls (w : World) : Calls Tryz.prog 137 #[.int .i64 20000] w fun e w' => e = .returned (.bool true) ∧ w = w' := by
  have H := hide (within_calls 20000 1 20000 w)
  rw [show withinB 20000 1 20000 = true by decide] at H
  go_enter Tryz.func137, Tryz.ntmps137
  go_wp2_with fail
  refine H.out.mono ?_
  rintro e w' ⟨rfl, rfl⟩
  go_wp2
  go_ret
  exact ⟨rfl, rfl⟩

set_option maxHeartbeats 2000000 in
theorem implTooLarge_calls (A : Option Addr) (n c : Nat) (xs : List GrpZ) (rp rb rk : Int) (w : World) (h : RdK kGrp w A n xs) (hv : grpsB xs = true) (hr : roomB ⟨rp, rb, rk⟩ = true) (hf : AllFit xs ⟨rp, rb, rk⟩) :
    Calls Tryz.prog 57 #[.slice A n c, .agg #[.int .i64 rp, .int .i64 rb, .int .i64 rk]] w fun e w' => e = .returned (.tuple #[.slice none 0 0, .int .i64 0]) ∧ Below w.heap.size w w' := by
  obtain ⟨w0, hw0⟩ : ∃ w0, w0 = w.alloc (.cells #[.int .i64 rp, .int .i64 rb, .int .i64 rk] 87) := ⟨_, rfl⟩
  have hb0 : Below w.heap.size w w0 := by rw [hw0]; exact (Below.refl _ _).alloc (Nat.le_refl _) _
  have hz0 : w.heap.size < w0.heap.size := by rw [hw0]; simp
  have HA0 : Hid (At3 87 w0 w.heap.size (.int .i64 rp) (.int .i64 rb) (.int .i64 rk)) := by rw [hw0]; exact At3.new _ _ _ _ _
  have HX0 := hide (h.below hb0 (Nat.le_refl _))
  have G := hide (grouped_calls A n c xs ⟨rp, rb, rk⟩ w0 HX0.out hv hr)
  have TL := hide (fun W (hW : RdK kGrp W A n xs) => tooLarge_calls A n c xs ⟨rp, rb, rk⟩ W hW hv hf)
  have HB0 := hide hb0
  obtain ⟨a0, a1, a2, _⟩ := HA0.out.out
  clear h hv hr hf hb0
  go_enter Tryz.func57, Tryz.ntmps57
  go_wp2_with fail
  rw [← hw0]
  clear hw0
  (try go_wp2_with fail)
  refine G.out.mono ?_
  rintro e w1 ⟨rfl, hb1⟩
  have HA1 := hide (HA0.out.below hb1 hz0)
  have HX1 := hide (HX0.out.below hb1 (Nat.le_refl _))
  have HB1 := hide (HB0.out.trans (hb1.mono HB0.out.size))
  clear a0 a1 a2
  obtain ⟨a0, a1, a2, _⟩ := HA1.out.out
  clear hb1 G HA0 HX0 HB0
  go_wp2_with fail
  refine (TL.out w1 HX1.out).mono ?_
  rintro e w2 ⟨rfl, hb2⟩
  have HB2 := hide (HB1.out.trans (hb2.mono HB1.out.size))
  clear a0 a1 a2 hb2 TL HA1 HX1 HB1
  go_wp2
  go_ret2
  exact ⟨rfl, HB2.out⟩

set_option maxHeartbeats 4000000 in
set_option maxRecDepth 100000 in
theorem fewestRides_calls (A : Option Addr) (n c : Nat) (xs : List GrpZ) (rp rb rk : Int) (w : World) (h : RdK kGrp w A n xs) (hn6 : n ≤ 6) (hv : grpsB xs = true) (hr : roomB ⟨rp, rb, rk⟩ = true) (hf : AllFit xs ⟨rp, rb, rk⟩) :
    Calls Tryz.prog 56 #[.slice A n c, .agg #[.int .i64 rp, .int .i64 rb, .int .i64 rk], .int .i64 20000] w fun e w' => ∃ A' n' c' bs u, e = .returned (.tuple #[.slice A' n' c', .int .i64 ((u : Nat) : Int), .int .i64 0]) ∧ AllZ (xs.map needZ) ⟨rp, rb, rk⟩ (bs, u) ∧ goZ ⟨rp, rb, rk⟩ (xs.map needZ) [] [] none = some (bs, u) ∧ RdI w' A' n' bs ∧ Below w.heap.size w w' := by
  obtain ⟨bs, u, hgo, hall⟩ := goZ_some (allFit_map hf)
  obtain ⟨_, hr1, hr2, hr3⟩ := room_ok hr
  simp only at hr1 hr2 hr3
  have hln : xs.length = n := h.2.1
  obtain ⟨w0, hw0⟩ : ∃ w0, w0 = w.alloc (.cells #[.int .i64 rp, .int .i64 rb, .int .i64 rk] 87) := ⟨_, rfl⟩
  have hb0 : Below w.heap.size w w0 := by rw [hw0]; exact (Below.refl _ _).alloc (Nat.le_refl _) _
  have hz0 : w.heap.size < w0.heap.size := by rw [hw0]; simp
  have HA0 : Hid (At3 87 w0 w.heap.size (.int .i64 rp) (.int .i64 rb) (.int .i64 rk)) := by rw [hw0]; exact At3.new _ _ _ _ _
  have HX0 := hide (h.below hb0 (Nat.le_refl _))
  have G := hide (grouped_calls A n c xs ⟨rp, rb, rk⟩ w0 HX0.out hv hr)
  have TL := hide (fun W (hW : RdK kGrp W A n xs) => tooLarge_calls A n c xs ⟨rp, rb, rk⟩ W hW hv hf)
  have BU := hide (fun W => isBudget_calls W)
  have SE := hide (fun g => search_calls g A n c xs rp rb rk (by omega) hv hf ⟨hr1.2, hr2.2, hr3.2⟩ (xs.map needZ))
  have HGO := hide (And.intro hgo (And.intro hall hln))
  have HB0 := hide hb0
  obtain ⟨a0, a1, a2, _⟩ := HA0.out.out
  clear h hv hr hf hb0 hgo hall hln
  go_enter Tryz.func56, Tryz.ntmps56
  go_wp2_with fail
  rw [← hw0]
  clear hw0
  (try go_wp2_with fail)
  refine G.out.mono ?_
  rintro e w1 ⟨rfl, hb1⟩
  have HA1 := hide (HA0.out.below hb1 hz0)
  have HX1 := hide (HX0.out.below hb1 (Nat.le_refl _))
  have HB1 := hide (HB0.out.trans (hb1.mono HB0.out.size))
  have hz1 := hb1.size
  clear a0 a1 a2
  obtain ⟨a0, a1, a2, _⟩ := HA1.out.out
  clear hb1 G HA0 HX0 HB0
  go_wp2_with fail
  refine (BU.out w1).mono ?_
  rintro e w' ⟨rfl, rfl⟩
  go_wp2_with fail
  refine (TL.out w1 HX1.out).mono ?_
  rintro e w2 ⟨rfl, hb2⟩
  have HA2 := hide (HA1.out.below hb2 (by omega))
  have HX2 := hide (HX1.out.below hb2 (Nat.le_refl _))
  have HB2 := hide (HB1.out.trans (hb2.mono HB1.out.size))
  have hz2 := hb2.size
  clear a0 a1 a2
  obtain ⟨a0, a1, a2, _⟩ := HA2.out.out
  clear hb2 TL BU HA1 HX1 HB1
  obtain ⟨w3, hw3⟩ : ∃ w3, w3 = w2.alloc (.cells #[.int .i64 20000, .bool false, .slice A n c, .int .i64 rp, .int .i64 rb, .int .i64 rk, .slice none 0 0, .slice none 0 0, .slice none 0 0, .int .i64 0, .bool false] 161) := ⟨_, rfl⟩
  have hb3 : Below w2.heap.size w2 w3 := by rw [hw3]; exact (Below.refl _ _).alloc (Nat.le_refl _) _
  have HP3 : Hid (LdP w3 w2.heap.size A n c ⟨rp, rb, rk⟩ 20000 (.slice none 0 0) (.slice none 0 0) (.slice none 0 0) 0 false [] [] none) := by
    refine ⟨by rw [hw3]; exact heap_alloc_new w2 _, World.ownsRow_nil w3 _ _ _, World.ownsRow_nil w3 _ _ _, rfl⟩
  have HL3 : Hid (∀ W, Below w2.heap.size w3 W → RdK kGrp W A n xs) := fun W hW => HX2.out.below (hb3.trans hW) (Nat.le_refl _)
  have HB3 := hide (HB2.out.trans (hb3.mono HB2.out.size))
  have hnod : nodZ (xs.map needZ).length ([] : List RmZ).length ≤ 20000 := by
    have := nodZ_few (n := (xs.map needZ).length) (by rw [List.length_map, HGO.out.2.2]; exact hn6)
    simp only [List.length_nil]
    omega
  have S3 := hide (SE.out w2.heap.size [] [] none 20000 _ _ _ _ _ w3 rfl (by rw [List.length_nil, Nat.zero_add, List.length_map]; exact HGO.out.2.2) (Nat.le_refl _) (by simp) (by simp) hnod (Nat.le_refl _) HL3.out HP3.out)
  clear hb3 SE HX2 hnod
  go_wp2_with fail
  rw [← hw3]
  clear hw3 a0 a1 a2
  (try go_wp2_with fail)
  refine S3.out.mono ?_
  rintro e w4 ⟨rfl, l4, v1, v2, v3, few, fd, _, _, hp4, hk4⟩
  rw [HGO.out.1] at hp4
  have hbs := hp4.bs
  obtain ⟨hfd, hfw, hrow, _⟩ := hbs
  simp only at hfw hrow
  subst hfd
  subst hfw
  obtain ⟨A5, c5, hv3⟩ := own_slice hrow
  subst hv3
  obtain ⟨n5, hn5⟩ : ∃ n5, n5 = bs.length := ⟨_, rfl⟩
  have HP4 := hide hp4
  have hall := HGO.out.2.1
  have hri : RdI w4 A5 n5 bs := by
    rw [hn5]
    exact RdI.of_own hrow (fun x hx => by have h1 := hall.bd x hx; have h2 := hall.few; rw [List.length_map, HGO.out.2.2] at h2; simp only at h1 h2; unfold I64; omega)
  have HR4 := hide hri
  have HB4 := hide (HB3.out.trans ((Kp.below HP3.out hk4).mono (by have := HB2.out.size; omega)))
  obtain ⟨_, z1, _, _, _, _, _, _, z8, z9, _⟩ := hp4.cells
  rw [← hn5] at z8
  clear hp4 hk4 hrow hn5 hri HP3 HL3 HB3 S3 hall
  go_wp2_with fail
  go_quiet (fail)
  go_wp2
  refine bodyPost_ret (v := .tuple #[.slice A5 n5 c5, .int .i64 (u : Int), .int .i64 0]) (by simp [results, Tryz.results56, go_sem, *]) rfl ?_
  exact ⟨A5, n5, c5, bs, u, rfl, HGO.out.2.1, HGO.out.1, HR4.out.drewN _, below_drewN HB4.out _⟩

end Go.Proofs.YtcclfmapbgdpdaaGreatDoor
