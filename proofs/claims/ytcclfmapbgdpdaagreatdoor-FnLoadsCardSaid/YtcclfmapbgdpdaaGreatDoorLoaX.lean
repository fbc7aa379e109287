/- MostPeople of the program. -/
import Derived.Test.YtcclfmapbgdpdaaGreatDoorLoaW
import Derived.Test.YtcclfmapbgdpdaaGreatDoorLoaU
namespace Go.Proofs.YtcclfmapbgdpdaaGreatDoor
open Go.RowKit
set_option linter.unusedVariables false

theorem fil_all (g : Nat) (A : Option Addr) (n c : Nat) (xs : List GrpZ) (rp rb rk : Int) (hn : n ≤ 12) (hln : xs.length = n) (hv : grpsB xs = true) (hr : rp ≤ 200 ∧ rb ≤ 40 ∧ rk ≤ 100000) : ∀ j, FilOk g A n c xs rp rb rk j
  | 0 => fil_step g A n c xs rp rb rk hn hln hv hr 0 (fun h => absurd h (by omega))
  | j + 1 => fil_step g A n c xs rp rb rk hn hln hv hr (j + 1) (fun _ => fil_all g A n c xs rp rb rk hn hln hv hr j)
/-- The groups with the most people. -/
def bestP (xs : List GrpZ) (r : RmZ) : List Int × Int := filZ (xs.map needZ) r xs.length [] zeroR 0 ([], 0)
set_option maxHeartbeats 4000000 in
set_option maxRecDepth 100000 in
theorem mostPeople_calls (A : Option Addr) (n c : Nat) (xs : List GrpZ) (rp rb rk : Int) (w : World) (h : RdK kGrp w A n xs) (hn6 : n ≤ 6) (hv : grpsB xs = true) (hr : roomB ⟨rp, rb, rk⟩ = true) :
    Calls Tryz.prog 61 #[.slice A n c, .agg #[.int .i64 rp, .int .i64 rb, .int .i64 rk], .int .i64 20000] w fun e w' => ∃ A' n' c', e = .returned (.tuple #[.slice A' n' c', .int .i64 (bestP xs ⟨rp, rb, rk⟩).2, .int .i64 0]) ∧ RdI w' A' n' (bestP xs ⟨rp, rb, rk⟩).1 ∧ Below w.heap.size w w' := by
  obtain ⟨_, hr1, hr2, hr3⟩ := room_ok hr
  simp only at hr1 hr2 hr3
  have hln : xs.length = n := h.2.1
  obtain ⟨w0, hw0⟩ : ∃ w0, w0 = w.alloc (.cells #[.int .i64 rp, .int .i64 rb, .int .i64 rk] 87) := ⟨_, rfl⟩
  have hb0 : Below w.heap.size w w0 := by rw [hw0]; exact (Below.refl _ _).alloc (Nat.le_refl _) _
  have hz0 : w.heap.size < w0.heap.size := by rw [hw0]; simp
  have HA0 : Hid (At3 87 w0 w.heap.size (.int .i64 rp) (.int .i64 rb) (.int .i64 rk)) := by rw [hw0]; exact At3.new _ _ _ _ _
  have HX0 := hide (h.below hb0 (Nat.le_refl _))
  have G := hide (grouped_calls A n c xs ⟨rp, rb, rk⟩ w0 HX0.out hv hr)
  have BU := hide (fun W => isBudget_calls W)
  have SE := hide (fun g => fil_all g A n c xs rp rb rk (by omega) hln hv ⟨hr1.2, hr2.2, hr3.2⟩ n)
  obtain ⟨b, hb⟩ : ∃ b, b = bestP xs ⟨rp, rb, rk⟩ := ⟨_, rfl⟩
  have HB : Hid (filZ (xs.map needZ) ⟨rp, rb, rk⟩ n [] ⟨0, 0, 0⟩ 0 ([], 0) = b) := by
    unfold Hid
    rw [hb, bestP, hln]
    rfl
  rw [← hb]
  have HB0 := hide hb0
  obtain ⟨a0, a1, a2, _⟩ := HA0.out.out
  clear h hv hr hb0 hb
  go_enter Tryz.func61, Tryz.ntmps61
  go_wp2_with fail
  rw [← hw0]
  clear hw0
  (try go_wp2_with fail)
  refine G.out.mono ?_
  rintro e w1 ⟨rfl, hb1⟩
  have HA1 := hide (HA0.out.below hb1 hz0)
  have HX1 := hide (HX0.out.below hb1 (Nat.le_refl _))
  have HB1 := hide (HB0.out.trans (hb1.mono HB0.out.size))
  have hz1 := hb1.size
  clear a0 a1 a2
  obtain ⟨a0, a1, a2, _⟩ := HA1.out.out
  clear hb1 G HA0 HX0 HB0
  go_wp2_with fail
  refine (BU.out w1).mono ?_
  rintro e w' ⟨rfl, rfl⟩
  obtain ⟨w3, hw3⟩ : ∃ w3, w3 = w1.alloc (.cells #[.int .i64 20000, .bool false, .slice A n c, .int .i64 rp, .int .i64 rb, .int .i64 rk, .slice none 0 0, .int .i64 0] 169) := ⟨_, rfl⟩
  have hb3 : Below w1.heap.size w1 w3 := by rw [hw3]; exact (Below.refl _ _).alloc (Nat.le_refl _) _
  have hnil : ∀ g, RdA w3 g none 0 [] := fun g => ⟨⟨⟨rfl, fun h => absurd h (Nat.lt_irrefl _)⟩, by simp⟩, fun a ha => by cases ha⟩
  have HP3 : Hid (FlP w3 w1.heap.size A n c ⟨rp, rb, rk⟩ 20000 none 0 0 ([], 0)) := ⟨by rw [hw3]; exact heap_alloc_new w1 _, hnil _⟩
  have HL3 : Hid (∀ W, Below w1.heap.size w3 W → RdK kGrp W A n xs) := fun W hW => HX1.out.below (hb3.trans hW) (Nat.le_refl _)
  have HB3 := hide (HB1.out.trans (hb3.mono HB1.out.size))
  have hnod : nodF n ≤ 20000 := Nat.le_trans (nodF_few hn6) (by omega)
  have S3 := hide (SE.out w1.heap.size [] 0 0 0 0 ([], 0) 20000 none 0 0 none 0 0 w3 (Nat.zero_le _) (by omega) (fun _ => rfl) (by simp) (by simp) (by omega) (by omega) (by omega) hnod (Nat.le_refl _) rfl (Nat.le_refl _) (hnil _) HL3.out HP3.out)
  rw [HB.out] at S3
  clear hb3 SE HX1 hnod BU hnil
  go_wp2_with fail
  rw [← hw3]
  clear hw3 a0 a1 a2
  (try go_wp2_with fail)
  refine S3.out.mono ?_
  rintro e w4 ⟨rfl, l4, Ab, nb, cb, _, _, hp4, hk4⟩
  have HR4 := hide hp4.bs.1
  have HB4 := hide (Wr.below HB3.out hk4 HB1.out.size HB3.out.size)
  obtain ⟨_, z1, _, _, _, _, z6, z7⟩ := hp4.cells
  clear hp4 hk4 HP3 HL3 HB3 S3
  go_wp2_with fail
  go_quiet (fail)
  go_wp2
  refine bodyPost_ret (v := .tuple #[.slice Ab nb cb, .int .i64 b.2, .int .i64 0]) (by simp [results, Tryz.results61, go_sem, *]) rfl ?_
  exact ⟨Ab, nb, cb, rfl, HR4.out.drewN _, below_drewN HB4.out _⟩

end Go.Proofs.YtcclfmapbgdpdaaGreatDoor
