/- The law FnExactGrantText returns true for all arguments: its walk. -/
import Derived.Test.YtjilagbifcokoaaGrant
namespace Go.Proofs.Ytjilagbifcokoaa
open Go.RowKit
set_option linter.unusedVariables false

theorem szZ_small {l : Int} {ns : List Nat} (h : 0 ≤ szZ l ns) : ∀ n ∈ ns, (n : Int) ≤ l := by
  induction ns generalizing l with
  | nil => simp
  | cons m r ih =>
    rw [szZ] at h
    split at h
    · omega
    · intro n hn
      rcases List.mem_cons.1 hn with rfl | hn
      · omega
      · have := ih h n hn; omega

/-- A box of three cells, behind calls that write nothing old. -/
theorem box3 {w w' : World} {b : Nat} {u v x : Value} (h : w.cell? ⟨b, 0, none⟩ = some u ∧ w.cell? ⟨b, 1, none⟩ = some v ∧ w.cell? ⟨b, 2, none⟩ = some x) (hb : Below w.heap.size w w') (hlt : b < w.heap.size) :
    w'.cell? ⟨b, 0, none⟩ = some u ∧ w'.cell? ⟨b, 1, none⟩ = some v ∧ w'.cell? ⟨b, 2, none⟩ = some x :=
  ⟨(hb.cell hlt).trans h.1, (hb.cell hlt).trans h.2.1, (hb.cell hlt).trans h.2.2⟩

set_option maxHeartbeats 1000000 in
theorem law_GrantText (x : GrantZ) (w : World) (hr : x.role.size ≤ 9223372036854775807) (ho : x.object.size ≤ 9223372036854775807) :
    Calls Try.prog 7 #[.agg #[.string x.role, .string x.object, .int .i64 x.action]] w fun e w' => e = .returned (.bool true) ∧ Below w.heap.size w w' := by
  by_cases hz : szZ 1048576 [x.role.size, x.object.size] < 0
  · go_enter Try.func7, Try.ntmps7
    go_wp2_with fail
    refine (szGrant_calls x _ _ (by omega) (by omega) hr ho).mono ?_
    rintro e w1 ⟨rfl, hb1⟩
    go_wp2
    go_ret
    exact ⟨rfl, ((Below.refl _ _).alloc (Nat.le_refl _) _).trans (hb1.mono (by simp))⟩
  · have hs := szZ_small (l := 1048576) (ns := [x.role.size, x.object.size]) (by omega)
    have hs1 := hs x.role.size (by simp)
    have hs2 := hs x.object.size (by simp)
    have hx : x.fine := ⟨by omega, by omega⟩
    clear hs hs1 hs2
    obtain ⟨r, o, a⟩ := x
    simp only at *
    have B0 := ((Below.refl w.heap.size w).alloc (Nat.le_refl _) (.cells #[.string r, .string o, .int .i64 a] 37))
    have h0 : (w.alloc (.cells #[.string r, .string o, .int .i64 a] 37)).cell? ⟨w.heap.size, 0, none⟩ = some (.string r) ∧ (w.alloc (.cells #[.string r, .string o, .int .i64 a] 37)).cell? ⟨w.heap.size, 1, none⟩ = some (.string o) ∧ (w.alloc (.cells #[.string r, .string o, .int .i64 a] 37)).cell? ⟨w.heap.size, 2, none⟩ = some (.int .i64 a) := by simp
    have z0 : w.heap.size < (w.alloc (.cells #[.string r, .string o, .int .i64 a] 37)).heap.size := by simp
    go_enter Try.func7, Try.ntmps7
    go_wp2_with fail
    refine (szGrant_calls ⟨r, o, a⟩ _ _ (by omega) (by omega) hr ho).mono ?_
    rintro e w1 ⟨rfl, hb1⟩
    have B1 := B0.trans (hb1.mono (Nat.le_of_lt z0))
    obtain ⟨c10, c11, c12⟩ := box3 h0 hb1 z0
    have h1 := hide (And.intro c10 (And.intro c11 c12))
    have z1 := Nat.lt_of_lt_of_le z0 hb1.size
    go_wp2_with fail
    refine (toGrant_calls ⟨r, o, a⟩ _).mono ?_
    rintro e w2 ⟨rfl, hb2⟩
    have B2 := B1.trans (hb2.mono (Nat.le_of_lt z1))
    obtain ⟨c20, c21, c22⟩ := box3 h1.out hb2 z1
    have h2 := hide (And.intro c20 (And.intro c21 c22))
    have z2 := Nat.lt_of_lt_of_le z1 hb2.size
    go_wp2_with fail
    refine (specGrantText_calls ⟨r, o, a⟩ _ hx).mono ?_
    rintro e w3 ⟨rfl, hb3⟩
    have B3 := B2.trans (hb3.mono (Nat.le_of_lt z2))
    obtain ⟨c30, c31, c32⟩ := box3 h2.out hb3 z2
    have h3 := hide (And.intro c30 (And.intro c31 c32))
    have z3 := Nat.lt_of_lt_of_le z2 hb3.size
    go_wp2_with fail
    refine (toGrant_calls ⟨r, o, a⟩ _).mono ?_
    rintro e w4 ⟨rfl, hb4⟩
    have B4 := B3.trans (hb4.mono (Nat.le_of_lt z3))
    have z4 := Nat.lt_of_lt_of_le z3 hb4.size
    go_wp2_with fail
    refine (implGrantText_calls ⟨r, o, a⟩ _ hx).mono ?_
    rintro e w5 ⟨rfl, hb5⟩
    have B5 := B4.trans (hb5.mono (Nat.le_of_lt z4))
    go_wp2
    go_ret
    exact ⟨rfl, B5⟩

end Go.Proofs.Ytjilagbifcokoaa
