/- Contracts: actions, the text of a grant, and the laws' helpers on grants. -/
import Derived.Test.YtlomloepdnojoaaDoorBase
import Derived.Test.YtlomloepdnojoaaDoorSer
import Derived.Test.YtlomloepdnojoaaDoorName
import Derived.Deep.RegionHeld3
namespace Go.Proofs.YtlomloepdnojoaaDoor
open Go.RowKit
set_option linter.unusedVariables false

/-- The name of an action. -/
def actName (a : Int) : ByteArray := if a = 1 then ⟨#[114, 101, 97, 100]⟩ else if a = 2 then ⟨#[99, 104, 97, 110, 103, 101]⟩ else if a = 3 then ⟨#[114, 101, 108, 101, 97, 115, 101]⟩ else ⟨#[]⟩
def isActB (a : Int) : Bool := withinB a 1 3

theorem isAction_calls (a : Int) (w : World) : Calls Tryd.prog 129 #[.int .i64 a] w fun e w' => e = .returned (.bool (isActB a)) ∧ w = w' := by
  go_enter Tryd.func129, Tryd.ntmps129
  go_wp2_with (go_at_call 88; refine (within_calls _ _ _ _).mono ?_; rintro e w' ⟨rfl, rfl⟩)
  go_ret
  exact ⟨rfl, rfl⟩

theorem l28Action_calls (a : Int) (w : World) : Calls Tryd.prog 165 #[.int .i64 a] w fun e w' => e = .returned (.bool (isActB a)) ∧ w = w' := by
  go_enter Tryd.func165, Tryd.ntmps165
  go_wp2_with (go_at_call 103; refine (l00In_calls _ _ _ _).mono ?_; rintro e w' ⟨rfl, rfl⟩)
  go_ret
  exact ⟨rfl, rfl⟩

theorem act_cases (a : Int) : a = 1 ∨ a = 2 ∨ a = 3 ∨ ((a == 1) = false ∧ (a == 2) = false ∧ (a == 3) = false ∧ actName a = ⟨#[]⟩ ∧ isActB a = false) := by
  by_cases h1 : a = 1
  · exact .inl h1
  by_cases h2 : a = 2
  · exact .inr (.inl h2)
  by_cases h3 : a = 3
  · exact .inr (.inr (.inl h3))
  refine .inr (.inr (.inr ⟨by simpa using h1, by simpa using h2, by simpa using h3, by simp [actName, h1, h2, h3], ?_⟩))
  rw [isActB, withinB_not]; omega

set_option maxHeartbeats 400000 in
theorem l28Name_calls (a : Int) (w : World) : Calls Tryd.prog 127 #[.int .i64 a] w fun e w' => e = .returned (.string (actName a)) ∧ w = w' := by
  rcases act_cases a with rfl | rfl | rfl | ⟨h1, h2, h3, h4, h5⟩
  · go_enter Tryd.func127, Tryd.ntmps127
    go_wp2
    go_ret
    exact ⟨rfl, rfl⟩
  · go_enter Tryd.func127, Tryd.ntmps127
    go_wp2
    go_ret
    exact ⟨rfl, rfl⟩
  · go_enter Tryd.func127, Tryd.ntmps127
    go_wp2
    go_ret
    exact ⟨rfl, rfl⟩
  · have H4 := hide h4
    clear h4 h5
    go_enter Tryd.func127, Tryd.ntmps127
    go_wp2
    go_ret
    exact ⟨ret_str H4.out.symm, rfl⟩

set_option maxHeartbeats 400000 in
theorem implActionName_calls (a : Int) (w : World) : Calls Tryd.prog 77 #[.int .i64 a] w fun e w' => e = .returned (.string (actName a)) ∧ Below w.heap.size w w' := by
  rcases act_cases a with rfl | rfl | rfl | ⟨h1, h2, h3, h4, h5⟩
  · have hb : isActB 1 = true := rfl
    go_enter Tryd.func77, Tryd.ntmps77
    go_wp2_with (go_at_call 129; refine (isAction_calls _ _).mono ?_; rintro e w' ⟨rfl, rfl⟩)
    go_ret
    exact ⟨rfl, (Below.refl _ _).alloc (Nat.le_refl _) _⟩
  · have hb : isActB 2 = true := rfl
    go_enter Tryd.func77, Tryd.ntmps77
    go_wp2_with (go_at_call 129; refine (isAction_calls _ _).mono ?_; rintro e w' ⟨rfl, rfl⟩)
    go_ret
    exact ⟨rfl, (Below.refl _ _).alloc (Nat.le_refl _) _⟩
  · have hb : isActB 3 = true := rfl
    go_enter Tryd.func77, Tryd.ntmps77
    go_wp2_with (go_at_call 129; refine (isAction_calls _ _).mono ?_; rintro e w' ⟨rfl, rfl⟩)
    go_ret
    exact ⟨rfl, (Below.refl _ _).alloc (Nat.le_refl _) _⟩
  · have H4 := hide h4
    clear h4
    go_enter Tryd.func77, Tryd.ntmps77
    go_wp2_with (go_at_call 129; refine (isAction_calls _ _).mono ?_; rintro e w' ⟨rfl, rfl⟩)
    go_ret
    exact ⟨ret_str H4.out.symm, Below.refl _ _⟩

/-- A grant. -/
structure GrantZ where
  role : ByteArray
  object : ByteArray
  action : Int
def cG (x : GrantZ) : List Value := [.string x.role, .string x.object, .int .i64 x.action]
def GrantZ.fine (x : GrantZ) : Prop := x.role.size ≤ 1048576 ∧ x.object.size ≤ 1048576
theorem actName_size (a : Int) : (actName a).size ≤ 7 := by
  unfold actName
  repeat' split
  all_goals (simp [ByteArray.size])
def fineG (x : GrantZ) : Bool := nameB x.role && nameB x.object && isActB x.action
def textG (x : GrantZ) : ByteArray := x.role ++ ⟨#[32]⟩ ++ actName x.action ++ ⟨#[32]⟩ ++ x.object
def grantText (x : GrantZ) : ByteArray := if fineG x then textG x else ⟨#[]⟩

set_option maxHeartbeats 1000000 in
theorem l28Fine_calls (x : GrantZ) (b off : Nat) (w : World) (hx : x.fine) (h0 : w.cell? ⟨b, off, none⟩ = some (.string x.role)) (h1 : w.cell? ⟨b, off + 1, none⟩ = some (.string x.object)) (h2 : w.cell? ⟨b, off + 2, none⟩ = some (.int .i64 x.action)) :
    Calls Tryd.prog 128 #[.pointer (some ⟨b, off, none⟩)] w fun e w' => e = .returned (.bool (fineG x)) ∧ w = w' := by
  obtain ⟨r, o, a⟩ := x
  obtain ⟨hx1, hx2⟩ := hx
  simp only at *
  have hfin : Hid (fineG ⟨r, o, a⟩ = (nameB r && nameB o && isActB a)) := rfl
  cases e1 : nameB r
  · go_enter Tryd.func128, Tryd.ntmps128
    go_wp2_with fail
    refine (l01Name_calls r _ (by omega)).mono ?_
    rintro e w' ⟨rfl, rfl⟩
    go_wp2
    go_ret
    exact ⟨ret_bool (by rw [hfin.out, e1]; rfl), rfl⟩
  · cases e2 : nameB o
    · go_enter Tryd.func128, Tryd.ntmps128
      go_wp2_with fail
      refine (l01Name_calls r _ (by omega)).mono ?_
      rintro e w' ⟨rfl, rfl⟩
      go_wp2_with fail
      refine (l01Name_calls o _ (by omega)).mono ?_
      rintro e w' ⟨rfl, rfl⟩
      go_wp2
      go_ret
      exact ⟨ret_bool (by rw [hfin.out, e1, e2]; rfl), rfl⟩
    · go_enter Tryd.func128, Tryd.ntmps128
      go_wp2_with fail
      refine (l01Name_calls r _ (by omega)).mono ?_
      rintro e w' ⟨rfl, rfl⟩
      go_wp2_with fail
      refine (l01Name_calls o _ (by omega)).mono ?_
      rintro e w' ⟨rfl, rfl⟩
      go_wp2_with fail
      refine (l28Action_calls a _).mono ?_
      rintro e w' ⟨rfl, rfl⟩
      go_wp2
      go_ret
      exact ⟨ret_bool (by rw [hfin.out, e1, e2]; rfl), rfl⟩



set_option maxHeartbeats 1000000 in
theorem implGrantText_calls (x : GrantZ) (w : World) (hx : x.fine) :
    Calls Tryd.prog 78 #[.agg #[.string x.role, .string x.object, .int .i64 x.action]] w fun e w' => e = .returned (.string (grantText x)) ∧ Below w.heap.size w w' := by
  obtain ⟨r, o, a⟩ := x
  obtain ⟨hx1, hx2⟩ := hx
  simp only at *
  have hfin : Hid (grantText ⟨r, o, a⟩ = if nameB r && nameB o && isActB a then textG ⟨r, o, a⟩ else ⟨#[]⟩) := rfl
  cases e1 : nameB r
  · go_enter Tryd.func78, Tryd.ntmps78
    go_wp2_with fail
    refine (isName_calls r _ (by omega)).mono ?_
    rintro e w1 ⟨rfl, hb1⟩
    go_wp2
    go_ret
    exact ⟨ret_str (by rw [hfin.out, e1]; rfl), ((Below.refl _ _).alloc (Nat.le_refl _) _).trans (hb1.mono (by simp))⟩
  · cases e2 : nameB o
    · go_enter Tryd.func78, Tryd.ntmps78
      go_wp2_with fail
      refine (isName_calls r _ (by omega)).mono ?_
      rintro e w1 ⟨rfl, hb1⟩
      have c1 := (hb1.cell (p := ⟨w.heap.size, 1, none⟩) (by simp)).trans (by simp : _ = some (Value.string o))
      go_wp2_with fail
      refine (isName_calls o _ (by omega)).mono ?_
      rintro e w2 ⟨rfl, hb2⟩
      go_wp2
      go_ret
      exact ⟨ret_str (by rw [hfin.out, e1, e2]; rfl), (((Below.refl _ _).alloc (Nat.le_refl _) _).trans (hb1.mono (by simp))).trans (hb2.mono (Nat.le_trans (by simp) hb1.size))⟩
    · cases e3 : isActB a
      · go_enter Tryd.func78, Tryd.ntmps78
        go_wp2_with fail
        refine (isName_calls r _ (by omega)).mono ?_
        rintro e w1 ⟨rfl, hb1⟩
        have c1 := (hb1.cell (p := ⟨w.heap.size, 1, none⟩) (by simp)).trans (by simp : _ = some (Value.string o))
        go_wp2_with fail
        refine (isName_calls o _ (by omega)).mono ?_
        rintro e w2 ⟨rfl, hb2⟩
        have B2 := (((Below.refl _ _).alloc (Nat.le_refl w.heap.size) _).trans (hb1.mono (by simp))).trans (hb2.mono (Nat.le_trans (by simp) hb1.size))
        have hz1 : w.heap.size < w1.heap.size := Nat.lt_of_lt_of_le (by simp) hb1.size
        have c2 := (hb2.cell (p := ⟨w.heap.size, 2, none⟩) (by simpa using hz1)).trans ((hb1.cell (p := ⟨w.heap.size, 2, none⟩) (by simp)).trans (by simp : _ = some (Value.int .i64 a)))
        go_wp2_with fail
        refine (isAction_calls a _).mono ?_
        rintro e w' ⟨rfl, rfl⟩
        go_wp2
        go_ret
        exact ⟨ret_str (by rw [hfin.out, e1, e2, e3]; rfl), B2⟩
      · have hsz := actName_size a
        have k1 : ¬ 9223372036854775807 < r.size + 1 := by omega
        have k2 : ¬ 9223372036854775807 < r.size + 1 + (actName a).size := by omega
        have k3 : ¬ 9223372036854775807 < r.size + 1 + (actName a).size + 1 := by omega
        have k4 : ¬ 9223372036854775807 < r.size + 1 + (actName a).size + 1 + o.size := by omega
        go_enter Tryd.func78, Tryd.ntmps78
        go_wp2_with fail
        refine (isName_calls r _ (by omega)).mono ?_
        rintro e w1 ⟨rfl, hb1⟩
        have c1 := (hb1.cell (p := ⟨w.heap.size, 1, none⟩) (by simp)).trans (by simp : _ = some (Value.string o))
        go_wp2_with fail
        refine (isName_calls o _ (by omega)).mono ?_
        rintro e w2 ⟨rfl, hb2⟩
        have B2 := (((Below.refl _ _).alloc (Nat.le_refl w.heap.size) _).trans (hb1.mono (by simp))).trans (hb2.mono (Nat.le_trans (by simp) hb1.size))
        have hz1 : w.heap.size < w1.heap.size := Nat.lt_of_lt_of_le (by simp) hb1.size
        have hz2 : w.heap.size < w2.heap.size := Nat.lt_of_lt_of_le hz1 hb2.size
        have c20 := (hb2.cell (p := ⟨w.heap.size, 0, none⟩) (by simpa using hz1)).trans ((hb1.cell (p := ⟨w.heap.size, 0, none⟩) (by simp)).trans (by simp : _ = some (Value.string r)))
        have c21 := (hb2.cell (p := ⟨w.heap.size, 1, none⟩) (by simpa using hz1)).trans ((hb1.cell (p := ⟨w.heap.size, 1, none⟩) (by simp)).trans (by simp : _ = some (Value.string o)))
        have c2 := (hb2.cell (p := ⟨w.heap.size, 2, none⟩) (by simpa using hz1)).trans ((hb1.cell (p := ⟨w.heap.size, 2, none⟩) (by simp)).trans (by simp : _ = some (Value.int .i64 a)))
        go_wp2_with fail
        refine (isAction_calls a _).mono ?_
        rintro e w' ⟨rfl, rfl⟩
        go_wp2_with fail
        go_region_held3 (fun w' => w'.cell? ⟨w.heap.size, 0, none⟩ = some (.string r) ∧ w'.cell? ⟨w.heap.size, 1, none⟩ = some (.string o) ∧ w'.cell? ⟨w.heap.size, 2, none⟩ = some (.int .i64 a)) (first | exact ⟨c20, c21, c2⟩ | exact ⟨(hb3.cell (p := ⟨w.heap.size, 0, none⟩) hz2).trans c20, (hb3.cell (p := ⟨w.heap.size, 1, none⟩) hz2).trans c21, (hb3.cell (p := ⟨w.heap.size, 2, none⟩) hz2).trans c2⟩)
          (first | (go_at_call 77; refine (implActionName_calls a _).mono ?_; rintro e w3 ⟨rfl, hb3⟩))
        go_wp2
        go_ret
        exact ⟨ret_str (by rw [hfin.out, e1, e2, e3]; rfl), (B2.drew).trans (hb3.mono (Nat.le_of_lt hz2))⟩

/-- What is left of a size. -/
def szZ : Int → List Nat → Int
  | l, [] => l
  | l, n :: r => if l - n < 0 then -1 else szZ (l - n) r



end Go.Proofs.YtlomloepdnojoaaDoor
