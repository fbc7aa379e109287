/- NeedlessGrants: what it gives, the closure of the program's. -/
import Derived.Test.YtidhbpnibgegdaaEqG
import Derived.Test.YtidhbpnibgegdaaRightsS
import Derived.Test.YtidhbpnibgegdaaRevoke
import Derived.Test.YtidhbpnibgegdaaAppI
namespace Go.Proofs.Ytidhbpnibgegdaa
open Go.RowKit
set_option linter.unusedVariables false

/-- Is the grant at an index needless? -/
def ndB (rs : List RoleZ) (gs : List GrantZ) (k : Nat) : Bool := match gs[k]? with | some g => mayB rs (remZ gs k) (findN rs g.role) g.object g.action | none => false
def ndI (rs : List RoleZ) (gs : List GrantZ) (m : Nat) : List Int := ((List.range m).filter (ndB rs gs)).map (fun k : Nat => (k : Int))
theorem ndI_snoc (rs : List RoleZ) (gs : List GrantZ) (m : Nat) : ndI rs gs (m + 1) = ndI rs gs m ++ (if ndB rs gs m = true then [(m : Int)] else []) := by
  unfold ndI
  rw [List.range_succ, List.filter_append, List.map_append]
  cases h : ndB rs gs m <;> simp [h]
theorem ndI_yes {rs : List RoleZ} {gs : List GrantZ} {m : Nat} (h : ndB rs gs m = true) : ndI rs gs (m + 1) = ndI rs gs m ++ [(m : Int)] := by rw [ndI_snoc, if_pos h]
theorem ndI_no {rs : List RoleZ} {gs : List GrantZ} {m : Nat} (h : ndB rs gs m = false) : ndI rs gs (m + 1) = ndI rs gs m := by rw [ndI_snoc, h]; simp
theorem ndI_len (rs : List RoleZ) (gs : List GrantZ) (m : Nat) : (ndI rs gs m).length ≤ m := by
  unfold ndI
  rw [List.length_map]
  exact Nat.le_trans (List.length_filter_le _ _) (by simp)
theorem ndI_i64 (rs : List RoleZ) (gs : List GrantZ) {m : Nat} (hm : m ≤ 1048576) : ∀ x ∈ ndI rs gs m, I64 x := by
  intro x hx
  unfold ndI at hx
  obtain ⟨k, hk, rfl⟩ := List.mem_map.1 hx
  have := List.mem_range.1 (List.mem_filter.1 hk).1
  unfold I64
  omega
def neC (rs : List RoleZ) (gs : List GrantZ) : Int := if grantsB rs gs = true then 0 else 1
def neV (rs : List RoleZ) (gs : List GrantZ) : List Int := if grantsB rs gs = true then ndI rs gs gs.length else []
theorem ne_bad {rs : List RoleZ} {gs : List GrantZ} (h : grantsB rs gs = false) : neV rs gs = [] ∧ neC rs gs = 1 := by unfold neV neC; rw [h]; exact ⟨rfl, rfl⟩
theorem ne_ok {rs : List RoleZ} {gs : List GrantZ} (h : grantsB rs gs = true) : neV rs gs = ndI rs gs gs.length ∧ neC rs gs = 0 := by unfold neV neC; rw [h]; exact ⟨rfl, rfl⟩
theorem remZ_all {gs : List GrantZ} {k : Nat} {g : GrantZ} (hg : gs[k]? = some g) : ∀ x ∈ gs, x = g ∨ x ∈ remZ gs k := by
  intro x hx
  obtain ⟨j, hj, rfl⟩ := List.mem_iff_getElem.1 hx
  rcases Nat.lt_trichotomy j k with h | h | h
  · refine .inr (List.mem_append.2 (.inl ?_))
    rw [List.mem_take_iff_getElem]
    exact ⟨j, by omega, rfl⟩
  · subst h
    rw [List.getElem?_eq_getElem hj] at hg
    injection hg with hg
    exact .inl hg
  · refine .inr (List.mem_append.2 (.inr ?_))
    rw [List.mem_drop_iff_getElem]
    exact ⟨j - (k + 1), by omega, by congr 1; omega⟩
/-- What the program asks. -/
def nePr (rs : List RoleZ) (gs less : List GrantZ) (r : RoleZ) : Bool := !decide (rightsZ rs gs r.name = rightsZ rs less r.name)
theorem ndB_eq {rs : List RoleZ} {gs : List GrantZ} {k : Nat} {g : GrantZ} (h : grantsB rs gs = true) (hg : gs[k]? = some g) : ndB rs gs k = !(rs.any (nePr rs gs (remZ gs k))) := by
  have hi := needless_iff (grants_roles h) (List.mem_of_getElem? hg) (less := remZ gs k) (fun x hx => remZ_mem hx) (remZ_all hg) (grants_one h (List.mem_of_getElem? hg))
  unfold ndB
  rw [hg]
  simp only
  rw [Bool.eq_iff_iff, hi]
  simp [nePr]
theorem ndB_at {rs : List RoleZ} {gs : List GrantZ} {k : Nat} {g : GrantZ} (hg : gs[k]? = some g) : ndB rs gs k = mayB rs (remZ gs k) (findN rs g.role) g.object g.action := by unfold ndB; rw [hg]

/-- What a function that gives numbers and a code leaves. -/
def ICPost (xs : List Int) (c : Int) (w : World) (e : Ending) (w' : World) : Prop :=
  ∃ A' n' c', e = .returned (.tuple #[.slice A' n' c', .int .i64 c]) ∧ FrI w' w.heap.size w'.heap.size 2 A' n' xs ∧ n' ≤ 1048576 ∧ Below w.heap.size w w'
theorem ICPost.none {xs : List Int} {c c0 : Int} {w w' : World} (hx : xs = []) (hc : c = c0) (hb : Below w.heap.size w w') : ICPost xs c w (.returned (.tuple #[.slice Option.none 0 0, .int .i64 c0])) w' := by
  subst hx hc
  exact ⟨Option.none, 0, 0, rfl, FrI.nil, by omega, hb⟩

set_option maxRecDepth 100000 in
set_option maxHeartbeats 4000000 in
theorem needClos_calls (A : Option Addr) (n c : Nat) (rs : List RoleZ) (A1 : Option Addr) (n1 c1 : Nat) (gs : List GrantZ) (A3 : Option Addr) (n3 c3 : Nat) (less : List GrantZ) (nm : ByteArray) (Aq : Option Addr) (nq cq b b2 : Nat) (w : World) (h : RdRz w A n rs) (h1 : RdK kGrant w A1 n1 gs) (h3 : RdK kGrant w A3 n3 less) (hok : RolesOk rs) (hg : ∀ x ∈ gs, hasR rs x.role = true) (hg3 : ∀ x ∈ less, hasR rs x.role = true) (hn1 : n1 ≤ 48) (hn3 : n3 ≤ 48) (hh : hasR rs nm = true) (hnm : nm.size ≤ 9223372036854775807) (hb1 : b + 1 < w.heap.size) (hb2 : b2 < w.heap.size)
    (g0 : w.cell? ⟨b, 0, none⟩ = some (.slice A n c)) (g1 : w.cell? ⟨b + 1, 0, none⟩ = some (.slice A1 n1 c1)) (g2 : w.cell? ⟨b2, 0, none⟩ = some (.slice A3 n3 c3)) :
    Calls Try.prog 87 #[.agg #[.string nm, .slice Aq nq cq], .pointer (some ⟨b, 0, none⟩), .pointer (some ⟨b + 1, 0, none⟩), .pointer (some ⟨b2, 0, none⟩)] w fun e w' => e = .returned (.bool (!decide (rightsZ rs gs nm = rightsZ rs less nm))) ∧ Below w.heap.size w w' := by
  have HU : Hid (∀ W, Below w.heap.size w W → Calls Try.prog 84 #[.slice A n c, .slice A1 n1 c1, .string nm] W fun e w' => ∃ A' n' c', e = .returned (.slice A' n' c') ∧ RdK kGrant w' A' n' (rightsZ rs gs nm) ∧ n' ≤ 144 ∧ Below W.heap.size W w') := by
    intro W hW
    refine (rightsOf_calls A n c rs A1 n1 c1 gs nm W (h.below hW (Nat.le_refl _)) (h1.below hW (Nat.le_refl _)) hok hg hn1 hh).mono ?_
    rintro e w' ⟨A', n', c', rfl, hown, hl, hb⟩
    have h3 := rights_small (rs := rs) nm (show gs.length ≤ 48 by rw [h1.2.1]; exact hn1)
    exact ⟨A', n', c', rfl, RdK.of_own (K := kGrant) hown hl (rights_fine hnm (fineO h1)), by omega, hb⟩
  have HV : Hid (∀ W, Below w.heap.size w W → Calls Try.prog 84 #[.slice A n c, .slice A3 n3 c3, .string nm] W fun e w' => ∃ A' n' c', e = .returned (.slice A' n' c') ∧ RdK kGrant w' A' n' (rightsZ rs less nm) ∧ n' ≤ 144 ∧ Below W.heap.size W w') := by
    intro W hW
    refine (rightsOf_calls A n c rs A3 n3 c3 less nm W (h.below hW (Nat.le_refl _)) (h3.below hW (Nat.le_refl _)) hok hg3 hn3 hh).mono ?_
    rintro e w' ⟨A', n', c', rfl, hown, hl, hb⟩
    have h4 := rights_small (rs := rs) nm (show less.length ≤ 48 by rw [h3.2.1]; exact hn3)
    exact ⟨A', n', c', rfl, RdK.of_own (K := kGrant) hown hl (rights_fine hnm (fineO h3)), by omega, hb⟩
  clear h h1 h3 hok hg hg3
  obtain ⟨P, hP⟩ : ∃ P, P = decide (rightsZ rs gs nm = rightsZ rs less nm) := ⟨_, rfl⟩
  have HEQ : Hid (∀ (A4 A5 : Option Addr) (n4 n5 c4 c5 : Nat) W, RdK kGrant W A4 n4 (rightsZ rs gs nm) → RdK kGrant W A5 n5 (rightsZ rs less nm) → n4 ≤ 144 → n5 ≤ 144 → Calls Try.prog 88 #[.slice A4 n4 c4, .slice A5 n5 c5] W fun e w' => e = .returned (.bool P) ∧ Below W.heap.size W w') := by
    intro A4 A5 n4 n5 c4 c5 W h4 h5 l4 l5
    rw [hP]
    exact equalG_calls A4 A5 n4 n5 c4 c5 _ _ W h4 h5 (by omega) (by omega)
  rw [← hP]
  clear hP
  obtain ⟨W0, hW0⟩ : ∃ W0, W0 = w.alloc (.cells #[.string nm, .slice Aq nq cq] 70) := ⟨_, rfl⟩
  have hB : Below w.heap.size w W0 := by rw [hW0]; exact (Below.refl _ _).alloc (Nat.le_refl _) _
  have q3 : W0.cell? ⟨w.heap.size, 0, none⟩ = some (.string nm) := by rw [hW0]; simp
  have hz : w.heap.size < W0.heap.size := by rw [hW0]; simp
  have q0 := (hB.cell (p := ⟨b, 0, none⟩) (by show b < _; omega)).trans g0
  have q1 := (hB.cell (p := ⟨b + 1, 0, none⟩) hb1).trans g1
  have q2 := (hB.cell (p := ⟨b2, 0, none⟩) hb2).trans g2
  have KS : Hid (∀ W, Below W0.heap.size W0 W → W.cell? ⟨b, 0, none⟩ = some (.slice A n c) ∧ W.cell? ⟨b + 1, 0, none⟩ = some (.slice A1 n1 c1) ∧ W.cell? ⟨b2, 0, none⟩ = some (.slice A3 n3 c3) ∧ W.cell? ⟨w.heap.size, 0, none⟩ = some (.string nm)) := fun W C =>
    ⟨(C.cell (p := ⟨b, 0, none⟩) (by show b < _; omega)).trans q0, (C.cell (p := ⟨b + 1, 0, none⟩) (by show b + 1 < _; omega)).trans q1, (C.cell (p := ⟨b2, 0, none⟩) (by show b2 < _; omega)).trans q2, (C.cell (p := ⟨w.heap.size, 0, none⟩) hz).trans q3⟩
  go_enter Try.func87, Try.ntmps87
  go_wp2
  rw [← hW0]
  clear hW0 g0 g1 g2
  have hr0 : Below W0.heap.size W0 W0.drew := (Below.refl W0.heap.size W0).drew
  go_region_held3 (fun W => W.cell? ⟨b, 0, none⟩ = some (.slice A n c) ∧ W.cell? ⟨b + 1, 0, none⟩ = some (.slice A1 n1 c1) ∧ W.cell? ⟨b2, 0, none⟩ = some (.slice A3 n3 c3) ∧ W.cell? ⟨w.heap.size, 0, none⟩ = some (.string nm))
    (first
      | exact ⟨q0, q1, q2, q3⟩
      | exact KS.out _ hr0
      | exact KS.out _ hk4
      | exact KS.out _ hk5
      | exact KS.out _ hk6)
    (first
      | (go_at_call 84; (with_reducible refine (HU.out W0.drew (hB.trans (hr0.mono hB.size))).mono ?_); rintro e w4 ⟨A4, n4, c4, rfl, hr4, hn4, hb4⟩; have hk4 : Below W0.heap.size W0 w4 := hr0.trans hb4)
      | (go_at_call 84; (with_reducible refine (HV.out W0.drew (hB.trans (hr0.mono hB.size))).mono ?_); rintro e w5 ⟨A5, n5, c5, rfl, hr5, hn5, hb5⟩; have hk5 : Below W0.heap.size W0 w5 := hr0.trans hb5)
      | (go_at_call 84; (with_reducible refine (HV.out w4 (hB.trans (hk4.mono hB.size))).mono ?_); rintro e w5 ⟨A5, n5, c5, rfl, hr5, hn5, hb5⟩; have hk5 : Below W0.heap.size W0 w5 := hk4.trans (hb5.mono hk4.size))
      | (go_at_call 84; (with_reducible refine (HU.out w5 (hB.trans (hk5.mono hB.size))).mono ?_); rintro e w4 ⟨A4, n4, c4, rfl, hr4, hn4, hb4⟩; have hk4 : Below W0.heap.size W0 w4 := hk5.trans (hb4.mono hk5.size))
      | (go_at_call 88; have hr4' := hr4.below hb5 (Nat.le_refl _); (with_reducible refine (HEQ.out A4 A5 n4 n5 c4 c5 w5 hr4' hr5 hn4 hn5).mono ?_); rintro e w6 ⟨rfl, hb6⟩; have hk6 : Below W0.heap.size W0 w6 := hk5.trans (hb6.mono hk5.size))
      | (go_at_call 88; have hr5' := hr5.below hb4 (Nat.le_refl _); (with_reducible refine (HEQ.out A4 A5 n4 n5 c4 c5 w4 hr4 hr5' hn4 hn5).mono ?_); rintro e w6 ⟨rfl, hb6⟩; have hk6 : Below W0.heap.size W0 w6 := hk4.trans (hb6.mono hk4.size))
      | fail)
  all_goals
    go_wp2
    go_ret
    exact ⟨rfl, hB.trans (hk6.mono hB.size)⟩

end Go.Proofs.Ytidhbpnibgegdaa
