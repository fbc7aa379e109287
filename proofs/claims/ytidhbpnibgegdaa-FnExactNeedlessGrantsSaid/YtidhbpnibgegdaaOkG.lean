/- named, isGrant, ValidGrants; l28One, l28Ok of the reference. -/
import Derived.Test.YtidhbpnibgegdaaValidRS
import Derived.Test.YtidhbpnibgegdaaCmpG
namespace Go.Proofs.Ytidhbpnibgegdaa
open Go.RowKit
set_option linter.unusedVariables false

/-- The first error of something that is valid, or not, and of the name of a role. -/
def namedZ (v : Bool) (rs : List RoleZ) (nm : ByteArray) : Int := if v = true then (if hasR rs nm = true then 0 else 3) else 1

theorem named_calls (v : Bool) (A : Option Addr) (n c : Nat) (rs : List RoleZ) (nm : ByteArray) (w : World) (h : RdRz w A n rs) (hn : n ≤ 1048576) :
    Calls Try.prog 66 #[.bool v, .slice A n c, .string nm] w fun e w' => e = .returned (.int .i64 (namedZ v rs nm)) ∧ Below w.heap.size w w' := by
  have HZ : Hid (namedZ v rs nm = if v = true then (if hasR rs nm = true then 0 else 3) else 1) := rfl
  have HM := hide (roleAt_calls A n c rs nm w h hn)
  cases v
  · go_enter Try.func66, Try.ntmps66
    go_wp2
    go_ret
    exact ⟨ret_int (by rw [HZ.out]; rfl), Below.refl _ _⟩
  · rcases b_cases (hasR rs nm) with hh | hh
    · rw [findI_no hh] at HM
      rw [hh] at HZ
      clear hh
      go_enter Try.func66, Try.ntmps66
      go_wp2_with fail
      refine HM.out.mono ?_
      rintro e w1 ⟨rfl, hb1⟩
      go_wp2
      go_ret
      exact ⟨ret_int (by rw [HZ.out]; rfl), hb1⟩
    · rw [findI_yes hh] at HM
      rw [hh] at HZ
      generalize findN rs nm = f at HM
      clear hh
      go_enter Try.func66, Try.ntmps66
      go_wp2_with fail
      refine HM.out.mono ?_
      rintro e w1 ⟨rfl, hb1⟩
      go_wp2
      go_ret
      exact ⟨ret_int (by rw [HZ.out]; rfl), hb1⟩

set_option maxHeartbeats 1000000 in
theorem isGrant_calls (A : Option Addr) (n c : Nat) (rs : List RoleZ) (x : GrantZ) (w : World) (h : RdRz w A n rs) (hn : n ≤ 1048576) (hx : kGrant.fine x) :
    Calls Try.prog 69 #[.slice A n c, .agg #[.string x.role, .string x.object, .int .i64 x.action]] w fun e w' => e = .returned (.bool (grantB rs x)) ∧ Below w.heap.size w w' := by
  obtain ⟨r, o, a⟩ := x
  simp only
  have hso : o.size ≤ 9223372036854775807 := hx.2.1
  have HZ : Hid (grantB rs ⟨r, o, a⟩ = (hasR rs r && nameB o && isActB a)) := rfl
  obtain ⟨W0, hW0⟩ : ∃ W0, W0 = (w.alloc (.cells #[.string r, .string o, .int .i64 a] 49)) := ⟨_, rfl⟩
  have hB : Below w.heap.size w W0 := by rw [hW0]; exact (Below.refl _ _).alloc (Nat.le_refl _) _
  have c0 : W0.cell? ⟨w.heap.size, 0, none⟩ = some (.string r) := by rw [hW0]; simp
  have c1 : W0.cell? ⟨w.heap.size, 1, none⟩ = some (.string o) := by rw [hW0]; simp
  have c2 : W0.cell? ⟨w.heap.size, 2, none⟩ = some (.int .i64 a) := by rw [hW0]; simp
  have hz : w.heap.size < W0.heap.size := by rw [hW0]; simp
  have HM := hide (roleAt_calls A n c rs r W0 (h.below hB (Nat.le_refl _)) hn)
  rcases b_cases (hasR rs r) with hh | hh
  · rw [findI_no hh] at HM
    rw [hh] at HZ
    clear hh
    go_enter Try.func69, Try.ntmps69
    go_wp2_with fail
    rw [← hW0]
    clear hW0
    go_wp2_with fail
    refine HM.out.mono ?_
    rintro e w1 ⟨rfl, hb1⟩
    go_wp2
    go_ret
    exact ⟨ret_bool (by rw [HZ.out]; rfl), hB.trans (hb1.mono hB.size)⟩
  rw [findI_yes hh] at HM
  rw [hh] at HZ
  generalize findN rs r = f at HM
  clear hh
  rcases b_cases (nameB o) with hq | hq
  · rw [hq] at HZ
    have HQ := hide hq
    clear hq
    go_enter Try.func69, Try.ntmps69
    go_wp2_with fail
    rw [← hW0]
    clear hW0
    go_wp2_with fail
    refine HM.out.mono ?_
    rintro e w1 ⟨rfl, hb1⟩
    have e1 := (hb1.cell (p := ⟨w.heap.size, 1, none⟩) hz).trans c1
    have e2 := (hb1.cell (p := ⟨w.heap.size, 2, none⟩) hz).trans c2
    go_wp2_with fail
    refine (isName_calls o _ hso).mono ?_
    rw [HQ.out]
    rintro e w2 ⟨rfl, hb2⟩
    go_wp2
    go_ret
    exact ⟨ret_bool (by rw [HZ.out]; rfl), (hB.trans (hb1.mono hB.size)).trans (hb2.mono (Nat.le_trans hB.size hb1.size))⟩
  · rw [hq] at HZ
    have HQ := hide hq
    clear hq
    go_enter Try.func69, Try.ntmps69
    go_wp2_with fail
    rw [← hW0]
    clear hW0
    go_wp2_with fail
    refine HM.out.mono ?_
    rintro e w1 ⟨rfl, hb1⟩
    have e1 := (hb1.cell (p := ⟨w.heap.size, 1, none⟩) hz).trans c1
    go_wp2_with fail
    refine (isName_calls o _ hso).mono ?_
    rw [HQ.out]
    rintro e w2 ⟨rfl, hb2⟩
    have e2 := (hb2.cell (p := ⟨w.heap.size, 2, none⟩) (by show w.heap.size < w1.heap.size; have := hb1.size; omega)).trans ((hb1.cell (p := ⟨w.heap.size, 2, none⟩) hz).trans c2)
    go_wp2_with fail
    refine (isAction_calls a _).mono ?_
    rintro e w3 ⟨rfl, rfl⟩
    go_wp2
    go_ret
    exact ⟨ret_bool (by rw [HZ.out]; rfl), (hB.trans (hb1.mono hB.size)).trans (hb2.mono (Nat.le_trans hB.size hb1.size))⟩

set_option maxHeartbeats 1000000 in
theorem l28One_calls (A : Option Addr) (n c : Nat) (rs : List RoleZ) (x : GrantZ) (b off : Nat) (w : World) (h : RdRz w A n rs) (hn : n ≤ 1048576) (hx : kGrant.fine x)
    (c0 : w.cell? ⟨b, off, none⟩ = some (.string x.role)) (c1 : w.cell? ⟨b, off + 1, none⟩ = some (.string x.object)) (c2 : w.cell? ⟨b, off + 2, none⟩ = some (.int .i64 x.action)) :
    Calls Try.prog 89 #[.slice A n c, .pointer (some ⟨b, off, none⟩)] w fun e w' => e = .returned (.bool (grantB rs x)) ∧ w = w' := by
  obtain ⟨r, o, a⟩ := x
  simp only at c0 c1 c2
  have hso : o.size ≤ 9223372036854775807 := hx.2.1
  have HZ : Hid (grantB rs ⟨r, o, a⟩ = (hasR rs r && nameB o && isActB a)) := rfl
  have HM := hide (l28Find_calls A n c rs r w h hn)
  rcases b_cases (hasR rs r) with hh | hh
  · rw [findI_no hh] at HM
    rw [hh] at HZ
    clear hh
    go_enter Try.func89, Try.ntmps89
    go_wp2_with fail
    refine HM.out.mono ?_
    rintro e w1 ⟨rfl, rfl⟩
    go_wp2
    go_ret
    exact ⟨ret_bool (by rw [HZ.out]; rfl), rfl⟩
  rw [findI_yes hh] at HM
  rw [hh] at HZ
  generalize findN rs r = f at HM
  clear hh
  rcases b_cases (nameB o) with hq | hq
  · rw [hq] at HZ
    have HQ := hide hq
    clear hq
    go_enter Try.func89, Try.ntmps89
    go_wp2_with fail
    refine HM.out.mono ?_
    rintro e w1 ⟨rfl, rfl⟩
    go_wp2_with fail
    refine (l01Name_calls o _ hso).mono ?_
    rw [HQ.out]
    rintro e w2 ⟨rfl, rfl⟩
    go_wp2
    go_ret
    exact ⟨ret_bool (by rw [HZ.out]; rfl), rfl⟩
  · rw [hq] at HZ
    have HQ := hide hq
    clear hq
    go_enter Try.func89, Try.ntmps89
    go_wp2_with fail
    refine HM.out.mono ?_
    rintro e w1 ⟨rfl, rfl⟩
    go_wp2_with fail
    refine (l01Name_calls o _ hso).mono ?_
    rw [HQ.out]
    rintro e w2 ⟨rfl, rfl⟩
    go_wp2_with fail
    refine (l28Action_calls a _).mono ?_
    rintro e w3 ⟨rfl, rfl⟩
    go_wp2
    go_ret
    exact ⟨ret_bool (by rw [HZ.out]; rfl), rfl⟩

theorem grants_bad {rs : List RoleZ} {gs : List GrantZ} {k : Nat} {x : GrantZ} (hx : gs[k]? = some x) (h : grantB rs x = false ∨ upG gs k = false) : grantsB rs gs = false := by
  rw [← Bool.not_eq_true]
  intro hb
  have := grants_step hb (List.getElem?_eq_some_iff.1 hx).1
  rw [stepG_at hx, Bool.and_eq_true] at this
  rcases h with h | h
  · rw [this.1] at h; cases h
  · rw [this.2] at h; cases h
theorem grants_no {rs : List RoleZ} {gs : List GrantZ} (h : rolesB rs = false) : grantsB rs gs = false := by unfold grantsB; rw [h]; rfl
theorem grants_all {rs : List RoleZ} {gs : List GrantZ} {n : Nat} (h1 : rolesB rs = true) (hl : gs.length = n) (h : ∀ j, j < n → stepG rs gs j = true) : grantsB rs gs = decide ((n : Int) ≤ 48) := by
  unfold grantsB
  have : (List.range gs.length).all (stepG rs gs) = true := by
    rw [List.all_eq_true]
    intro j hj
    exact h j (by rw [← hl]; exact List.mem_range.1 hj)
  rw [h1, this, Bool.true_and, Bool.and_true, decide_eq_decide, hl]
  omega

end Go.Proofs.Ytidhbpnibgegdaa
