/- MixedDuties of the program and of the reference. -/
import Derived.Test.YtidhbpnibgegdaaWho
namespace Go.Proofs.Ytidhbpnibgegdaa
open Go.RowKit
set_option linter.unusedVariables false

def bothG (rs : List RoleZ) (gs : List GrantZ) (x y : GrantZ) (nm : ByteArray) : Bool := hasG rs gs nm x.object x.action && hasG rs gs nm y.object y.action
def mdC (rs : List RoleZ) (gs : List GrantZ) : Int := if grantsB rs gs = true then 0 else 1
def mdV (rs : List RoleZ) (gs : List GrantZ) (x y : GrantZ) : List ByteArray := if grantsB rs gs = true then whoZ rs (bothG rs gs x y) else []
theorem mdV_no {rs : List RoleZ} {gs : List GrantZ} {x y : GrantZ} (h : grantsB rs gs = false) : mdV rs gs x y = [] := by unfold mdV; rw [h]; rfl
theorem mdV_ok {rs : List RoleZ} {gs : List GrantZ} {x y : GrantZ} (h : grantsB rs gs = true) : mdV rs gs x y = whoZ rs (bothG rs gs x y) := by unfold mdV; rw [if_pos h]
/-- The reference's own test, at an index. -/
def bothS (rs : List RoleZ) (gs : List GrantZ) (x y : GrantZ) (k : Nat) : Bool := isActB x.action && isActB y.action && mayB rs gs k x.object x.action && mayB rs gs k y.object y.action
theorem both_at {rs : List RoleZ} {gs : List GrantZ} (hs : SortB (namesR rs)) {k : Nat} {r : RoleZ} (hr : rs[k]? = some r) (x y : GrantZ) : bothG rs gs x y r.name = bothS rs gs x y k := by
  unfold bothG bothS hasG
  rw [find_at hs hr]
  cases isActB x.action <;> cases isActB y.action <;> cases mayB rs gs k x.object x.action <;> rfl

set_option maxHeartbeats 2000000 in
theorem mixClos_calls (A : Option Addr) (n c : Nat) (rs : List RoleZ) (A1 : Option Addr) (n1 c1 : Nat) (gs : List GrantZ) (nm : ByteArray) (x y : GrantZ) (b : Nat) (w : World) (h : RdRz w A n rs) (h1 : RdK kGrant w A1 n1 gs) (hok : RolesOk rs) (hg : ∀ x ∈ gs, hasR rs x.role = true) (hn1 : n1 ≤ 1048576) (hh : hasR rs nm = true) (hb3 : b + 1 + 1 + 1 < w.heap.size)
    (g0 : w.cell? ⟨b, 0, none⟩ = some (.slice A n c)) (g1 : w.cell? ⟨b + 1, 0, none⟩ = some (.slice A1 n1 c1)) (g21 : w.cell? ⟨b + 1 + 1, 1, none⟩ = some (.string x.object)) (g22 : w.cell? ⟨b + 1 + 1, 2, none⟩ = some (.int .i64 x.action)) (g31 : w.cell? ⟨b + 1 + 1 + 1, 1, none⟩ = some (.string y.object)) (g32 : w.cell? ⟨b + 1 + 1 + 1, 2, none⟩ = some (.int .i64 y.action)) :
    Calls Try.prog 76 #[.string nm, .pointer (some ⟨b, 0, none⟩), .pointer (some ⟨b + 1, 0, none⟩), .pointer (some ⟨b + 1 + 1, 0, none⟩), .pointer (some ⟨b + 1 + 1 + 1, 0, none⟩)] w fun e w' => e = .returned (.bool (bothG rs gs x y nm)) ∧ Below w.heap.size w w' := by
  have HZ : Hid (bothG rs gs x y nm = (hasG rs gs nm x.object x.action && hasG rs gs nm y.object y.action)) := rfl
  have HU := hide (has_calls A n c rs A1 n1 c1 gs nm x.object x.action w h h1 hok hg hn1 hh)
  have HU2 : Hid (∀ w2, Below w.heap.size w w2 → Calls Try.prog 74 #[.slice A n c, .slice A1 n1 c1, .string nm, .string y.object, .int .i64 y.action] w2 fun e w' => e = .returned (.bool (hasG rs gs nm y.object y.action)) ∧ Below w2.heap.size w2 w') := fun w2 hb => has_calls A n c rs A1 n1 c1 gs nm y.object y.action w2 (h.below hb (Nat.le_refl _)) (h1.below hb (Nat.le_refl _)) hok hg hn1 hh
  clear hok hg hh
  generalize hasG rs gs nm y.object y.action = q2 at *
  rcases b_cases (hasG rs gs nm x.object x.action) with hq | hq
  · rw [hq] at HU HZ
    clear hq
    go_enter Try.func76, Try.ntmps76
    go_wp2_with fail
    refine HU.out.mono ?_
    rintro e w1 ⟨rfl, hb⟩
    go_wp2
    go_ret
    exact ⟨ret_bool (by rw [HZ.out]; rfl), hb⟩
  · rw [hq] at HU HZ
    clear hq
    go_enter Try.func76, Try.ntmps76
    go_wp2_with fail
    refine HU.out.mono ?_
    rintro e w1 ⟨rfl, hb⟩
    have e0 := (hb.cell (p := ⟨b, 0, none⟩) (by show b < _; omega)).trans g0
    have e1 := (hb.cell (p := ⟨b + 1, 0, none⟩) (by show b + 1 < _; omega)).trans g1
    have e31 := (hb.cell (p := ⟨b + 1 + 1 + 1, 1, none⟩) hb3).trans g31
    have e32 := (hb.cell (p := ⟨b + 1 + 1 + 1, 2, none⟩) hb3).trans g32
    have HU3 := hide (HU2.out w1 hb)
    go_wp2_with fail
    refine HU3.out.mono ?_
    rintro e w2 ⟨rfl, hb2⟩
    go_wp2
    go_ret
    exact ⟨ret_bool (by rw [HZ.out]; rfl), hb.trans (hb2.mono hb.size)⟩

set_option maxHeartbeats 2000000 in
theorem implMixedDuties_calls (A : Option Addr) (n c : Nat) (rs : List RoleZ) (A1 : Option Addr) (n1 c1 : Nat) (gs : List GrantZ) (x y : GrantZ) (w : World) (h : RdRz w A n rs) (h1 : RdK kGrant w A1 n1 gs) (_ : kGrant.fine x) (_ : kGrant.fine y) (hn : n ≤ 1048576) (hn1 : n1 ≤ 1048576) (hs : ShortR rs) :
    Calls Try.prog 35 #[.slice A n c, .slice A1 n1 c1, .agg #[.string x.role, .string x.object, .int .i64 x.action], .agg #[.string y.role, .string y.object, .int .i64 y.action]] w (NCPost (mdV rs gs x y) (mdC rs gs) w) := by
  have HL := hide h.len
  have HC : Hid (mdC rs gs = if grantsB rs gs = true then 0 else 1) := rfl
  obtain ⟨W0, hW0⟩ : ∃ W0, W0 = ((((w.alloc (.cells #[.slice A n c] 25)).alloc (.cells #[.slice A1 n1 c1] 39)).alloc (.cells #[.string x.role, .string x.object, .int .i64 x.action] 49)).alloc (.cells #[.string y.role, .string y.object, .int .i64 y.action] 49)) := ⟨_, rfl⟩
  have hB : Below w.heap.size w W0 := by rw [hW0]; exact ((((Below.refl _ _).alloc (Nat.le_refl _) _).alloc (by simp) _).alloc (by simp; omega) _).alloc (by simp; omega) _
  have g0 : W0.cell? ⟨w.heap.size, 0, none⟩ = some (.slice A n c) := by rw [hW0]; exact cell_box (heap4 _ _ _ _ _).1
  have g1 : W0.cell? ⟨w.heap.size + 1, 0, none⟩ = some (.slice A1 n1 c1) := by rw [hW0]; exact cell_box (heap4 _ _ _ _ _).2.1
  have g21 : W0.cell? ⟨w.heap.size + 1 + 1, 1, none⟩ = some (.string x.object) := by rw [hW0]; exact cell_heap (cs := [.string x.role, .string x.object, .int .i64 x.action]) (j := 1) (heap4 _ _ _ _ _).2.2.1 rfl
  have g22 : W0.cell? ⟨w.heap.size + 1 + 1, 2, none⟩ = some (.int .i64 x.action) := by rw [hW0]; exact cell_heap (cs := [.string x.role, .string x.object, .int .i64 x.action]) (j := 2) (heap4 _ _ _ _ _).2.2.1 rfl
  have g31 : W0.cell? ⟨w.heap.size + 1 + 1 + 1, 1, none⟩ = some (.string y.object) := by rw [hW0]; exact cell_heap (cs := [.string y.role, .string y.object, .int .i64 y.action]) (j := 1) (heap4 _ _ _ _ _).2.2.2 rfl
  have g32 : W0.cell? ⟨w.heap.size + 1 + 1 + 1, 2, none⟩ = some (.int .i64 y.action) := by rw [hW0]; exact cell_heap (cs := [.string y.role, .string y.object, .int .i64 y.action]) (j := 2) (heap4 _ _ _ _ _).2.2.2 rfl
  have hz : w.heap.size + 1 + 1 + 1 < W0.heap.size := by rw [hW0]; simp
  have HM := hide (implValidGrants_calls A n c rs A1 n1 c1 gs W0 (h.below hB (Nat.le_refl _)) (h1.below hB (Nat.le_refl _)) hn hn1 hs)
  have box : Hid (∀ {W : World}, Below W0.heap.size W0 W → W.cell? ⟨w.heap.size, 0, none⟩ = some (.slice A n c) ∧ W.cell? ⟨w.heap.size + 1, 0, none⟩ = some (.slice A1 n1 c1) ∧ W.cell? ⟨w.heap.size + 1 + 1, 1, none⟩ = some (.string x.object) ∧ W.cell? ⟨w.heap.size + 1 + 1, 2, none⟩ = some (.int .i64 x.action) ∧ W.cell? ⟨w.heap.size + 1 + 1 + 1, 1, none⟩ = some (.string y.object) ∧ W.cell? ⟨w.heap.size + 1 + 1 + 1, 2, none⟩ = some (.int .i64 y.action)) := fun hb =>
    ⟨(hb.cell (p := ⟨w.heap.size, 0, none⟩) (by show w.heap.size < _; omega)).trans g0, (hb.cell (p := ⟨w.heap.size + 1, 0, none⟩) (by show w.heap.size + 1 < _; omega)).trans g1, (hb.cell (p := ⟨w.heap.size + 1 + 1, 1, none⟩) (by show w.heap.size + 1 + 1 < _; omega)).trans g21, (hb.cell (p := ⟨w.heap.size + 1 + 1, 2, none⟩) (by show w.heap.size + 1 + 1 < _; omega)).trans g22, (hb.cell (p := ⟨w.heap.size + 1 + 1 + 1, 1, none⟩) hz).trans g31, (hb.cell (p := ⟨w.heap.size + 1 + 1 + 1, 2, none⟩) hz).trans g32⟩
  clear g21 g22 g31 g32
  rcases b_cases (grantsB rs gs) with hg | hg
  · have HV := hide (mdV_no (x := x) (y := y) hg)
    rw [hg] at HM HC
    clear hg
    go_enter Try.func35, Try.ntmps35
    go_wp2_with fail
    rw [← hW0]
    clear hW0
    refine HM.out.mono ?_
    rintro e w1 ⟨rfl, hb1⟩
    go_wp2
    go_ret2
    exact NCPost.none HV.out HC.out (hB.trans (hb1.mono hB.size))
  · have HV := hide (mdV_ok (x := x) (y := y) hg)
    have HOK := hide (roles_ok (grants_roles hg))
    have HGH : Hid (∀ x ∈ gs, hasR rs x.role = true) := fun x hx => grants_has hg hx
    rw [hg] at HM HC
    clear hg
    go_enter Try.func35, Try.ntmps35
    go_wp2_with fail
    rw [← hW0]
    clear hW0
    refine HM.out.mono ?_
    rintro e w1 ⟨rfl, hb1⟩
    obtain ⟨q0, q1, _, _, _, _⟩ := box.out hb1
    have hb := hB.trans (hb1.mono hB.size)
    have HU := hide (rolesWith_calls A n c rs 76 #[.pointer (some ⟨w.heap.size, 0, none⟩), .pointer (some ⟨w.heap.size + 1, 0, none⟩), .pointer (some ⟨w.heap.size + 1 + 1, 0, none⟩), .pointer (some ⟨w.heap.size + 1 + 1 + 1, 0, none⟩)] (bothG rs gs x y) w1 (h.below hb (Nat.le_refl _)) hn Try.call76 (by
      intro W s hW hm hsz
      rw [cat4]
      obtain ⟨q0, q1, q2, q3, q4, q5⟩ := box.out (hb1.trans (hW.mono hb1.size))
      have hbW := hb.trans (hW.mono hb.size)
      have hz1 := hb1.size
      have hz2 := hW.size
      exact mixClos_calls A n c rs A1 n1 c1 gs s x y w.heap.size W (h.below hbW (Nat.le_refl _)) (h1.below hbW (Nat.le_refl _)) HOK.out HGH.out hn1 (has_mem.2 hm) (by omega) q0 q1 q2 q3 q4 q5))
    go_wp2_with fail
    refine HU.out.mono ?_
    rintro e w3 ⟨A', n', c', rfl, hown, hl, hb3⟩
    have HO := hide (And.intro hown hl)
    clear hown hl
    go_wp2
    go_ret2
    refine ⟨A', n', c', ret_two rfl (congrArg (Value.int .i64) HC.out.symm), ?_, ?_, hb.trans (hb3.mono hb.size)⟩
    · rw [HV.out]
      exact (FrK.of_own (K := kB) HO.out.1 HO.out.2 (who_fine h _)).mono hb.size (Nat.le_refl _)
    · have := whoZ_len rs (bothG rs gs x y)
      have h2 := HO.out.2
      have h3 := HL.out
      omega

set_option maxRecDepth 100000 in
set_option maxHeartbeats 4000000 in
theorem specMixedDuties_calls (A : Option Addr) (n c : Nat) (rs : List RoleZ) (A1 : Option Addr) (n1 c1 : Nat) (gs : List GrantZ) (x y : GrantZ) (w : World) (h : RdRz w A n rs) (h1 : RdK kGrant w A1 n1 gs) (_ : kGrant.fine x) (_ : kGrant.fine y) (hn : n ≤ 1048576) (hn1 : n1 ≤ 1048576) (hs : ShortR rs) :
    Calls Try.prog 33 #[.slice A n c, .slice A1 n1 c1, .agg #[.string x.role, .string x.object, .int .i64 x.action], .agg #[.string y.role, .string y.object, .int .i64 y.action]] w (NCPost (mdV rs gs x y) (mdC rs gs) w) := by
  have HL := hide h.len
  have HC : Hid (mdC rs gs = if grantsB rs gs = true then 0 else 1) := rfl
  have HFI := hide (who_fine h (bothG rs gs x y))
  have HAT0 : grantsB rs gs = true → Hid (∀ (k : Nat) (r : RoleZ), rs[k]? = some r → bothG rs gs x y r.name = bothS rs gs x y k) := fun hg k r hr => both_at (roles_ok (grants_roles hg)).sort hr x y
  have HV0 : Hid (mdV rs gs x y = if grantsB rs gs = true then whoZ rs (bothG rs gs x y) else []) := rfl
  have HS : Hid (∀ k, bothS rs gs x y k = (isActB x.action && isActB y.action && mayB rs gs k x.object x.action && mayB rs gs k y.object y.action)) := fun _ => rfl
  obtain ⟨qv, hqv⟩ : ∃ qv, qv = bothG rs gs x y := ⟨_, rfl⟩
  obtain ⟨sv, hsv⟩ : ∃ sv, sv = bothS rs gs x y := ⟨_, rfl⟩
  obtain ⟨V, hV⟩ : ∃ V, V = mdV rs gs x y := ⟨_, rfl⟩
  rw [← hqv] at HFI HAT0 HV0
  rw [← hsv] at HAT0 HS
  rw [← hV] at HV0 ⊢
  clear hqv hsv hV
  obtain ⟨x0, x1, x2⟩ := x
  obtain ⟨y0, y1, y2⟩ := y
  simp only at *
  obtain ⟨W0, hW0⟩ : ∃ W0, W0 = ((w.alloc (.cells #[.string x0, .string x1, .int .i64 x2] 49)).alloc (.cells #[.string y0, .string y1, .int .i64 y2] 49)) := ⟨_, rfl⟩
  have hB : Below w.heap.size w W0 := by rw [hW0]; exact ((Below.refl _ _).alloc (Nat.le_refl _) _).alloc (by simp) _
  have g1 : W0.cell? ⟨w.heap.size, 1, none⟩ = some (.string x1) := by rw [hW0]; simp
  have g2 : W0.cell? ⟨w.heap.size, 2, none⟩ = some (.int .i64 x2) := by rw [hW0]; simp
  have g4 : W0.cell? ⟨w.heap.size + 1, 1, none⟩ = some (.string y1) := by rw [hW0]; simp
  have g5 : W0.cell? ⟨w.heap.size + 1, 2, none⟩ = some (.int .i64 y2) := by rw [hW0]; simp
  have hz : w.heap.size + 1 < W0.heap.size := by rw [hW0]; simp
  have box : Hid (∀ {W : World}, Below W0.heap.size W0 W → W.cell? ⟨w.heap.size, 1, none⟩ = some (.string x1) ∧ W.cell? ⟨w.heap.size, 2, none⟩ = some (.int .i64 x2) ∧ W.cell? ⟨w.heap.size + 1, 1, none⟩ = some (.string y1) ∧ W.cell? ⟨w.heap.size + 1, 2, none⟩ = some (.int .i64 y2)) := fun hb =>
    ⟨(hb.cell (p := ⟨w.heap.size, 1, none⟩) (by show w.heap.size < _; omega)).trans g1, (hb.cell (p := ⟨w.heap.size, 2, none⟩) (by show w.heap.size < _; omega)).trans g2, (hb.cell (p := ⟨w.heap.size + 1, 1, none⟩) hz).trans g4, (hb.cell (p := ⟨w.heap.size + 1, 2, none⟩) hz).trans g5⟩
  clear g1 g2 g4 g5
  have HM := hide (l28Ok_calls A n c rs A1 n1 c1 gs W0 (h.below hB (Nat.le_refl _)) (h1.below hB (Nat.le_refl _)) hn hn1)
  rcases b_cases (grantsB rs gs) with hg | hg
  · rw [hg] at HM HC HV0
    clear hg HAT0
    go_enter Try.func33, Try.ntmps33
    go_wp2_with fail
    rw [← hW0]
    clear hW0
    refine HM.out.mono ?_
    rintro e w1 ⟨rfl, hb1⟩
    go_wp2
    go_ret2
    exact NCPost.none HV0.out HC.out (hB.trans (hb1.mono hB.size))
  have HAT := HAT0 hg
  have HOK := hide (roles_ok (grants_roles hg))
  have HGH : Hid (∀ x ∈ gs, hasR rs x.role = true) := fun x hx => grants_has hg hx
  rw [hg] at HM HC HV0
  clear hg HAT0
  go_enter Try.func33, Try.ntmps33
  go_wp2_with fail
  rw [← hW0]
  clear hW0
  refine HM.out.mono ?_
  clear HM
  rintro e w1 ⟨rfl, hb1⟩
  have hbw := hB.trans (hb1.mono hB.size)
  have hown0 := World.ownsRow_lit (base := w1.heap.size) (e := 9) (size := 1) w1 #[] 0 (Nat.le_refl _) (by simp) rfl
  have hba := (Below.refl w1.heap.size w1).alloc (Nat.le_refl _) (.cells #[] 9)
  have h2 := h.below hbw (Nat.le_refl _)
  have h12 := h1.below hbw (Nat.le_refl _)
  clear h h1
  obtain ⟨wo, rfl⟩ : ∃ wo : World, wo = w1 := ⟨_, rfl⟩
  go_wp2
  go_loopw [10, 11] (fun v i wr => ∃ (J m c3 : Nat) (A3 : Option Addr), J ≤ n ∧ m ≤ J ∧ i = .int .i64 J ∧ v = .slice A3 m c3 ∧ Hid (wr.ownsRow wo.heap.size 9 1 (.slice A3 m c3) m (cK kB (whoZ (rs.take J) qv)) ∧ (whoZ (rs.take J) qv).length = m) ∧ Below wo.heap.size wo wr) (fun _ i _ => n - (intOf i).toNat)
  case atStart => exact ⟨0, 0, _, _, Nat.zero_le _, Nat.le_refl _, rfl, rfl, by simpa [Hid, cK, whoZ, namesR] using hown0, hba⟩
  case round =>
    clear hown0 hba
    obtain ⟨J, m, c3, A3, hJ, hmJ, rfl, rfl, HO, hb⟩ := hrel
    by_cases hlt : J < n
    · obtain ⟨b, off, nm, Aq, nq, cq, us, hA, hbl, hx, hc, _, _, _, _⟩ := (h2.below hb (Nat.le_refl _)).at hlt
      have HP : Hid (∀ o a W, Below wo.heap.size wo W → Calls Try.prog 73 #[.slice A n c, .slice A1 n1 c1, .int .i64 (J : Int), .string o, .int .i64 a] W fun e w' => e = .returned (.bool (mayB rs gs J o a)) ∧ Below W.heap.size W w') := fun o a W hW => l28May_calls A n c rs A1 n1 c1 gs J o a W (h2.below hW (Nat.le_refl _)) (h12.below hW (Nat.le_refl _)) HOK.out HGH.out hn hn1
      subst hA
      have HE := hide (whoZ_snoc (q := qv) hx.out)
      have hat := (HAT.out _ _ hx.out).trans (HS.out J)
      simp only at hat
      have HAT1 := hide hat
      clear hat
      have hsz := hb.size
      have hb0 := hb1.trans (hb.mono hb1.size)
      obtain ⟨k1, k2, k3, k4⟩ := box.out hb0
      -- the ways on which it is not put
      have no : ∀ (w2 : World), qv nm = false → Below wr.heap.size wr w2 → Hid (w2.ownsRow wo.heap.size 9 1 (.slice A3 m c3) m (cK kB (whoZ (rs.take (J + 1)) qv)) ∧ (whoZ (rs.take (J + 1)) qv).length = m) := fun w2 hq hb2 => by
        have HE2 : whoZ (rs.take (J + 1)) qv = whoZ (rs.take J) qv := by rw [HE.out]; simp [hq]
        rw [HE2]
        exact ⟨own_below HO.out.1 hb2 (Nat.le_refl _), HO.out.2⟩
      have NO := hide no
      clear no
      rcases b_cases (isActB x2) with ha | ha
      · have HQ : Hid (qv nm = false) := by unfold Hid; rw [HAT1.out, ha]; rfl
        have HA := hide ha
        clear ha
        go_wp2_with fail
        refine (l28Action_calls x2 _).mono ?_
        rw [HA.out]
        rintro e w2 ⟨rfl, rfl⟩
        go_wp2
        go_roundw
        case rel => exact ⟨J + 1, m, c3, A3, by omega, by omega, by go_num, rfl, NO.out _ HQ.out (Below.refl _ _), hb⟩
        case measure => simp [intOf]; omega
      rcases b_cases (isActB y2) with ha2 | ha2
      · have HQ : Hid (qv nm = false) := by unfold Hid; rw [HAT1.out, ha, ha2]; rfl
        have HA := hide ha
        have HA2 := hide ha2
        clear ha ha2
        go_wp2_with fail
        refine (l28Action_calls x2 _).mono ?_
        rw [HA.out]
        rintro e w2 ⟨rfl, rfl⟩
        go_wp2_with fail
        refine (l28Action_calls y2 _).mono ?_
        rw [HA2.out]
        rintro e w2 ⟨rfl, rfl⟩
        go_wp2
        go_roundw
        case rel => exact ⟨J + 1, m, c3, A3, by omega, by omega, by go_num, rfl, NO.out _ HQ.out (Below.refl _ _), hb⟩
        case measure => simp [intOf]; omega
      rw [ha, ha2] at HAT1
      have HA := hide ha
      have HA2 := hide ha2
      clear ha ha2
      have HP1 := hide (HP.out x1 x2 wr hb)
      rcases b_cases (mayB rs gs J x1 x2) with hm1 | hm1
      · rw [hm1] at HP1
        have HQ : Hid (qv nm = false) := by unfold Hid; rw [HAT1.out, hm1]; rfl
        clear hm1
        go_wp2_with fail
        refine (l28Action_calls x2 _).mono ?_
        rw [HA.out]
        rintro e w2 ⟨rfl, rfl⟩
        go_wp2_with fail
        refine (l28Action_calls y2 _).mono ?_
        rw [HA2.out]
        rintro e w2 ⟨rfl, rfl⟩
        go_wp2_with fail
        refine HP1.out.mono ?_
        rintro e w3 ⟨rfl, hb3⟩
        go_wp2
        go_roundw
        case rel => exact ⟨J + 1, m, c3, A3, by omega, by omega, by go_num, rfl, NO.out _ HQ.out hb3, hb.trans (hb3.mono hb.size)⟩
        case measure => simp [intOf]; omega
      rw [hm1] at HP1 HAT1
      clear hm1
      rcases b_cases (mayB rs gs J y1 y2) with hm2 | hm2
      · have HQ : Hid (qv nm = false) := by unfold Hid; rw [HAT1.out, hm2]; rfl
        have HM2 := hide hm2
        clear hm2
        go_wp2_with fail
        refine (l28Action_calls x2 _).mono ?_
        rw [HA.out]
        rintro e w2 ⟨rfl, rfl⟩
        go_wp2_with fail
        refine (l28Action_calls y2 _).mono ?_
        rw [HA2.out]
        rintro e w2 ⟨rfl, rfl⟩
        go_wp2_with fail
        refine HP1.out.mono ?_
        rintro e w3 ⟨rfl, hb3⟩
        have hbx := hb.trans (hb3.mono hb.size)
        obtain ⟨l1, l2, l3, l4⟩ := box.out (hb1.trans (hbx.mono hb1.size))
        have HP2 := hide (HP.out y1 y2 w3 hbx)
        rw [HM2.out] at HP2
        go_wp2_with fail
        refine HP2.out.mono ?_
        rintro e w4 ⟨rfl, hb4⟩
        go_wp2
        go_roundw
        case rel => exact ⟨J + 1, m, c3, A3, by omega, by omega, by go_num, rfl, NO.out _ HQ.out (hb3.trans (hb4.mono hb3.size)), hbx.trans (hb4.mono hbx.size)⟩
        case measure => simp [intOf]; omega
      · have HE2 : Hid (whoZ (rs.take (J + 1)) qv = whoZ (rs.take J) qv ++ [nm]) := by
          unfold Hid
          rw [HE.out]
          simp [HAT1.out, hm2]
        have HM2 := hide hm2
        clear hm2
        go_wp2_with fail
        refine (l28Action_calls x2 _).mono ?_
        rw [HA.out]
        rintro e w2 ⟨rfl, rfl⟩
        go_wp2_with fail
        refine (l28Action_calls y2 _).mono ?_
        rw [HA2.out]
        rintro e w2 ⟨rfl, rfl⟩
        go_wp2_with fail
        refine HP1.out.mono ?_
        rintro e w3 ⟨rfl, hb3⟩
        have hbx := hb.trans (hb3.mono hb.size)
        obtain ⟨l1, l2, l3, l4⟩ := box.out (hb1.trans (hbx.mono hb1.size))
        have HP2 := hide (HP.out y1 y2 w3 hbx)
        rw [HM2.out] at HP2
        go_wp2_with fail
        refine HP2.out.mono ?_
        rintro e w4 ⟨rfl, hb4⟩
        have hb34 := hb3.trans (hb4.mono hb3.size)
        have HO2 := hide (own_below HO.out.1 hb34 (Nat.le_refl _))
        have hc2 := (hb34.cell (p := ⟨b, off + J * 2, none⟩) hbl).trans hc
        have hbw2 := hb.trans (hb34.mono hb.size)
        have hsz2 := hbw2.size
        go_wp2_with (at_builtin; refine appB rfl _ _ rfl wo.heap.size (.slice A3 m c3) m (whoZ (rs.take J) qv) nm rfl HO2.out (by first | rfl | (simp; rfl)) (by omega) (by omega) ?_; intro v4 w5 hown4 hb5 hz5; obtain ⟨A4, c4, rfl⟩ := own_slice hown4)
        go_roundw
        case rel => exact ⟨J + 1, m + 1, c4, A4, by omega, by omega, by go_num, rfl, by rw [HE2.out]; exact ⟨hown4, by rw [List.length_append, HO.out.2]; rfl⟩, hbw2.trans hb5⟩
        case measure => simp [intOf]; omega
    · have hJn : J = n := by omega
      have HE : Hid (rs.take J = rs) := by unfold Hid; exact List.take_of_length_le (by rw [HL.out, hJn]; exact Nat.le_refl _)
      clear hJn
      go_wp2
      go_ret2
      have h3 := HO.out
      rw [HE.out] at h3
      refine ⟨A3, m, c3, ret_two rfl (congrArg (Value.int .i64) HC.out.symm), ?_, by omega, hbw.trans (hb.mono hbw.size)⟩
      rw [HV0.out]
      exact (FrK.of_own (K := kB) h3.1 h3.2 HFI.out).mono hbw.size (Nat.le_refl _)

end Go.Proofs.Ytidhbpnibgegdaa
