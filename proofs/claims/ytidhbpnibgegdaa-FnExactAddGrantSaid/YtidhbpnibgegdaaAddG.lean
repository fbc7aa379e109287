/- AddGrant of the program and of the reference. -/
import Derived.Test.YtidhbpnibgegdaaRevoke
namespace Go.Proofs.Ytidhbpnibgegdaa
open Go.RowKit
set_option linter.unusedVariables false

/-- How many grants stand before one. -/
def posL (gs : List GrantZ) (x : GrantZ) : Nat := gs.findIdx (fun g => !gLess g x)
theorem posL_of {gs : List GrantZ} {x : GrantZ} {i : Nat} (hi : i ≤ gs.length) (h : ∀ g ∈ gs.take i, gLess g x = true) (h2 : ∀ g, gs[i]? = some g → gLess g x = false) : posL gs x = i := by
  unfold posL
  have hlow : ∀ j, j < i → ∀ (hj : j < gs.length), (!gLess gs[j] x) = false := fun j hji hj => by
    have hm : gs[j] ∈ gs.take i := by
      rw [List.mem_take_iff_getElem]
      exact ⟨j, by omega, rfl⟩
    rw [h _ hm]; rfl
  rcases Nat.lt_or_ge i gs.length with h1 | h1
  · rw [List.findIdx_eq h1]
    exact ⟨by rw [h2 _ (List.getElem?_eq_getElem h1)]; rfl, fun j hj => hlow j hj (by omega)⟩
  · obtain rfl : i = gs.length := by omega
    rw [List.findIdx_eq_length]
    intro g hg
    obtain ⟨j, hj, rfl⟩ := List.mem_iff_getElem.1 hg
    exact hlow j hj hj
theorem posL_idx {gs : List GrantZ} {x : GrantZ} {i : Nat} (hi : i ≤ gs.length) (h : IsIdxG gs x i) : posL gs x = i := by
  refine posL_of hi (fun g hg => ?_) (fun g hg => h.2 i g hg (Nat.le_refl _))
  obtain ⟨j, hj, rfl⟩ := List.mem_take_iff_getElem.1 hg
  exact h.1 j _ (List.getElem?_eq_getElem (by omega)) (by omega)
/-- The same, by the one who counts up. -/
theorem isIdx_of {gs : List GrantZ} {x : GrantZ} {i : Nat} (hs : SortG gs) (hi : i ≤ gs.length) (h : ∀ g ∈ gs.take i, gLess g x = true) (h2 : ∀ g, gs[i]? = some g → gLess g x = false) : IsIdxG gs x i := by
  refine ⟨fun k s hk hki => h s ?_, fun k s hk hki => ?_⟩
  · obtain ⟨hkl, rfl⟩ := List.getElem?_eq_some_iff.1 hk
    rw [List.mem_take_iff_getElem]
    exact ⟨k, by omega, rfl⟩
  · have hkl := (List.getElem?_eq_some_iff.1 hk).1
    have hx := List.getElem?_eq_getElem (show i < gs.length by omega)
    exact idxG_high hs hx (h2 _ hx) k s hk hki
def adC (rs : List RoleZ) (gs : List GrantZ) (x : GrantZ) : Int := if grantsB rs gs = true then (if grantB rs x = true then (if inG gs x = true then 4 else if 48 ≤ gs.length then 5 else 0) else 2) else 1
def addZ (gs : List GrantZ) (x : GrantZ) : List GrantZ := gs.take (posL gs x) ++ [x] ++ gs.drop (posL gs x)
def adV (rs : List RoleZ) (gs : List GrantZ) (x : GrantZ) : List GrantZ := if adC rs gs x = 0 then addZ gs x else []
theorem ad_1 {rs : List RoleZ} {gs : List GrantZ} {x : GrantZ} (h : grantsB rs gs = false) : adV rs gs x = [] ∧ adC rs gs x = 1 := by
  have : adC rs gs x = 1 := by unfold adC; rw [h]; rfl
  exact ⟨by unfold adV; rw [this]; rfl, this⟩
theorem ad_2 {rs : List RoleZ} {gs : List GrantZ} {x : GrantZ} (h : grantsB rs gs = true) (h2 : grantB rs x = false) : adV rs gs x = [] ∧ adC rs gs x = 2 := by
  have : adC rs gs x = 2 := by unfold adC; rw [h, h2]; rfl
  exact ⟨by unfold adV; rw [this]; rfl, this⟩
theorem ad_4 {rs : List RoleZ} {gs : List GrantZ} {x : GrantZ} (h : grantsB rs gs = true) (h2 : grantB rs x = true) (h3 : inG gs x = true) : adV rs gs x = [] ∧ adC rs gs x = 4 := by
  have : adC rs gs x = 4 := by unfold adC; rw [h, h2, h3]; rfl
  exact ⟨by unfold adV; rw [this]; rfl, this⟩
theorem ad_5 {rs : List RoleZ} {gs : List GrantZ} {x : GrantZ} (h : grantsB rs gs = true) (h2 : grantB rs x = true) (h3 : inG gs x = false) (h4 : 48 ≤ gs.length) : adV rs gs x = [] ∧ adC rs gs x = 5 := by
  have : adC rs gs x = 5 := by unfold adC; rw [h, h2, h3]; simp [h4]
  exact ⟨by unfold adV; rw [this]; rfl, this⟩
theorem ad_0 {rs : List RoleZ} {gs : List GrantZ} {x : GrantZ} {i : Nat} (h : grantsB rs gs = true) (h2 : grantB rs x = true) (h3 : inG gs x = false) (h4 : ¬ 48 ≤ gs.length) (h5 : posL gs x = i) : adV rs gs x = gs.take i ++ [x] ++ gs.drop i ∧ adC rs gs x = 0 := by
  have : adC rs gs x = 0 := by unfold adC; rw [h, h2, h3]; simp [h4]
  exact ⟨by unfold adV addZ; rw [this, h5]; rfl, this⟩
theorem add_fine {gs : List GrantZ} {x : GrantZ} {i : Nat} (h : ∀ g ∈ gs, kGrant.fine g) (hx : kGrant.fine x) : ∀ g ∈ gs.take i ++ [x] ++ gs.drop i, kGrant.fine g := by
  intro g hg
  rcases List.mem_append.1 hg with hg | hg
  · rcases List.mem_append.1 hg with hg | hg
    · exact h g (List.mem_of_mem_take hg)
    · simp only [List.mem_singleton] at hg
      rw [hg]; exact hx
  · exact h g (List.mem_of_mem_drop hg)

theorem insNone_calls (base vb c : Nat) (s : GrantZ) (w : World) (hbase : base ≤ w.heap.size) (hvb : w.heap[vb]? = some (.cells (kGrant.c s).toArray 49 (0, 0))) :
    Calls Try.prog 91 #[.slice none 0 0, .int .i64 0, .slice (some ⟨vb, 0, none⟩) 1 1] w (InsPostGrant base 0 0 [] s w) := by
  have hvl : vb < w.heap.size := (Array.getElem?_eq_some_iff.1 hvb).1
  have hRd : Rd w (some ⟨vb, 0, none⟩) 1 3 (cK kGrant [s]) := ⟨by simp [cK_len, kGrant], fun _ => ⟨vb, 0, rfl, hvl, fun j u hj => by
    rw [Nat.zero_add]
    exact cell_heap hvb (by simpa [cK] using hj)⟩⟩
  have HRd := hide hRd
  have HO := hide (World.ownsRow_nil w base 49 3)
  clear hRd hvb
  go_enter Try.func91, Try.ntmps91
  go_wp2_with (at_builtin; refine appsGrant rfl _ _ rfl base (.slice none 0 0) 0 [] rfl HO.out (some ⟨vb, 0, none⟩) 1 1 [s] rfl HRd.out (by omega) hbase ?_; intro v4 w4 hown4 hb4 hz4)
  obtain ⟨g4, c4, rfl⟩ := own_addr2 hown4 (by omega)
  go_ret
  exact ⟨g4, c4, rfl, hown4, hb4⟩

set_option maxRecDepth 100000 in
set_option maxHeartbeats 4000000 in
theorem implAddGrant_calls (A : Option Addr) (n c : Nat) (rs : List RoleZ) (A1 : Option Addr) (n1 c1 : Nat) (gs : List GrantZ) (x : GrantZ) (w : World) (h : RdRz w A n rs) (h1 : RdK kGrant w A1 n1 gs) (hx : kGrant.fine x) (hn : n ≤ 1048576) (hn1 : n1 ≤ 1048576) (hs : ShortR rs) (_ : n1 ≤ c1) :
    Calls Try.prog 52 #[.slice A n c, .slice A1 n1 c1, .agg #[.string x.role, .string x.object, .int .i64 x.action]] w (GCPost (adV rs gs x) (adC rs gs x) w) := by
  have HL := hide h1.2.1
  have HFN := hide h1.2.2
  obtain ⟨W0, hW0⟩ : ∃ W0, W0 = w.alloc (.cells #[.string x.role, .string x.object, .int .i64 x.action] 49) := ⟨_, rfl⟩
  have hB : Below w.heap.size w W0 := by rw [hW0]; exact (Below.refl _ _).alloc (Nat.le_refl _) _
  have g0 : W0.cell? ⟨w.heap.size, 0, none⟩ = some (.string x.role) := by rw [hW0]; simp
  have g1 : W0.cell? ⟨w.heap.size, 1, none⟩ = some (.string x.object) := by rw [hW0]; simp
  have g2 : W0.cell? ⟨w.heap.size, 2, none⟩ = some (.int .i64 x.action) := by rw [hW0]; simp
  have hz : w.heap.size < W0.heap.size := by rw [hW0]; simp
  have KS : Hid (∀ W, Below W0.heap.size W0 W → W.cell? ⟨w.heap.size, 0, none⟩ = some (.string x.role) ∧ W.cell? ⟨w.heap.size, 1, none⟩ = some (.string x.object) ∧ W.cell? ⟨w.heap.size, 2, none⟩ = some (.int .i64 x.action)) := fun W C => ⟨(C.cell (p := ⟨w.heap.size, 0, none⟩) hz).trans g0, (C.cell (p := ⟨w.heap.size, 1, none⟩) hz).trans g1, (C.cell (p := ⟨w.heap.size, 2, none⟩) hz).trans g2⟩
  have HS := hide (searchG_calls A1 n1 c1 gs x W0 (h1.below hB (Nat.le_refl _)) hn1)
  go_enter Try.func52, Try.ntmps52
  go_wp2_with fail
  rw [← hW0]
  clear hW0
  refine HS.out.mono ?_
  clear HS g0 g1 g2
  rintro e w1 ⟨i, q, rfl, hi, hidx, hq, hb1⟩
  have hbw := hB.trans (hb1.mono hB.size)
  have HI := hide hidx
  have HQ := hide hq
  rw [HL.out] at hi
  have HM := hide (implValidGrants_calls A n c rs A1 n1 c1 gs w1 (h.below hbw (Nat.le_refl _)) (h1.below hbw (Nat.le_refl _)) hn hn1 hs)
  clear hidx hq
  rcases b_cases (grantsB rs gs) with hg | hg
  · have HV := hide (ad_1 (x := x) hg)
    rw [hg] at HM
    clear hg
    go_wp2_with fail
    refine HM.out.mono ?_
    rintro e w2 ⟨rfl, hb2⟩
    go_wp2
    go_ret2
    exact GCPost.none HV.out.1 HV.out.2 (hbw.trans (hb2.mono hbw.size))
  rw [hg] at HM
  have HG := hide hg
  have HSO := hide (grants_sort hg)
  clear hg
  go_wp2_with fail
  refine HM.out.mono ?_
  clear HM
  rintro e w2 ⟨rfl, hb2⟩
  have hc2 := hb1.trans (hb2.mono hb1.size)
  have hbw2 := hbw.trans (hb2.mono hbw.size)
  obtain ⟨e0, e1, e2⟩ := KS.out _ hc2
  have HO := hide (isGrant_calls A n c rs x w2 (h.below hbw2 (Nat.le_refl _)) hn hx)
  rcases b_cases (grantB rs x) with hgx | hgx
  · have HV := hide (ad_2 HG.out hgx)
    rw [hgx] at HO
    clear hgx
    go_wp2_with fail
    refine HO.out.mono ?_
    rintro e w3 ⟨rfl, hb3⟩
    go_wp2
    go_ret2
    exact GCPost.none HV.out.1 HV.out.2 (hbw2.trans (hb3.mono hbw2.size))
  rw [hgx] at HO
  have HGX := hide hgx
  clear hgx
  go_wp2_with fail
  refine HO.out.mono ?_
  clear HO e0 e1 e2
  rintro e w3 ⟨rfl, hb3⟩
  have hc3 := hc2.trans (hb3.mono hc2.size)
  have hbw3 := hbw2.trans (hb3.mono hbw2.size)
  cases q
  case true =>
    have HV := hide (ad_4 HG.out HGX.out (idx_found (HI.out HSO.out) (HQ.out.1 rfl)).2)
    go_wp2
    go_ret2
    exact GCPost.none HV.out.1 HV.out.2 hbw3
  have HNI := hide (idx_lost HSO.out (HI.out HSO.out) (fun e => by have := HQ.out.2 e; cases this))
  by_cases h48 : (48 : Int) ≤ n1
  · have HV := hide (ad_5 HG.out HGX.out HNI.out (by rw [HL.out]; omega))
    go_wp2
    go_ret2
    exact GCPost.none HV.out.1 HV.out.2 hbw3
  have HV := hide (ad_0 HG.out HGX.out HNI.out (by rw [HL.out]; omega) (posL_idx (by rw [HL.out]; exact hi) (HI.out HSO.out)))
  obtain ⟨e0, e1, e2⟩ := KS.out _ hc3
  have hz3 : w.heap.size < w3.heap.size := Nat.lt_of_lt_of_le hz hc3.size
  have HCL : Hid (∀ W, Below w3.heap.size w3 W → Calls Try.prog 82 #[.slice A1 n1 c1] W fun e w' => ∃ A' c', e = .returned (.slice A' n1 c') ∧ w'.ownsRow W.heap.size 49 3 (.slice A' n1 c') n1 (cK kGrant gs) ∧ (A' = none → c' = 0) ∧ Below W.heap.size W w') := fun W hW => cloneG_calls A1 n1 c1 gs W (h1.below (hbw3.trans (hW.mono hbw3.size)) (Nat.le_refl _)) hn1
  -- Insert into the clone, whatever it is
  have HIN : Hid (∀ (W : World) (base vb : Nat) (A3 : Option Addr) (c3 : Nat), W.ownsRow base 49 3 (.slice A3 n1 c3) n1 (cK kGrant gs) → (A3 = none → c3 = 0) → base ≤ W.heap.size → W.heap[vb]? = some (.cells #[.string x.role, .string x.object, .int .i64 x.action] 49 (0, 0)) → (∀ g, A3 = some ⟨g, 0, none⟩ → vb ≠ g) → Calls Try.prog 91 #[.slice A3 n1 c3, .int .i64 (i : Int), .slice (some ⟨vb, 0, none⟩) 1 1] W (InsPostGrant base n1 i gs x W)) := by
    intro W base vb A3 c3 hown hnil hbase hvb hne
    rcases hown.2 with ⟨hv, h0⟩ | ⟨g, cap, cur, hv, _⟩
    · injection hv with hA _ hc
      subst hA
      have hc0 := hnil rfl
      subst hc0
      obtain rfl : n1 = 0 := h0
      have hgs : gs = [] := List.eq_nil_of_length_eq_zero HL.out
      subst hgs
      obtain rfl : i = 0 := by omega
      exact insNone_calls base vb 0 x W hbase hvb
    · injection hv with hA _ hc
      subst hA hc
      exact insGrant_calls g n1 _ base i vb gs x W hown hi hn1 hbase hvb (hne g rfl)
  go_wp2
  clear h48
  go_region_held3 (fun W => W.cell? ⟨w.heap.size, 0, none⟩ = some (.string x.role) ∧ W.cell? ⟨w.heap.size, 1, none⟩ = some (.string x.object) ∧ W.cell? ⟨w.heap.size, 2, none⟩ = some (.int .i64 x.action))
    (first
      | exact ⟨e0, e1, e2⟩
      | exact KS.out _ hc3.drew
      | exact KS.out _ (hc3.drew.alloc (by simpa using hc3.size) _)
      | exact KS.out _ ((hc3.alloc hc3.size _).drew)
      | exact KS.out _ (hc3.trans (hk4.mono hc3.size))
      | exact KS.out _ (hc3.trans (hk5.mono hc3.size))
      | exact KS.out _ ((hc3.trans (hk4.mono hc3.size)).alloc (by have := hk4.size; have := hc3.size; omega) _))
    (first
      | (go_at_call 82; (with_reducible refine (HCL.out w3.drew (Below.refl w3.heap.size w3).drew).mono ?_); rintro e w4 ⟨A3, c3, rfl, hown3, hnil3, hb4⟩; have hk4 : Below w3.heap.size w3 w4 := ((Below.refl _ w3).drew).trans hb4; have HO3 := hide (And.intro hown3 (And.intro hnil3 hb4)); clear hown3 hnil3)
      | (go_at_call 82; have q0 : Below w3.heap.size w3 (w3.alloc (.cells #[.string x.role, .string x.object, .int .i64 x.action] 49)).drew := ((Below.refl w3.heap.size w3).alloc (Nat.le_refl _) _).drew; (with_reducible refine (HCL.out _ q0).mono ?_); rintro e w4 ⟨A3, c3, rfl, hown3, hnil3, hb4⟩; have hk4 : Below w3.heap.size w3 w4 := q0.trans (hb4.mono (by simp)); have HO3 := hide (And.intro hown3 (And.intro hnil3 hb4)); clear hown3 hnil3)
      | (go_at_call 91; have q3 : w3.heap.size ≤ (w4.alloc (.cells #[.string x.role, .string x.object, .int .i64 x.action] 49)).heap.size := (by have := hk4.size; simp; omega); have q5 : ∀ g, A3 = some ⟨g, 0, none⟩ → w4.heap.size ≠ g := (fun g hg => (by have := (HO3.out.1.lt g (by rw [hg]; rfl)).2; omega)); have q1 : (w4.alloc (.cells #[.string x.role, .string x.object, .int .i64 x.action] 49)).ownsRow w3.heap.size 49 3 (.slice A3 n1 c3) n1 (cK kGrant gs) := own_mono2 (HO3.out.1.alloc _) (by simp); have q6 := heap_alloc_new w4 (.cells #[.string x.role, .string x.object, .int .i64 x.action] 49); (with_reducible refine (HIN.out _ w3.heap.size w4.heap.size A3 c3 q1 HO3.out.2.1 q3 q6 q5).mono ?_); rintro e w5 ⟨g5, c5, rfl, hown5, hb5⟩; have hk5 : Below w3.heap.size w3 w5 := (hk4.alloc hk4.size _).trans hb5; have HO5 := hide hown5; clear hown5)
      | (go_at_call 91; have q5 : ∀ g, A3 = some ⟨g, 0, none⟩ → w3.heap.size ≠ g := (fun g hg => (by have := (HO3.out.1.lt g (by rw [hg]; rfl)).1; simp at this; omega)); have q1 : w4.ownsRow w3.heap.size 49 3 (.slice A3 n1 c3) n1 (cK kGrant gs) := own_mono2 HO3.out.1 (by simp); have q6 := (HO3.out.2.2.block w3.heap.size (by simp)).trans (heap_alloc_new w3 (.cells #[.string x.role, .string x.object, .int .i64 x.action] 49)); (with_reducible refine (HIN.out _ w3.heap.size w3.heap.size A3 c3 q1 HO3.out.2.1 hk4.size q6 q5).mono ?_); rintro e w5 ⟨g5, c5, rfl, hown5, hb5⟩; have hk5 : Below w3.heap.size w3 w5 := hk4.trans hb5; have HO5 := hide hown5; clear hown5)
      | fail)
  all_goals
    have hbx := hbw3.trans (hk5.mono hbw3.size)
    go_wp2
    go_ret2
    refine ⟨_, n1 + 1, c5, ret_two rfl (congrArg (Value.int .i64) HV.out.2.symm), ?_, by omega, hbx⟩
    rw [HV.out.1]
    refine (FrK.of_own (K := kGrant) HO5.out ?_ (add_fine HFN.out hx)).mono hbw3.size (Nat.le_refl _)
    rw [List.length_append, List.length_append, List.length_take, List.length_drop, HL.out]
    simp only [List.length_singleton]
    omega

end Go.Proofs.Ytidhbpnibgegdaa
