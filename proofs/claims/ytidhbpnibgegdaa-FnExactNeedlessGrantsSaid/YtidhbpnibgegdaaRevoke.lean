/- RevokeGrant of the program and of the reference. -/
import Derived.Test.YtidhbpnibgegdaaRightsI
import Derived.Test.YtidhbpnibgegdaaSplit
import Derived.Test.YtidhbpnibgegdaaSeaG
import Derived.Test.YtidhbpnibgegdaaInsGrant
namespace Go.Proofs.Ytidhbpnibgegdaa
open Go.RowKit
set_option linter.unusedVariables false

def posE (gs : List GrantZ) (x : GrantZ) : Nat := gs.findIdx (fun g => eqGrantB g x)
def inG (gs : List GrantZ) (x : GrantZ) : Bool := decide (posE gs x < gs.length)
theorem posE_at {gs : List GrantZ} {x : GrantZ} {i : Nat} (hx : gs[i]? = some x) (h : ∀ g ∈ gs.take i, g ≠ x) : posE gs x = i ∧ inG gs x = true := by
  obtain ⟨hi, he⟩ := List.getElem?_eq_some_iff.1 hx
  have : posE gs x = i := by
    unfold posE
    rw [List.findIdx_eq hi]
    refine ⟨by rw [he]; exact eqGrantB_iff.2 rfl, fun j hj => ?_⟩
    have hm : gs[j] ∈ gs.take i := by
      rw [List.mem_take_iff_getElem]
      exact ⟨j, by omega, rfl⟩
    exact eqGrantB_not.2 (h _ hm)
  exact ⟨this, by unfold inG; rw [this]; simpa using hi⟩
theorem inG_not {gs : List GrantZ} {x : GrantZ} (h : ∀ g ∈ gs, g ≠ x) : inG gs x = false := by
  unfold inG posE
  have : gs.findIdx (fun g => eqGrantB g x) = gs.length := by
    rw [List.findIdx_eq_length]
    exact fun g hg => eqGrantB_not.2 (h g hg)
  rw [this]
  simp
/-- What the search found is the place. -/
theorem idx_found {gs : List GrantZ} {x : GrantZ} {i : Nat} (h : IsIdxG gs x i) (hx : gs[i]? = some x) : posE gs x = i ∧ inG gs x = true := by
  refine posE_at hx fun g hg => ?_
  obtain ⟨j, hj, rfl⟩ := List.mem_take_iff_getElem.1 hg
  exact gLess_ne (h.1 j _ (List.getElem?_eq_getElem (by omega)) (by omega))
theorem idx_lost {gs : List GrantZ} {x : GrantZ} {i : Nat} (hs : SortG gs) (h : IsIdxG gs x i) (hx : ¬ gs[i]? = some x) : inG gs x = false := by
  refine inG_not fun g hg => ?_
  rintro rfl
  obtain ⟨k, hk, he⟩ := List.mem_iff_getElem.1 hg
  rcases Nat.lt_trichotomy k i with h1 | h1 | h1
  · have := h.1 k _ (List.getElem?_eq_getElem hk) h1
    rw [he, gLess_irrefl] at this
    cases this
  · subst h1
    exact hx (by rw [List.getElem?_eq_getElem hk, he])
  · have h2 := List.pairwise_iff_getElem.1 hs i k (by omega) hk h1
    have h3 := h.2 i _ (List.getElem?_eq_getElem (by omega)) (Nat.le_refl _)
    rw [he, h3] at h2
    cases h2

def remZ (gs : List GrantZ) (i : Nat) : List GrantZ := gs.take i ++ gs.drop (i + 1)
theorem remZ_mem {gs : List GrantZ} {i : Nat} {x : GrantZ} (h : x ∈ remZ gs i) : x ∈ gs := by
  rcases List.mem_append.1 h with h | h
  · exact List.mem_of_mem_take h
  · exact List.mem_of_mem_drop h
theorem remZ_len {gs : List GrantZ} {i : Nat} (h : i < gs.length) : (remZ gs i).length = gs.length - 1 := by unfold remZ; rw [List.length_append, List.length_take, List.length_drop]; omega
def rvC (rs : List RoleZ) (gs : List GrantZ) (x : GrantZ) : Int := if grantsB rs gs = true then (if inG gs x = true then 0 else 3) else 1
def rvV (rs : List RoleZ) (gs : List GrantZ) (x : GrantZ) : List GrantZ := if grantsB rs gs = true then (if inG gs x = true then remZ gs (posE gs x) else []) else []
theorem rv_bad {rs : List RoleZ} {gs : List GrantZ} {x : GrantZ} (h : grantsB rs gs = false) : rvV rs gs x = [] ∧ rvC rs gs x = 1 := by unfold rvV rvC; rw [h]; exact ⟨rfl, rfl⟩
theorem rv_no {rs : List RoleZ} {gs : List GrantZ} {x : GrantZ} (h : grantsB rs gs = true) (h2 : inG gs x = false) : rvV rs gs x = [] ∧ rvC rs gs x = 3 := by unfold rvV rvC; rw [h, h2]; exact ⟨rfl, rfl⟩
theorem rv_ok {rs : List RoleZ} {gs : List GrantZ} {x : GrantZ} {i : Nat} (h : grantsB rs gs = true) (h2 : posE gs x = i ∧ inG gs x = true) : rvV rs gs x = remZ gs i ∧ rvC rs gs x = 0 := by unfold rvV rvC; rw [h, h2.2, h2.1]; exact ⟨rfl, rfl⟩

set_option maxHeartbeats 2000000 in
theorem implRevokeGrant_calls (A : Option Addr) (n c : Nat) (rs : List RoleZ) (A1 : Option Addr) (n1 c1 : Nat) (gs : List GrantZ) (x : GrantZ) (w : World) (h : RdRz w A n rs) (h1 : RdK kGrant w A1 n1 gs) (hx : kGrant.fine x) (hn : n ≤ 1048576) (hn1 : n1 ≤ 1048576) (hs : ShortR rs) (_ : n1 ≤ c1) :
    Calls Try.prog 40 #[.slice A n c, .slice A1 n1 c1, .agg #[.string x.role, .string x.object, .int .i64 x.action]] w (GCPost (rvV rs gs x) (rvC rs gs x) w) := by
  have HL := hide h1.2.1
  have HFN := hide h1.2.2
  obtain ⟨W0, hW0⟩ : ∃ W0, W0 = w.alloc (.cells #[.string x.role, .string x.object, .int .i64 x.action] 49) := ⟨_, rfl⟩
  have hB : Below w.heap.size w W0 := by rw [hW0]; exact (Below.refl _ _).alloc (Nat.le_refl _) _
  have g0 : W0.cell? ⟨w.heap.size, 0, none⟩ = some (.string x.role) := by rw [hW0]; simp
  have g1 : W0.cell? ⟨w.heap.size, 1, none⟩ = some (.string x.object) := by rw [hW0]; simp
  have g2 : W0.cell? ⟨w.heap.size, 2, none⟩ = some (.int .i64 x.action) := by rw [hW0]; simp
  have hz : w.heap.size < W0.heap.size := by rw [hW0]; simp
  have HM := hide (implValidGrants_calls A n c rs A1 n1 c1 gs W0 (h.below hB (Nat.le_refl _)) (h1.below hB (Nat.le_refl _)) hn hn1 hs)
  rcases b_cases (grantsB rs gs) with hg | hg
  · have HV := hide (rv_bad (x := x) hg)
    rw [hg] at HM
    clear hg
    go_enter Try.func40, Try.ntmps40
    go_wp2_with fail
    rw [← hW0]
    clear hW0
    refine HM.out.mono ?_
    rintro e w1 ⟨rfl, hb1⟩
    go_wp2
    go_ret2
    exact GCPost.none HV.out.1 HV.out.2 (hB.trans (hb1.mono hB.size))
  rw [hg] at HM
  have HG := hide hg
  have HSO := hide (grants_sort hg)
  clear hg
  go_enter Try.func40, Try.ntmps40
  go_wp2_with fail
  rw [← hW0]
  clear hW0
  refine HM.out.mono ?_
  clear HM
  rintro e w1 ⟨rfl, hb1⟩
  have hbw := hB.trans (hb1.mono hB.size)
  have e0 := (hb1.cell (p := ⟨w.heap.size, 0, none⟩) hz).trans g0
  have e1 := (hb1.cell (p := ⟨w.heap.size, 1, none⟩) hz).trans g1
  have e2 := (hb1.cell (p := ⟨w.heap.size, 2, none⟩) hz).trans g2
  have HS := hide (searchG_calls A1 n1 c1 gs x w1 (h1.below hbw (Nat.le_refl _)) hn1)
  go_wp2_with fail
  refine HS.out.mono ?_
  clear HS
  rintro e w2 ⟨i, q, rfl, hi, hidx, hq, hb2⟩
  have hb := hbw.trans (hb2.mono hbw.size)
  have HI := hide (hidx HSO.out)
  clear hidx e0 e1 e2
  cases q
  · have HV := hide (rv_no HG.out (idx_lost HSO.out HI.out (fun e => by have := hq.2 e; cases this)))
    clear hq
    go_wp2
    go_ret2
    exact GCPost.none HV.out.1 HV.out.2 hb
  · have hgi := hq.1 rfl
    have hil := (List.getElem?_eq_some_iff.1 hgi).1
    rw [HL.out] at hil
    have HV := hide (rv_ok HG.out (idx_found HI.out hgi))
    obtain ⟨m, rfl⟩ : ∃ m, n1 = m + 1 := ⟨n1 - 1, by omega⟩
    have HC := hide (cloneG_calls A1 (m + 1) c1 gs w2 (h1.below hb (Nat.le_refl _)) hn1)
    clear hq hgi
    go_wp2_with fail
    refine HC.out.mono ?_
    clear HC
    rintro e w3 ⟨A3, c3, rfl, hown, _, hb3⟩
    obtain ⟨g, c4, hA⟩ := own_addr2 hown (by omega)
    obtain ⟨rfl, rfl⟩ : A3 = some ⟨g, 0, none⟩ ∧ c3 = c4 := by simpa using hA
    have HD := hide (delGrant_calls g m c3 w2.heap.size i gs w3 hown (by omega) (by omega) hb3.size)
    clear hA hown
    have hi63 : (i : Int) ≤ 1048576 := by omega
    go_wp2_with fail
    refine HD.out.mono ?_
    clear HD
    rintro e w4 ⟨g', c', rfl, hown4, hb4⟩
    have HO := hide hown4
    clear hown4
    have hbx := hb.trans ((hb3.trans (hb4)).mono hb.size)
    go_wp2
    go_ret2
    refine ⟨_, m, c', ret_two rfl (congrArg (Value.int .i64) HV.out.2.symm), ?_, by omega, hbx⟩
    rw [HV.out.1]
    refine (FrK.of_own (K := kGrant) HO.out ?_ (fun y hy => HFN.out y (remZ_mem hy))).mono hb.size (Nat.le_refl _)
    show (remZ gs i).length = m
    rw [remZ_len (by rw [HL.out]; omega), HL.out]
    omega

set_option maxHeartbeats 4000000 in
theorem l28Without_calls (A1 : Option Addr) (n1 c1 : Nat) (gs : List GrantZ) (k : Nat) (w : World) (h1 : RdK kGrant w A1 n1 gs) (hn1 : n1 ≤ 1048576) (hk : k < n1) (hcap : n1 ≤ c1) :
    Calls Try.prog 79 #[.slice A1 n1 c1, .int .i64 (k : Int)] w (GrasPost (remZ gs k) w) := by
  obtain ⟨b, off, rfl⟩ : ∃ b off, A1 = some ⟨b, off, none⟩ := by
    obtain ⟨b, off, hA, _⟩ := h1.1.2 (by omega)
    exact ⟨b, off, hA⟩
  have HR := hide h1.1
  have HL := hide h1.2.1
  have hl := h1.2.1
  clear h1
  have HZ : Hid (remZ gs k = gs.take k ++ gs.drop (k + 1)) := rfl
  have hk1 : (k : Int) ≤ (c1 : Int) := by omega
  have hk2 : ¬ (c1 = k) := by omega
  go_enter Try.func79, Try.ntmps79
  go_upto_region 2 with (at_builtin; refine appsGrant rfl _ _ rfl w.heap.size (.slice (some ⟨w.heap.size, 0, none⟩) 0 0) 0 [] rfl (World.ownsRow_lit (base := w.heap.size) (e := 49) (size := 3) _ #[] 0 (Nat.le_refl _) (by simp) rfl) (some ⟨b, off, none⟩) k c1 (gs.take k) rfl (Rd.alloc (rdK_take (K := kGrant) HR.out HL.out (by omega)) _) (by omega) (by simp) ?_; intro v6 w6 hown6 hb6 hz6)
  rw [Nat.zero_add, List.nil_append] at hown6
  have HO6 := hide hown6
  have hb06 := ((Below.refl w.heap.size w).alloc (Nat.le_refl _) (.cells #[] 49)).trans hb6
  have hz06 := hb06.size
  have HR6 := hide (HR.out.below hb06 (Nat.le_refl _))
  clear hown6 hk2
  by_cases hcj : c1 = k + 1
  · obtain rfl : n1 = k + 1 := by omega
    subst hcj
    have hdr : gs.drop (k + 1) = [] := List.drop_eq_nil_of_le (by omega)
    have HDR := hide hdr
    clear hdr hl
    go_wp2_with (at_builtin; refine appsGrant rfl _ _ rfl w.heap.size v6 k (gs.take k) rfl HO6.out (some ⟨b, off, none⟩) 0 0 [] (by first | rfl | (simp; rfl) | simp) Rd.nil (by omega) (by omega) ?_; intro v7 w7 hown7 hb7 hz7)
    obtain ⟨A7, c7, rfl⟩ := own_slice hown7
    have HO7 := hide hown7
    clear hown7
    go_ret
    refine ⟨A7, _, c7, rfl, ?_, ?_, hb06.trans hb7⟩
    · rw [HZ.out, HDR.out]; exact HO7.out
    · rw [HZ.out, HDR.out]; simp [HL.out]
  · have hd6 : Rd w6 (some ⟨b, off + (k + 1) * 3, none⟩) (n1 - (k + 1)) 3 (cK kGrant (gs.drop (k + 1))) := rdK_drop (K := kGrant) HR6.out HL.out (by omega)
    have HD6 := hide hd6
    clear hd6 hl
    go_wp2_with (at_builtin; refine appsGrant rfl _ _ rfl w.heap.size v6 k (gs.take k) rfl HO6.out (some ⟨b, off + (k + 1) * 3, none⟩) (n1 - (k + 1)) (c1 - (k + 1)) (gs.drop (k + 1)) (by first | rfl | (simp; rfl) | simp) HD6.out (by omega) (by omega) ?_; intro v7 w7 hown7 hb7 hz7)
    obtain ⟨A7, c7, rfl⟩ := own_slice hown7
    have HO7 := hide hown7
    clear hown7
    go_ret
    refine ⟨A7, _, c7, rfl, ?_, ?_, hb06.trans hb7⟩
    · rw [HZ.out]; exact HO7.out
    · rw [HZ.out, List.length_append, List.length_take, List.length_drop, HL.out]; omega

set_option maxRecDepth 100000 in
set_option maxHeartbeats 4000000 in
theorem specRevokeGrant_calls (A : Option Addr) (n c : Nat) (rs : List RoleZ) (A1 : Option Addr) (n1 c1 : Nat) (gs : List GrantZ) (x : GrantZ) (w : World) (h : RdRz w A n rs) (h1 : RdK kGrant w A1 n1 gs) (hx : kGrant.fine x) (hn : n ≤ 1048576) (hn1 : n1 ≤ 1048576) (hs : ShortR rs) (hcap : n1 ≤ c1) :
    Calls Try.prog 39 #[.slice A n c, .slice A1 n1 c1, .agg #[.string x.role, .string x.object, .int .i64 x.action]] w (GCPost (rvV rs gs x) (rvC rs gs x) w) := by
  have HL := hide h1.2.1
  have HFN := hide h1.2.2
  have HM0 : Hid (∀ W, Below w.heap.size w W → Calls Try.prog 68 #[.slice A n c, .slice A1 n1 c1] W fun e w' => e = .returned (.bool (grantsB rs gs)) ∧ Below W.heap.size W w') := fun W hW => l28Ok_calls A n c rs A1 n1 c1 gs W (h.below hW (Nat.le_refl _)) (h1.below hW (Nat.le_refl _)) hn hn1
  obtain ⟨V, hV⟩ : ∃ V, V = rvV rs gs x := ⟨_, rfl⟩
  obtain ⟨C, hC⟩ : ∃ C, C = rvC rs gs x := ⟨_, rfl⟩
  have HV := hide hV
  have HC := hide hC
  rw [← hV, ← hC]
  clear hV hC
  obtain ⟨x0, x1, x2⟩ := x
  simp only
  obtain ⟨W0, hW0⟩ : ∃ W0, W0 = w.alloc (.cells #[.string x0, .string x1, .int .i64 x2] 49) := ⟨_, rfl⟩
  have hB : Below w.heap.size w W0 := by rw [hW0]; exact (Below.refl _ _).alloc (Nat.le_refl _) _
  have g0 : W0.cell? ⟨w.heap.size, 0, none⟩ = some (.string x0) := by rw [hW0]; simp
  have g1 : W0.cell? ⟨w.heap.size, 1, none⟩ = some (.string x1) := by rw [hW0]; simp
  have g2 : W0.cell? ⟨w.heap.size, 2, none⟩ = some (.int .i64 x2) := by rw [hW0]; simp
  have hz : w.heap.size < W0.heap.size := by rw [hW0]; simp
  have HM := hide (HM0.out W0 hB)
  rcases b_cases (grantsB rs gs) with hg | hg
  · have HVC := hide (rv_bad (x := ⟨x0, x1, x2⟩) hg)
    rw [hg] at HM
    clear hg
    go_enter Try.func39, Try.ntmps39
    go_wp2_with fail
    rw [← hW0]
    clear hW0
    refine HM.out.mono ?_
    rintro e w1 ⟨rfl, hb1⟩
    go_wp2
    go_ret2
    exact GCPost.none (HV.out.trans HVC.out.1) (HC.out.trans HVC.out.2) (hB.trans (hb1.mono hB.size))
  rw [hg] at HM
  have HG := hide hg
  clear hg
  go_enter Try.func39, Try.ntmps39
  go_wp2_with fail
  rw [← hW0]
  clear hW0
  refine HM.out.mono ?_
  clear HM
  rintro e w1 ⟨rfl, hb1⟩
  have hbw := hB.trans (hb1.mono hB.size)
  have e0 := (hb1.cell (p := ⟨w.heap.size, 0, none⟩) hz).trans g0
  have e1 := (hb1.cell (p := ⟨w.heap.size, 1, none⟩) hz).trans g1
  have e2 := (hb1.cell (p := ⟨w.heap.size, 2, none⟩) hz).trans g2
  have h1' := h1.below hbw (Nat.le_refl _)
  clear h h1 g0 g1 g2
  go_wp2
  go_loopw [8] (fun i wr => ∃ (K m : Nat), K ≤ n1 ∧ i = .int .i64 K ∧ Hid (∀ g ∈ gs.take K, g ≠ (⟨x0, x1, x2⟩ : GrantZ)) ∧ wr = w1.drewN m) (fun i _ => n1 - (intOf i).toNat)
  case atStart => exact ⟨0, 0, Nat.zero_le _, rfl, by simp [Hid], rfl⟩
  case round =>
    obtain ⟨K, m, hK, rfl, HN, rfl⟩ := hrel
    by_cases hlt : K < n1
    · obtain ⟨b, off, p0, p1, p2, hA, hbl, hy, d0, d1, d2, _, _, _, _⟩ := h1'.atGrant hlt
      have HWO := hide (fun j => l28Without_calls A1 n1 c1 gs K (w1.drewN j) (h1'.drewN j) hn1 hlt hcap)
      subst hA
      -- the grant is another one
      have other : (⟨p0, p1, p2⟩ : GrantZ) ≠ ⟨x0, x1, x2⟩ → Hid (∀ g ∈ gs.take (K + 1), g ≠ (⟨x0, x1, x2⟩ : GrantZ)) := fun hne g hgm => by
        rw [take_snoc hy.out] at hgm
        rcases List.mem_append.1 hgm with hgm | hgm
        · exact HN.out g hgm
        · simp only [List.mem_singleton] at hgm
          rw [hgm]
          exact hne
      have OT := hide other
      clear other
      by_cases c0 : p0 = x0
      case neg =>
        obtain ⟨q1, q2⟩ := str_ne c0
        have HNX := OT.out (fun e => c0 (congrArg GrantZ.role e))
        clear c0
        go_wp2
        go_quiet (fail)
        go_wp2
        go_roundw
        case rel => exact ⟨K + 1, _, by omega, by go_num, HNX, (by first | rfl | exact World.drewN_drewN _ _ _)⟩
        case measure => simp [intOf]; omega
      by_cases c1' : p1 = x1
      case neg =>
        obtain ⟨q1, q2⟩ := str_ne c1'
        obtain ⟨q3, q4⟩ := str_eq c0
        have HNX := OT.out (fun e => c1' (congrArg GrantZ.object e))
        clear c0 c1'
        go_wp2
        go_quiet (fail)
        go_wp2
        go_roundw
        case rel => exact ⟨K + 1, _, by omega, by go_num, HNX, (by first | rfl | exact World.drewN_drewN _ _ _)⟩
        case measure => simp [intOf]; omega
      by_cases c2' : p2 = x2
      case neg =>
        have q5 : (p2 == x2) = false := by simpa using c2'
        obtain ⟨q1, q2⟩ := str_eq c1'
        obtain ⟨q3, q4⟩ := str_eq c0
        have HNX := OT.out (fun e => c2' (congrArg GrantZ.action e))
        clear c0 c1' c2'
        go_wp2
        go_quiet (fail)
        go_wp2
        go_roundw
        case rel => exact ⟨K + 1, _, by omega, by go_num, HNX, (by first | rfl | exact World.drewN_drewN _ _ _)⟩
        case measure => simp [intOf]; omega
      have HVC := hide (rv_ok HG.out (posE_at (hy.out.trans (by rw [c0, c1', c2'])) HN.out))
      have q5 : (p2 == x2) = true := by simpa using c2'
      obtain ⟨q1, q2⟩ := str_eq c1'
      obtain ⟨q3, q4⟩ := str_eq c0
      clear c0 c1' c2' OT
      go_wp2
      go_quiet (fail)
      go_wp2_with fail
      refine (HWO.out _).mono ?_
      clear HWO
      rintro e w3 ⟨A3, n3, c3, rfl, hown3, hl3, hb3⟩
      have HO := hide (And.intro hown3 hl3)
      have hbx := (below_drewN hbw (m + nq)).trans (hb3.mono (by simpa using hbw.size))
      clear hown3 hl3
      go_wp2
      go_ret2
      refine ⟨A3, n3, c3, ret_two rfl (congrArg (Value.int .i64) (HC.out.trans HVC.out.2).symm), ?_, ?_, hbx⟩
      · rw [HV.out, HVC.out.1]
        exact (FrK.of_own (K := kGrant) HO.out.1 HO.out.2 (fun y hy => HFN.out y (remZ_mem hy))).mono (by simpa using hbw.size) (Nat.le_refl _)
      · have h2 := remZ_len (gs := gs) (i := K) (by rw [HL.out]; exact hlt)
        rw [HO.out.2] at h2
        have := HL.out
        omega
    · have hKn : K = n1 := by omega
      have HVC := hide (rv_no HG.out (inG_not (by have := HN.out; rwa [List.take_of_length_le (by rw [HL.out]; omega)] at this)))
      clear hKn
      go_wp2
      go_ret2
      exact GCPost.none (HV.out.trans HVC.out.1) (HC.out.trans HVC.out.2) (below_drewN hbw _)

end Go.Proofs.Ytidhbpnibgegdaa
