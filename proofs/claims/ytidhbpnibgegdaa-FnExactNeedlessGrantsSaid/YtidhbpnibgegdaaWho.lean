/- rolesWith, WhoMay of the program and of the reference. -/
import Derived.Test.YtidhbpnibgegdaaAllow
namespace Go.Proofs.Ytidhbpnibgegdaa
open Go.RowKit
set_option linter.unusedVariables false

theorem heap4 (w : World) (X Y Z U : Obj) : ((((w.alloc X).alloc Y).alloc Z).alloc U).heap[w.heap.size]? = some X ∧ ((((w.alloc X).alloc Y).alloc Z).alloc U).heap[w.heap.size + 1]? = some Y ∧ ((((w.alloc X).alloc Y).alloc Z).alloc U).heap[w.heap.size + 1 + 1]? = some Z ∧ ((((w.alloc X).alloc Y).alloc Z).alloc U).heap[w.heap.size + 1 + 1 + 1]? = some U := by
  have e : ((((w.alloc X).alloc Y).alloc Z).alloc U).heap = (((w.heap.push X).push Y).push Z).push U := rfl
  rw [e]
  refine ⟨?_, ?_, ?_, ?_⟩
  · rw [Array.getElem?_push, if_neg (by first | (simp; done) | (simp; omega)), Array.getElem?_push, if_neg (by first | (simp; done) | (simp; omega)), Array.getElem?_push, if_neg (by first | (simp; done) | (simp; omega)), Array.getElem?_push_size]
  · rw [Array.getElem?_push, if_neg (by first | (simp; done) | (simp; omega)), Array.getElem?_push, if_neg (by first | (simp; done) | (simp; omega)), show w.heap.size + 1 = (w.heap.push X).size by simp, Array.getElem?_push_size]
  · rw [Array.getElem?_push, if_neg (by first | (simp; done) | (simp; omega)), show w.heap.size + 1 + 1 = ((w.heap.push X).push Y).size by simp, Array.getElem?_push_size]
  · rw [show w.heap.size + 1 + 1 + 1 = (((w.heap.push X).push Y).push Z).size by simp, Array.getElem?_push_size]
theorem cell_box {W : World} {b : Nat} {v : Value} {t : TypeId} (h : W.heap[b]? = some (.cells #[v] t (0, 0))) : W.cell? ⟨b, 0, none⟩ = some v := cell_heap (cs := [v]) (j := 0) h rfl
theorem who_fine {w : World} {A : Option Addr} {n : Nat} {rs : List RoleZ} (h : RdRz w A n rs) (q : ByteArray → Bool) : ∀ x ∈ whoZ rs q, x.size ≤ 9223372036854775807 := fun x hx => fineR h x (List.mem_filter.1 hx).1
theorem who_congr {rs : List RoleZ} {p q : ByteArray → Bool} (h : ∀ x ∈ namesR rs, p x = q x) : whoZ rs p = whoZ rs q := by
  unfold whoZ
  exact List.filter_congr h

set_option maxHeartbeats 2000000 in
theorem rolesWith_calls (A : Option Addr) (n c : Nat) (rs : List RoleZ) (f : Nat) (caps : Array Value) (q : ByteArray → Bool) (w : World) (h : RdRz w A n rs) (hn : n ≤ 1048576)
    (hcf : ∀ args w, Sem.run Try.prog (callFunc f args) w = .ok (.enter f args) w)
    (hf : ∀ W s, Below w.heap.size w W → s ∈ namesR rs → s.size ≤ 9223372036854775807 → Calls Try.prog f (#[.string s] ++ caps) W fun e w' => e = .returned (.bool (q s)) ∧ Below W.heap.size W w') :
    Calls Try.prog 75 #[.slice A n c, .func (.func f) #[] caps] w (NamsPost (whoZ rs q) w) := by
  have HL := hide h.len
  have HF := hide hf
  have hown0 := World.ownsRow_nil w w.heap.size 9 1
  clear hf
  go_enter Try.func75, Try.ntmps75
  go_wp2
  go_loopw [5, 10] (fun v i wr => ∃ (J m c3 : Nat) (A3 : Option Addr), J ≤ n ∧ m ≤ J ∧ i = .int .i64 J ∧ v = .slice A3 m c3 ∧ Hid (wr.ownsRow w.heap.size 9 1 (.slice A3 m c3) m (cK kB (whoZ (rs.take J) q)) ∧ (whoZ (rs.take J) q).length = m) ∧ Below w.heap.size w wr) (fun _ i _ => n - (intOf i).toNat)
  case atStart => exact ⟨0, 0, 0, none, Nat.zero_le _, Nat.le_refl _, rfl, rfl, by simpa [Hid, cK, whoZ, namesR] using hown0, Below.refl _ _⟩
  case round =>
    clear hown0
    obtain ⟨J, m, c3, A3, hJ, hmJ, rfl, rfl, HO, hb⟩ := hrel
    by_cases hlt : J < n
    · obtain ⟨b, off, nm, Aq, nq, cq, us, rfl, hbl, hx, hc, hc2, hme, hst, hnq⟩ := (h.below hb (Nat.le_refl _)).at hlt
      have HE := hide (whoZ_snoc (q := q) hx.out)
      have hba := (Below.refl wr.heap.size wr).alloc (Nat.le_refl _) (.cells #[.string nm, .slice Aq nq cq] 70)
      have HBA := hide hba
      have hbw := hb.trans (hba.mono hb.size)
      have HM := hide (HF.out _ nm hbw (List.mem_map.2 ⟨_, List.mem_of_getElem? hx.out, rfl⟩) hme)
      have hcr : (wr.alloc (.cells #[.string nm, .slice Aq nq cq] 70)).cell? ⟨wr.heap.size, 0, none⟩ = some (.string nm) := by simp
      have HCR := hide hcr
      have HOA := hide (own_below HO.out.1 hba (Nat.le_refl _))
      clear hst hba hcr
      rcases b_cases (q nm) with hq | hq
      · have HE2 : Hid (whoZ (rs.take (J + 1)) q = whoZ (rs.take J) q) := by unfold Hid; rw [HE.out]; simp [hq]
        rw [hq] at HM
        clear hq
        go_wp2_with fail
        refine HM.out.mono ?_
        clear HM
        rintro e w2 ⟨rfl, hb2⟩
        have HO2 : Hid (w2.ownsRow w.heap.size 9 1 (.slice A3 m c3) m (cK kB (whoZ (rs.take (J + 1)) q)) ∧ (whoZ (rs.take (J + 1)) q).length = m) := by rw [HE2.out]; exact ⟨own_below HOA.out hb2 (Nat.le_refl _), HO.out.2⟩
        go_wp2
        go_roundw
        case rel => exact ⟨J + 1, m, c3, A3, by omega, by omega, by go_num, rfl, HO2, hbw.trans (hb2.mono hbw.size)⟩
        case measure => simp [intOf]; omega
      · have HE2 : Hid (whoZ (rs.take (J + 1)) q = whoZ (rs.take J) q ++ [nm]) := by unfold Hid; rw [HE.out]; simp [hq]
        rw [hq] at HM
        clear hq
        go_wp2_with fail
        refine HM.out.mono ?_
        clear HM
        rintro e w2 ⟨rfl, hb2⟩
        have hcr2 := (hb2.cell (p := ⟨wr.heap.size, 0, none⟩) (by simp)).trans HCR.out
        have HO2 := hide (own_below HOA.out hb2 (Nat.le_refl _))
        have hbw2 := hbw.trans (hb2.mono hbw.size)
        have hsz := hbw2.size
        go_wp2_with (at_builtin; refine appB rfl _ _ rfl w.heap.size (.slice A3 m c3) m (whoZ (rs.take J) q) nm rfl HO2.out (by first | rfl | (simp; rfl)) (by omega) (by omega) ?_; intro v4 w4 hown4 hb4 hz4; obtain ⟨A4, c4, rfl⟩ := own_slice hown4)
        go_roundw
        case rel => exact ⟨J + 1, m + 1, c4, A4, by omega, by omega, by go_num, rfl, by rw [HE2.out]; exact ⟨hown4, by rw [List.length_append, HO.out.2]; rfl⟩, hbw2.trans hb4⟩
        case measure => simp [intOf]; omega
    · have hJn : J = n := by omega
      have HE : Hid (rs.take J = rs) := by unfold Hid; exact List.take_of_length_le (by rw [HL.out, hJn]; exact Nat.le_refl _)
      clear hJn
      go_wp2
      go_ret
      exact ⟨A3, m, c3, rfl, by have := HO.out.1; rwa [HE.out] at this, by have := HO.out.2; rwa [HE.out] at this, hb⟩

/-- A code, and the names where it is 0. -/
def whC (rs : List RoleZ) (gs : List GrantZ) (a : Int) : Int := if grantsB rs gs = true then (if isActB a = true then 0 else 2) else 1
def whV (rs : List RoleZ) (gs : List GrantZ) (o : ByteArray) (a : Int) : List ByteArray := if grantsB rs gs = true ∧ isActB a = true then whoZ rs (fun nm => hasG rs gs nm o a) else []
theorem whV_no {rs : List RoleZ} {gs : List GrantZ} {o : ByteArray} {a : Int} (h : grantsB rs gs = false ∨ isActB a = false) : whV rs gs o a = [] := by
  unfold whV
  rw [if_neg]
  rintro ⟨h1, h2⟩
  rcases h with h | h
  · rw [h] at h1; cases h1
  · rw [h] at h2; cases h2
theorem whV_ok {rs : List RoleZ} {gs : List GrantZ} {o : ByteArray} {a : Int} (h1 : grantsB rs gs = true) (h2 : isActB a = true) : whV rs gs o a = whoZ rs (fun nm => hasG rs gs nm o a) := by
  unfold whV
  rw [if_pos ⟨h1, h2⟩]
/-- In the reference the role stands at its index. -/
theorem hasG_at {rs : List RoleZ} {gs : List GrantZ} (hs : SortB (namesR rs)) {k : Nat} {r : RoleZ} (hr : rs[k]? = some r) (o : ByteArray) {a : Int} (ha : isActB a = true) : hasG rs gs r.name o a = mayB rs gs k o a := by
  unfold hasG
  rw [ha, find_at hs hr, Bool.true_and]

set_option maxHeartbeats 1000000 in
theorem whoClos_calls (A : Option Addr) (n c : Nat) (rs : List RoleZ) (A1 : Option Addr) (n1 c1 : Nat) (gs : List GrantZ) (nm o : ByteArray) (a : Int) (b : Nat) (w : World) (h : RdRz w A n rs) (h1 : RdK kGrant w A1 n1 gs) (hok : RolesOk rs) (hg : ∀ x ∈ gs, hasR rs x.role = true) (hn1 : n1 ≤ 1048576) (hh : hasR rs nm = true)
    (g0 : w.cell? ⟨b, 0, none⟩ = some (.slice A n c)) (g1 : w.cell? ⟨b + 1, 0, none⟩ = some (.slice A1 n1 c1)) (g2 : w.cell? ⟨b + 1 + 1, 0, none⟩ = some (.string o)) (g3 : w.cell? ⟨b + 1 + 1 + 1, 0, none⟩ = some (.int .i64 a)) :
    Calls Try.prog 78 #[.string nm, .pointer (some ⟨b, 0, none⟩), .pointer (some ⟨b + 1, 0, none⟩), .pointer (some ⟨b + 1 + 1, 0, none⟩), .pointer (some ⟨b + 1 + 1 + 1, 0, none⟩)] w fun e w' => e = .returned (.bool (hasG rs gs nm o a)) ∧ Below w.heap.size w w' := by
  have HU := hide (has_calls A n c rs A1 n1 c1 gs nm o a w h h1 hok hg hn1 hh)
  clear hok hg hh
  go_enter Try.func78, Try.ntmps78
  go_wp2_with fail
  refine HU.out.mono ?_
  rintro e w' ⟨rfl, hb⟩
  go_wp2
  go_ret
  exact ⟨rfl, hb⟩

set_option maxHeartbeats 2000000 in
theorem implWhoMay_calls (A : Option Addr) (n c : Nat) (rs : List RoleZ) (A1 : Option Addr) (n1 c1 : Nat) (gs : List GrantZ) (o : ByteArray) (a : Int) (w : World) (h : RdRz w A n rs) (h1 : RdK kGrant w A1 n1 gs) (_ : o.size ≤ 9223372036854775807) (_ : I64 a) (hn : n ≤ 1048576) (hn1 : n1 ≤ 1048576) (_ : o.size ≤ 1048576) (hs : ShortR rs) :
    Calls Try.prog 38 #[.slice A n c, .slice A1 n1 c1, .string o, .int .i64 a] w (NCPost (whV rs gs o a) (whC rs gs a) w) := by
  have HL := hide h.len
  have HC : Hid (whC rs gs a = if grantsB rs gs = true then (if isActB a = true then 0 else 2) else 1) := rfl
  obtain ⟨W0, hW0⟩ : ∃ W0, W0 = ((((w.alloc (.cells #[.slice A n c] 25)).alloc (.cells #[.slice A1 n1 c1] 39)).alloc (.cells #[.string o] 9)).alloc (.cells #[.int .i64 a] 2)) := ⟨_, rfl⟩
  have hB : Below w.heap.size w W0 := by rw [hW0]; exact ((((Below.refl _ _).alloc (Nat.le_refl _) _).alloc (by simp) _).alloc (by simp; omega) _).alloc (by simp; omega) _
  have g0 : W0.cell? ⟨w.heap.size, 0, none⟩ = some (.slice A n c) := by rw [hW0]; exact cell_box (heap4 _ _ _ _ _).1
  have g1 : W0.cell? ⟨w.heap.size + 1, 0, none⟩ = some (.slice A1 n1 c1) := by rw [hW0]; exact cell_box (heap4 _ _ _ _ _).2.1
  have g2 : W0.cell? ⟨w.heap.size + 1 + 1, 0, none⟩ = some (.string o) := by rw [hW0]; exact cell_box (heap4 _ _ _ _ _).2.2.1
  have g3 : W0.cell? ⟨w.heap.size + 1 + 1 + 1, 0, none⟩ = some (.int .i64 a) := by rw [hW0]; exact cell_box (heap4 _ _ _ _ _).2.2.2
  have hz : w.heap.size + 1 + 1 + 1 < W0.heap.size := by rw [hW0]; simp
  have h0 := h.below hB (Nat.le_refl _)
  have h10 := h1.below hB (Nat.le_refl _)
  have HM := hide (implValidGrants_calls A n c rs A1 n1 c1 gs W0 h0 h10 hn hn1 hs)
  have box : Hid (∀ {W : World}, Below W0.heap.size W0 W → W.cell? ⟨w.heap.size, 0, none⟩ = some (.slice A n c) ∧ W.cell? ⟨w.heap.size + 1, 0, none⟩ = some (.slice A1 n1 c1) ∧ W.cell? ⟨w.heap.size + 1 + 1, 0, none⟩ = some (.string o) ∧ W.cell? ⟨w.heap.size + 1 + 1 + 1, 0, none⟩ = some (.int .i64 a)) := fun hb =>
    ⟨(hb.cell (p := ⟨w.heap.size, 0, none⟩) (by show w.heap.size < _; omega)).trans g0, (hb.cell (p := ⟨w.heap.size + 1, 0, none⟩) (by show w.heap.size + 1 < _; omega)).trans g1, (hb.cell (p := ⟨w.heap.size + 1 + 1, 0, none⟩) (by show w.heap.size + 1 + 1 < _; omega)).trans g2, (hb.cell (p := ⟨w.heap.size + 1 + 1 + 1, 0, none⟩) hz).trans g3⟩
  rcases b_cases (grantsB rs gs) with hg | hg
  · have HV := hide (whV_no (o := o) (a := a) (.inl hg))
    rw [hg] at HM HC
    clear hg
    go_enter Try.func38, Try.ntmps38
    go_wp2_with fail
    rw [← hW0]
    clear hW0
    refine HM.out.mono ?_
    rintro e w1 ⟨rfl, hb1⟩
    go_wp2
    go_ret2
    exact NCPost.none HV.out HC.out (hB.trans (hb1.mono hB.size))
  rw [hg] at HM HC
  rcases b_cases (isActB a) with ha | ha
  · have HV := hide (whV_no (rs := rs) (gs := gs) (o := o) (.inr ha))
    have HA := hide ha
    rw [ha] at HC
    clear hg ha
    go_enter Try.func38, Try.ntmps38
    go_wp2_with fail
    rw [← hW0]
    clear hW0
    refine HM.out.mono ?_
    rintro e w1 ⟨rfl, hb1⟩
    obtain ⟨q0, q1, q2, q3⟩ := box.out hb1
    go_wp2_with fail
    refine (isAction_calls a _).mono ?_
    rw [HA.out]
    rintro e w2 ⟨rfl, rfl⟩
    go_wp2
    go_ret2
    exact NCPost.none HV.out HC.out (hB.trans (hb1.mono hB.size))
  · have HV := hide (whV_ok (o := o) hg ha)
    have HOK := hide (roles_ok (grants_roles hg))
    have HGH : Hid (∀ x ∈ gs, hasR rs x.role = true) := fun x hx => grants_has hg hx
    have HA := hide ha
    rw [ha] at HC
    clear hg ha
    go_enter Try.func38, Try.ntmps38
    go_wp2_with fail
    rw [← hW0]
    clear hW0
    refine HM.out.mono ?_
    rintro e w1 ⟨rfl, hb1⟩
    obtain ⟨q0, q1, q2, q3⟩ := box.out hb1
    go_wp2_with fail
    refine (isAction_calls a _).mono ?_
    rw [HA.out]
    rintro e w2 ⟨rfl, rfl⟩
    have hb := hB.trans (hb1.mono hB.size)
    have HU := hide (rolesWith_calls A n c rs 78 #[.pointer (some ⟨w.heap.size, 0, none⟩), .pointer (some ⟨w.heap.size + 1, 0, none⟩), .pointer (some ⟨w.heap.size + 1 + 1, 0, none⟩), .pointer (some ⟨w.heap.size + 1 + 1 + 1, 0, none⟩)] (fun nm => hasG rs gs nm o a) w1 (h.below hb (Nat.le_refl _)) hn Try.call78 (by
      intro W s hW hm hsz
      rw [cat4]
      obtain ⟨q0, q1, q2, q3⟩ := box.out (hb1.trans (hW.mono hb1.size))
      have hbW := hb.trans (hW.mono hb.size)
      exact whoClos_calls A n c rs A1 n1 c1 gs s o a w.heap.size W (h.below hbW (Nat.le_refl _)) (h1.below hbW (Nat.le_refl _)) HOK.out HGH.out hn1 (has_mem.2 hm) q0 q1 q2 q3))
    go_wp2_with fail
    refine HU.out.mono ?_
    rintro e w3 ⟨A', n', c', rfl, hown, hl, hb3⟩
    have HO := hide (And.intro hown hl)
    clear hown hl
    go_wp2
    go_ret2
    refine ⟨A', n', c', ret_two rfl (congrArg (Value.int .i64) HC.out.symm), ?_, ?_, hb.trans (hb3.mono hb.size)⟩
    · rw [HV.out]
      exact (FrK.of_own (K := kB) HO.out.1 HO.out.2 (who_fine h _)).mono hb.size (Nat.le_refl _)
    · have := whoZ_len rs (fun nm => hasG rs gs nm o a)
      have h2 := HO.out.2
      have h3 := HL.out
      omega

set_option maxHeartbeats 4000000 in
theorem specWhoMay_calls (A : Option Addr) (n c : Nat) (rs : List RoleZ) (A1 : Option Addr) (n1 c1 : Nat) (gs : List GrantZ) (o : ByteArray) (a : Int) (w : World) (h : RdRz w A n rs) (h1 : RdK kGrant w A1 n1 gs) (_ : o.size ≤ 9223372036854775807) (_ : I64 a) (hn : n ≤ 1048576) (hn1 : n1 ≤ 1048576) (_ : o.size ≤ 1048576) (hs : ShortR rs) :
    Calls Try.prog 37 #[.slice A n c, .slice A1 n1 c1, .string o, .int .i64 a] w (NCPost (whV rs gs o a) (whC rs gs a) w) := by
  have HL := hide h.len
  have HC : Hid (whC rs gs a = if grantsB rs gs = true then (if isActB a = true then 0 else 2) else 1) := rfl
  have HM := hide (l28Ok_calls A n c rs A1 n1 c1 gs w h h1 hn hn1)
  rcases b_cases (grantsB rs gs) with hg | hg
  · have HV := hide (whV_no (o := o) (a := a) (.inl hg))
    rw [hg] at HM HC
    clear hg
    go_enter Try.func37, Try.ntmps37
    go_wp2_with fail
    refine HM.out.mono ?_
    rintro e w1 ⟨rfl, hb1⟩
    go_wp2
    go_ret2
    exact NCPost.none HV.out HC.out hb1
  rw [hg] at HM HC
  rcases b_cases (isActB a) with ha | ha
  · have HV := hide (whV_no (rs := rs) (gs := gs) (o := o) (.inr ha))
    have HA := hide ha
    rw [ha] at HC
    clear hg ha
    go_enter Try.func37, Try.ntmps37
    go_wp2_with fail
    refine HM.out.mono ?_
    rintro e w1 ⟨rfl, hb1⟩
    go_wp2_with fail
    refine (l28Action_calls a _).mono ?_
    rw [HA.out]
    rintro e w2 ⟨rfl, rfl⟩
    go_wp2
    go_ret2
    exact NCPost.none HV.out HC.out hb1
  have HV := hide (whV_ok (o := o) hg ha)
  have HOK := hide (roles_ok (grants_roles hg))
  have HGH : Hid (∀ x ∈ gs, hasR rs x.role = true) := fun x hx => grants_has hg hx
  have HAT : Hid (∀ {k : Nat} {r : RoleZ}, rs[k]? = some r → hasG rs gs r.name o a = mayB rs gs k o a) := fun hr => hasG_at (roles_ok (grants_roles hg)).sort hr o ha
  have HA := hide ha
  rw [ha] at HC
  clear hg ha
  go_enter Try.func37, Try.ntmps37
  go_wp2_with fail
  refine HM.out.mono ?_
  clear HM
  rintro e w1 ⟨rfl, hb1⟩
  go_wp2_with fail
  refine (l28Action_calls a _).mono ?_
  rw [HA.out]
  rintro e w2 ⟨rfl, rfl⟩
  have hown0 := World.ownsRow_lit (base := w1.heap.size) (e := 9) (size := 1) w1 #[] 0 (Nat.le_refl _) (by simp) rfl
  have hba := (Below.refl w1.heap.size w1).alloc (Nat.le_refl _) (.cells #[] 9)
  have h2 := h.below hb1 (Nat.le_refl _)
  have h12 := h1.below hb1 (Nat.le_refl _)
  have HFI := hide (who_fine h (fun nm => hasG rs gs nm o a))
  clear h h1
  obtain ⟨wo, rfl⟩ : ∃ wo : World, wo = w1 := ⟨_, rfl⟩
  go_wp2
  go_loopw [10, 11] (fun v i wr => ∃ (J m c3 : Nat) (A3 : Option Addr), J ≤ n ∧ m ≤ J ∧ i = .int .i64 J ∧ v = .slice A3 m c3 ∧ Hid (wr.ownsRow wo.heap.size 9 1 (.slice A3 m c3) m (cK kB (whoZ (rs.take J) (fun nm => hasG rs gs nm o a))) ∧ (whoZ (rs.take J) (fun nm => hasG rs gs nm o a)).length = m) ∧ Below wo.heap.size wo wr) (fun _ i _ => n - (intOf i).toNat)
  case atStart => exact ⟨0, 0, _, _, Nat.zero_le _, Nat.le_refl _, rfl, rfl, by simpa [Hid, cK, whoZ, namesR] using hown0, hba⟩
  case round =>
    clear hown0 hba
    obtain ⟨J, m, c3, A3, hJ, hmJ, rfl, rfl, HO, hb⟩ := hrel
    by_cases hlt : J < n
    · obtain ⟨b, off, nm, Aq, nq, cq, us, hA, hbl, hx, hc, _, _, _, _⟩ := (h2.below hb (Nat.le_refl _)).at hlt
      have HM := hide (l28May_calls A n c rs A1 n1 c1 gs J o a wr (h2.below hb (Nat.le_refl _)) (h12.below hb (Nat.le_refl _)) HOK.out HGH.out hn hn1)
      subst hA
      have HE := hide (whoZ_snoc (q := fun nm => hasG rs gs nm o a) hx.out)
      have hat := HAT.out hx.out
      simp only at hat
      rw [← hat] at HM
      clear hat
      have hsz := hb.size
      rcases b_cases (hasG rs gs nm o a) with hq | hq
      · have HE2 : Hid (whoZ (rs.take (J + 1)) (fun nm => hasG rs gs nm o a) = whoZ (rs.take J) (fun nm => hasG rs gs nm o a)) := by unfold Hid; rw [HE.out]; simp [hq]
        rw [hq] at HM
        clear hq
        go_wp2_with fail
        refine HM.out.mono ?_
        clear HM
        rintro e w2 ⟨rfl, hb2⟩
        have HO2 : Hid (w2.ownsRow wo.heap.size 9 1 (.slice A3 m c3) m (cK kB (whoZ (rs.take (J + 1)) (fun nm => hasG rs gs nm o a))) ∧ (whoZ (rs.take (J + 1)) (fun nm => hasG rs gs nm o a)).length = m) := by rw [HE2.out]; exact ⟨own_below HO.out.1 hb2 (Nat.le_refl _), HO.out.2⟩
        go_wp2
        go_roundw
        case rel => exact ⟨J + 1, m, c3, A3, by omega, by omega, by go_num, rfl, HO2, hb.trans (hb2.mono hb.size)⟩
        case measure => simp [intOf]; omega
      · have HE2 : Hid (whoZ (rs.take (J + 1)) (fun nm => hasG rs gs nm o a) = whoZ (rs.take J) (fun nm => hasG rs gs nm o a) ++ [nm]) := by unfold Hid; rw [HE.out]; simp [hq]
        rw [hq] at HM
        clear hq
        go_wp2_with fail
        refine HM.out.mono ?_
        clear HM
        rintro e w2 ⟨rfl, hb2⟩
        have HO2 := hide (own_below HO.out.1 hb2 (Nat.le_refl _))
        have hc2 := (hb2.cell (p := ⟨b, off + J * 2, none⟩) hbl).trans hc
        have hbw2 := hb.trans (hb2.mono hb.size)
        have hsz2 := hbw2.size
        go_wp2_with (at_builtin; refine appB rfl _ _ rfl wo.heap.size (.slice A3 m c3) m (whoZ (rs.take J) (fun nm => hasG rs gs nm o a)) nm rfl HO2.out (by first | rfl | (simp; rfl)) (by omega) (by omega) ?_; intro v4 w4 hown4 hb4 hz4; obtain ⟨A4, c4, rfl⟩ := own_slice hown4)
        go_roundw
        case rel => exact ⟨J + 1, m + 1, c4, A4, by omega, by omega, by go_num, rfl, by rw [HE2.out]; exact ⟨hown4, by rw [List.length_append, HO.out.2]; rfl⟩, hbw2.trans hb4⟩
        case measure => simp [intOf]; omega
    · have hJn : J = n := by omega
      have HE : Hid (rs.take J = rs) := by unfold Hid; exact List.take_of_length_le (by rw [HL.out, hJn]; exact Nat.le_refl _)
      clear hJn
      go_wp2
      go_ret2
      have h3 := HO.out
      rw [HE.out] at h3
      refine ⟨A3, m, c3, ret_two rfl (congrArg (Value.int .i64) HC.out.symm), ?_, by omega, hb1.trans (hb.mono hb1.size)⟩
      rw [HV.out]
      exact (FrK.of_own (K := kB) h3.1 h3.2 HFI.out).mono hb1.size (Nat.le_refl _)

end Go.Proofs.Ytidhbpnibgegdaa
