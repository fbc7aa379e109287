/- Roles and lists of roles in memory: what they read as, and the laws' helpers on them. -/
import Derived.Test.YtidhbpnibgegdaaRolesZ
import Derived.Test.YtidhbpnibgegdaaStB
import Derived.Test.YtidhbpnibgegdaaFresh
import Derived.Deep.RegionHeld3
namespace Go.Proofs.Ytidhbpnibgegdaa
open Go.RowKit
set_option linter.unusedVariables false

/-- A role in memory: the names under it are a slice. -/
structure RoleC where
  name : ByteArray
  A : Option Addr
  n : Nat
  c : Nat
  under : List ByteArray
def RoleC.z (r : RoleC) : RoleZ := ⟨r.name, r.under⟩
def cR (r : RoleC) : List Value := [.string r.name, .slice r.A r.n r.c]
/-- The role's parts are in their types' ranges, and its names read. -/
def RoleC.fine (w : World) (r : RoleC) : Prop := r.name.size ≤ 9223372036854775807 ∧ RdK kB w r.A r.n r.under ∧ r.n ≤ 9223372036854775807
/-- A slice of roles that reads as rs. -/
def RdR (w : World) (A : Option Addr) (n : Nat) (rs : List RoleC) : Prop := Rd w A n 2 (rs.map cR).flatten ∧ rs.length = n ∧ ∀ r ∈ rs, r.fine w
def zR (rs : List RoleC) : List RoleZ := rs.map RoleC.z

section
variable {w w' : World} {A : Option Addr} {n : Nat} {rs : List RoleC}
theorem cR_len {rs : List RoleC} : ∀ x ∈ rs.map cR, x.length = 2 := by
  intro x hx
  obtain ⟨s, _, rfl⟩ := List.mem_map.1 hx
  rfl
theorem RoleC.fine.below {r : RoleC} {B : Nat} (h : r.fine w) (hb : Below B w w') (hB : w.heap.size ≤ B) : r.fine w' := ⟨h.1, h.2.1.below hb hB, h.2.2⟩
theorem RdR.below {B : Nat} (h : RdR w A n rs) (hb : Below B w w') (hB : w.heap.size ≤ B) : RdR w' A n rs := ⟨h.1.below hb hB, h.2.1, fun r hr => (h.2.2 r hr).below hb hB⟩
theorem RdR.drewN (h : RdR w A n rs) (k : Nat) : RdR (w.drewN k) A n rs := h
theorem zR_at {k : Nat} {r : RoleC} (h : rs[k]? = some r) : (zR rs)[k]? = some r.z := by simp [zR, h]
theorem zR_len (rs : List RoleC) : (zR rs).length = rs.length := by simp [zR]
theorem RdR.at {k : Nat} (h : RdR w A n rs) (hk : k < n) :
    ∃ b off nm Aq nq cq us, A = some ⟨b, off, none⟩ ∧ b < w.heap.size ∧ Hid (rs[k]? = some ⟨nm, Aq, nq, cq, us⟩) ∧ w.cell? ⟨b, off + k * 2, none⟩ = some (.string nm) ∧ w.cell? ⟨b, off + k * 2 + 1, none⟩ = some (.slice Aq nq cq)
      ∧ nm.size ≤ 9223372036854775807 ∧ RdK kB w Aq nq us ∧ nq ≤ 9223372036854775807 := by
  obtain ⟨b, off, r, e, hb, hr, hc⟩ := h.1.row cR_len hk (by rw [List.length_map, h.2.1])
  have hkl : k < rs.length := by rw [h.2.1]; exact hk
  have hx := List.getElem?_eq_getElem hkl
  rw [List.getElem?_map, hx] at hr
  simp only [Option.map_some, Option.some.injEq] at hr
  subst hr
  have hf := h.2.2 _ (List.getElem_mem hkl)
  exact ⟨b, off, _, _, _, _, _, e, hb, hx, hc 0 _ rfl, hc 1 _ rfl, hf.1, hf.2.1, hf.2.2⟩
end

/-- What is known of a role whose size was counted. -/
def smallR (l : Int) (nm : ByteArray) (nq : Nat) : Prop := (nm.size : Int) ≤ l ∧ (nq : Int) ≤ l

set_option maxHeartbeats 1000000 in
theorem szRole_calls (nm : ByteArray) (Aq : Option Addr) (nq cq : Nat) (us : List ByteArray) (l : Int) (w : World) (h : RdK kB w Aq nq us) (h0 : 0 ≤ l) (h1 : l ≤ 1048576) (hs : nm.size ≤ 9223372036854775807) (hn : nq ≤ 9223372036854775807) :
    Calls Try.prog 53 #[.agg #[.string nm, .slice Aq nq cq], .int .i64 l] w (SzPost l (smallR l nm nq) w) := by
  have B := hide ((Below.refl w.heap.size w).alloc (Nat.le_refl _) (.cells #[.string nm, .slice Aq nq cq] 69))
  by_cases c1 : l - nm.size < 0
  · go_enter Try.func53, Try.ntmps53
    go_wp2
    go_ret
    exact ⟨-1, rfl, by omega, by omega, by omega, B.out⟩
  · go_enter Try.func53, Try.ntmps53
    go_wp2_with fail
    refine (szStringS_calls _ _ _ us _ _ (h.below B.out (Nat.le_refl _)) (by omega) (by omega) hn).mono ?_
    rintro e w1 ⟨⟨r, rfl, hr1, hr2, hr3⟩, rfl⟩
    by_cases hneg : r < 0
    · clear hr3
      go_wp2
      go_ret
      exact ⟨-1, rfl, by omega, by omega, by omega, B.out⟩
    · have hr4 := hr3 (by omega)
      have hq := hide hr4
      clear hr3 hr4
      go_wp2
      go_ret
      exact ⟨_, rfl, by omega, by omega, fun _ => ⟨by omega, by have := hq.out.1; omega⟩, B.out⟩

set_option maxHeartbeats 1000000 in
theorem szRoleS_calls (A : Option Addr) (n c : Nat) (rs : List RoleC) (l : Int) (w : World) (h : RdR w A n rs) (h0 : 0 ≤ l) (h1 : l ≤ 1048576) (hn : n ≤ 9223372036854775807) :
    Calls Try.prog 14 #[.slice A n c, .int .i64 l] w (SzPost l ((n : Int) ≤ l ∧ ∀ r ∈ rs, smallR l r.name r.n) w) := by
  have HL := hide h.2.1
  by_cases c1 : l - n < 0
  · go_enter Try.func14, Try.ntmps14
    go_wp2
    go_ret
    exact ⟨-1, rfl, by omega, by omega, by omega, Below.refl _ _⟩
  · go_enter Try.func14, Try.ntmps14
    go_wp2
    go_loopw [1, 5] (fun l' i wr => ∃ (k : Nat) (q : Int), k ≤ n ∧ i = .int .i64 k ∧ l' = .int .i64 q ∧ 0 ≤ q ∧ q ≤ l ∧ Below w.heap.size w wr ∧ Hid (∀ r ∈ rs.take k, smallR l r.name r.n)) (fun _ i _ => n - (intOf i).toNat)
    case atStart => exact ⟨0, l - n, by omega, rfl, rfl, by omega, by omega, Below.refl _ _, by simp [Hid]⟩
    case round =>
      obtain ⟨k, q, hk, rfl, rfl, hq1, hq2, hb, hall⟩ := hrel
      by_cases hlt : k < n
      · obtain ⟨b, off, nm, Aq, nq, cq, us, rfl, hbl, hx, hc, hc2, hme, hst, hnq⟩ := (h.below hb (Nat.le_refl _)).at hlt
        go_wp2_with fail
        refine (szRole_calls _ _ _ _ _ _ _ hst hq1 (by omega) hme hnq).mono ?_
        rintro e w1 ⟨r, rfl, hr1, hr2, hr3, hb1⟩
        by_cases hneg : r < 0
        · clear hr3
          go_wp2
          go_ret
          exact ⟨-1, rfl, by omega, by omega, by omega, hb.trans (hb1.mono hb.size)⟩
        · have HA : Hid (∀ r ∈ rs.take (k + 1), smallR l r.name r.n) := by
            unfold Hid
            rw [take_snoc hx.out]
            intro y hy
            rcases List.mem_append.1 hy with hy | hy
            · exact hall.out y hy
            · simp at hy
              subst hy
              have := hr3 (by omega)
              exact ⟨Int.le_trans this.1 hq2, Int.le_trans this.2 hq2⟩
          clear hr3
          go_wp2
          go_roundw
          case rel => exact ⟨k + 1, r, by omega, by go_num, rfl, by omega, by omega, hb.trans (hb1.mono hb.size), HA⟩
          case measure => simp [intOf]; omega
      · have hkn : k = n := by omega
        have HK := hide hkn
        clear hkn
        go_wp2
        go_ret
        refine ⟨q, rfl, by omega, by omega, fun _ => ⟨by omega, ?_⟩, hb⟩
        have := hall.out
        rwa [List.take_of_length_le (by rw [HL.out, HK.out]; omega)] at this

/-- Are two roles alike? -/
def eqRB (nm : ByteArray) (us : List ByteArray) (nm' : ByteArray) (us' : List ByteArray) : Bool := decide ((⟨nm, us⟩ : RoleZ) = ⟨nm', us'⟩)
section
variable {nm nm' : ByteArray} {us us' : List ByteArray}
theorem eqRB_nm (h : nm ≠ nm') : eqRB nm us nm' us' = false := decide_eq_false (by rw [roleZ_iff]; exact fun q => h q.1)
theorem eqRB_us : eqRB nm us nm us' = decide (us = us') := by
  unfold eqRB
  rw [decide_eq_decide, roleZ_iff]
  simp
theorem eqRB_true (h : eqRB nm us nm' us' = true) : (⟨nm, us⟩ : RoleZ) = ⟨nm', us'⟩ := of_decide_eq_true h
theorem eqRB_false (h : eqRB nm us nm' us' = false) : (⟨nm, us⟩ : RoleZ) ≠ ⟨nm', us'⟩ := of_decide_eq_false h
end

set_option maxHeartbeats 2000000 in
theorem eqRole_calls (nm nm' : ByteArray) (Aq Aq' : Option Addr) (nq cq nq' cq' : Nat) (us us' : List ByteArray) (w : World) (h : RdK kB w Aq nq us) (h' : RdK kB w Aq' nq' us') (hn : nq ≤ 1048576) (hn' : nq' ≤ 1048576) :
    Calls Try.prog 63 #[.agg #[.string nm, .slice Aq nq cq], .agg #[.string nm', .slice Aq' nq' cq']] w fun e w' => e = .returned (.bool (eqRB nm us nm' us')) ∧ Below w.heap.size w w' := by
  have B := hide (((Below.refl w.heap.size w).alloc (Nat.le_refl _) (.cells #[.string nm, .slice Aq nq cq] 70)).alloc (by simp) (.cells #[.string nm', .slice Aq' nq' cq'] 70))
  by_cases c3 : nm = nm'
  case neg =>
    obtain ⟨e1, e1'⟩ := str_ne c3
    have HN := hide (eqRB_nm (us := us) (us' := us') c3)
    clear c3
    go_enter Try.func63, Try.ntmps63
    go_wp2
    go_ret
    exact ⟨ret_bool HN.out.symm, B.out⟩
  subst c3
  have HN := hide (eqRB_us (nm := nm) (us := us) (us' := us'))
  go_enter Try.func63, Try.ntmps63
  rcases b_cases (decide (us = us')) with hd | hd
  all_goals
    rw [hd] at HN
    go_wp2_with (go_at_call 21; refine (eqStringS_calls _ _ _ _ _ _ us us' _ (h.below B.out (Nat.le_refl _)) (h'.below B.out (Nat.le_refl _)) hn hn').mono ?_; rw [hd]; rintro e w1 ⟨rfl, hb1⟩)
    go_ret
    exact ⟨ret_bool HN.out.symm, B.out.trans (hb1.mono B.out.size)⟩

set_option maxHeartbeats 2000000 in
theorem eqRoleS_calls (A A' : Option Addr) (n n' c c' : Nat) (rs ts : List RoleC) (w : World) (h : RdR w A n rs) (h' : RdR w A' n' ts) (hn : n ≤ 1048576) (hn' : n' ≤ 1048576) (hq : ∀ r ∈ rs, r.n ≤ 1048576) (hq' : ∀ r ∈ ts, r.n ≤ 1048576) :
    Calls Try.prog 18 #[.slice A n c, .slice A' n' c'] w fun e w' => e = .returned (.bool (decide (zR rs = zR ts))) ∧ Below w.heap.size w w' := by
  have HL := hide ((zR_len rs).trans h.2.1)
  have HL' := hide ((zR_len ts).trans h'.2.1)
  have HQ := hide hq
  have HQ' := hide hq'
  clear hq hq'
  by_cases hnn : n = n'
  · subst hnn
    go_enter Try.func18, Try.ntmps18
    go_wp2
    go_loopw [5] (fun i wr => ∃ (k : Nat), k ≤ n ∧ i = .int .i64 k ∧ Hid ((zR rs).take k = (zR ts).take k) ∧ Below w.heap.size w wr) (fun i _ => n - (intOf i).toNat)
    case atStart => exact ⟨0, Nat.zero_le _, rfl, by simp [Hid], Below.refl _ _⟩
    case round =>
      obtain ⟨k, hk, rfl, HC, hb⟩ := hrel
      by_cases hlt : k < n
      · obtain ⟨b, off, nm, Aq, nq, cq, us, rfl, hbl, hx, hc, hc2, hme, hst, hnq⟩ := (h.below hb (Nat.le_refl _)).at hlt
        obtain ⟨b', off', nm', Aq', nq', cq', us', rfl, hbl', hx', hc', hc2', hme', hst', hnq'⟩ := (h'.below hb (Nat.le_refl _)).at hlt
        have hm1 := HQ.out _ (List.mem_of_getElem? hx.out)
        have hm2 := HQ'.out _ (List.mem_of_getElem? hx'.out)
        simp only at hm1 hm2
        have hz := hide (zR_at hx.out)
        have hz' := hide (zR_at hx'.out)
        have hs1 : RdK kB wr.drew Aq nq us := hst
        have hs2 : RdK kB wr.drew Aq' nq' us' := hst'
        rcases b_cases (eqRB nm us nm' us') with he | he
        all_goals
          go_wp2
          first
            | go_region_held3 (fun w' => w'.cell? ⟨b, off + k * 2, none⟩ = some (.string nm) ∧ w'.cell? ⟨b, off + k * 2 + 1, none⟩ = some (.slice Aq nq cq) ∧ w'.cell? ⟨b', off' + k * 2, none⟩ = some (.string nm') ∧ w'.cell? ⟨b', off' + k * 2 + 1, none⟩ = some (.slice Aq' nq' cq'))
                (first | exact ⟨hc, hc2, hc', hc2'⟩ | exact ⟨(hb3.cell (p := ⟨b, off + k * 2, none⟩) hbl).trans hc, (hb3.cell (p := ⟨b, off + k * 2 + 1, none⟩) hbl).trans hc2, (hb3.cell (p := ⟨b', off' + k * 2, none⟩) hbl').trans hc', (hb3.cell (p := ⟨b', off' + k * 2 + 1, none⟩) hbl').trans hc2'⟩)
                (first | (go_at_call 63; refine (eqRole_calls _ _ _ _ _ _ _ _ us us' _ hs1 hs2 hm1 hm2).mono ?_; rw [he]; rintro e w3 ⟨rfl, hb3⟩))
            | fail
        · go_wp2
          go_ret
          exact ⟨ret_bool (decide_eq_false (ne_of_at hz.out hz'.out (eqRB_false he))).symm, hb.drew.trans (hb3.mono hb.size)⟩
        · go_wp2
          go_roundw
          case rel =>
            refine ⟨k + 1, by omega, by go_num, ?_, hb.drew.trans (hb3.mono hb.size)⟩
            unfold Hid
            rw [take_snoc hz.out, take_snoc hz'.out, HC.out]
            congr 2
            exact eqRB_true he
          case measure => simp [intOf]; omega
      · have hkn : k = n := by omega
        subst hkn
        go_wp2
        go_ret
        exact ⟨ret_bool (decide_eq_true (eq_of_takes HL.out HL'.out HC.out)).symm, hb⟩
  · have hne : ((n : Int) != n') = true := by simp; omega
    go_enter Try.func18, Try.ntmps18
    go_wp2
    go_ret
    exact ⟨ret_bool (decide_eq_false (ne_of_len HL.out HL'.out hnn)).symm, Below.refl _ _⟩

end Go.Proofs.Ytidhbpnibgegdaa
