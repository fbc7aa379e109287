/- Versions and lists of versions: what they read as, and the laws' helpers on them. -/
import Derived.Test.YtofombleojbehaaDoorRows
import Derived.Test.YtofombleojbehaaDoorBase
import Derived.Test.YtofombleojbehaaDoorIn
import Derived.Test.YtofombleojbehaaDoorSet
import Derived.Test.YtofombleojbehaaDoorFresh
import Derived.Deep.RegionHeld3
namespace Go.Proofs.YtofombleojbehaaDoor
open Go.RowKit
set_option linter.unusedVariables false

/-- A version, plainly. -/
structure VerZ where
  number : Int
  parent : Int
  memo : ByteArray
  state : List SetZ
/-- A version in memory: its state is a slice. -/
structure VerC where
  number : Int
  parent : Int
  memo : ByteArray
  A : Option Addr
  n : Nat
  c : Nat
  state : List SetZ
def VerC.z (r : VerC) : VerZ := ⟨r.number, r.parent, r.memo, r.state⟩
theorem verZ_iff {a b : VerZ} : a = b ↔ a.number = b.number ∧ a.parent = b.parent ∧ a.memo = b.memo ∧ a.state = b.state := by
  cases a; cases b; simp
instance : DecidableEq VerZ := fun a b => decidable_of_iff (a.number = b.number ∧ a.parent = b.parent ∧ a.memo = b.memo ∧ a.state = b.state) verZ_iff.symm
def cV (r : VerC) : List Value := [.int .i64 r.number, .int .i64 r.parent, .string r.memo, .slice r.A r.n r.c]
/-- The version's parts are in their types' ranges, and its state reads. -/
def VerC.fine (w : World) (r : VerC) : Prop := I64 r.number ∧ I64 r.parent ∧ r.memo.size ≤ 9223372036854775807 ∧ RdS w r.A r.n r.state ∧ r.n ≤ 9223372036854775807
/-- A slice of versions that reads as rs. -/
def RdV (w : World) (A : Option Addr) (n : Nat) (rs : List VerC) : Prop := Rd w A n 4 (rs.map cV).flatten ∧ rs.length = n ∧ ∀ r ∈ rs, r.fine w
/-- What the versions are, plainly. -/
def zV (rs : List VerC) : List VerZ := rs.map VerC.z

section
variable {w w' : World} {A : Option Addr} {n : Nat} {rs : List VerC}
theorem cV_len {rs : List VerC} : ∀ x ∈ rs.map cV, x.length = 4 := by
  intro x hx
  obtain ⟨s, _, rfl⟩ := List.mem_map.1 hx
  rfl
theorem VerC.fine.below {r : VerC} {B : Nat} (h : r.fine w) (hb : Below B w w') (hB : w.heap.size ≤ B) : r.fine w' := ⟨h.1, h.2.1, h.2.2.1, h.2.2.2.1.below hb hB, h.2.2.2.2⟩
theorem RdV.below {B : Nat} (h : RdV w A n rs) (hb : Below B w w') (hB : w.heap.size ≤ B) : RdV w' A n rs := ⟨h.1.below hb hB, h.2.1, fun r hr => (h.2.2 r hr).below hb hB⟩
theorem zV_at {k : Nat} {r : VerC} (h : rs[k]? = some r) : (zV rs)[k]? = some r.z := by simp [zV, h]
theorem zV_len (rs : List VerC) : (zV rs).length = rs.length := by simp [zV]
theorem RdV.at {k : Nat} (h : RdV w A n rs) (hk : k < n) :
    ∃ b off nu pa me Aq nq cq st, A = some ⟨b, off, none⟩ ∧ b < w.heap.size ∧ Hid (rs[k]? = some ⟨nu, pa, me, Aq, nq, cq, st⟩) ∧ w.cell? ⟨b, off + k * 4, none⟩ = some (.int .i64 nu) ∧ w.cell? ⟨b, off + k * 4 + 1, none⟩ = some (.int .i64 pa) ∧ w.cell? ⟨b, off + k * 4 + 2, none⟩ = some (.string me) ∧ w.cell? ⟨b, off + k * 4 + 3, none⟩ = some (.slice Aq nq cq)
      ∧ -9223372036854775808 ≤ nu ∧ nu ≤ 9223372036854775807 ∧ -9223372036854775808 ≤ pa ∧ pa ≤ 9223372036854775807 ∧ me.size ≤ 9223372036854775807 ∧ RdS w Aq nq st ∧ nq ≤ 9223372036854775807 := by
  obtain ⟨b, off, r, e, hb, hr, hc⟩ := h.1.row cV_len hk (by rw [List.length_map, h.2.1])
  have hkl : k < rs.length := by rw [h.2.1]; exact hk
  have hx := List.getElem?_eq_getElem hkl
  rw [List.getElem?_map, hx] at hr
  simp only [Option.map_some, Option.some.injEq] at hr
  subst hr
  have hf := h.2.2 _ (List.getElem_mem hkl)
  exact ⟨b, off, _, _, _, _, _, _, _, e, hb, hx, hc 0 _ rfl, hc 1 _ rfl, hc 2 _ rfl, hc 3 _ rfl, hf.1.1, hf.1.2, hf.2.1.1, hf.2.1.2, hf.2.2.1, hf.2.2.2.1, hf.2.2.2.2⟩
end

/-- What is known of a version whose size was counted. -/
def small (l : Int) (me : ByteArray) (nq : Nat) : Prop := (me.size : Int) ≤ l ∧ (nq : Int) ≤ l

set_option maxHeartbeats 1000000 in
theorem szVersion_calls (nu pa : Int) (me : ByteArray) (Aq : Option Addr) (nq cq : Nat) (st : List SetZ) (l : Int) (w : World) (h : RdS w Aq nq st) (h0 : 0 ≤ l) (h1 : l ≤ 1048576) (hs : me.size ≤ 9223372036854775807) (hn : nq ≤ 9223372036854775807) :
    Calls Tryd.prog 14 #[.agg #[.int .i64 nu, .int .i64 pa, .string me, .slice Aq nq cq], .int .i64 l] w (SzPost l (small l me nq) w) := by
  have B := hide ((Below.refl w.heap.size w).alloc (Nat.le_refl _) (.cells #[.int .i64 nu, .int .i64 pa, .string me, .slice Aq nq cq] 24))
  by_cases c1 : l - me.size < 0
  · go_enter Tryd.func14, Tryd.ntmps14
    go_wp2
    go_ret
    exact ⟨-1, rfl, by omega, by omega, by omega, B.out⟩
  · go_enter Tryd.func14, Tryd.ntmps14
    go_wp2_with fail
    refine (szSettingS_calls _ _ _ st _ _ (h.below B.out (Nat.le_refl _)) (by omega) (by omega) hn).mono ?_
    rintro e w1 ⟨r, rfl, hr1, hr2, hr3, hb1⟩
    have hbx := B.out.trans (hb1.mono B.out.size)
    by_cases hneg : r < 0
    · clear hr3
      go_wp2
      go_ret
      exact ⟨-1, rfl, by omega, by omega, by omega, hbx⟩
    · have hr4 := hr3 (by omega)
      have hq := hide hr4
      clear hr3 hr4
      go_wp2
      go_ret
      exact ⟨_, rfl, by omega, by omega, fun _ => ⟨by omega, by have := hq.out.1; omega⟩, hbx⟩

/-- Are two versions alike? -/
def eqVB (nu pa : Int) (me : ByteArray) (st : List SetZ) (nu' pa' : Int) (me' : ByteArray) (st' : List SetZ) : Bool := decide ((⟨nu, pa, me, st⟩ : VerZ) = ⟨nu', pa', me', st'⟩)
section
variable {nu pa nu' pa' : Int} {me me' : ByteArray} {st st' : List SetZ}
theorem eqVB_nu (h : nu ≠ nu') : eqVB nu pa me st nu' pa' me' st' = false := decide_eq_false (by rw [verZ_iff]; exact fun q => h q.1)
theorem eqVB_pa (h : pa ≠ pa') : eqVB nu pa me st nu' pa' me' st' = false := decide_eq_false (by rw [verZ_iff]; exact fun q => h q.2.1)
theorem eqVB_me (h : me ≠ me') : eqVB nu pa me st nu' pa' me' st' = false := decide_eq_false (by rw [verZ_iff]; exact fun q => h q.2.2.1)
theorem eqVB_st : eqVB nu pa me st nu pa me st' = decide (st = st') := by
  unfold eqVB
  rw [decide_eq_decide, verZ_iff]
  simp
theorem eqVB_true (h : eqVB nu pa me st nu' pa' me' st' = true) : (⟨nu, pa, me, st⟩ : VerZ) = ⟨nu', pa', me', st'⟩ := of_decide_eq_true h
theorem eqVB_false (h : eqVB nu pa me st nu' pa' me' st' = false) : (⟨nu, pa, me, st⟩ : VerZ) ≠ ⟨nu', pa', me', st'⟩ := of_decide_eq_false h
end

set_option maxHeartbeats 2000000 in
theorem eqVersion_calls (nu pa nu' pa' : Int) (me me' : ByteArray) (Aq Aq' : Option Addr) (nq cq nq' cq' : Nat) (st st' : List SetZ) (w : World) (h : RdS w Aq nq st) (h' : RdS w Aq' nq' st') (hn : nq ≤ 1048576) (hn' : nq' ≤ 1048576) :
    Calls Tryd.prog 18 #[.agg #[.int .i64 nu, .int .i64 pa, .string me, .slice Aq nq cq], .agg #[.int .i64 nu', .int .i64 pa', .string me', .slice Aq' nq' cq']] w fun e w' => e = .returned (.bool (eqVB nu pa me st nu' pa' me' st')) ∧ Below w.heap.size w w' := by
  have B := hide (((Below.refl w.heap.size w).alloc (Nat.le_refl _) (.cells #[.int .i64 nu, .int .i64 pa, .string me, .slice Aq nq cq] 29)).alloc (by simp) (.cells #[.int .i64 nu', .int .i64 pa', .string me', .slice Aq' nq' cq'] 29))
  by_cases c1 : nu = nu'
  case neg =>
    have e1 : (nu == nu') = false := by simpa using c1
    have e1' : (nu != nu') = true := by simpa using c1
    have HN := hide (eqVB_nu (pa := pa) (me := me) (st := st) (pa' := pa') (me' := me') (st' := st') c1)
    clear c1
    go_enter Tryd.func18, Tryd.ntmps18
    go_wp2
    go_ret
    exact ⟨ret_bool HN.out.symm, B.out⟩
  subst c1
  by_cases c2 : pa = pa'
  case neg =>
    have e1 : (pa == pa') = false := by simpa using c2
    have e1' : (pa != pa') = true := by simpa using c2
    have HN := hide (eqVB_pa (nu := nu) (me := me) (st := st) (nu' := nu) (me' := me') (st' := st') c2)
    clear c2
    go_enter Tryd.func18, Tryd.ntmps18
    go_wp2
    go_ret
    exact ⟨ret_bool HN.out.symm, B.out⟩
  subst c2
  by_cases c3 : me = me'
  case neg =>
    obtain ⟨e1, e1'⟩ := str_ne c3
    have HN := hide (eqVB_me (nu := nu) (pa := pa) (st := st) (nu' := nu) (pa' := pa) (st' := st') c3)
    clear c3
    go_enter Tryd.func18, Tryd.ntmps18
    go_wp2
    go_ret
    exact ⟨ret_bool HN.out.symm, B.out⟩
  subst c3
  have HN := hide (eqVB_st (nu := nu) (pa := pa) (me := me) (st := st) (st' := st'))
  go_enter Tryd.func18, Tryd.ntmps18
  rcases b_cases (decide (st = st')) with hd | hd
  all_goals
    rw [hd] at HN
    go_wp2_with (go_at_call 62; refine (eqSettingS_calls _ _ _ _ _ _ st st' _ (h.below B.out (Nat.le_refl _)) (h'.below B.out (Nat.le_refl _)) hn hn').mono ?_; rw [hd]; rintro e w1 ⟨rfl, hb1⟩)
    go_ret
    exact ⟨ret_bool HN.out.symm, B.out.trans (hb1.mono B.out.size)⟩

end Go.Proofs.YtofombleojbehaaDoor
