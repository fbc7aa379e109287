/- Versions and lists of versions: what they read as, and the laws' helpers on them. -/
import Derived.Test.YtlomloepdnojoaaDoorRows
import Derived.Test.YtlomloepdnojoaaDoorBase
import Derived.Test.YtlomloepdnojoaaDoorIn
import Derived.Test.YtlomloepdnojoaaDoorSet
import Derived.Test.YtlomloepdnojoaaDoorFresh
import Derived.Deep.RegionHeld3
namespace Go.Proofs.YtlomloepdnojoaaDoor
open Go.RowKit
set_option linter.unusedVariables false

/-- A version, plainly. -/
structure VerZ where
  number : Int
  parent : Int
  memo : ByteArray
  state : List SetZ
/-- A version in memory: its state is a slice. -/
structure VerC where
  number : Int
  parent : Int
  memo : ByteArray
  A : Option Addr
  n : Nat
  c : Nat
  state : List SetZ
def VerC.z (r : VerC) : VerZ := ⟨r.number, r.parent, r.memo, r.state⟩
theorem verZ_iff {a b : VerZ} : a = b ↔ a.number = b.number ∧ a.parent = b.parent ∧ a.memo = b.memo ∧ a.state = b.state := by
  cases a; cases b; simp
instance : DecidableEq VerZ := fun a b => decidable_of_iff (a.number = b.number ∧ a.parent = b.parent ∧ a.memo = b.memo ∧ a.state = b.state) verZ_iff.symm
def cV (r : VerC) : List Value := [.int .i64 r.number, .int .i64 r.parent, .string r.memo, .slice r.A r.n r.c]
/-- The version's parts are in their types' ranges, and its state reads. -/
def VerC.fine (w : World) (r : VerC) : Prop := I64 r.number ∧ I64 r.parent ∧ r.memo.size ≤ 9223372036854775807 ∧ RdS w r.A r.n r.state ∧ r.n ≤ 9223372036854775807
/-- A slice of versions that reads as rs. -/
def RdV (w : World) (A : Option Addr) (n : Nat) (rs : List VerC) : Prop := Rd w A n 4 (rs.map cV).flatten ∧ rs.length = n ∧ ∀ r ∈ rs, r.fine w
/-- What the versions are, plainly. -/
def zV (rs : List VerC) : List VerZ := rs.map VerC.z

section
variable {w w' : World} {A : Option Addr} {n : Nat} {rs : List VerC}
theorem cV_len {rs : List VerC} : ∀ x ∈ rs.map cV, x.length = 4 := by
  intro x hx
  obtain ⟨s, _, rfl⟩ := List.mem_map.1 hx
  rfl
theorem VerC.fine.below {r : VerC} {B : Nat} (h : r.fine w) (hb : Below B w w') (hB : w.heap.size ≤ B) : r.fine w' := ⟨h.1, h.2.1, h.2.2.1, h.2.2.2.1.below hb hB, h.2.2.2.2⟩
theorem RdV.below {B : Nat} (h : RdV w A n rs) (hb : Below B w w') (hB : w.heap.size ≤ B) : RdV w' A n rs := ⟨h.1.below hb hB, h.2.1, fun r hr => (h.2.2 r hr).below hb hB⟩
theorem zV_at {k : Nat} {r : VerC} (h : rs[k]? = some r) : (zV rs)[k]? = some r.z := by simp [zV, h]
theorem zV_len (rs : List VerC) : (zV rs).length = rs.length := by simp [zV]
theorem RdV.at {k : Nat} (h : RdV w A n rs) (hk : k < n) :
    ∃ b off nu pa me Aq nq cq st, A = some ⟨b, off, none⟩ ∧ b < w.heap.size ∧ Hid (rs[k]? = some ⟨nu, pa, me, Aq, nq, cq, st⟩) ∧ w.cell? ⟨b, off + k * 4, none⟩ = some (.int .i64 nu) ∧ w.cell? ⟨b, off + k * 4 + 1, none⟩ = some (.int .i64 pa) ∧ w.cell? ⟨b, off + k * 4 + 2, none⟩ = some (.string me) ∧ w.cell? ⟨b, off + k * 4 + 3, none⟩ = some (.slice Aq nq cq)
      ∧ -9223372036854775808 ≤ nu ∧ nu ≤ 9223372036854775807 ∧ -9223372036854775808 ≤ pa ∧ pa ≤ 9223372036854775807 ∧ me.size ≤ 9223372036854775807 ∧ RdS w Aq nq st ∧ nq ≤ 9223372036854775807 := by
  obtain ⟨b, off, r, e, hb, hr, hc⟩ := h.1.row cV_len hk (by rw [List.length_map, h.2.1])
  have hkl : k < rs.length := by rw [h.2.1]; exact hk
  have hx := List.getElem?_eq_getElem hkl
  rw [List.getElem?_map, hx] at hr
  simp only [Option.map_some, Option.some.injEq] at hr
  subst hr
  have hf := h.2.2 _ (List.getElem_mem hkl)
  exact ⟨b, off, _, _, _, _, _, _, _, e, hb, hx, hc 0 _ rfl, hc 1 _ rfl, hc 2 _ rfl, hc 3 _ rfl, hf.1.1, hf.1.2, hf.2.1.1, hf.2.1.2, hf.2.2.1, hf.2.2.2.1, hf.2.2.2.2⟩
end

/-- What is known of a version whose size was counted. -/
def small (l : Int) (me : ByteArray) (nq : Nat) : Prop := (me.size : Int) ≤ l ∧ (nq : Int) ≤ l

set_option maxHeartbeats 1000000 in
theorem szVersion_calls (nu pa : Int) (me : ByteArray) (Aq : Option Addr) (nq cq : Nat) (st : List SetZ) (l : Int) (w : World) (h : RdS w Aq nq st) (h0 : 0 ≤ l) (h1 : l ≤ 1048576) (hs : me.size ≤ 9223372036854775807) (hn : nq ≤ 9223372036854775807) :
    Calls Tryd.prog 49 #[.agg #[.int .i64 nu, .int .i64 pa, .string me, .slice Aq nq cq], .int .i64 l] w (SzPost l (small l me nq) w) := by
  have B := hide ((Below.refl w.heap.size w).alloc (Nat.le_refl _) (.cells #[.int .i64 nu, .int .i64 pa, .string me, .slice Aq nq cq] 82))
  by_cases c1 : l - me.size < 0
  · go_enter Tryd.func49, Tryd.ntmps49
    go_wp2
    go_ret
    exact ⟨-1, rfl, by omega, by omega, by omega, B.out⟩
  · go_enter Tryd.func49, Tryd.ntmps49
    go_wp2_with fail
    refine (szSettingS_calls _ _ _ st _ _ (h.below B.out (Nat.le_refl _)) (by omega) (by omega) hn).mono ?_
    rintro e w1 ⟨r, rfl, hr1, hr2, hr3, hb1⟩
    have hbx := B.out.trans (hb1.mono B.out.size)
    by_cases hneg : r < 0
    · clear hr3
      go_wp2
      go_ret
      exact ⟨-1, rfl, by omega, by omega, by omega, hbx⟩
    · have hr4 := hr3 (by omega)
      have hq := hide hr4
      clear hr3 hr4
      go_wp2
      go_ret
      exact ⟨_, rfl, by omega, by omega, fun _ => ⟨by omega, by have := hq.out.1; omega⟩, hbx⟩

set_option maxHeartbeats 1000000 in
theorem szVersionS_calls (A : Option Addr) (n c : Nat) (rs : List VerC) (l : Int) (w : World) (h : RdV w A n rs) (h0 : 0 ≤ l) (h1 : l ≤ 1048576) (hn : n ≤ 9223372036854775807) :
    Calls Tryd.prog 10 #[.slice A n c, .int .i64 l] w (SzPost l ((n : Int) ≤ l ∧ ∀ r ∈ rs, small l r.memo r.n) w) := by
  have HL := hide h.2.1
  by_cases c1 : l - n < 0
  · go_enter Tryd.func10, Tryd.ntmps10
    go_wp2
    go_ret
    exact ⟨-1, rfl, by omega, by omega, by omega, Below.refl _ _⟩
  · go_enter Tryd.func10, Tryd.ntmps10
    go_wp2
    go_loopw [1, 5] (fun l' i wr => ∃ (k : Nat) (q : Int), k ≤ n ∧ i = .int .i64 k ∧ l' = .int .i64 q ∧ 0 ≤ q ∧ q ≤ l ∧ Below w.heap.size w wr ∧ Hid (∀ r ∈ rs.take k, small l r.memo r.n)) (fun _ i _ => n - (intOf i).toNat)
    case atStart => exact ⟨0, l - n, by omega, rfl, rfl, by omega, by omega, Below.refl _ _, by simp [Hid]⟩
    case round =>
      obtain ⟨k, q, hk, rfl, rfl, hq1, hq2, hb, hall⟩ := hrel
      by_cases hlt : k < n
      · obtain ⟨b, off, nu, pa, me, Aq, nq, cq, st, rfl, hbl, hx, hc, hc2, hc3, hc4, hn1, hn2, hp1, hp2, hme, hst, hnq⟩ := (h.below hb (Nat.le_refl _)).at hlt
        go_wp2_with fail
        refine (szVersion_calls _ _ _ _ _ _ _ _ _ hst hq1 (by omega) hme hnq).mono ?_
        rintro e w1 ⟨r, rfl, hr1, hr2, hr3, hb1⟩
        by_cases hneg : r < 0
        · clear hr3
          go_wp2
          go_ret
          exact ⟨-1, rfl, by omega, by omega, by omega, hb.trans (hb1.mono hb.size)⟩
        · have HA : Hid (∀ r ∈ rs.take (k + 1), small l r.memo r.n) := by
            unfold Hid
            rw [take_snoc hx.out]
            intro y hy
            rcases List.mem_append.1 hy with hy | hy
            · exact hall.out y hy
            · simp at hy
              subst hy
              have := hr3 (by omega)
              exact ⟨Int.le_trans this.1 hq2, Int.le_trans this.2 hq2⟩
          clear hr3
          go_wp2
          go_roundw
          case rel => exact ⟨k + 1, r, by omega, by go_num, rfl, by omega, by omega, hb.trans (hb1.mono hb.size), HA⟩
          case measure => simp [intOf]; omega
      · have hkn : k = n := by omega
        have HK := hide hkn
        clear hkn
        go_wp2
        go_ret
        refine ⟨q, rfl, by omega, by omega, fun _ => ⟨by omega, ?_⟩, hb⟩
        have := hall.out
        rwa [List.take_of_length_le (by rw [HL.out, HK.out]; omega)] at this

/-- Are two versions alike? -/
def eqVB (nu pa : Int) (me : ByteArray) (st : List SetZ) (nu' pa' : Int) (me' : ByteArray) (st' : List SetZ) : Bool := decide ((⟨nu, pa, me, st⟩ : VerZ) = ⟨nu', pa', me', st'⟩)
section
variable {nu pa nu' pa' : Int} {me me' : ByteArray} {st st' : List SetZ}
theorem eqVB_nu (h : nu ≠ nu') : eqVB nu pa me st nu' pa' me' st' = false := decide_eq_false (by rw [verZ_iff]; exact fun q => h q.1)
theorem eqVB_pa (h : pa ≠ pa') : eqVB nu pa me st nu' pa' me' st' = false := decide_eq_false (by rw [verZ_iff]; exact fun q => h q.2.1)
theorem eqVB_me (h : me ≠ me') : eqVB nu pa me st nu' pa' me' st' = false := decide_eq_false (by rw [verZ_iff]; exact fun q => h q.2.2.1)
theorem eqVB_st : eqVB nu pa me st nu pa me st' = decide (st = st') := by
  unfold eqVB
  rw [decide_eq_decide, verZ_iff]
  simp
theorem eqVB_true (h : eqVB nu pa me st nu' pa' me' st' = true) : (⟨nu, pa, me, st⟩ : VerZ) = ⟨nu', pa', me', st'⟩ := of_decide_eq_true h
theorem eqVB_false (h : eqVB nu pa me st nu' pa' me' st' = false) : (⟨nu, pa, me, st⟩ : VerZ) ≠ ⟨nu', pa', me', st'⟩ := of_decide_eq_false h
end

set_option maxHeartbeats 2000000 in
theorem eqVersion_calls (nu pa nu' pa' : Int) (me me' : ByteArray) (Aq Aq' : Option Addr) (nq cq nq' cq' : Nat) (st st' : List SetZ) (w : World) (h : RdS w Aq nq st) (h' : RdS w Aq' nq' st') (hn : nq ≤ 1048576) (hn' : nq' ≤ 1048576) :
    Calls Tryd.prog 60 #[.agg #[.int .i64 nu, .int .i64 pa, .string me, .slice Aq nq cq], .agg #[.int .i64 nu', .int .i64 pa', .string me', .slice Aq' nq' cq']] w fun e w' => e = .returned (.bool (eqVB nu pa me st nu' pa' me' st')) ∧ Below w.heap.size w w' := by
  have B := hide (((Below.refl w.heap.size w).alloc (Nat.le_refl _) (.cells #[.int .i64 nu, .int .i64 pa, .string me, .slice Aq nq cq] 77)).alloc (by simp) (.cells #[.int .i64 nu', .int .i64 pa', .string me', .slice Aq' nq' cq'] 77))
  by_cases c1 : nu = nu'
  case neg =>
    have e1 : (nu == nu') = false := by simpa using c1
    have e1' : (nu != nu') = true := by simpa using c1
    have HN := hide (eqVB_nu (pa := pa) (me := me) (st := st) (pa' := pa') (me' := me') (st' := st') c1)
    clear c1
    go_enter Tryd.func60, Tryd.ntmps60
    go_wp2
    go_ret
    exact ⟨ret_bool HN.out.symm, B.out⟩
  subst c1
  by_cases c2 : pa = pa'
  case neg =>
    have e1 : (pa == pa') = false := by simpa using c2
    have e1' : (pa != pa') = true := by simpa using c2
    have HN := hide (eqVB_pa (nu := nu) (me := me) (st := st) (nu' := nu) (me' := me') (st' := st') c2)
    clear c2
    go_enter Tryd.func60, Tryd.ntmps60
    go_wp2
    go_ret
    exact ⟨ret_bool HN.out.symm, B.out⟩
  subst c2
  by_cases c3 : me = me'
  case neg =>
    obtain ⟨e1, e1'⟩ := str_ne c3
    have HN := hide (eqVB_me (nu := nu) (pa := pa) (st := st) (nu' := nu) (pa' := pa) (st' := st') c3)
    clear c3
    go_enter Tryd.func60, Tryd.ntmps60
    go_wp2
    go_ret
    exact ⟨ret_bool HN.out.symm, B.out⟩
  subst c3
  have HN := hide (eqVB_st (nu := nu) (pa := pa) (me := me) (st := st) (st' := st'))
  go_enter Tryd.func60, Tryd.ntmps60
  rcases b_cases (decide (st = st')) with hd | hd
  all_goals
    rw [hd] at HN
    go_wp2_with (go_at_call 112; refine (eqSettingS_calls _ _ _ _ _ _ st st' _ (h.below B.out (Nat.le_refl _)) (h'.below B.out (Nat.le_refl _)) hn hn').mono ?_; rw [hd]; rintro e w1 ⟨rfl, hb1⟩)
    go_ret
    exact ⟨ret_bool HN.out.symm, B.out.trans (hb1.mono B.out.size)⟩

set_option maxHeartbeats 2000000 in
theorem eqVersionS_calls (A A' : Option Addr) (n n' c c' : Nat) (rs ts : List VerC) (w : World) (h : RdV w A n rs) (h' : RdV w A' n' ts) (hn : n ≤ 1048576) (hn' : n' ≤ 1048576) (hq : ∀ r ∈ rs, r.n ≤ 1048576) (hq' : ∀ r ∈ ts, r.n ≤ 1048576) :
    Calls Tryd.prog 14 #[.slice A n c, .slice A' n' c'] w fun e w' => e = .returned (.bool (decide (zV rs = zV ts))) ∧ Below w.heap.size w w' := by
  have HL := hide ((zV_len rs).trans h.2.1)
  have HL' := hide ((zV_len ts).trans h'.2.1)
  have HQ := hide hq
  have HQ' := hide hq'
  clear hq hq'
  by_cases hnn : n = n'
  · subst hnn
    go_enter Tryd.func14, Tryd.ntmps14
    go_wp2
    go_loopw [5] (fun i wr => ∃ (k : Nat), k ≤ n ∧ i = .int .i64 k ∧ Hid ((zV rs).take k = (zV ts).take k) ∧ Below w.heap.size w wr) (fun i _ => n - (intOf i).toNat)
    case atStart => exact ⟨0, Nat.zero_le _, rfl, by simp [Hid], Below.refl _ _⟩
    case round =>
      obtain ⟨k, hk, rfl, HC, hb⟩ := hrel
      by_cases hlt : k < n
      · obtain ⟨b, off, nu, pa, me, Aq, nq, cq, st, rfl, hbl, hx, hc, hc2, hc3, hc4, hn1, hn2, hp1, hp2, hme, hst, hnq⟩ := (h.below hb (Nat.le_refl _)).at hlt
        obtain ⟨b', off', nu', pa', me', Aq', nq', cq', st', rfl, hbl', hx', hc', hc2', hc3', hc4', hn1', hn2', hp1', hp2', hme', hst', hnq'⟩ := (h'.below hb (Nat.le_refl _)).at hlt
        have hm1 := HQ.out _ (List.mem_of_getElem? hx.out)
        have hm2 := HQ'.out _ (List.mem_of_getElem? hx'.out)
        simp only at hm1 hm2
        have hz := hide (zV_at hx.out)
        have hz' := hide (zV_at hx'.out)
        have hs1 : RdS wr.drew Aq nq st := hst
        have hs2 : RdS wr.drew Aq' nq' st' := hst'
        rcases b_cases (eqVB nu pa me st nu' pa' me' st') with he | he
        all_goals
          go_wp2
          first
            | go_region_held3 (fun w' => w'.cell? ⟨b, off + k * 4, none⟩ = some (.int .i64 nu) ∧ w'.cell? ⟨b, off + k * 4 + 1, none⟩ = some (.int .i64 pa) ∧ w'.cell? ⟨b, off + k * 4 + 2, none⟩ = some (.string me) ∧ w'.cell? ⟨b, off + k * 4 + 3, none⟩ = some (.slice Aq nq cq) ∧ w'.cell? ⟨b', off' + k * 4, none⟩ = some (.int .i64 nu') ∧ w'.cell? ⟨b', off' + k * 4 + 1, none⟩ = some (.int .i64 pa') ∧ w'.cell? ⟨b', off' + k * 4 + 2, none⟩ = some (.string me') ∧ w'.cell? ⟨b', off' + k * 4 + 3, none⟩ = some (.slice Aq' nq' cq'))
                (first | exact ⟨hc, hc2, hc3, hc4, hc', hc2', hc3', hc4'⟩ | exact ⟨(hb3.cell (p := ⟨b, off + k * 4, none⟩) hbl).trans hc, (hb3.cell (p := ⟨b, off + k * 4 + 1, none⟩) hbl).trans hc2, (hb3.cell (p := ⟨b, off + k * 4 + 2, none⟩) hbl).trans hc3, (hb3.cell (p := ⟨b, off + k * 4 + 3, none⟩) hbl).trans hc4, (hb3.cell (p := ⟨b', off' + k * 4, none⟩) hbl').trans hc', (hb3.cell (p := ⟨b', off' + k * 4 + 1, none⟩) hbl').trans hc2', (hb3.cell (p := ⟨b', off' + k * 4 + 2, none⟩) hbl').trans hc3', (hb3.cell (p := ⟨b', off' + k * 4 + 3, none⟩) hbl').trans hc4'⟩)
                (first | (go_at_call 60; refine (eqVersion_calls _ _ _ _ _ _ _ _ _ _ _ _ st st' _ hs1 hs2 hm1 hm2).mono ?_; rw [he]; rintro e w3 ⟨rfl, hb3⟩))
            | fail
        · go_wp2
          go_ret
          exact ⟨ret_bool (decide_eq_false (ne_of_at hz.out hz'.out (eqVB_false he))).symm, hb.drew.trans (hb3.mono hb.size)⟩
        · go_wp2
          go_roundw
          case rel =>
            refine ⟨k + 1, by omega, by go_num, ?_, hb.drew.trans (hb3.mono hb.size)⟩
            unfold Hid
            rw [take_snoc hz.out, take_snoc hz'.out, HC.out]
            congr 2
            exact eqVB_true he
          case measure => simp [intOf]; omega
      · have hkn : k = n := by omega
        subst hkn
        go_wp2
        go_ret
        exact ⟨ret_bool (decide_eq_true (eq_of_takes HL.out HL'.out HC.out)).symm, hb⟩
  · have hne : ((n : Int) != n') = true := by simp; omega
    go_enter Tryd.func14, Tryd.ntmps14
    go_wp2
    go_ret
    exact ⟨ret_bool (decide_eq_false (ne_of_len HL.out HL'.out hnn)).symm, Below.refl _ _⟩

end Go.Proofs.YtlomloepdnojoaaDoor
