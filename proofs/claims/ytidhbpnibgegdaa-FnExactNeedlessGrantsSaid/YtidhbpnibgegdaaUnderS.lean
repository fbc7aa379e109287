/- spec.l28Under: what lies under a role. -/
import Derived.Test.YtidhbpnibgegdaaFind
namespace Go.Proofs.Ytidhbpnibgegdaa
open Go.RowKit
set_option linter.unusedVariables false

def kBo : Kind Bool := ⟨fun b => [.bool b], 1, fun _ => True, fun _ => rfl, by intro x u hu; simp at hu; subst hu; rfl⟩
theorem cK_kBo (xs : List Bool) : cK kBo xs = xs.map Value.bool := by
  induction xs with
  | nil => rfl
  | cons x xs ih =>
    have e1 : cK kBo (x :: xs) = .bool x :: cK kBo xs := rfl
    rw [e1, List.map_cons, ih]
theorem cK_kBo_at {xs : List Bool} {k : Nat} {x : Bool} (h : xs[k]? = some x) : (cK kBo xs)[k]? = some (.bool x) := by rw [cK_kBo, List.getElem?_map, h]; rfl
theorem cK_kBo_set {xs : List Bool} {k : Nat} {x : Bool} : (cK kBo xs).set k (.bool x) = cK kBo (xs.set k x) := by rw [cK_kBo, cK_kBo, List.map_set]
theorem RdK.atBo {w : World} {A : Option Addr} {n : Nat} {xs : List Bool} {k : Nat} (h : RdK kBo w A n xs) (hk : k < n) :
    ∃ b off x, A = some ⟨b, off, none⟩ ∧ b < w.heap.size ∧ Hid (xs[k]? = some x) ∧ w.cell? ⟨b, off + k, none⟩ = some (.bool x) := by
  obtain ⟨b, off, x, hA, hb, hx, hf, hc⟩ := h.atK hk
  have h0 := hc 0 _ rfl
  have e : off + (k * kBo.size + 0) = off + k := by show off + (k * 1 + 0) = off + k; omega
  rw [e] at h0
  exact ⟨b, off, x, hA, hb, hx, h0⟩

theorem Try.infoBo : (Try.prog.info? 4).map (fun i => (i.zero, i.size, i.bytes)) = some (some (.bool false), 1, 1) := by kernel_rfl

theorem undersAt_at {rs : List RoleZ} {i : Nat} {r : RoleZ} (h : rs[i]? = some r) : undersAt rs i = r.under := by unfold undersAt; rw [h]
theorem mark_zero {rs : List RoleZ} {us : List ByteArray} {out : List Bool} : markZ rs (us.take 0) out = out := rfl
theorem mark_step {rs : List RoleZ} {us : List ByteArray} {out : List Bool} {k : Nat} {u : ByteArray} (h : us[k]? = some u) : markZ rs (us.take (k + 1)) out = (markZ rs (us.take k) out).set (findN rs u) true := by
  rw [take_snoc h, mark_snoc]
theorem row_yes {rs : List RoleZ} {t i : Nat} {out : List Bool} {r : RoleZ} (hr : rs[i]? = some r) (h : i = t ∨ out[i]? = some true) {k : Nat} (hk : r.under.length ≤ k) : rowZ rs t i out = markZ rs (r.under.take k) out := by
  unfold rowZ
  rw [if_pos h, undersAt_at hr, List.take_of_length_le hk]
theorem row_no {rs : List RoleZ} {t i : Nat} {out : List Bool} (h : ¬(i = t ∨ out[i]? = some true)) : rowZ rs t i out = out := by
  unfold rowZ
  rw [if_neg h]
theorem row_none {rs : List RoleZ} {t i : Nat} {out : List Bool} {r : RoleZ} (hr : rs[i]? = some r) (h : r.under = []) : rowZ rs t i out = out := by
  unfold rowZ
  split
  · rw [undersAt_at hr, h]; rfl
  · rfl

/-- What l28Under leaves. -/
def UndPost (xs : List Bool) (n : Nat) (w : World) (e : Ending) (w' : World) : Prop :=
  ∃ A' c', e = .returned (.slice A' n c') ∧ w'.ownsRow w.heap.size 4 1 (.slice A' n c') n (cK kBo xs) ∧ Below w.heap.size w w'

set_option maxHeartbeats 4000000 in
theorem l28Under_calls (A : Option Addr) (n c : Nat) (rs : List RoleZ) (t : Nat) (w : World) (h : RdRz w A n rs) (hn : n ≤ 1048576) (hf : ∀ r ∈ rs, ∀ u ∈ r.under, hasR rs u = true) :
    Calls Try.prog 65 #[.slice A n c, .int .i64 (t : Int)] w (UndPost (underB rs t) n w) := by
  obtain ⟨i0, hi, hz0, hz1, hz2⟩ := info_parts Try.infoBo
  have HL := hide h.len
  have HF := hide hf
  clear hf
  go_enter Try.func65, Try.ntmps65
  go_wp2_with (refine wpList_make_full _ rfl _ _ 79 rfl w.heap.size 4 i0 (.bool false) 1 Try.underlying79 hi hz0 hz1 .i64 .i64 _ _ n rfl rfl rfl rfl (by rw [hz2]; omega) (by unfold maxLen; omega) (Nat.le_refl _) ?_; intro w1 hown1 hgr1)
  have hb1 : Below w.heap.size w w1 := (Below.refl _ _).grown hgr1 (Nat.le_refl _) (fun k hk => by cases hk)
  have hown0 : w1.ownsRow w.heap.size 4 1 (.slice (some ⟨w.heap.size, 0, none⟩) n n) n (cK kBo (turnsZ rs t 0)) := by
    rw [cK_kBo, turnsZ, HL.out]
    simpa [toList_madeCells_one, Value.cells] using hown1
  have HO0 := hide hown0
  clear hown1 hown0 hgr1 hz0 hz1 hz2 hi
  -- the turns
  go_loopw [6] (fun i wr => ∃ (T : Nat), T ≤ n ∧ i = .int .i64 T ∧ Hid (wr.ownsRow w.heap.size 4 1 (.slice (some ⟨w.heap.size, 0, none⟩) n n) n (cK kBo (turnsZ rs t T))) ∧ Below w.heap.size w wr) (fun i _ => n - (intOf i).toNat)
  case atStart => exact ⟨0, Nat.zero_le _, rfl, HO0, hb1⟩
  case round =>
    clear HO0
    obtain ⟨T, hT, rfl, HO, hb⟩ := hrel
    by_cases hlt : T < n
    · obtain ⟨wo, rfl⟩ : ∃ wo : World, wo = wr := ⟨_, rfl⟩
      go_wp2
      -- the roles
      go_loopw [7] (fun i wr => ∃ (I : Nat), I ≤ n ∧ i = .int .i64 I ∧ Hid (wr.ownsRow w.heap.size 4 1 (.slice (some ⟨w.heap.size, 0, none⟩) n n) n (cK kBo (passZ rs t (turnsZ rs t T) I))) ∧ Below w.heap.size w wr) (fun i _ => n - (intOf i).toNat)
      case atStart => exact ⟨0, Nat.zero_le _, rfl, HO, hb⟩
      case round =>
        clear HO hb
        obtain ⟨I, hI, rfl, HO, hb⟩ := hrel
        by_cases hli : I < n
        · obtain ⟨b, off, nm, Aq, nq, cq, us, rfl, hbl, hx, _, hc0, _, hst0, hnq⟩ := h.at hli
          obtain ⟨P, hP⟩ : ∃ P, P = passZ rs t (turnsZ rs t T) I := ⟨_, rfl⟩
          have hPl : P.length = n := by rw [hP, pass_len, HL.out]
          have hrow : passZ rs t (turnsZ rs t T) (I + 1) = rowZ rs t I P := by rw [hP]; rfl
          rw [← hP] at HO
          have HR := hide hrow
          have HPL := hide hPl
          have HUL := hide hst0.2.1
          have HUF := hide (HF.out _ (List.mem_of_getElem? hx.out))
          simp only at HUF
          clear hP hrow hPl
          obtain ⟨wo2, rfl⟩ : ∃ wo2 : World, wo2 = wr := ⟨_, rfl⟩
          go_wp2
          -- the names under it
          go_loopw [8] (fun i wr => ∃ (J : Nat), J ≤ nq ∧ i = .int .i64 J ∧ Hid (wr.ownsRow w.heap.size 4 1 (.slice (some ⟨w.heap.size, 0, none⟩) n n) n (cK kBo (markZ rs (us.take J) P))) ∧ Hid (0 < J → (I = t ∨ P[I]? = some true)) ∧ Below w.heap.size w wr) (fun i _ => nq - (intOf i).toNat)
          case atStart => exact ⟨0, Nat.zero_le _, rfl, by rw [mark_zero]; exact HO, fun h => absurd h (by omega), hb⟩
          case round =>
            clear HO hb
            obtain ⟨J, hJ, rfl, HO, HC, hb⟩ := hrel
            have hc2 := (hb.cell (p := ⟨b, off + I * 2 + 1, none⟩) hbl).trans hc0
            by_cases hj : J < nq
            · -- the name at J, its place, the store
              obtain ⟨b3, off3, u, rfl, hbl3, hu, hcu, hsu⟩ := RdK.atB (hst0.below hb (Nat.le_refl _)) hj
              have hhas := HUF.out u (List.mem_of_getElem? hu.out)
              have hfi := findI_yes hhas
              have hfn : findN rs u < n := by have := hasR_iff.1 hhas; have := HL.out; omega
              have HM := hide (l28Find_calls (some ⟨b, off, none⟩) n c rs u wr (h.below hb (Nat.le_refl _)) hn)
              rw [hfi] at HM
              obtain ⟨v0, q0, r0, hst⟩ := own_store (k := findN rs u) HO.out (by omega)
              have HN : Hid ((wr.setCell ⟨w.heap.size, findN rs u, none⟩ (.bool true)).ownsRow w.heap.size 4 1 (.slice (some ⟨w.heap.size, 0, none⟩) n n) n (cK kBo (markZ rs (us.take (J + 1)) P))) := by
                have := hst.out (.bool true)
                rw [cK_kBo_set, ← mark_step hu.out] at this
                exact this
              have HBN := hide (hb.setCell (by simp) (p := ⟨w.heap.size, findN rs u, none⟩) (.bool true))
              clear hfi hhas hst
              by_cases he : I = t
              · have e1 : ((I : Int) == (t : Int)) = true := by simp [he]
                have HCN : Hid (0 < J + 1 → (I = t ∨ P[I]? = some true)) := fun _ => .inl he
                clear he
                go_wp2_with fail
                refine HM.out.mono ?_
                rintro e w2 ⟨rfl, rfl⟩
                go_wp2
                go_roundw
                case rel => exact ⟨J + 1, by omega, by go_num, HN, HCN, HBN.out⟩
                case measure => simp [intOf]; omega
              · have e1 : ((I : Int) == (t : Int)) = false := by simp; omega
                have hlen : I < (markZ rs (us.take J) P).length := by rw [mark_len, HPL.out]; exact hli
                have hcell : wr.cell? ⟨w.heap.size, I, none⟩ = some (.bool (markZ rs (us.take J) P)[I]) := by
                  rw [HO.out.cellAt I (by omega), cK_kBo_at (List.getElem?_eq_getElem hlen)]
                rcases b_cases ((markZ rs (us.take J) P)[I]) with hbv | hbv
                · have hJ0 : J = 0 := by
                    rcases Nat.eq_zero_or_pos J with h0 | h0
                    · exact h0
                    · rcases HC.out h0 with h1 | h1
                      · exact absurd h1 he
                      · have h2 := (mark_true (rs := rs) (us := us.take J)).2 (.inl h1)
                        rw [List.getElem?_eq_getElem hlen, hbv] at h2
                        cases h2
                  have HE : Hid (passZ rs t (turnsZ rs t T) (I + 1) = markZ rs (us.take J) P) := by
                    have hP0 : ¬(I = t ∨ P[I]? = some true) := by
                      rintro (h1 | h1)
                      · exact he h1
                      · have h2 := (mark_true (rs := rs) (us := us.take J)).2 (.inl h1)
                        rw [List.getElem?_eq_getElem hlen, hbv] at h2
                        cases h2
                    unfold Hid
                    rw [HR.out, row_no hP0, hJ0, mark_zero]
                  rw [hbv] at hcell
                  clear hbv hJ0 he
                  go_wp2
                  go_roundw
                  case rel => exact ⟨I + 1, by omega, by go_num, by rw [HE.out]; exact HO, hb⟩
                  case measure => simp [intOf]; omega
                · have HCN : Hid (0 < J + 1 → (I = t ∨ P[I]? = some true)) := fun _ => by
                    rcases Nat.eq_zero_or_pos J with h0 | h0
                    · right
                      have h2 := List.getElem?_eq_getElem hlen
                      rw [hbv] at h2
                      rw [h0, mark_zero] at h2
                      exact h2
                    · exact HC.out h0
                  rw [hbv] at hcell
                  clear hbv he
                  go_wp2_with fail
                  refine HM.out.mono ?_
                  rintro e w2 ⟨rfl, rfl⟩
                  go_wp2
                  go_roundw
                  case rel => exact ⟨J + 1, by omega, by go_num, HN, HCN, HBN.out⟩
                  case measure => simp [intOf]; omega
            · have hJn : J = nq := by omega
              have HE : Hid (passZ rs t (turnsZ rs t T) (I + 1) = markZ rs (us.take J) P) := by
                unfold Hid
                rw [HR.out]
                rcases Nat.eq_zero_or_pos J with h0 | h0
                · have hu0 : us = [] := List.eq_nil_of_length_eq_zero (by rw [HUL.out]; omega)
                  rw [row_none hx.out hu0, h0, mark_zero]
                · exact row_yes hx.out (HC.out h0) (by show us.length ≤ J; rw [HUL.out]; omega)
              clear hJn
              go_wp2
              go_roundw
              case rel => exact ⟨I + 1, by omega, by go_num, by rw [HE.out]; exact HO, hb⟩
              case measure => simp [intOf]; omega
        · have hIn : I = n := by omega
          have HE : Hid (passZ rs t (turnsZ rs t T) I = turnsZ rs t (T + 1)) := by
            unfold Hid
            rw [turnsZ, HL.out, hIn]
          clear hIn
          go_wp2
          go_roundw
          case rel => exact ⟨T + 1, by omega, by go_num, by rw [← HE.out]; exact HO, hb⟩
          case measure => simp [intOf]; omega
    · have hTn : T = n := by omega
      have HE : Hid (underB rs t = turnsZ rs t T) := by unfold Hid underB; rw [HL.out, hTn]
      clear hTn
      go_wp2
      go_ret
      exact ⟨_, _, rfl, by rw [HE.out]; exact HO.out, hb⟩

end Go.Proofs.Ytidhbpnibgegdaa
