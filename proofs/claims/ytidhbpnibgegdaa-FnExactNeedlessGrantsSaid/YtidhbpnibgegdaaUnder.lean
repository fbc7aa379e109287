/- impl.under: the names of all roles under one. -/
import Derived.Test.YtidhbpnibgegdaaFind
import Derived.Test.YtidhbpnibgegdaaOwnL
import Derived.Test.YtidhbpnibgegdaaSortB
import Derived.Maps.AppendAt
import Derived.Deep.Cut
namespace Go.Proofs.Ytidhbpnibgegdaa
open Go.RowKit
set_option linter.unusedVariables false

theorem riseB_sort {xs : List ByteArray} (h : RiseB xs) (hn : xs.Nodup) : SortB xs := by
  unfold RiseB at h
  unfold SortB
  exact (List.pairwise_and_iff.2 ⟨h, hn⟩).imp fun ⟨h1, h2⟩ => not_less h1 (fun e => h2 e.symm)

/-- Two rows of strings of the call's own, apart. -/
def TwoB (w : World) (base : Nat) (u v : Value) (n m : Nat) (xs ys : List ByteArray) : Prop :=
  w.ownsRow base 9 1 u n (cK kB xs) ∧ w.ownsRow base 9 1 v m (cK kB ys) ∧ ∀ g, u.ownBlock = some g → v.ownBlock ≠ some g
theorem TwoB.swap {w : World} {base : Nat} {u v : Value} {n m : Nat} {xs ys : List ByteArray} (h : TwoB w base u v n m xs ys) : TwoB w base v u m n ys xs := ⟨h.2.1, h.1, fun g h1 h2 => h.2.2 g h2 h1⟩
theorem TwoB.below {w w' : World} {base : Nat} {u v : Value} {n m : Nat} {xs ys : List ByteArray} (h : TwoB w base u v n m xs ys) (hb : Below w.heap.size w w') : TwoB w' base u v n m xs ys := ⟨own_below h.1 hb (Nat.le_refl _), own_below h.2.1 hb (Nat.le_refl _), h.2.2⟩
theorem TwoB.grown {w w' : World} {base : Nat} {u u' v : Value} {n n' m : Nat} {xs xs' ys : List ByteArray} {o : Obj} (h : TwoB w base u v n m xs ys) (hown : w'.ownsRow base 9 1 u' n' (cK kB xs')) (hg : (w.alloc o).grownBy w' u.ownBlock) (hat : u'.ownBlock = u.ownBlock ∨ u'.ownBlock = some (w.alloc o).heap.size) : TwoB w' base u' v n' m xs' ys := by
  have hne : v.ownBlock = none ∨ v.ownBlock ≠ u.ownBlock := by
    cases hv : v.ownBlock with
    | none => exact .inl rfl
    | some g => exact .inr fun e => h.2.2 g e.symm hv
  refine ⟨hown, (h.2.1.alloc o).kept hg hne, fun g h1 h2 => ?_⟩
  rcases hat with ha | ha
  · rw [ha] at h1
    exact h.2.2 g h1 h2
  · rw [ha] at h1
    injection h1 with h1
    have := (h.2.1.lt g h2).2
    simp at h1
    omega

/-- Appending one string: where the row lies behind it. -/
theorem appB2 {w : World} {ops : Array Oper} {rest : List Oper} {o : Oper} {a : Act} {Q : Exit → Act → World → Prop} (hgd : o.guard = none) (s x : Operand)
    (ho : o.op = .call { callee := .builtin .append, args := #[s, x], argTypes := #[29, 29] })
    (base : Nat) (v v2 : Value) (n m : Nat) (xs ys : List ByteArray) (u : ByteArray) (hs : a.eval s = v) (htwo : TwoB w base v v2 n m xs ys) (hx : a.eval x = .slice (some ⟨w.heap.size, 0, none⟩) 1 1)
    (hn : n ≤ 1099511627776) (hbase : base ≤ w.heap.size)
    (h : ∀ v' w', TwoB w' base v' v2 (n + 1) m (xs ++ [u]) ys → Below base w w' → w.heap.size ≤ w'.heap.size → wpList Try.prog ops Q rest (a.put o.dst v') w') : wpList Try.prog ops Q (o :: rest) a (w.alloc (.cells #[.string u] 9)) := by
  obtain ⟨i, hi, hz0, hz1, hz2⟩ := info_parts Try.infoB
  have hown := htwo.1
  refine wpList_append_own_at _ hgd s x 29 ho base 9 i (.string ⟨#[]⟩) 1 16 Try.underlying29 hi hz0 hz1 hz2 rfl (by decide) v n (cK kB xs) hs (hown.alloc _) ⟨w.heap.size, 0, none⟩ 1 1 [.string u] hx rfl (cell_one_new _ _ _) ?_ ?_ ?_ ?_ ?_
  · intro y hy
    simp only [List.mem_singleton] at hy
    subst hy
    rfl
  · unfold maxLen; omega
  · omega
  · simp; omega
  · intro v' w' h1 h2 _ h3
    refine h v' w' (htwo.grown (by rw [cK_snoc]; exact h1) h2 h3) (((Below.refl base w).alloc hbase _).grown h2 (by simp; omega) (fun g hg => (hown.lt g hg).1)) ?_
    have := h2.size
    simp at this
    omega

/-- What under leaves. -/
def NamsPost (xs : List ByteArray) (w : World) (e : Ending) (w' : World) : Prop :=
  ∃ A' n' c', e = .returned (.slice A' n' c') ∧ w'.ownsRow w.heap.size 9 1 (.slice A' n' c') n' (cK kB xs) ∧ xs.length = n' ∧ Below w.heap.size w w'

theorem cons_take {α : Type} {x : α} {l l' : List α} {k : Nat} (h : k ≤ l.length + 1) : (x :: (l ++ l')).take k = (x :: l).take k := by
  rw [← List.cons_append, List.take_append_of_le_length (by simpa using h)]
theorem cons_get {α : Type} {x : α} {l l' : List α} {k : Nat} (h : k < l.length + 1) : (x :: (l ++ l'))[k]? = (x :: l)[k]? := by
  rw [← List.cons_append, List.getElem?_append_left (by simpa using h)]
theorem own_one (w : World) (base : Nat) (u : ByteArray) (hb : base ≤ w.heap.size) : (w.alloc (.cells #[.string u] 9)).ownsRow base 9 1 (.slice (some ⟨w.heap.size, 0, none⟩) 1 1) 1 (cK kB [u]) :=
  own_of (cur := [.string u]) hb (heap_alloc_new w _) (Nat.le_refl _) (by unfold maxLen; omega) rfl rfl rfl

set_option maxHeartbeats 4000000 in
theorem under_calls (A : Option Addr) (n c : Nat) (rs : List RoleZ) (nm : ByteArray) (w : World) (h : RdRz w A n rs) (hok : RolesOk rs) (hh : hasR rs nm = true) :
    Calls Try.prog 62 #[.slice A n c, .string nm] w (NamsPost (underZ rs nm) w) := by
  have HL := hide h.len
  have hn12 : n ≤ 12 := by rw [← h.len]; exact hok.1
  have hn : n ≤ 1048576 := by omega
  have HOK := hide hok
  have HH := hide hh
  have hq0 := que_start rs nm
  have HQ0 := hide hq0
  clear hok hh hq0
  go_enter Try.func62, Try.ntmps62
  go_wp2
  have ht0 : Hid (TwoB (w.alloc (.cells #[.string nm] 9)) w.heap.size (.slice none 0 0) (.slice (some ⟨w.heap.size, 0, none⟩) 1 1) 0 1 [] [nm]) := ⟨by simpa [cK] using World.ownsRow_nil _ _ _ _, own_one w w.heap.size nm (Nat.le_refl _), fun g hg => by simp [Value.ownBlock] at hg⟩
  have hb0 : Below w.heap.size w (w.alloc (.cells #[.string nm] 9)) := (Below.refl _ _).alloc (Nat.le_refl _) _
  go_loopw [5, 6, 7] (fun a q k wr => ∃ (K m g c5 c6 : Nat) (A5 : Option Addr) (all : List ByteArray), k = .int .i64 K ∧ K ≤ m + 1 ∧ m ≤ 12 ∧ a = .slice A5 m c5 ∧ q = .slice (some ⟨g, 0, none⟩) (m + 1) c6 ∧ Hid (TwoB wr w.heap.size (.slice A5 m c5) (.slice (some ⟨g, 0, none⟩) (m + 1) c6) m (m + 1) all (nm :: all) ∧ all.length = m ∧ QueI rs nm all ((nm :: all).take K)) ∧ Below w.heap.size w wr) (fun _ _ k _ => 14 - (intOf k).toNat)
  case atStart => exact ⟨0, 0, w.heap.size, 0, 1, none, [], rfl, by omega, by omega, rfl, rfl, ⟨ht0.out, rfl, HQ0.out⟩, hb0⟩
  case round =>
    clear ht0 hb0 HQ0
    obtain ⟨K, m, g, c5, c6, A5, all, rfl, hK, hm, rfl, rfl, HT, hb⟩ := hrel
    obtain ⟨wo, rfl⟩ : ∃ wo : World, wo = wr := ⟨_, rfl⟩
    by_cases hlt : K < m + 1
    · -- the role of the name at K
      obtain ⟨q, hq⟩ : ∃ q, (nm :: all)[K]? = some q := ⟨_, List.getElem?_eq_getElem (by simp [HT.out.2.1]; exact hlt)⟩
      have hqm : q = nm ∨ q ∈ all := List.mem_cons.1 (List.mem_of_getElem? hq)
      have hqh : hasR rs q = true := by
        rcases hqm with e | e
        · rw [e]; exact HH.out
        · exact (HT.out.2.2.2.1 q e).1
      obtain ⟨rq, hrq, hrn⟩ := find_name hqh
      have hfi := findI_yes hqh
      have hfn : findN rs q < n := by have := hasR_iff.1 hqh; have := HL.out; omega
      have hcq : wo.cell? ⟨g, K, none⟩ = some (.string q) := by
        rw [HT.out.1.2.1.cellAt K (by omega), cK_kB, List.getElem?_map, hq]
        rfl
      obtain ⟨b, off, nm1, Aq, nq, cq, us, rfl, hbl, hx, _, hc0, _, hst0, hnq⟩ := h.at hfn
      obtain rfl : rq = ⟨nm1, us⟩ := Option.some.inj (hrq.symm.trans hx.out)
      have HM := hide (roleAt_calls (some ⟨b, off, none⟩) n c rs q wo (h.below hb (Nat.le_refl _)) hn)
      rw [hfi] at HM
      have HQ := hide (And.intro hq (And.intro hqm hrq))
      have HUF := hide (HOK.out.2.2 _ (List.mem_of_getElem? hx.out))
      have HUL := hide hst0.2.1
      simp only at HUF
      clear hfi hqh hrn hq hqm hrq hx
      go_wp2_with fail
      refine HM.out.mono ?_
      clear HM
      rintro e w1 ⟨rfl, hb1⟩
      have hB1 := hb.trans (hb1.mono hb.size)
      have hc1 := (hB1.cell (p := ⟨b, off + findN rs q * 2 + 1, none⟩) hbl).trans hc0
      have HT1 : Hid (TwoB w1 w.heap.size (.slice A5 m c5) (.slice (some ⟨g, 0, none⟩) (m + 1) c6) m (m + 1) all (nm :: all) ∧ all.length = m ∧ QueI rs nm all ((nm :: all).take K)) := ⟨HT.out.1.below hb1, HT.out.2⟩
      clear HT hcq hb hb1
      go_wp2
      clear hc1
      -- the names under it
      go_loopw [5, 6, 29] (fun a q' j wr => ∃ (J m g c5 c6 : Nat) (A5 : Option Addr) (ext : List ByteArray), j = .int .i64 J ∧ J ≤ nq ∧ K < m + 1 ∧ m ≤ 12 ∧ a = .slice A5 m c5 ∧ q' = .slice (some ⟨g, 0, none⟩) (m + 1) c6 ∧ Hid (TwoB wr w.heap.size (.slice A5 m c5) (.slice (some ⟨g, 0, none⟩) (m + 1) c6) m (m + 1) (all ++ ext) (nm :: (all ++ ext)) ∧ (all ++ ext).length = m ∧ QueI rs nm (all ++ ext) ((nm :: all).take K) ∧ ∀ u ∈ us.take J, u ∈ all ++ ext) ∧ Below w.heap.size w wr) (fun _ _ j _ => nq - (intOf j).toNat)
      case atStart => exact ⟨0, m, g, c5, c6, A5, [], rfl, by omega, hlt, hm, rfl, rfl, by simpa [Hid] using HT1.out, hB1⟩
      case round =>
        have HL0 := hide HT1.out.2.1
        clear HT1 hB1
        obtain ⟨J, m', g', c5', c6', A5', ext, rfl, hJ, hKm, hm', rfl, rfl, HT, hb⟩ := hrel
        by_cases hj : J < nq
        · obtain ⟨b3, off3, u, rfl, hbl3, hu, hcu, hsu⟩ := RdK.atB (hst0.below hb (Nat.le_refl _)) hj
          have hhas := HUF.out.2 u (List.mem_of_getElem? hu.out)
          have HM := hide (containsB_calls A5' m' c5' (all ++ ext) u wr ⟨Rd.of_own HT.out.1.1, HT.out.2.1, fun x hx => by
            have h1 := (HT.out.2.2.1.2.1 x hx).1
            obtain ⟨r, hr, hn'⟩ := find_name h1
            have hk := hasR_iff.1 h1
            obtain ⟨_, _, nm2, _, _, _, us2, _, _, hx2, _, _, hs2, _⟩ := h.at (show findN rs x < n by have := HL.out; omega)
            have := hx2.out
            rw [hr] at this
            injection this with this
            subst this
            simp only at hn'
            subst hn'
            exact hs2⟩ (by omega))
          rcases b_cases (inB (all ++ ext) u) with hin | hin
          · -- it is new
            have hmem := inB_not.1 hin
            have HQ2 := hide (que_push HT.out.2.2.1 (q := q) (u := u) (r := ⟨nm1, us⟩) (HQ.out.2.1.imp_right fun h => List.mem_append_left _ h) HQ.out.2.2 (List.mem_of_getElem? hu.out) hhas hmem)
            have HM2 : Hid (m' + 1 ≤ 12) := by
              have h1 := que_len HQ2.out
              have h2 := HT.out.2.1
              have h3 := HL.out
              unfold Hid
              simp only [List.length_append, List.length_singleton] at h1 h2
              omega
            have hm2 := HM2.out
            rw [hin] at HM
            clear hin hmem HM2
            have hz := hb.size
            go_wp2_with fail
            refine HM.out.mono ?_
            clear HM
            rintro e w2 ⟨rfl, rfl⟩
            have HTW := hide HT.out.1
            go_upto_region 11 with (at_builtin; refine appB2 rfl _ _ rfl w.heap.size (.slice A5' m' c5') (.slice (some ⟨g', 0, none⟩) (m' + 1) c6') m' (m' + 1) (all ++ ext) (nm :: (all ++ ext)) u rfl HTW.out (by first | rfl | (simp; rfl)) (by omega) (by omega) ?_; intro v5 w5 htw5 hb5 hz5)
            obtain ⟨A5n, c5n, rfl⟩ := own_slice htw5.1
            have HTW5 := hide htw5.swap
            clear htw5 HTW
            go_wp2_with (at_builtin; refine appB2 rfl _ _ rfl w.heap.size (.slice (some ⟨g', 0, none⟩) (m' + 1) c6') (.slice A5n (m' + 1) c5n) (m' + 1) (m' + 1) (nm :: (all ++ ext)) (all ++ ext ++ [u]) u rfl HTW5.out (by first | rfl | (simp; rfl)) (by omega) (by omega) ?_; intro v6 w6 htw6 hb6 hz6)
            obtain ⟨g6, c6n, rfl⟩ := own_addr2 htw6.1 (by omega)
            have HTW6 := hide htw6.swap
            clear htw6 HTW5
            go_roundw
            case rel =>
              refine ⟨J + 1, m' + 1, g6, c5n, c6n, A5n, ext ++ [u], by go_num, by omega, by omega, hm2, rfl, rfl, ⟨?_, ?_, ?_, ?_⟩, ((hb.trans hb5).trans hb6)⟩
              · have := HTW6.out
                simp only [List.append_assoc, List.cons_append] at this ⊢
                exact this
              · have := HT.out.2.1
                simp only [List.length_append, List.length_singleton] at this ⊢
                omega
              · rw [← List.append_assoc]; exact HQ2.out
              · intro x hx
                rw [take_snoc hu.out] at hx
                rw [← List.append_assoc]
                rcases List.mem_append.1 hx with hx | hx
                · exact List.mem_append_left _ (HT.out.2.2.2 x hx)
                · exact List.mem_append_right _ hx
            case measure => simp [intOf]; omega
          · -- it is there
            have hmem := inB_iff.1 hin
            have HMM := hide hmem
            rw [hin] at HM
            clear hin hmem
            go_wp2_with fail
            refine HM.out.mono ?_
            clear HM
            rintro e w2 ⟨rfl, rfl⟩
            go_wp2
            go_roundw
            case rel =>
              refine ⟨J + 1, m', g', c5', c6', A5', ext, by go_num, by omega, hKm, hm', rfl, rfl, ⟨HT.out.1, HT.out.2.1, HT.out.2.2.1, ?_⟩, hb⟩
              intro x hx
              rw [take_snoc hu.out] at hx
              rcases List.mem_append.1 hx with hx | hx
              · exact HT.out.2.2.2 x hx
              · simp only [List.mem_singleton] at hx
                subst hx
                exact HMM.out
            case measure => simp [intOf]; omega
        · have hJn : J = nq := by omega
          have HJ := hide hJn
          clear hJn
          go_wp2
          go_roundw
          case rel =>
            refine ⟨K + 1, m', g', c5', c6', A5', all ++ ext, by go_num, by omega, hm', rfl, rfl, ⟨HT.out.1, HT.out.2.1, ?_⟩, hb⟩
            have hq := HQ.out.1
            have hkl : K < all.length + 1 := by
              have := (List.getElem?_eq_some_iff.1 hq).1
              simpa using this
            have e1 : (nm :: (all ++ ext)).take (K + 1) = (nm :: all).take K ++ [q] := by
              rw [cons_take (by omega), take_snoc hq]
            rw [e1]
            refine que_next HT.out.2.2.1 HQ.out.2.2 ?_
            have := HT.out.2.2.2
            rw [List.take_of_length_le (by rw [HUL.out, HJ.out]; exact Nat.le_refl _)] at this
            exact this
          case measure => simp [intOf]; omega
    · have hKm : K = m + 1 := by omega
      have HE : Hid (∀ x, x ∈ all ↔ x ∈ underZ rs nm) := by
        intro x
        refine que_end HOK.out.sort ?_ x
        have := HT.out.2.2
        rwa [hKm, List.take_of_length_le (by simp [HT.out.2.1])] at this
      have HN := hide HT.out.2.2.1
      have hown := HT.out.1.1
      have HAL := hide HT.out.2.1
      have HS := hide (sortB_calls A5 m c5 w.heap.size all wo hown (by omega) hb.size)
      clear HT hown hKm
      go_wp2_with fail
      refine HS.out.mono ?_
      rintro e w2 ⟨rfl, ys, hown2, hperm, hrise, hb2⟩
      have HY : Hid (underZ rs nm = ys) := by
        refine sortB_ext (pick_sort HOK.out.sort) (riseB_sort hrise (hperm.nodup_iff.2 HN.out)) fun x => ?_
        rw [← HE.out x, hperm.mem_iff]
      have hyl : ys.length = m := hperm.length_eq.trans HAL.out
      have HO := hide (And.intro hown2 hyl)
      clear hown2 hyl hperm hrise
      go_wp2
      go_ret
      exact ⟨A5, m, c5, rfl, by rw [HY.out]; exact HO.out.1, by rw [HY.out]; exact HO.out.2, hb.trans hb2⟩

end Go.Proofs.Ytidhbpnibgegdaa
