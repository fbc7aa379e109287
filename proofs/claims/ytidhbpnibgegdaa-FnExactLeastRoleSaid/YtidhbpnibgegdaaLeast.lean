/- LeastRole of the program and of the reference. -/
import Derived.Test.YtidhbpnibgegdaaWho
import Derived.Test.YtidhbpnibgegdaaRightsS
namespace Go.Proofs.Ytidhbpnibgegdaa
open Go.RowKit
set_option linter.unusedVariables false

def stepL (cnt : ByteArray → Nat) (b : Option ByteArray) (x : ByteArray) : Option ByteArray := match b with | none => some x | some y => if cnt x < cnt y then some x else some y
/-- The first of the least. -/
def lrO (cnt : ByteArray → Nat) (xs : List ByteArray) : Option ByteArray := xs.foldl (stepL cnt) none
def rgN (rs : List RoleZ) (gs : List GrantZ) (nm : ByteArray) : Nat := (rightsZ rs gs nm).length
def lrC (rs : List RoleZ) (gs : List GrantZ) (o : ByteArray) (a : Int) : Int := if whC rs gs a = 0 then (if (whV rs gs o a).isEmpty = true then 3 else 0) else whC rs gs a
def lrV (rs : List RoleZ) (gs : List GrantZ) (o : ByteArray) (a : Int) : ByteArray := (lrO (rgN rs gs) (whV rs gs o a)).getD ⟨#[]⟩
theorem foldl_at {α β : Type} {f : β → α → β} {b : β} {xs : List α} {k : Nat} {x : α} (h : xs[k]? = some x) : (xs.take (k + 1)).foldl f b = f ((xs.take k).foldl f b) x := by rw [take_snoc h, List.foldl_append]; rfl
theorem lrO_from {cnt : ByteArray → Nat} {xs : List ByteArray} {x : ByteArray} (h : xs[0]? = some x) : xs.foldl (stepL cnt) (some x) = lrO cnt xs := by
  cases xs with
  | nil => cases h
  | cons y ys =>
    injection h with h
    subst h
    unfold lrO
    rw [List.foldl_cons, List.foldl_cons]
    congr 1
    unfold stepL
    simp
theorem lrO_snoc (cnt : ByteArray → Nat) (xs : List ByteArray) (x : ByteArray) : lrO cnt (xs ++ [x]) = stepL cnt (lrO cnt xs) x := by unfold lrO; rw [List.foldl_append]; rfl
theorem stepL_yes {cnt : ByteArray → Nat} {x y : ByteArray} (h : cnt x < cnt y) : stepL cnt (some y) x = some x := by unfold stepL; simp [h]
theorem stepL_no {cnt : ByteArray → Nat} {x y : ByteArray} (h : ¬ cnt x < cnt y) : stepL cnt (some y) x = some y := by unfold stepL; simp only [if_neg h]
theorem whC_zero {rs : List RoleZ} {gs : List GrantZ} {a : Int} (h : whC rs gs a = 0) : grantsB rs gs = true ∧ isActB a = true := by
  unfold whC at h
  cases hg : grantsB rs gs with
  | false => rw [hg] at h; cases h
  | true =>
    cases ha : isActB a with
    | false => rw [hg, ha] at h; cases h
    | true => exact ⟨rfl, rfl⟩
theorem lr_bad {rs : List RoleZ} {gs : List GrantZ} {o : ByteArray} {a : Int} (h : ¬ whC rs gs a = 0) : lrV rs gs o a = ⟨#[]⟩ ∧ lrC rs gs o a = whC rs gs a := by
  have hv : whV rs gs o a = [] := by
    refine whV_no ?_
    cases hg : grantsB rs gs with
    | false => exact .inl rfl
    | true =>
      cases ha : isActB a with
      | false => exact .inr rfl
      | true => exact absurd (by unfold whC; rw [hg, ha]; rfl) h
  exact ⟨by unfold lrV; rw [hv]; rfl, by unfold lrC; rw [if_neg h]⟩
theorem lr_none {rs : List RoleZ} {gs : List GrantZ} {o : ByteArray} {a : Int} (h : whC rs gs a = 0) (hv : whV rs gs o a = []) : lrV rs gs o a = ⟨#[]⟩ ∧ lrC rs gs o a = 3 := ⟨by unfold lrV; rw [hv]; rfl, by unfold lrC; rw [if_pos h, hv]; rfl⟩
theorem lr_some {rs : List RoleZ} {gs : List GrantZ} {o : ByteArray} {a : Int} {x : ByteArray} (h : whC rs gs a = 0) (hv : lrO (rgN rs gs) (whV rs gs o a) = some x) : lrV rs gs o a = x ∧ lrC rs gs o a = 0 := by
  refine ⟨by unfold lrV; rw [hv]; rfl, ?_⟩
  unfold lrC
  rw [if_pos h]
  cases hw : whV rs gs o a with
  | nil => rw [hw] at hv; cases hv
  | cons y ys => rfl
theorem fst_less {rs : List RoleZ} {gs : List GrantZ} {x y : ByteArray} {p q : Nat} (h : (rightsZ rs gs x).length = p) (h2 : (rightsZ rs gs y).length = q) : (rgN rs gs x < rgN rs gs y) ↔ p < q := by unfold rgN; rw [h, h2]

set_option maxRecDepth 100000 in
set_option maxHeartbeats 4000000 in
theorem implLeastRole_calls (A : Option Addr) (n c : Nat) (rs : List RoleZ) (A1 : Option Addr) (n1 c1 : Nat) (gs : List GrantZ) (o : ByteArray) (a : Int) (w : World) (h : RdRz w A n rs) (h1 : RdK kGrant w A1 n1 gs) (ho : o.size ≤ 9223372036854775807) (ha : I64 a) (hn : n ≤ 1048576) (hn1 : n1 ≤ 1048576) (ho' : o.size ≤ 1048576) (hs : ShortR rs) :
    Calls Try.prog 43 #[.slice A n c, .slice A1 n1 c1, .string o, .int .i64 a] w fun e w' => e = .returned (.tuple #[.string (lrV rs gs o a), .int .i64 (lrC rs gs o a)]) ∧ Below w.heap.size w w' := by
  have HM := hide (implWhoMay_calls A n c rs A1 n1 c1 gs o a w h h1 ho ha hn hn1 ho' hs)
  by_cases hc : whC rs gs a = 0
  case neg =>
    have HV := hide (lr_bad (o := o) hc)
    generalize whC rs gs a = C at *
    go_enter Try.func43, Try.ntmps43
    go_wp2_with fail
    refine HM.out.mono ?_
    rintro e w1 ⟨A', n', c', rfl, hfr, hn', hb1⟩
    clear hfr
    go_wp2
    go_ret2
    exact ⟨ret_two (congrArg Value.string HV.out.1.symm) (congrArg (Value.int .i64) HV.out.2.symm), hb1⟩
  obtain ⟨hg, hact⟩ := whC_zero hc
  have HOK := hide (roles_ok (grants_roles hg))
  have HGH : Hid (∀ x ∈ gs, hasR rs x.role = true) := fun x hx => grants_has hg hx
  have h48 : n1 ≤ 48 := by rw [← h1.2.1]; exact grants_len hg
  have HWH : Hid (∀ x ∈ whV rs gs o a, hasR rs x = true) := by
    intro x hx
    rw [whV_ok hg hact] at hx
    exact has_mem.2 (List.mem_filter.1 hx).1
  have HC := hide hc
  rw [hc] at HM
  clear hc hg hact
  go_enter Try.func43, Try.ntmps43
  go_wp2_with fail
  refine HM.out.mono ?_
  clear HM
  rintro e w1 ⟨A', n', c', rfl, hfr, hn', hb1⟩
  have HR := hide hfr.rd
  have HNL := hide hfr.2.1
  clear hfr
  generalize hxs : whV rs gs o a = xs at *
  have HXS := hide hxs
  clear hxs
  by_cases h0 : n' = 0
  · have HV := hide (lr_none HC.out (HXS.out.trans (List.eq_nil_of_length_eq_zero (HNL.out.trans h0))))
    go_wp2
    go_ret2
    exact ⟨ret_two (congrArg Value.string HV.out.1.symm) (congrArg (Value.int .i64) HV.out.2.symm), hb1⟩
  have hd0 : ((n' : Int) == 0) = false := by simp; omega
  obtain ⟨b0, off0, x0, hA, hbl0, hx0, hc0, hs0⟩ := RdK.atB HR.out (show 0 < n' by omega)
  subst hA
  rw [Nat.add_zero] at hc0
  obtain ⟨wo, rfl⟩ : ∃ wo : World, wo = w1 := ⟨_, rfl⟩
  go_wp2
  clear hc0
  go_loopw [12, 34] (fun v i wr => ∃ (K : Nat) (s : ByteArray), K ≤ n' ∧ i = .int .i64 K ∧ v = .string s ∧ Hid ((xs.take K).foldl (stepL (rgN rs gs)) (some x0) = some s ∧ s ∈ xs) ∧ Below wo.heap.size wo wr) (fun _ i _ => n' - (intOf i).toNat)
  case atStart => exact ⟨0, x0, Nat.zero_le _, rfl, rfl, ⟨rfl, List.mem_of_getElem? hx0.out⟩, Below.refl _ _⟩
  case round =>
    obtain ⟨K, s, hK, rfl, rfl, HS, hb⟩ := hrel
    have hbw := hb1.trans (hb.mono hb1.size)
    by_cases hlt : K < n'
    · obtain ⟨b, off, x, hA, hbl, hx, hc, hsx⟩ := RdK.atB (HR.out.below hb (Nat.le_refl _)) hlt
      obtain ⟨rfl, rfl⟩ : b0 = b ∧ off0 = off := by simpa using hA
      clear hA
      have HU := hide (rightsOf_calls A n c rs A1 n1 c1 gs x wr (h.below hbw (Nat.le_refl _)) (h1.below hbw (Nat.le_refl _)) HOK.out HGH.out h48 (HWH.out _ (List.mem_of_getElem? hx.out)))
      have HF := hide (foldl_at (f := stepL (rgN rs gs)) (b := some x0) hx.out)
      rw [HS.out.1] at HF
      go_wp2_with fail
      refine HU.out.mono ?_
      clear HU
      rintro e w2 ⟨A2, n2, c2, rfl, hown2, hl2, hb2⟩
      clear hown2
      have hbw2 := hbw.trans (hb2.mono hbw.size)
      have HU := hide (rightsOf_calls A n c rs A1 n1 c1 gs s w2 (h.below hbw2 (Nat.le_refl _)) (h1.below hbw2 (Nat.le_refl _)) HOK.out HGH.out h48 (HWH.out _ HS.out.2))
      go_wp2_with fail
      refine HU.out.mono ?_
      clear HU
      rintro e w3 ⟨A3, n3, c3, rfl, hown3, hl3, hb3⟩
      clear hown3
      have HLE := hide (fst_less hl2 hl3)
      clear hl2 hl3
      have hbx := (hb.trans (hb2.mono hb.size)).trans (hb3.mono ((hb.trans (hb2.mono hb.size)).size))
      by_cases hcmp : n2 < n3
      · have HS2 : Hid ((xs.take (K + 1)).foldl (stepL (rgN rs gs)) (some x0) = some x ∧ x ∈ xs) := ⟨HF.out.trans (stepL_yes (HLE.out.2 hcmp)), List.mem_of_getElem? hx.out⟩
        go_wp2
        go_roundw
        case rel =>
          exact ⟨K + 1, x, by omega, by go_num, rfl, HS2, hbx⟩
        case measure => simp [intOf]; omega
      · have HS2 : Hid ((xs.take (K + 1)).foldl (stepL (rgN rs gs)) (some x0) = some s ∧ s ∈ xs) := ⟨HF.out.trans (stepL_no (fun e => hcmp (HLE.out.1 e))), HS.out.2⟩
        go_wp2
        go_roundw
        case rel => exact ⟨K + 1, s, by omega, by go_num, rfl, HS2, hbx⟩
        case measure => simp [intOf]; omega
    · have hKn : K = n' := by omega
      have HV := hide (lr_some (x := s) HC.out (by
        have h5 := HS.out.1
        rw [List.take_of_length_le (by rw [HNL.out]; omega), lrO_from hx0.out] at h5
        rw [HXS.out]
        exact h5))
      clear hKn
      go_wp2
      go_ret2
      exact ⟨ret_two (congrArg Value.string HV.out.1.symm) (congrArg (Value.int .i64) HV.out.2.symm), hbw⟩

end Go.Proofs.Ytidhbpnibgegdaa
