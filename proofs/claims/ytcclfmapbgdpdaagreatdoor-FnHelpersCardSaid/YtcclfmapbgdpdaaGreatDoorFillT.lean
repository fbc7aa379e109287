/- fill of the program: the first filling of tasks. -/
import Derived.Test.YtcclfmapbgdpdaaGreatDoorMostI
import Derived.Test.YtcclfmapbgdpdaaGreatDoorFill
namespace Go.Proofs.YtcclfmapbgdpdaaGreatDoor
open Go.RowKit
set_option linter.unusedVariables false

/-- What fill leaves. -/
def FilPost (o : Option (List Int)) (w : World) (e : Ending) (w' : World) : Prop :=
  ∃ A' n' c', e = .returned (.tuple #[.slice A' n' c', .bool o.isSome]) ∧ RdI w' A' n' (o.getD []) ∧ n' ≤ c' ∧ Below w.heap.size w w'
theorem find_next {f : Int → Option (List Int)} {l : List Int} {j : Nat} {k : Int} (h : l[j]? = some k) (h0 : (l.take j).findSome? f = none) (hk : f k = none) : (l.take (j + 1)).findSome? f = none := by
  rw [take_snoc h, List.findSome?_append, h0, Option.none_or, List.findSome?_cons, hk]; rfl
theorem find_hit {f : Int → Option (List Int)} {l : List Int} {j : Nat} {k : Int} {r : List Int} (h : l[j]? = some k) (h0 : (l.take j).findSome? f = none) (hk : f k = some r) : l.findSome? f = some r := by
  have e : l.findSome? f = ((l.take (j + 1)) ++ l.drop (j + 1)).findSome? f := by rw [List.take_append_drop]
  rw [e, List.findSome?_append, take_snoc h, List.findSome?_append, h0, Option.none_or, List.findSome?_cons, hk]; rfl
/-- What is tried for one helper. -/
def tryZ (H : HlpZ → List Int) (ts : List HlpZ) (g : List Int) (k : Int) : Option (List Int) := if k ∈ g then none else fitZ H ts (g ++ [k])
theorem fill_try (H : HlpZ → List Int) (t : HlpZ) (ts : List HlpZ) (g : List Int) : fitZ H (t :: ts) g = (H t).findSome? (tryZ H ts g) := rfl

set_option maxHeartbeats 4000000 in
set_option maxRecDepth 100000 in
theorem fill_calls (A : Option Addr) (n c : Nat) (hs : List HlpZ) (hn : n ≤ 10) (ho : SkOk hs) (B : Option Addr) (m d : Nat) (T : List HlpZ) (hm : m ≤ 8) (hT : SkOk T) : ∀ (rest done : List HlpZ) (g : List Int) (D : Option Addr) (q e : Nat) (w : World),
    T = done ++ rest → g.length = done.length → RdK kHlp w A n hs → RdK kHlp w B m T → RdI w D q g → q ≤ e → (∀ x ∈ g, 0 ≤ x ∧ x < (n : Int)) →
    Calls Tryz.prog 112 #[.slice A n c, .slice B m d, .slice D q e] w (FilPost (fitZ (helpZ hs) rest g) w) := by
  intro rest
  induction rest with
  | nil =>
    intro done g D q e w hTd hgl h hB hD hqe hg
    have hqm : q = m := by
      have h1 := hB.2.1
      have h2 := hD.len
      rw [hTd, List.append_nil] at h1
      omega
    subst hqm
    have HD := hide hD
    clear h hB hD hTd
    go_enter Tryz.func112, Tryz.ntmps112
    go_wp2
    go_ret2
    exact ⟨D, q, e, rfl, HD.out, hqe, Below.refl _ _⟩
  | cons t ts ih =>
    intro done g D q e w hTd hgl h hB hD hqe hg
    have hql := hD.len
    have hml := hB.2.1
    have hqm : q < m := by rw [← hml, hTd, List.length_append, List.length_cons]; omega
    obtain ⟨b, off, f0, f1, f2, hB1, hbl, hx, c0, c1, c2, hs0, hs1, hs2, hs3, hs4⟩ := hB.atHlp hqm
    obtain rfl : t = ⟨f0, f1, f2⟩ := by
      have := hx.out
      rw [hTd, List.getElem?_append_right (by omega), show q - done.length = 0 by omega] at this
      simpa using this
    have IH := hide (fun (k : Int) (D : Option Addr) (e : Nat) (W : World) (h1 : RdK kHlp W A n hs) (h2 : RdK kHlp W B m T) (h3 : RdI W D (q + 1) (g ++ [k])) (he : q + 1 ≤ e) (hg : ∀ x ∈ g ++ [k], 0 ≤ x ∧ x < (n : Int)) => ih (done ++ [⟨f0, f1, f2⟩]) (g ++ [k]) D (q + 1) e W (by rw [hTd]; simp) (by rw [List.length_append, List.length_append, hgl]; rfl) h1 h2 h3 he hg)
    have hf1 := hT ⟨f0, f1, f2⟩ (by rw [hTd]; simp)
    have HF := hide (helpersFor_calls A n c hs f0 f1 f2 w h (by omega) ho hf1)
    have HR := hide (And.intro h (And.intro hB hD))
    have HG := hide hg
    have hqm2 : ((q : Int) == (m : Int)) = false := by simp; omega
    have hqm3 : ¬ q = m := by omega
    subst hB1
    have i1 : (0 : Int) ≤ (q : Int) := by omega
    have i2 : (q : Int) < (m : Int) := by omega
    clear ih h hB hD hg hx hTd
    go_enter Tryz.func112, Tryz.ntmps112
    go_wp2_with fail
    refine HF.out.mono ?_
    rintro e' w2 ⟨A2, l, cl, rfl, hown, hlen, hb2⟩
    have HR2 := hide (And.intro (HR.out.1.below hb2 (Nat.le_refl _)) (And.intro (HR.out.2.1.below hb2 (Nat.le_refl _)) (HR.out.2.2.below hb2 (Nat.le_refl _))))
    have HB2 := hide hb2
    have hbd := idxK_bd (fun h => canB h ⟨f0, f1, f2⟩) hs hs.length
    have HBD : Hid (∀ x ∈ helpZ hs ⟨f0, f1, f2⟩, 0 ≤ x ∧ x < (n : Int)) := fun x hx => by have := hbd x hx; have := HR2.out.1.2.1; omega
    have HROW := hide (show RdI w2 A2 l (helpZ hs ⟨f0, f1, f2⟩) from RdI.of_own hown (fun x hx => by have := HBD.out x hx; unfold I64; omega))
    have hl10 : l ≤ 10 := by rw [← hlen]; have := idxK_len (fun h => canB h ⟨f0, f1, f2⟩) hs hs.length; have := HR2.out.1.2.1; unfold helpZ; omega
    have HLQ := hide hlen
    clear hb2 HF HR hbd hown hlen c0 c1 c2
    go_wp2_with fail
    go_loopw [9, 10, 11, 26] (fun _ _ _ i wr => ∃ j : Nat, j ≤ l ∧ i = .int .i64 j ∧ Hid (((helpZ hs ⟨f0, f1, f2⟩).take j).findSome? (tryZ (helpZ hs) ts g) = none) ∧ Hid (Below w2.heap.size w2 wr)) (fun _ _ _ i _ => l - (intOf i).toNat)
    case atStart => exact ⟨0, Nat.zero_le _, rfl, by simp [Hid], Below.refl _ _⟩
    case round => as_aux_lemma =>
      obtain ⟨j, hj, rfl, HN, HBr⟩ := hrel
      by_cases hjl : j < l
      · obtain ⟨ba, oa, x, rfl, _, hx, hcx, hx1, hx2⟩ := (HROW.out.below HBr.out (Nat.le_refl _)).at hjl
        have hxb := HBD.out x (List.mem_of_getElem? hx.out)
        have HX := hide hx.out
        have hRr := And.intro (HR2.out.1.below HBr.out (Nat.le_refl _)) (And.intro (HR2.out.2.1.below HBr.out (Nat.le_refl _)) (HR2.out.2.2.below HBr.out (Nat.le_refl _)))
        have HRr := hide hRr
        have HCO := hide (containsI_calls D q e g x wr hRr.2.2 (by omega))
        clear hRr hx
        by_cases hxg : x ∈ g
        · rw [decide_eq_true hxg] at HCO
          have HN2 := hide (find_next HX.out HN.out (show tryZ (helpZ hs) ts g x = none by unfold tryZ; rw [if_pos hxg]))
          clear hxg
          go_wp2_with fail
          refine HCO.out.mono ?_
          rintro e' w' ⟨rfl, rfl⟩
          go_wp2_with fail
          go_roundw
          case rel => exact ⟨j + 1, by omega, by go_num, HN2, HBr⟩
          case measure => simp [intOf]; omega
        · rw [decide_eq_false hxg] at HCO
          have HTR := hide (show tryZ (helpZ hs) ts g x = fitZ (helpZ hs) ts (g ++ [x]) by unfold tryZ; rw [if_neg hxg])
          have HCL := hide (cloneI_calls D q e g wr HRr.out.2.2 (by omega))
          have HG2 : Hid (∀ y ∈ g ++ [x], 0 ≤ y ∧ y < (n : Int)) := fun y hy => by
            rcases List.mem_append.1 hy with h | h
            · exact HG.out y h
            · have : y = x := by simpa using h
              omega
          clear hxg
          go_wp2_with fail
          refine HCO.out.mono ?_
          rintro e' w' ⟨rfl, rfl⟩
          go_wp2_with fail
          refine HCL.out.mono ?_
          rintro e' w4 ⟨A4, c4, rfl, hown4, hb4⟩
          have HO4 := hide hown4
          have hz4 := hb4.size
          clear hown4 HCO HCL
          go_wp2_with (at_builtin; refine appI rfl _ _ rfl wr.heap.size (.slice A4 q c4) q g x rfl HO4.out rfl (by omega) (by omega) ?_; intro v5 w5 hown5 hb5 hz5; obtain ⟨A5, c5, rfl⟩ := own_slice hown5)
          have hb45 := hb4.trans hb5
          have hq5 := own_cap hown5
          have h51 := HRr.out.1.below hb45 (Nat.le_refl _)
          have h52 := HRr.out.2.1.below hb45 (Nat.le_refl _)
          have h53 : RdI w5 A5 (q + 1) (g ++ [x]) := RdI.of_own hown5 (fun y hy => by have := HG2.out y hy; unfold I64; omega)
          have IH5 := hide (IH.out x A5 c5 w5 h51 h52 h53 hq5 HG2.out)
          have HB5 := hide (HBr.out.trans (hb45.mono HBr.out.size))
          unfold FilPost at IH5
          clear hb45 h51 h52 h53 hown5 hb5 HO4 hb4 hz5
          refine IH5.out.mono ?_
          rintro e' w6 ⟨A6, n6, c6, rfl, h6, hn6, hb6⟩
          have HB6 := hide (HB5.out.trans (hb6.mono HB5.out.size))
          have H6 := hide h6
          clear h6 hb6 IH5 HB5
          rcases hfz : fitZ (helpZ hs) ts (g ++ [x]) with _ | r
          · rw [hfz] at HTR
            have HN2 := hide (find_next HX.out HN.out HTR.out)
            have hse : (none : Option (List Int)).isSome = false := rfl
            simp only [hse]
            clear hfz
            go_wp2_with fail
            go_roundw
            case rel => exact ⟨j + 1, by omega, by go_num, HN2, HB6⟩
            case measure => simp [intOf]; omega
          · rw [hfz] at HTR H6
            have HE := hide (find_hit HX.out HN.out HTR.out)
            have hse : (some r : Option (List Int)).isSome = true := rfl
            simp only [hse]
            clear hfz
            go_wp2
            go_ret2
            refine ⟨A6, n6, c6, ?_, ?_, hn6, HB2.out.trans (HB6.out.mono HB2.out.size)⟩
            · rw [fill_try, HE.out]; rfl
            · rw [fill_try, HE.out]; exact H6.out
      · have hjl2 : j = l := by omega
        subst hjl2
        rw [List.take_of_length_le (Nat.le_of_eq HLQ.out)] at HN
        have HE := hide (show fitZ (helpZ hs) (⟨f0, f1, f2⟩ :: ts) g = none from HN.out)
        have HW := hide (HB2.out.trans (HBr.out.mono HB2.out.size))
        go_wp2
        go_ret2
        exact ⟨none, 0, 0, by rw [HE.out]; rfl, by rw [HE.out]; exact ⟨Rd.nil, by simp⟩, Nat.le_refl _, HW.out⟩

end Go.Proofs.YtcclfmapbgdpdaaGreatDoor
