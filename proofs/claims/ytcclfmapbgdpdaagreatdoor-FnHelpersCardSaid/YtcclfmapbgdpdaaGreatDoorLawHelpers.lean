/- The law FnHelpers returns true for all arguments: its walk. -/
import Derived.Test.YtcclfmapbgdpdaaGreatDoorDrwT
import Derived.Test.YtcclfmapbgdpdaaGreatDoorKeepS
import Derived.Test.YtcclfmapbgdpdaaGreatDoorHelL
import Derived.Test.YtcclfmapbgdpdaaGreatDoorB10
import Derived.Deep.DeepCutAuto
namespace Go.Proofs.YtcclfmapbgdpdaaGreatDoor
open Go.RowKit
set_option linter.unusedVariables false

theorem helpZ_bd {hs : List HlpZ} {n : Nat} (hl : hs.length = n) (t : HlpZ) : ∀ k ∈ helpZ hs t, 0 ≤ k ∧ k < (n : Int) := fun k hk => by
  have := idxK_bd (fun h => canB h t) hs hs.length k hk
  omega
theorem helpZ_mem {hs : List HlpZ} {h t : HlpZ} {j : Nat} (hx : hs[j]? = some h) : decide ((j : Int) ∈ helpZ hs t) = canB h t := by
  have := idxK_mem (p := fun h => canB h t) hx hs.length (List.getElem?_eq_some_iff.1 hx).1
  unfold helpZ
  cases hc : canB h t with
  | true => exact decide_eq_true (this.2 hc)
  | false => exact decide_eq_false fun hm => by have := this.1 hm; rw [hc] at this; cases this
/-- What the law asks of a valid choice. -/
theorem help_facts {hs ts : List HlpZ} {m q : Nat} (hm : hs.length = m) (hq : ts.length = q) (hc : helpC hs ts = 0) :
    ∃ M : Nat, mostV hs ts = (M : Int) ∧ M ≤ q ∧ M ≤ m ∧ M ≤ ts.countP (fun t => decide (0 < (helpZ hs t).length)) ∧ (0 < ts.countP (fun t => decide (0 < (helpZ hs t).length)) → 0 < M) ∧ (ftC hs ts = 0 ↔ M = q) := by
  refine ⟨mostZ (helpZ hs) ts [], by unfold mostV; rw [if_pos hc], by rw [← hq]; exact most_le _ _ _, ?_, most_can _ _ _, most_pos _ _, ?_⟩
  · have := most_list (H := helpZ hs) (n := m) (fun t => helpZ_bd hm t) ts [] List.nodup_nil (by simp)
    simpa using this
  · rw [← hq, ← fit_most (helpZ hs) ts []]
    unfold ftC
    rw [if_pos hc]
    split
    · next h => simp [h]
    · next h => simp [h]
theorem ft_good {hs ts : List HlpZ} (h : ftC hs ts = 0) : hlpsB hs = true ∧ tsksB ts = true ∧ Keeps hs ts (ftV hs ts) := by
  unfold ftC at h
  by_cases hc : helpC hs ts = 0
  · rw [if_pos hc] at h
    obtain ⟨v1, v2⟩ := helpC_ok hc
    split at h
    · next hf =>
      obtain ⟨g, hg⟩ := Option.isSome_iff_exists.1 hf
      refine ⟨v1, v2, ?_⟩
      unfold ftV
      rw [if_pos hc, hg]
      exact keeps_of hg
    · exact absurd h (by decide)
  · rw [if_neg hc] at h
    exact absurd h (by decide)
theorem ft_bad {hs ts : List HlpZ} (h : ftC hs ts ≠ 0) : ftV hs ts = [] := by
  unfold ftV
  by_cases hc : helpC hs ts = 0
  · rw [if_pos hc]
    unfold ftC at h
    rw [if_pos hc] at h
    split at h
    · exact absurd rfl h
    · next hf => rw [Option.not_isSome_iff_eq_none.1 hf]; rfl
  · rw [if_neg hc]
theorem str_some {s : ByteArray} (h : 1 ≤ s.size) : s.toList.isEmpty = false := by
  rw [toList_bs, List.isEmpty_eq_false_iff]
  intro e
  have := bs_len s
  rw [e] at this
  simp at this
  omega
/-- A helper that is written and read: either it is valid and comes back, or there is no text. -/
theorem hlp_two (x : HlpZ) : (1 ≤ (hlpT x).size ∧ hrC (hlpT x) = true ∧ hrV (hlpT x) = x) ∨ (hlpT x = ⟨#[]⟩ ∧ hrC (hlpT x) = false) := by
  cases h : hlpB x with
  | true => have := hlp_back h; exact .inl ⟨this.2.2.2, this.1, this.2.1⟩
  | false => exact .inr (hlp_none h)
theorem hlpT_size (x : HlpZ) : (hlpT x).size ≤ 1000 := by
  cases h : hlpB x with
  | true => exact (hlp_back h).2.2.1
  | false => rw [(hlp_none h).1]; decide

set_option maxHeartbeats 8000000 in
set_option maxRecDepth 1000000 in
theorem law_Helpers (A0 : Option Addr) (n0 c0 : Nat) (bs0 : List Int) (A1 : Option Addr) (n1 c1 : Nat) (bs1 : List Int) (w : World) (ht : TabPME w) (h0 : RdY w A0 n0 bs0) (h1 : RdY w A1 n1 bs1) :
    Calls Tryz.prog 5 #[.slice A0 n0 c0, .slice A1 n1 c1] w fun e w' => e = .returned (.bool true) ∧ Below w.heap.size w w' := by
  have hd0 : decide ((1048576 : Int) < n0) = !decide (n0 ≤ 1048576) := by by_cases h : n0 ≤ 1048576 <;> simp [h] <;> omega
  have hd1 : decide ((1048576 : Int) < n1) = !decide (n1 ≤ 1048576) := by by_cases h : n1 ≤ 1048576 <;> simp [h] <;> omega
  have L0 := hide (b10Long_calls A0 n0 c0 w)
  have L1 := hide (b10Long_calls A1 n1 c1 w)
  rw [hd0] at L0
  rw [hd1] at L1
  have H0 := hide h0
  have H1 := hide h1
  have HT := hide ht
  clear h0 h1 hd0 hd1 ht
  by_cases hn0 : n0 ≤ 1048576
  case neg =>
    rw [decide_eq_false hn0] at L0
    go_enter Tryz.func5, Tryz.ntmps5
    go_wp2_with fail
    refine L0.out.mono ?_
    rintro e w' ⟨rfl, rfl⟩
    go_wp2
    go_ret
    exact ⟨rfl, Below.refl _ _⟩
  rw [decide_eq_true hn0] at L0
  by_cases hn1 : n1 ≤ 1048576
  case neg =>
    rw [decide_eq_false hn1] at L1
    go_enter Tryz.func5, Tryz.ntmps5
    go_wp2_with fail
    refine L0.out.mono ?_
    rintro e w' ⟨rfl, rfl⟩
    go_wp2_with fail
    refine L1.out.mono ?_
    rintro e w' ⟨rfl, rfl⟩
    go_wp2
    go_ret
    exact ⟨rfl, Below.refl _ _⟩
  rw [decide_eq_true hn1] at L1
  have T0 := hide (drawFillTasks_calls n0 c0 A0 bs0 w H0.out hn0)
  go_enter Tryz.func5, Tryz.ntmps5
  go_wp2_with fail
  refine L0.out.mono ?_
  rintro e w' ⟨rfl, rfl⟩
  go_wp2_with fail
  refine L1.out.mono ?_
  rintro e w' ⟨rfl, rfl⟩
  clear L0 L1
  go_wp2_with fail
  refine T0.out.mono ?_
  rintro e w1 ⟨A2, m, c2, hs, A3, q, c3, ts, rfl, g1, hm, hmc, g2, hq, hqc, hb1⟩
  have FT := hide (implFillTasks_calls A2 A3 m c2 q c3 hs ts w1 g1 g2 (by omega) (by omega))
  have MF := hide (fun W (h : RdK kHlp W A2 m hs) (h' : RdK kHlp W A3 q ts) => implMostFilled_calls A2 A3 m c2 q c3 hs ts W h h' (by omega) (by omega) hqc)
  obtain ⟨FV, hFV⟩ : ∃ FV, FV = ftV hs ts := ⟨_, rfl⟩
  obtain ⟨FC, hFC⟩ : ∃ FC, FC = ftC hs ts := ⟨_, rfl⟩
  obtain ⟨MV, hMV⟩ : ∃ MV, MV = mostV hs ts := ⟨_, rfl⟩
  obtain ⟨HC, hHC⟩ : ∃ HC, HC = helpC hs ts := ⟨_, rfl⟩
  unfold FtPost at FT
  rw [← hFV, ← hFC] at FT
  rw [← hMV, ← hHC] at MF
  have HKS := hide (And.intro hFV (And.intro hFC (And.intro hMV hHC)))
  have HX1 := hide g1
  have HY1 := hide g2
  have HB1 := hide hb1
  clear T0 g1 g2 hb1 hFV hFC hMV hHC
  go_wp2_with fail
  refine FT.out.mono ?_
  rintro e w2 ⟨A4, n4, c4, rfl, f4, hnc4, hb2⟩
  have HX2 := hide (HX1.out.below hb2 (Nat.le_refl _))
  have HY2 := hide (HY1.out.below hb2 (Nat.le_refl _))
  have HG2 := hide f4
  have HB2 := hide (HB1.out.trans (hb2.mono HB1.out.size))
  clear FT HX1 HY1 HB1 f4 hb2
  go_wp2_with fail
  refine (MF.out w2 HX2.out HY2.out).mono ?_
  rintro e w3 ⟨rfl, hb3⟩
  have HX3 := hide (HX2.out.below hb3 (Nat.le_refl _))
  have HY3 := hide (HY2.out.below hb3 (Nat.le_refl _))
  have HG3 := hide (HG2.out.below hb3 (Nat.le_refl _))
  have HB3 := hide (HB2.out.trans (hb3.mono HB2.out.size))
  clear MF HX2 HY2 HB2 HG2 hb3
  go_upto_if 52 with fail
  go_cut [] (fun wx => Hid (Below w3.heap.size w3 wx))
  case first => as_aux_lemma =>
    --[
    rcases helpC_two hs ts with hk | hk
    case inr =>
      have hk1 : HC = 1 := HKS.out.2.2.2.trans hk
      subst hk1
      clear hk
      go_wp2_with fail
      go_meet
      case rel => exact Below.refl _ _
    obtain ⟨v1, v2⟩ := helpC_ok hk
    obtain ⟨M, e1, hMq, hMm, hMc, hMp, hMf⟩ := help_facts HX3.out.2.1 HY3.out.2.1 hk
    have hk0 : HC = 0 := HKS.out.2.2.2.trans hk
    have hMV : MV = (M : Int) := HKS.out.2.2.1.trans e1
    have hFM : FC = 0 ↔ M = q := by rw [HKS.out.2.1]; exact hMf
    have hm10 : m ≤ 10 := by have := hlps_len v1; rw [HX3.out.2.1] at this; exact this
    have hq8 : q ≤ 8 := by have := tsks_len v2; rw [HY3.out.2.1] at this; exact this
    obtain ⟨bb, hbb⟩ : ∃ bb : Bool, bb = decide (M = q) := ⟨_, rfl⟩
    have q1 : (FC == 0) = bb := by rw [hbb]; by_cases h : M = q <;> simp [h, hFM]
    have q2 : ((M : Int) == (q : Int)) = bb := by rw [hbb]; by_cases h : M = q <;> simp [h] <;> omega
    have q3 : decide (FC = 0) = bb := by rw [hbb]; exact decide_eq_decide.2 hFM
    have q4 : decide ((M : Int) = (q : Int)) = bb := by rw [hbb]; exact decide_eq_decide.2 (by omega)
    have q5 : (M == q) = bb := by rw [hbb]; by_cases h : M = q <;> simp [h]
    have i1 : ¬ (M : Int) < 0 := by omega
    have i2 : ¬ q < M := by omega
    have i3 : decide (q < M) = false := decide_eq_false i2
    have i4 : ¬ m < M := by omega
    have i5 : decide (m < M) = false := decide_eq_false i4
    have HMC := hide (And.intro hMc hMp)
    have HV := hide (And.intro v1 v2)
    subst hk0
    subst hMV
    clear e1 hMf hMc hMp hFM hbb hk HKS HG3 HT H0 H1 HB3 v1 v2 hn0 hn1
    go_wp2_with fail
    clear q1 q2 q3 q4 q5 i1 i2 i3 i4 i5
    go_loopw [11, 12, 13, 14, 15] (fun can t _ _ _ wr => ∃ (k c : Nat), k ≤ q ∧ t = .int .i64 k ∧ can = .int .i64 c ∧ c ≤ k ∧ Hid (c = (ts.take k).countP (fun t => decide (0 < (helpZ hs t).length))) ∧ Hid (Below w3.heap.size w3 wr)) (fun _ t _ _ _ _ => q - (intOf t).toNat)
    case atStart => exact ⟨0, 0, Nat.zero_le _, rfl, rfl, Nat.le_refl _, rfl, Below.refl _ _⟩
    case round => as_aux_lemma =>
      obtain ⟨k, c, hk, rfl, rfl, hck, HCC, HBr⟩ := hrel
      by_cases hlt : k < q
      · obtain ⟨b, off, f0, f1, f2, hA, hbl, hx, c0, c1, c2', hs0, hs1, hs2, hs3, hs4⟩ := (HY3.out.below HBr.out (Nat.le_refl _)).atHlp hlt
        have htk := listN_mem HV.out.2 _ (List.mem_of_getElem? hx.out)
        have HF := hide (implHelpersFor_calls A2 m c2 hs f0 f1 f2 wr (HX3.out.below HBr.out (Nat.le_refl _)) hs0 HV.out.1 htk)
        have HK : Hid (∀ W, Below wr.heap.size wr W → W.cell? ⟨b, off + k * 3 + 1, none⟩ = some (.int .i64 f1) ∧ W.cell? ⟨b, off + k * 3 + 2, none⟩ = some (.int .i64 f2)) := fun W hW => ⟨(hW.cell (p := ⟨b, off + k * 3 + 1, none⟩) hbl).trans c1, (hW.cell (p := ⟨b, off + k * 3 + 2, none⟩) hbl).trans c2'⟩
        obtain ⟨V, hV⟩ : ∃ V, V = helpZ hs ⟨f0, f1, f2⟩ := ⟨_, rfl⟩
        have HVB : Hid ((∀ x ∈ V, 0 ≤ x ∧ x < (m : Int)) ∧ V.Pairwise (· < ·) ∧ ∀ (j : Nat) (h : HlpZ), hs[j]? = some h → decide ((j : Int) ∈ V) = canB h ⟨f0, f1, f2⟩) := by
          rw [hV]
          exact ⟨helpZ_bd HX3.out.2.1 _, idxK_rise _ _ _, fun j h hx => helpZ_mem hx⟩
        have HCN : Hid ((ts.take (k + 1)).countP (fun t => decide (0 < (helpZ hs t).length)) = c + (if 0 < V.length then 1 else 0)) := by
          unfold Hid
          rw [take_snoc hx.out, List.countP_append, List.countP_singleton, ← HCC.out, hV]
          simp only [decide_eq_true_eq]
        rw [← hV] at HF
        have i1 : (0 : Int) ≤ (k : Int) := by omega
        have i2 : (k : Int) < (q : Int) := by omega
        subst hA
        clear hV htk hx HCC
        go_wp2_with fail
        refine HF.out.mono ?_
        rintro e w5 ⟨A5, n5, c5, rfl, f5, hn5, hb5⟩
        have RI := hide (b10Rises_calls A5 n5 c5 m V w5 f5 (by omega) HVB.out.1 HVB.out.2.1)
        have HF5 := hide f5
        have HB5 := hide (And.intro hb5 (HBr.out.trans (hb5.mono HBr.out.size)))
        have hvl : V.length = n5 := f5.len
        clear f5 hb5 HF HBr c0 c1 c2'
        go_wp2_with fail
        refine RI.out.mono ?_
        rintro e w6 ⟨rfl, hj6⟩
        have hb6 := below_of_draws hj6
        have HF6 := hide (HF5.out.below hb6 (Nat.le_refl _))
        have HB6 := hide (And.intro (HB5.out.1.trans (hb6.mono HB5.out.1.size)) (HB5.out.2.trans (hb6.mono HB5.out.2.size)))
        clear hj6 hb6 RI HF5 HB5
        obtain ⟨c', hc'⟩ : ∃ c', c' = c + (if 0 < n5 then 1 else 0) := ⟨_, rfl⟩
        rw [hvl, ← hc'] at HCN
        have hck' : c' ≤ k + 1 := by rw [hc']; split <;> omega
        go_upto_if 102 with fail
        go_cut [11] (fun v wx => v = .int .i64 (c' : Int) ∧ wx = w6)
        case first => as_aux_lemma =>
          by_cases h5 : 0 < n5
          · rw [if_pos h5] at hc'
            have h5' : (0 : Int) < (n5 : Int) := by omega
            have h5d : decide (0 < n5) = true := decide_eq_true h5
            have hcc : (c' : Int) = (c : Int) + 1 := by omega
            clear hc'
            go_wp2_with fail
            go_meet
            case rel => exact ⟨by rw [hcc], rfl⟩
          · rw [if_neg h5] at hc'
            have h5' : ¬ (0 : Int) < (n5 : Int) := by omega
            have h5d : decide (0 < n5) = false := decide_eq_false h5
            have hcc : c' = c := by omega
            clear hc'
            go_wp2_with fail
            go_meet
            case rel => exact ⟨by rw [hcc], rfl⟩
        case rest => as_aux_lemma =>
          obtain ⟨hv11, hwx⟩ := hcut
          subst hv11
          subst hwx
          clear hc'
          go_wp2_with fail
          go_loopw [15] (fun h wi => ∃ j : Nat, j ≤ m ∧ h = .int .i64 j ∧ Hid (Below wc.heap.size wc wi)) (fun h _ => m - (intOf h).toNat)
          case atStart => exact ⟨0, Nat.zero_le _, rfl, Below.refl _ _⟩
          case round => as_aux_lemma =>
            obtain ⟨j, hj, rfl, HBi⟩ := hrel
            by_cases hjm : j < m
            · have hbi3 : Below w3.heap.size w3 wr := HB6.out.2.trans (HBi.out.mono HB6.out.2.size)
              obtain ⟨b', off', g0, g1, g2, hA', hbl', hx', d0, d1, d2, _⟩ := (HX3.out.below hbi3 (Nat.le_refl _)).atHlp hjm
              have hbw := HB6.out.1.trans (HBi.out.mono HB6.out.1.size)
              obtain ⟨e1, e2⟩ := HK.out wr hbw
              have hbz : b < wr.heap.size := Nat.lt_of_lt_of_le hbl hbw.size
              have P1 := fun p : BelW wr => BelW.cell d1 hbl' p
              have P2 := fun p : BelW wr => BelW.cell d2 hbl' p
              have R1 := fun p : BelW wr => BelW.cell e1 hbz p
              have R2 := fun p : BelW wr => BelW.cell e2 hbz p
              obtain ⟨cb, hcb⟩ : ∃ cb, cb = canB ⟨g0, g1, g2⟩ ⟨f0, f1, f2⟩ := ⟨_, rfl⟩
              have HV5 : Hid (∀ p : BelW wr, Calls Tryz.prog 18 #[.slice A5 n5 c5, .int .i64 (j : Int)] p.1 fun e w'' => e = .returned (.bool cb) ∧ ∃ q : BelW wr, w'' = q.1) := fun p => by
                have h := b10Has_calls A5 n5 c5 V (j : Int) p.1 (HF6.out.below (HBi.out.trans (p.2.mono HBi.out.size)) (Nat.le_refl _)) (by omega)
                rw [HVB.out.2.2 j _ hx'.out, ← hcb] at h
                exact Calls.bel_same h
              have hcb2 : cb = ((bits .and .i64 g1 f1 == f1) && decide (g2 ≤ f2)) := hcb
              have i5 : (0 : Int) ≤ (j : Int) := by omega
              have i6 : (j : Int) < (m : Int) := by omega
              subst hA'
              clear hcb hx' hbi3 hbw d0 d1 d2 e1 e2
              rcases b_cases (bits .and .i64 g1 f1 == f1) with h1 | h1
              · rw [h1, Bool.false_and] at hcb2
                subst hcb2
                go_wp2_with fail
                refine wp_region_bel (by kernel_rfl) (by kernel_rfl) ?_
                repeat (refine WQ.step (fun K hK => ?_); go_simp; first | (refine hK _ ?_; clear hK K) | (apply Exists.intro; refine ⟨fun _ => ?_, hK _ ?_⟩; (go_at_call 18; exact HV5.out _); clear hK K))
                refine WQ.nil ?_
                rintro w8 ⟨⟨w8, hb8⟩, rfl⟩
                have HB8 := hide (HBi.out.trans (hb8.mono HBi.out.size))
                clear hb8
                go_wp2
                go_roundw
                case rel => exact ⟨j + 1, by omega, by go_num, HB8⟩
                case measure => simp [intOf]; omega
              · rw [h1, Bool.true_and] at hcb2
                by_cases h2 : g2 ≤ f2
                · have d : decide (g2 ≤ f2) = true := decide_eq_true h2
                  rw [d] at hcb2
                  subst hcb2
                  go_wp2_with fail
                  refine wp_region_bel (by kernel_rfl) (by kernel_rfl) ?_
                  repeat (refine WQ.step (fun K hK => ?_); go_simp; first | (refine hK _ ?_; clear hK K) | (apply Exists.intro; refine ⟨fun _ => ?_, hK _ ?_⟩; (go_at_call 18; exact HV5.out _); clear hK K))
                  refine WQ.nil ?_
                  rintro w8 ⟨⟨w8, hb8⟩, rfl⟩
                  have HB8 := hide (HBi.out.trans (hb8.mono HBi.out.size))
                  clear hb8
                  go_wp2
                  go_roundw
                  case rel => exact ⟨j + 1, by omega, by go_num, HB8⟩
                  case measure => simp [intOf]; omega
                · have d : decide (g2 ≤ f2) = false := decide_eq_false h2
                  rw [d] at hcb2
                  subst hcb2
                  go_wp2_with fail
                  refine wp_region_bel (by kernel_rfl) (by kernel_rfl) ?_
                  repeat (refine WQ.step (fun K hK => ?_); go_simp; first | (refine hK _ ?_; clear hK K) | (apply Exists.intro; refine ⟨fun _ => ?_, hK _ ?_⟩; (go_at_call 18; exact HV5.out _); clear hK K))
                  refine WQ.nil ?_
                  rintro w8 ⟨⟨w8, hb8⟩, rfl⟩
                  have HB8 := hide (HBi.out.trans (hb8.mono HBi.out.size))
                  clear hb8
                  go_wp2
                  go_roundw
                  case rel => exact ⟨j + 1, by omega, by go_num, HB8⟩
                  case measure => simp [intOf]; omega
            · have hjm' : j = m := by omega
              have HBN := hide (HB6.out.2.trans (HBi.out.mono HB6.out.2.size))
              clear HB6 HBi HK
              go_wp2_with fail
              go_roundw
              case rel => exact ⟨k + 1, c', by omega, by go_num, rfl, hck', HCN.symm, HBN⟩
              case measure => simp [intOf]; omega
      · have hkq : k = q := by omega
        rw [List.take_of_length_le (by rw [HY3.out.2.1]; omega)] at HCC
        obtain ⟨hM1, hM2⟩ := HMC.out
        rw [← HCC.out] at hM1 hM2
        clear HCC HMC
        rcases Nat.eq_zero_or_pos c with h0 | h0
        · have hM0 : M = 0 := by omega
          subst h0
          subst hM0
          go_wp2_with fail
          go_meet
          case rel => exact HBr
        · have hMp := hM2 h0
          have j1 : ¬ (c : Int) < (M : Int) := by omega
          have j2 : ¬ c < M := by omega
          have j3 : decide (c < M) = false := decide_eq_false j2
          have j4 : decide (0 < c) = true := decide_eq_true h0
          have j5 : ((M : Int) == 0) = false := by simp; omega
          have j6 : ¬ M = 0 := by omega
          clear hM1 hM2
          go_wp2_with fail
          go_meet
          case rel => exact HBr
    --]
  case rest => as_aux_lemma =>
    obtain ⟨w4, rfl⟩ : ∃ w4 : World, w4 = wc := ⟨_, rfl⟩
    have hbc := hcut.out
    have HXc := hide (HX3.out.below hbc (Nat.le_refl _))
    have HYc := hide (HY3.out.below hbc (Nat.le_refl _))
    have HGc := hide (HG3.out.below hbc (Nat.le_refl _))
    have HBc := hide (HB3.out.trans (hbc.mono HB3.out.size))
    clear HX3 HY3 HG3 HB3 hbc hcut
    go_upto_if 157 with fail
    go_cut [] (fun wx => Hid (Below w4.heap.size w4 wx))
    case first => as_aux_lemma =>
      --[
      by_cases hf : FC = 0
      · obtain ⟨v1, v2, kp⟩ := ft_good (hs := hs) (ts := ts) (by rw [← HKS.out.2.1]; exact hf)
        rw [← HKS.out.1] at kp
        have hlg : FV.length = n4 := HGc.out.len
        have hlh : hs.length = m := HXc.out.2.1
        have hlt : ts.length = q := HYc.out.2.1
        have hq8 := tsks_len v2
        have hm10 := hlps_len v1
        have hn4 : n4 = q := by rw [← hlg, kp.1, hlt]
        have hbd : ∀ x ∈ FV, 0 ≤ x ∧ x < (m : Int) := by rw [← hlh]; exact kp.2.2.1
        have hid := idle_len m FV kp.2.1 hbd
        have ID := hide (implIdleHelpers_calls A2 m c2 hs A4 n4 c4 FV w4 HXc.out HGc.out v1 hbd (by omega))
        have KP := hide (fun W (h : RdK kHlp W A2 m hs) (h' : RdK kHlp W A3 q ts) (hD : RdI W A4 n4 FV) => implKeepsTasks_calls A2 A3 A4 m c2 q c3 n4 c4 hs ts FV W h h' hD hnc4 v1 v2 kp)
        have KS := hide (fun W (h : RdK kHlp W A2 m hs) (h' : RdK kHlp W A3 q ts) (hD : RdI W A4 n4 FV) => specKeepsTasks_calls A2 A3 A4 m c2 q c3 n4 c4 hs ts FV W h h' hD hnc4 v1 v2 kp)
        have HID := hide (And.intro hid hlg)
        have hm10' : m ≤ 10 := by omega
        have hq8' : q ≤ 8 := by omega
        subst hf
        clear v1 v2 kp hlg hlh hlt hq8 hm10 hbd hid HKS HT H0 H1 HBc hn4
        go_wp2_with fail
        refine ID.out.mono ?_
        rintro e w5 ⟨A7, n7, c7, rfl, f7, hb5⟩
        have hsum : (n7 : Int) + (n4 : Int) = (m : Int) := by have := HID.out; rw [f7.len, this.2] at this; omega
        have HX5 := hide (HXc.out.below hb5 (Nat.le_refl _))
        have HY5 := hide (HYc.out.below hb5 (Nat.le_refl _))
        have HG5 := hide (HGc.out.below hb5 (Nat.le_refl _))
        have HB5 := hide hb5
        have HSM := hide hsum
        clear hsum f7 hb5 ID HID HXc HYc HGc
        go_wp2_with fail
        refine (KP.out w5 HX5.out HY5.out HG5.out).mono ?_
        rintro e w6 ⟨rfl, hb6⟩
        have HX6 := hide (HX5.out.below hb6 (Nat.le_refl _))
        have HY6 := hide (HY5.out.below hb6 (Nat.le_refl _))
        have HG6 := hide (HG5.out.below hb6 (Nat.le_refl _))
        have HB6 := hide (HB5.out.trans (hb6.mono HB5.out.size))
        clear hb6 KP HX5 HY5 HG5 HB5
        go_wp2_with fail
        refine (KS.out w6 HX6.out HY6.out HG6.out).mono ?_
        rintro e w7 ⟨rfl, hb7⟩
        have HB7 := hide (HB6.out.trans (hb7.mono HB6.out.size))
        have hsum := HSM.out
        clear hb7 KS HX6 HY6 HG6 HB6
        go_wp2_with fail
        go_meet
        case rel => exact HB7
      · have hFV : FV = [] := by rw [HKS.out.1]; exact ft_bad (by rw [← HKS.out.2.1]; exact hf)
        have hn4 : n4 = 0 := by rw [← HGc.out.len, hFV]; rfl
        clear HKS HGc hFV
        subst hn4
        go_wp2_with fail
        go_meet
        case rel => exact Below.refl _ _
      --]
    case rest => as_aux_lemma =>
      obtain ⟨w5, rfl⟩ : ∃ w5 : World, w5 = wc := ⟨_, rfl⟩
      have hbd := hcut.out
      have HBd := hide (HBc.out.trans (hbd.mono HBc.out.size))
      clear hcut hbd HXc HYc HGc HBc HKS hq hqc hm hmc hnc4
      have Dx := hide (drawHelperText_calls n1 c1 A1 bs1 w5 (H1.out.below HBd.out (Nat.le_refl _)) hn1)
      go_wp2_with fail
      refine Dx.out.mono ?_
      rintro e wax ⟨sx, ox, kx, rfl, hsx, hox, hkx, hbax⟩
      obtain ⟨wbx, hwbx⟩ : ∃ wb, wb = wax.alloc (.cells #[.string sx, .int .i64 ox, .int .i64 kx] 70) := ⟨_, rfl⟩
      have hbbx : Below wax.heap.size wax wbx := by rw [hwbx]; exact (Below.refl _ _).alloc (Nat.le_refl _) _
      have hzbx : wax.heap.size < wbx.heap.size := by rw [hwbx]; simp
      have HAx : Hid (At3 70 wbx wax.heap.size (.string sx) (.int .i64 ox) (.int .i64 kx)) := by rw [hwbx]; exact At3.new _ _ _ _ _
      have HBbx := hide ((HBd.out.trans (hbax.mono HBd.out.size)).trans (hbbx.mono (Nat.le_trans HBd.out.size hbax.size)))
      obtain ⟨Tx, hTx⟩ : ∃ T, T = hlpT ⟨sx, ox, kx⟩ := ⟨_, rfl⟩
      have Xx := hide (implHelperText_calls sx ox kx wbx (HT.out.1.1.here HBbx.out) (by omega) hkx)
      rw [← hTx] at Xx
      have hTsx : Tx.size ≤ 1000 := by rw [hTx]; exact hlpT_size _
      have hTwx := hlp_two ⟨sx, ox, kx⟩
      rw [← hTx] at hTwx
      have HTWx := hide hTwx
      have HTEx := hide hTx
      clear hTx
      clear hbax hbbx Dx hTwx
      go_wp2_with fail
      rw [← hwbx]
      clear hwbx
      (try go_wp2_with fail)
      refine Xx.out.mono ?_
      rintro e wcx ⟨rfl, hbcx⟩
      have HBcx := hide (HBbx.out.trans (hbcx.mono HBbx.out.size))
      have HAcx := hide (HAx.out.below hbcx hzbx)
      have hzcx := hbcx.size
      have Rx := hide (implReadHelper_calls Tx wcx (HT.out.here HBcx.out) (by omega))
      unfold HlpBPost at Rx
      obtain ⟨okx, hokx⟩ : ∃ ok, ok = hrC Tx := ⟨_, rfl⟩
      obtain ⟨Vx, hVx⟩ : ∃ V, V = hrV Tx := ⟨_, rfl⟩
      rw [← hokx, ← hVx] at Rx HTWx
      obtain ⟨v0x, v1x, v2x⟩ := Vx
      simp only at Rx
      clear hbcx Xx HAx HBbx hokx hVx
      go_wp2_with fail
      refine Rx.out.mono ?_
      rintro e wdx ⟨rfl, hbdx⟩
      obtain ⟨wex, hwex⟩ : ∃ we, we = wdx.alloc (.cells #[.string v0x, .int .i64 v1x, .int .i64 v2x] 70) := ⟨_, rfl⟩
      have hbex : Below wdx.heap.size wdx wex := by rw [hwex]; exact (Below.refl _ _).alloc (Nat.le_refl _) _
      have hzex : wdx.heap.size < wex.heap.size := by rw [hwex]; simp
      have HEx : Hid (At3 70 wex wdx.heap.size (.string v0x) (.int .i64 v1x) (.int .i64 v2x)) := by rw [hwex]; exact At3.new _ _ _ _ _
      have hbdex : Below wcx.heap.size wcx wex := hbdx.trans (hbex.mono hbdx.size)
      have HBex := hide (HBcx.out.trans (hbdex.mono HBcx.out.size))
      have HAex := hide (HAcx.out.below hbdex (by omega))
      have hzdx := hbdx.size
      clear hbdx hbex hbdex Rx HAcx HBcx
      go_wp2_with fail
      rw [← hwex]
      clear hwex
      (try go_wp2_with fail)
      have Dy := hide (drawTaskText_calls n0 c0 A0 bs0 wex (H0.out.below HBex.out (Nat.le_refl _)) hn0)
      go_wp2_with fail
      refine Dy.out.mono ?_
      rintro e way ⟨sy, oy, ky, rfl, hsy, hoy, hky, hbay⟩
      obtain ⟨wby, hwby⟩ : ∃ wb, wb = way.alloc (.cells #[.string sy, .int .i64 oy, .int .i64 ky] 67) := ⟨_, rfl⟩
      have hbby : Below way.heap.size way wby := by rw [hwby]; exact (Below.refl _ _).alloc (Nat.le_refl _) _
      have hzby : way.heap.size < wby.heap.size := by rw [hwby]; simp
      have HAy : Hid (At3 67 wby way.heap.size (.string sy) (.int .i64 oy) (.int .i64 ky)) := by rw [hwby]; exact At3.new _ _ _ _ _
      have HBby := hide ((HBex.out.trans (hbay.mono HBex.out.size)).trans (hbby.mono (Nat.le_trans HBex.out.size hbay.size)))
      obtain ⟨Ty, hTy⟩ : ∃ T, T = hlpT ⟨sy, oy, ky⟩ := ⟨_, rfl⟩
      have Xy := hide (implTaskText_calls sy oy ky wby (HT.out.1.1.here HBby.out) (by omega) hky)
      rw [← hTy] at Xy
      have hTsy : Ty.size ≤ 1000 := by rw [hTy]; exact hlpT_size _
      have hTwy := hlp_two ⟨sy, oy, ky⟩
      rw [← hTy] at hTwy
      have HTWy := hide hTwy
      have HTEy := hide hTy
      clear hTy
      have hbab := hbay.trans (hbby.mono hbay.size)
      have HAb := hide (HAex.out.below hbab (by omega))
      have HEb := hide (HEx.out.below hbab hzex)
      have hzb0 := hbab.size
      clear hbab
      clear hbay hbby Dy hTwy
      go_wp2_with fail
      rw [← hwby]
      clear hwby
      (try go_wp2_with fail)
      refine Xy.out.mono ?_
      rintro e wcy ⟨rfl, hbcy⟩
      have HBcy := hide (HBby.out.trans (hbcy.mono HBby.out.size))
      have HAcy := hide (HAy.out.below hbcy hzby)
      have hzcy := hbcy.size
      have HAc' := hide (HAb.out.below hbcy (by omega))
      have HEc' := hide (HEb.out.below hbcy (by omega))
      have Ry := hide (implReadTask_calls Ty wcy (HT.out.here HBcy.out) (by omega))
      unfold HlpBPost at Ry
      obtain ⟨oky, hoky⟩ : ∃ ok, ok = hrC Ty := ⟨_, rfl⟩
      obtain ⟨Vy, hVy⟩ : ∃ V, V = hrV Ty := ⟨_, rfl⟩
      rw [← hoky, ← hVy] at Ry HTWy
      obtain ⟨v0y, v1y, v2y⟩ := Vy
      simp only at Ry
      clear hbcy Xy HAy HBby hoky hVy
      go_wp2_with fail
      refine Ry.out.mono ?_
      rintro e wdy ⟨rfl, hbdy⟩
      obtain ⟨wey, hwey⟩ : ∃ we, we = wdy.alloc (.cells #[.string v0y, .int .i64 v1y, .int .i64 v2y] 67) := ⟨_, rfl⟩
      have hbey : Below wdy.heap.size wdy wey := by rw [hwey]; exact (Below.refl _ _).alloc (Nat.le_refl _) _
      have hzey : wdy.heap.size < wey.heap.size := by rw [hwey]; simp
      have HEy : Hid (At3 67 wey wdy.heap.size (.string v0y) (.int .i64 v1y) (.int .i64 v2y)) := by rw [hwey]; exact At3.new _ _ _ _ _
      have hbdey : Below wcy.heap.size wcy wey := hbdy.trans (hbey.mono hbdy.size)
      have HBey := hide (HBcy.out.trans (hbdey.mono HBcy.out.size))
      have HAey := hide (HAcy.out.below hbdey (by omega))
      have HAz := hide (HAc'.out.below hbdey (by omega))
      have HEz := hide (HEc'.out.below hbdey (by omega))
      have hzdy := hbdy.size
      clear hbdy hbey hbdey Ry HAcy HBcy
      have S5 := hide (fun W => skillText_calls 5 W (by omega))
      have R5 := hide (fun W => implReadSkills_calls (skT 5) W)
      rw [(skT_facts (s := 5) (by omega)).2.1, (skT_facts (s := 5) (by omega)).2.2] at R5
      go_wp2_with fail
      rw [← hwey]
      clear hwey
      (try go_wp2_with fail)
      refine (S5.out _).mono ?_
      rintro e wf ⟨rfl, hbf⟩
      have HAf := hide (HAz.out.below hbf (by omega))
      have HEf := hide (HEz.out.below hbf (by omega))
      have HA2f := hide (HAey.out.below hbf (by omega))
      have HE2f := hide (HEy.out.below hbf (by omega))
      have HBf := hide (HBey.out.trans (hbf.mono HBey.out.size))
      have hzf := hbf.size
      clear hbf S5 HAz HEz HAey HEy HBey
      go_wp2_with fail
      refine (R5.out _).mono ?_
      rintro e wg ⟨rfl, hbg⟩
      have HAg := hide (HAf.out.below hbg (by omega))
      have HEg := hide (HEf.out.below hbg (by omega))
      have HA2g := hide (HA2f.out.below hbg (by omega))
      have HE2g := hide (HE2f.out.below hbg (by omega))
      have HBg := hide (HBf.out.trans (hbg.mono HBf.out.size))
      have SH := hide (specHelperText_calls sx ox kx wg (by omega) hkx)
      rw [← HTEx.out] at SH
      have hzg := hbg.size
      obtain ⟨p0, p1, p2, _⟩ := HAg.out.out
      clear hbg R5 HAf HEf HA2f HE2f HBf
      go_wp2_with fail
      refine SH.out.mono ?_
      rintro e wh ⟨rfl, hbh⟩
      clear p0 p1 p2
      obtain ⟨p0, p1, p2, _⟩ := (HAg.out.below hbh (by omega)).out
      obtain ⟨q0, q1, q2, _⟩ := (HEg.out.below hbh (by omega)).out
      obtain ⟨r0, r1, r2, _⟩ := (HA2g.out.below hbh (by omega)).out
      obtain ⟨t0, t1, t2, _⟩ := (HE2g.out.below hbh (by omega)).out
      have HBh := hide (HBg.out.trans (hbh.mono HBg.out.size))
      clear hbh SH HAg HEg HA2g HE2g HBg
      rcases HTWx.out with ⟨x1, x2, x3⟩ | ⟨x1, x2⟩
      · obtain ⟨rfl, rfl, rfl⟩ : v0x = sx ∧ v1x = ox ∧ v2x = kx := by simpa only [HlpZ.mk.injEq] using x3
        have xe := str_some x1
        subst x2
        rcases HTWy.out with ⟨y1, y2, y3⟩ | ⟨y1, y2⟩
        · obtain ⟨rfl, rfl, rfl⟩ : v0y = sy ∧ v1y = oy ∧ v2y = ky := by simpa only [HlpZ.mk.injEq] using y3
          have ye := str_some y1
          subst y2
          go_wp2
          go_ret
          exact ⟨by simp, HBh.out⟩
        · subst y1
          subst y2
          go_wp2
          go_ret
          exact ⟨by simp, HBh.out⟩
      · subst x1
        subst x2
        rcases HTWy.out with ⟨y1, y2, y3⟩ | ⟨y1, y2⟩
        · obtain ⟨rfl, rfl, rfl⟩ : v0y = sy ∧ v1y = oy ∧ v2y = ky := by simpa only [HlpZ.mk.injEq] using y3
          have ye := str_some y1
          subst y2
          go_wp2
          go_ret
          exact ⟨by simp, HBh.out⟩
        · subst y1
          subst y2
          go_wp2
          go_ret
          exact ⟨by simp, HBh.out⟩

end Go.Proofs.YtcclfmapbgdpdaaGreatDoor
