/- slices.Insert and slices.Delete of one element, at impl.Grant, on memory of the call's own. -/
import Derived.Test.YtidhbpnibgegdaaStGrant
import Derived.Test.YtidhbpnibgegdaaOwnL
import Derived.Deep.Cut
import Derived.Lib.Overlaps
import Derived.Lib.SliceRun
namespace Go.Proofs.Ytidhbpnibgegdaa
open Go.RowKit
set_option linter.unusedVariables false

theorem Try.szOfGrant : (Try.prog.info? 49).map (·.size) = some 3 := by kernel_rfl

/-- What an insertion leaves. -/
def InsPostGrant (base n i : Nat) (ss : List GrantZ) (s : GrantZ) (w : World) (e : Ending) (w' : World) : Prop :=
  ∃ g' c', e = .returned (.slice (some ⟨g', 0, none⟩) (n + 1) c') ∧ w'.ownsRow base 49 3 (.slice (some ⟨g', 0, none⟩) (n + 1) c') (n + 1) (cK kGrant (ss.take i ++ [s] ++ ss.drop i)) ∧ Below base w w'

set_option maxRecDepth 100000 in
set_option maxHeartbeats 4000000 in
theorem insGrant_calls (g n c base i vb : Nat) (ss : List GrantZ) (s : GrantZ) (w : World) (hown : w.ownsRow base 49 3 (.slice (some ⟨g, 0, none⟩) n c) n (cK kGrant ss)) (hi : i ≤ n) (hn : n ≤ 1048576) (hbase : base ≤ w.heap.size)
    (hvb : w.heap[vb]? = some (.cells (kGrant.c s).toArray 49 (0, 0))) (hvg : vb ≠ g) :
    Calls Try.prog 91 #[.slice (some ⟨g, 0, none⟩) n c, .int .i64 i, .slice (some ⟨vb, 0, none⟩) 1 1] w (InsPostGrant base n i ss s w) := by
  have hks : kGrant.size = 3 := rfl
  have hsl : ss.length = n := by
    have := hown.1
    rw [cK_len, hks] at this
    omega
  have hvl : vb < w.heap.size := (Array.getElem?_eq_some_iff.1 hvb).1
  have hcl : (kGrant.c s).length = 3 := rfl
  have hnc := own_cap hown
  have HO := hide hown
  by_cases hin : i = n
  · subst hin
    have hRd : Rd w (some ⟨vb, 0, none⟩) 1 3 (cK kGrant [s]) := ⟨by simp [cK_len, hks], fun _ => ⟨vb, 0, rfl, hvl, fun j u hj => by
      rw [Nat.zero_add]
      exact cell_heap hvb (by simpa [cK] using hj)⟩⟩
    have HN : Hid (ss.take i ++ [s] ++ ss.drop i = ss ++ [s]) := by
      unfold Hid
      rw [List.take_of_length_le (by omega), List.drop_eq_nil_of_le (by omega), List.append_nil]
    have HRd := hide hRd
    clear hown hvb hRd hsl
    by_cases hci : c = i
    all_goals
      go_enter Try.func91, Try.ntmps91
      go_wp2_with (at_builtin; refine appsGrant rfl _ _ rfl base (.slice (some ⟨g, 0, none⟩) i c) i ss rfl HO.out (some ⟨vb, 0, none⟩) 1 1 [s] rfl HRd.out (by omega) hbase ?_; intro v4 w4 hown4 hb4 hz4)
      obtain ⟨g4, c4, rfl⟩ := own_addr2 hown4 (by omega)
      go_ret
      exact ⟨g4, c4, rfl, by rw [HN.out]; exact hown4, hb4⟩
  have hilt : i < n := by omega
  obtain ⟨cur, hbg, hgg, _, hcm, hcul, htk⟩ := own_at hown
  have hglt : g < w.heap.size := (Array.getElem?_eq_some_iff.1 hgg).1
  have hcu : ∀ j v, (cK kGrant ss)[j]? = some v → w.cell? ⟨g, j, none⟩ = some v := fun j v hj => by
    rw [← htk, List.getElem?_take] at hj
    split at hj
    · exact cell_heap hgg hj
    · cases hj
  have hsplit : cK kGrant ss = cK kGrant (ss.take i) ++ cK kGrant (ss.drop i) := by rw [← cK_append, List.take_append_drop]
  have hAl : (cK kGrant (ss.take i)).length = i * 3 := by rw [cK_len, hks, List.length_take]; congr 1; omega
  have hDl : (cK kGrant (ss.drop i)).length = (n - i) * 3 := by rw [cK_len, hks, List.length_drop, hsl]
  have HA : Hid (∀ j v, (cK kGrant (ss.take i))[j]? = some v → w.cell? ⟨g, j, none⟩ = some v) := fun j v hj => hcu j v (by rw [hsplit, List.getElem?_append_left (List.getElem?_eq_some_iff.1 hj).1]; exact hj)
  have HD : Hid (∀ j v, (cK kGrant (ss.drop i))[j]? = some v → w.cell? ⟨g, i * 3 + j, none⟩ = some v) := fun j v hj => hcu _ v (by rw [hsplit, List.getElem?_append_right (by omega), hAl, show i * 3 + j - i * 3 = j by omega]; exact hj)
  have HS : Hid (∀ j v, (kGrant.c s)[j]? = some v → w.cell? ⟨vb, j, none⟩ = some v) := fun j v hj => cell_heap hvb hj
  have HNew : Hid (cK kGrant (ss.take i ++ [s] ++ ss.drop i) = cK kGrant (ss.take i) ++ kGrant.c s ++ cK kGrant (ss.drop i)) := by
    unfold Hid
    rw [cK_append, cK_snoc]
  have HNl : Hid ((cK kGrant (ss.take i ++ [s] ++ ss.drop i)).length = (n + 1) * 3) := by
    unfold Hid
    rw [HNew.out, List.length_append, List.length_append, hAl, hDl, hcl]; omega
  have HSP : Hid (cur.take (i * 3 + (n - i) * 3) = cK kGrant (ss.take i) ++ cK kGrant (ss.drop i)) := by
    unfold Hid
    rw [← hsplit, ← htk]; congr 1; omega
  have H1A := hide (cK_one (K := kGrant) (xs := ss.take i))
  have H1D := hide (cK_one (K := kGrant) (xs := ss.drop i))
  have H1S : Hid (∀ v ∈ kGrant.c s, v.oneCell' = true) := by
    have := cK_one (K := kGrant) (xs := [s])
    unfold Hid
    simpa [cK] using this
  obtain ⟨A, hA⟩ : ∃ A, A = cK kGrant (ss.take i) := ⟨_, rfl⟩
  obtain ⟨D, hD⟩ : ∃ D, D = cK kGrant (ss.drop i) := ⟨_, rfl⟩
  obtain ⟨S, hS⟩ : ∃ S, S = kGrant.c s := ⟨_, rfl⟩
  rw [← hA] at HA HNew HSP H1A hAl
  rw [← hD] at HD HNew HSP H1D hDl
  rw [← hS] at HS HNew H1S hcl hvb
  clear hown hcu htk hsplit hA hD hS
  obtain ⟨i0, hi0, hz0, hz1, hz2⟩ := info_parts Try.infoGrant
  have hw1 : IntKind.i64.wrap ((i : Int) + 1) = (i : Int) + 1 := IntWalk.i64_in _ (by omega)
  have hw2 : IntKind.i64.wrap ((n : Int) + 1) = (n : Int) + 1 := IntWalk.i64_in _ (by omega)
  have hci : ¬ (c = i) := by omega
  have hii : (i : Int) < (n : Int) := by omega
  have hb1 : (0 : Int) ≤ (i : Int) + 1 := by omega
  have hbb2 : (i : Int) ≤ (n : Int) + 1 := by omega
  have hine : ((i : Int) == (n : Int)) = false := by simp; omega
  by_cases hroom : n + 1 ≤ c
  · have hr1 : ¬ ((c : Int) < (n : Int) + 1) := by omega
    have hci1 : ¬ (c = i + 1) := by omega
    have hov : ∀ lb cb, (callFunc 111 #[.slice (some ⟨vb, 0, none⟩) 1 1, .slice (some ⟨g, (i + 1) * 3, none⟩) lb cb]).run Try.prog w = .ok (.value (.bool false)) w := fun lb cb => by
      rw [run_callFunc_extern Try.func111 (by kernel_rfl) (by kernel_rfl) (by kernel_rfl) (e := Extern.SlicesOverlaps.overlaps #[39, 39] #[4]) (by kernel_rfl),
        Lib.run_overlaps_apart w 39 4 49 Try.underlying39 3 Try.sizeOf49 ⟨vb, 0, none⟩ ⟨g, (i + 1) * 3, none⟩ 1 1 lb cb hvg 49 49 3 (c * 3) (by simp [World.shape?, hvb, hcl]) (by simp [World.shape?, hgg, hcul]) (by omega) (by simp [World.frozen?, hvb]) (by simp [World.frozen?, hvb])]
      rfl
    have hsv : Hid (∀ (W : World), (∀ k, k ≠ g → W.heap[k]? = w.drew.heap[k]?) → ∀ j v, S[j]? = some v → W.cell? ((⟨vb, 0, none⟩ : Addr).add j) = some v) := fun W hW j v hj => by
      rw [Addr.add_lit, Nat.zero_add]
      exact cell_heap ((hW vb hvg).trans hvb) hj
    have HG := hide hgg
    clear hgg hvb
    go_enter Try.func91, Try.ntmps91
    go_upto_region 15 with (simp only [hov])
    go_region_law (refine step_copyS rfl _ _ 39 39 rfl 49 Try.underlying39 3 Try.szOfGrant g ((i + 1) * 3) (n - i) (c - (i + 1)) ⟨g, i * 3, none⟩ (n + 1 - i) (c - i) (n - i) (by simp [Act.eval, Act.put]) (by simp [Act.eval, Act.put]) cur 49 HG.out D (by simp only [Nat.min_def]; split <;> omega) hDl (fun j v hj => by rw [Addr.add_lit]; exact HD.out j v hj) (by omega) H1D.out base w (Below.refl _ _).drew hbg ?_; intro w2 hg2 hb2 hgb2)
    go_wp2_with (refine wpList_copyS rfl _ _ 39 39 rfl 49 Try.underlying39 3 Try.szOfGrant g (i * 3) (n + 1 - i) (c - i) ⟨vb, 0, none⟩ 1 1 1 rfl rfl _ 49 hg2.out S (by simp only [Nat.min_def]; split <;> omega) (by omega) (hsv.out _ hgb2) (by rw [lay_len _ _ _ (by omega)]; omega) H1S.out base w hb2 hbg ?_; intro w3 hg3 hb3 hgb3)

    go_wp2
    go_ret
    refine ⟨g, c, rfl, own_of (cur := lay (lay cur ((i + 1) * 3) D) (i * 3) S) hbg hg3.out hroom hcm (by rw [lay_len _ _ _ (by rw [lay_len _ _ _ (by omega)]; omega), lay_len _ _ _ (by omega)]; exact hcul) ?_ HNl.out, hb3⟩
    rw [HNew.out]
    have hl := lay_c hAl hcl hDl HSP.out (by omega)
    rw [show i * 3 + 3 = (i + 1) * 3 by omega, show (i + 1) * 3 + (n - i) * 3 = (n + 1) * 3 by omega] at hl
    exact hl
  · have hcn : c = n := by omega
    subst hcn
    have hr1 : (c : Int) < (c : Int) + 1 := by omega
    have ek : (c : Int) + 1 - (i : Int) = ((c + 1 - i : Nat) : Int) := by omega
    have hw3 : IntKind.i64.wrap ((c : Int) + 1 - (i : Int)) = (c : Int) + 1 - (i : Int) := IntWalk.i64_in _ (by omega)
    have e0 : i + (c + 1 - i) = c + 1 := by omega
    have Hgl := hide hglt
    have HI := hide (And.intro hi0 (And.intro hz0 (And.intro hz1 hz2)))
    clear hi0 hz0 hz1 hz2 hgg
    go_enter Try.func91, Try.ntmps91
    go_upto_region 10 with (at_builtin; refine wpList_append_zerosS rfl _ _ 39 3 rfl 49 i0 _ 3 40 Try.underlying39 Try.underlying3 HI.out.1 HI.out.2.1 HI.out.2.2.1 HI.out.2.2.2 (by omega) ⟨g, 0, none⟩ i c (c + 1 - i) rfl rfl A hAl (fun j v hj => by rw [Addr.add_lit, Nat.zero_add]; exact HA.out j v hj) (by omega) (by omega) (by omega) (by omega) rfl ?_; intro c2 w2 tail hge hle hb2 hlt2 htl hg2; rw [e0] at hge)
    have hc2a : ¬ (c2 = i) := by omega
    have hc2b : ¬ (c2 = i + 1) := by omega
    have htl2 : (A ++ tail).length = c2 * 3 := by rw [List.length_append, hAl, htl, ← Nat.add_mul]; congr 1; omega
    go_upto_region 11 with (refine wpList_copyS rfl _ _ 39 39 rfl 49 Try.underlying39 3 Try.szOfGrant w.heap.size (i * 3) (c + 1 - i) (c2 - i) ⟨vb, 0, none⟩ 1 1 1 rfl rfl (A ++ tail) 49 hg2.out S (by simp only [Nat.min_def]; split <;> omega) (by omega) (fun j v hj => by rw [Addr.add_lit, Nat.zero_add]; exact (hb2.cell (p := ⟨vb, j, none⟩) hvl).trans (HS.out j v hj)) (by omega) H1S.out w.heap.size w hb2 (Nat.le_refl _) ?_; intro w3 hg3 hb3 hk3)
    go_region_law (refine step_copyS rfl _ _ 39 39 rfl 49 Try.underlying39 3 Try.szOfGrant w.heap.size ((i + 1) * 3) (c - i) (c2 - (i + 1)) ⟨g, i * 3, none⟩ (c - i) (c - i) (c - i) (by simp [Act.eval, Act.put]) (by simp [Act.eval, Act.put]) (lay (A ++ tail) (i * 3) S) 49 hg3.out D (by simp only [Nat.min_def]; split <;> omega) hDl (fun j v hj => by rw [Addr.add_lit]; exact (hb3.drew.cell (p := ⟨g, i * 3 + j, none⟩) Hgl.out).trans (HD.out j v hj)) (by rw [lay_len _ _ _ (by omega)]; omega) H1D.out w.heap.size w hb3.drew (Nat.le_refl _) ?_; intro w4 hg4 hb4 hk4)

    go_wp2
    go_ret
    refine ⟨w.heap.size, c2, rfl, own_of (cur := lay (lay (A ++ tail) (i * 3) S) ((i + 1) * 3) D) hbase hg4.out hge hle (by rw [lay_len _ _ _ (by rw [lay_len _ _ _ (by omega)]; omega), lay_len _ _ _ (by omega)]; exact htl2) ?_ HNl.out, hb4.mono hbase⟩
    rw [HNew.out]
    have hl := lay_b (tail := tail) hAl hcl hDl (by omega)
    rw [show i * 3 + 3 = (i + 1) * 3 by omega, show (i + 1) * 3 + (c - i) * 3 = (c + 1) * 3 by omega] at hl
    exact hl

/-- What a deletion leaves. -/
def DelPostGrant (base n i : Nat) (ss : List GrantZ) (w : World) (e : Ending) (w' : World) : Prop :=
  ∃ g' c', e = .returned (.slice (some ⟨g', 0, none⟩) n c') ∧ w'.ownsRow base 49 3 (.slice (some ⟨g', 0, none⟩) n c') n (cK kGrant (ss.take i ++ ss.drop (i + 1))) ∧ Below base w w'

set_option maxRecDepth 100000 in
set_option maxHeartbeats 4000000 in
theorem delGrant_calls (g n c base i : Nat) (ss : List GrantZ) (w : World) (hown : w.ownsRow base 49 3 (.slice (some ⟨g, 0, none⟩) (n + 1) c) (n + 1) (cK kGrant ss)) (hi : i ≤ n) (hn : n ≤ 1048576) (hbase : base ≤ w.heap.size) :
    Calls Try.prog 81 #[.slice (some ⟨g, 0, none⟩) (n + 1) c, .int .i64 i, .int .i64 ((i : Int) + 1)] w (DelPostGrant base n i ss w) := by
  have hks : kGrant.size = 3 := rfl
  have hsl : ss.length = n + 1 := by
    have := hown.1
    rw [cK_len, hks] at this
    omega
  have hnc := own_cap hown
  obtain ⟨cur, hbg, hgg, _, hcm, hcul, htk⟩ := own_at hown
  have hcu : ∀ j v, (cK kGrant ss)[j]? = some v → w.cell? ⟨g, j, none⟩ = some v := fun j v hj => by
    rw [← htk, List.getElem?_take] at hj
    split at hj
    · exact cell_heap hgg hj
    · cases hj
  have hsplit : cK kGrant ss = cK kGrant (ss.take (i + 1)) ++ cK kGrant (ss.drop (i + 1)) := by rw [← cK_append, List.take_append_drop]
  have hAl : (cK kGrant (ss.take i)).length = i * 3 := by rw [cK_len, hks, List.length_take]; congr 1; omega
  have hA1l : (cK kGrant (ss.take (i + 1))).length = (i + 1) * 3 := by rw [cK_len, hks, List.length_take]; congr 1; omega
  have hDl : (cK kGrant (ss.drop (i + 1))).length = (n - i) * 3 := by rw [cK_len, hks, List.length_drop, hsl]; congr 1; omega
  have HA : w.ownsRow base 49 3 (.slice (some ⟨g, 0, none⟩) i c) i (cK kGrant (ss.take i)) := by
    refine own_of hbg hgg (by omega) hcm hcul ?_ hAl
    have := congrArg (List.take (i * 3)) htk
    rw [List.take_take, Nat.min_eq_left (by omega)] at this
    rw [this]
    have hs2 : cK kGrant ss = cK kGrant (ss.take i) ++ cK kGrant (ss.drop i) := by rw [← cK_append, List.take_append_drop]
    rw [hs2, List.take_left' hAl]
  have HD : Hid (∀ j v, (cK kGrant (ss.drop (i + 1)))[j]? = some v → w.cell? ⟨g, (i + 1) * 3 + j, none⟩ = some v) := fun j v hj => hcu _ v (by rw [hsplit, List.getElem?_append_right (by omega), hA1l, show (i + 1) * 3 + j - (i + 1) * 3 = j by omega]; exact hj)
  have H1D := hide (cK_one (K := kGrant) (xs := ss.drop (i + 1)))
  have HNew : Hid (cK kGrant (ss.take i ++ ss.drop (i + 1)) = cK kGrant (ss.take i) ++ cK kGrant (ss.drop (i + 1))) := cK_append _ _
  have HO := hide HA
  obtain ⟨A, hA⟩ : ∃ A, A = cK kGrant (ss.take i) := ⟨_, rfl⟩
  obtain ⟨D, hD⟩ : ∃ D, D = cK kGrant (ss.drop (i + 1)) := ⟨_, rfl⟩
  rw [← hA] at HO HNew hAl
  rw [← hD] at HD HNew H1D hDl
  clear hown hcu htk hsplit hA hD HA hgg hA1l
  obtain ⟨i0, hi0, hz0, hz1, hz2⟩ := info_parts Try.infoGrant
  have HI := hide (And.intro hi0 (And.intro hz0 (And.intro hz1 hz2)))
  clear hi0 hz0 hz1 hz2
  have hb1 : (0 : Int) ≤ (i : Int) + 1 := by omega
  have hb2 : (i : Int) ≤ (n : Int) + 1 := by omega
  have hb3 : (i : Int) + 1 ≤ (n : Int) + 1 := by omega
  have hb4 : ((i : Int) == (i : Int) + 1) = false := by simp; omega
  have hb5 : i + (n - i) = n := by omega
  have hb6 : (i : Int) ≤ (i : Int) + 1 := by omega
  have hci : ¬ (c = i) := by omega
  have hcn : ¬ (c = n) := by omega
  have e1 : n + 1 - (i + 1) = n - i := by omega
  have e9 : n + 1 - n = 1 := by omega
  have hb7 : (i : Int) ≤ (c : Int) := by omega
  have hb8 : (n : Int) + 1 ≤ (c : Int) := by omega
  have hb9 : (n : Int) ≤ (n : Int) + 1 := by omega
  have hzv := Try.zeroValue49
  have hz1c : ∀ v ∈ (Builtin.zeroCells (Value.agg #[.string ⟨#[]⟩, .string ⟨#[]⟩, .int .i64 0]).cells (0 + 1)).toList, v.oneCell' = true := by
    have ez : (Builtin.zeroCells (Value.agg #[.string ⟨#[]⟩, .string ⟨#[]⟩, .int .i64 0]).cells (0 + 1)).toList = [.string ⟨#[]⟩, .string ⟨#[]⟩, .int .i64 0] := by kernel_rfl
    rw [ez]
    intro v hv
    simp only [List.mem_cons, List.not_mem_nil, or_false] at hv
    rcases hv with rfl | rfl | rfl <;> rfl
  by_cases hc1 : c = i + 1
  · obtain rfl : i = n := by omega
    have hni : i - i = 0 := by omega
    have hD0 : D = [] := List.eq_nil_of_length_eq_zero (by simp [hDl, hni])
    subst hc1
    go_enter Try.func81, Try.ntmps81
    go_wp2
    go_region_law (refine step_append_spareS rfl _ _ 39 rfl base 49 i0 3 Try.underlying39 HI.out.1 HI.out.2.2.1 g i (i + 1) A (by simp [Act.eval, Act.put]) (own_drewN HO.out 1) ⟨g, 0, none⟩ 0 0 [] (by simp [Act.eval, Act.put]) rfl (fun j u hj => by simp at hj) (by simp) (by omega) ?_; intro w2 ho2 hgr2)
    have ho3 : w2.ownsRow base 49 3 (.slice (some ⟨g, 0, none⟩) i (i + 1)) i (A ++ D) := by
      have := ho2.out
      rw [hD0]
      exact this
    obtain ⟨cur2, _, hg2, _, _, hcul2, htk2⟩ := own_at ho3
    have hbw2 : Below base w w2 := (Below.refl base w).drew.grown hgr2 hbase (fun k hk => by injection hk with hk; omega)
    clear ho2 ho3 hgr2
    have HT := hide htk2
    have HC2 := hide hcul2
    clear htk2 hcul2
    go_wp2_with (refine wpList_clearS rfl _ 39 rfl 49 Try.underlying39 _ hzv g (i * 3) 0 (i + 1 - i) 3 (by simp [Act.eval, e9]) cur2 hg2 rfl (by rw [HC2.out]; omega) hz1c base w hbw2 hbg ?_; intro w3 hg3 hb3)
    go_wp2
    go_ret
    refine ⟨g, _, rfl, own_of hbg hg3.out (by omega) hcm (by rw [lay_len _ _ _ (by rw [Array.length_toList, size_zeroCells, HC2.out]; simp [Value.cells]; omega)]; exact HC2.out) ?_ (by rw [HNew.out, List.length_append, hAl, hDl, ← Nat.add_mul, hb5]), hb3⟩
    rw [HNew.out, ← HT.out]
    unfold lay
    rw [List.take_append_of_le_length (by rw [List.length_take, HC2.out]; omega), List.take_take, Nat.min_self]
  · go_enter Try.func81, Try.ntmps81
    go_wp2
    go_region_law (refine step_append_spareS rfl _ _ 39 rfl base 49 i0 3 Try.underlying39 HI.out.1 HI.out.2.2.1 g i c A (by simp [Act.eval, Act.put]) (own_drewN HO.out 1) ⟨g, (i + 1) * 3, none⟩ (n - i) (c - (i + 1)) D (by simp [Act.eval, Act.put]) hDl (fun j u hj => by rw [Addr.add_lit]; exact HD.out j u hj) H1D.out (by omega) ?_; intro w2 ho2 hgr2)
    have ho3 := ho2.out
    rw [hb5] at ho3
    obtain ⟨cur2, _, hg2, _, _, hcul2, htk2⟩ := own_at ho3
    have hbw2 : Below base w w2 := (Below.refl base w).drew.grown hgr2 hbase (fun k hk => by injection hk with hk; omega)
    clear ho2 ho3 hgr2
    have HT := hide htk2
    have HC2 := hide hcul2
    clear htk2 hcul2
    go_wp2_with (refine wpList_clearS rfl _ 39 rfl 49 Try.underlying39 _ hzv g (n * 3) 0 (c - n) 3 (by simp [Act.eval]) cur2 hg2 rfl (by rw [HC2.out]; omega) hz1c base w hbw2 hbg ?_; intro w3 hg3 hb3)
    go_wp2
    go_ret
    refine ⟨g, _, rfl, own_of hbg hg3.out (by omega) hcm (by rw [lay_len _ _ _ (by rw [Array.length_toList, size_zeroCells, HC2.out]; simp [Value.cells]; omega)]; exact HC2.out) ?_ (by rw [HNew.out, List.length_append, hAl, hDl, ← Nat.add_mul, hb5]), hb3⟩
    rw [HNew.out, ← HT.out]
    unfold lay
    rw [List.take_append_of_le_length (by rw [List.length_take, HC2.out]; omega), List.take_take, Nat.min_self]

end Go.Proofs.Ytidhbpnibgegdaa
