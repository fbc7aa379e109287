/- slices.Insert and slices.Delete of one element, at impl.Setting, on memory of the call's own. -/
import Derived.Test.YtmpfkmbfbeejhaaDoorMg
import Derived.Test.YtmpfkmbfbeejhaaDoorCopyS
import Derived.Deep.Cut
import Derived.Lib.Overlaps
import Derived.Lib.SliceRun
namespace Go.Proofs.YtmpfkmbfbeejhaaDoor
open Go.RowKit
set_option linter.unusedVariables false

theorem lay_b {α : Type} {A tail S D : List α} {p q r : Nat} (hA : A.length = p) (hS : S.length = q) (hD : D.length = r) (ht : q + r ≤ tail.length) : (lay (lay (A ++ tail) p S) (p + q) D).take (p + q + r) = A ++ S ++ D := by
  have e1 : lay (A ++ tail) p S = (A ++ S) ++ tail.drop q := by
    unfold lay
    rw [List.take_left' hA, hS, List.drop_append, List.drop_eq_nil_of_le (by omega), hA, List.nil_append, List.append_assoc, show p + q - p = q by omega]
  have e2 : (A ++ S ++ tail.drop q).take (p + q) = A ++ S := List.take_left' (by simp; omega)
  rw [e1]
  unfold lay
  rw [e2, ← List.append_assoc, List.take_left' (by simp; omega)]
theorem lay_c {α : Type} {cur A S D : List α} {p q r : Nat} (hA : A.length = p) (hS : S.length = q) (hD : D.length = r) (hcur : cur.take (p + r) = A ++ D) (ht : p + q + r ≤ cur.length) : (lay (lay cur (p + q) D) p S).take (p + q + r) = A ++ S ++ D := by
  have e0 : cur.take p = A := by
    have := congrArg (List.take p) hcur
    rwa [List.take_take, List.take_left' hA, Nat.min_eq_left (by omega)] at this
  have e1 : (lay cur (p + q) D).take p = A := by
    unfold lay
    rw [List.take_append_of_le_length (by simp; omega), List.take_take, Nat.min_eq_left (by omega), e0]
  have e2 : (lay cur (p + q) D).drop (p + q) = D ++ cur.drop (p + q + r) := by
    unfold lay
    rw [List.drop_left' (by simp; omega), hD]
  have e3 : lay (lay cur (p + q) D) p S = (A ++ S ++ D) ++ cur.drop (p + q + r) := by
    rw [lay, e1, hS, e2]
    simp
  rw [e3, List.take_left' (by simp; omega)]
theorem lay_len {α : Type} (L : List α) (off : Nat) (cs : List α) (h : off + cs.length ≤ L.length) : (lay L off cs).length = L.length := by simp [lay]; omega
theorem cell_heap {w : World} {g j : Nat} {cs : List Value} {t : TypeId} {u : Value} (hg : w.heap[g]? = some (.cells cs.toArray t (0, 0))) (hu : cs[j]? = some u) : w.cell? ⟨g, j, none⟩ = some u := by
  simp only [World.cell?, hg]
  simp [hu]
theorem own_at {w : World} {base g n c : Nat} {e : TypeId} {size : Nat} {xs : List Value} (h : w.ownsRow base e size (.slice (some ⟨g, 0, none⟩) n c) n xs) : ∃ cur : List Value, base ≤ g ∧ w.heap[g]? = some (.cells cur.toArray e (0, 0)) ∧ n ≤ c ∧ c ≤ maxLen ∧ cur.length = c * size ∧ cur.take (n * size) = xs := by
  rcases h.2 with ⟨hv, _⟩ | ⟨g', cap', cur, hv, hb, hh, h1, h2, h3, h4⟩
  · cases hv
  · injection hv with hv1 _ hv3
    injection hv1 with hv1
    injection hv1 with hv1
    subst hv1 hv3
    exact ⟨cur.toList, hb, by simpa using hh, h1, h2, by simpa using h3, h4⟩
theorem own_of {w : World} {base g n c : Nat} {e : TypeId} {size : Nat} {xs cur : List Value} (hb : base ≤ g) (hg : w.heap[g]? = some (.cells cur.toArray e (0, 0))) (h1 : n ≤ c) (h2 : c ≤ maxLen) (h3 : cur.length = c * size) (hx : cur.take (n * size) = xs) (hl : xs.length = n * size) : w.ownsRow base e size (.slice (some ⟨g, 0, none⟩) n c) n xs :=
  ⟨hl, .inr ⟨g, c, cur.toArray, rfl, hb, hg, h1, h2, by simpa using h3, by simpa using hx⟩⟩

theorem own_addr2 {w : World} {base : Nat} {e : TypeId} {size n : Nat} {v : Value} {xs : List Value} (h : w.ownsRow base e size v n xs) (hn : 1 ≤ n) : ∃ g c, v = .slice (some ⟨g, 0, none⟩) n c := by
  rcases h.2 with ⟨rfl, rfl⟩ | ⟨g, cap, cur, rfl, _⟩
  · omega
  · exact ⟨g, cap, rfl⟩

theorem Tryd.szOfSetting : (Tryd.prog.info? 57).map (·.size) = some 2 := by kernel_rfl

/-- What an insertion leaves. -/
def InsPostSetting (base n i : Nat) (ss : List SetZ) (s : SetZ) (w : World) (e : Ending) (w' : World) : Prop :=
  ∃ g' c', e = .returned (.slice (some ⟨g', 0, none⟩) (n + 1) c') ∧ w'.ownsRow base 57 2 (.slice (some ⟨g', 0, none⟩) (n + 1) c') (n + 1) (cK kSetting (ss.take i ++ [s] ++ ss.drop i)) ∧ Below base w w'

set_option maxRecDepth 100000 in
set_option maxHeartbeats 4000000 in
theorem insSetting_calls (g n c base i vb : Nat) (ss : List SetZ) (s : SetZ) (w : World) (hown : w.ownsRow base 57 2 (.slice (some ⟨g, 0, none⟩) n c) n (cK kSetting ss)) (hi : i ≤ n) (hn : n ≤ 1048576) (hbase : base ≤ w.heap.size)
    (hvb : w.heap[vb]? = some (.cells (kSetting.c s).toArray 57 (0, 0))) (hvg : vb ≠ g) :
    Calls Tryd.prog 58 #[.slice (some ⟨g, 0, none⟩) n c, .int .i64 i, .slice (some ⟨vb, 0, none⟩) 1 1] w (InsPostSetting base n i ss s w) := by
  have hks : kSetting.size = 2 := rfl
  have hsl : ss.length = n := by
    have := hown.1
    rw [cK_len, hks] at this
    omega
  have hvl : vb < w.heap.size := (Array.getElem?_eq_some_iff.1 hvb).1
  have hcl : (kSetting.c s).length = 2 := rfl
  have hnc := own_cap hown
  have HO := hide hown
  by_cases hin : i = n
  · subst hin
    have hRd : Rd w (some ⟨vb, 0, none⟩) 1 2 (cK kSetting [s]) := ⟨by simp [cK_len, hks], fun _ => ⟨vb, 0, rfl, hvl, fun j u hj => by
      rw [Nat.zero_add]
      exact cell_heap hvb (by simpa [cK] using hj)⟩⟩
    have HN : Hid (ss.take i ++ [s] ++ ss.drop i = ss ++ [s]) := by
      unfold Hid
      rw [List.take_of_length_le (by omega), List.drop_eq_nil_of_le (by omega), List.append_nil]
    have HRd := hide hRd
    clear hown hvb hRd hsl
    by_cases hci : c = i
    all_goals
      go_enter Tryd.func58, Tryd.ntmps58
      go_wp2_with (at_builtin; refine appsSetting rfl _ _ rfl base (.slice (some ⟨g, 0, none⟩) i c) i ss rfl HO.out (some ⟨vb, 0, none⟩) 1 1 [s] rfl HRd.out (by omega) hbase ?_; intro v4 w4 hown4 hb4 hz4)
      obtain ⟨g4, c4, rfl⟩ := own_addr2 hown4 (by omega)
      go_ret
      exact ⟨g4, c4, rfl, by rw [HN.out]; exact hown4, hb4⟩
  have hilt : i < n := by omega
  obtain ⟨cur, hbg, hgg, _, hcm, hcul, htk⟩ := own_at hown
  have hglt : g < w.heap.size := (Array.getElem?_eq_some_iff.1 hgg).1
  have hcu : ∀ j v, (cK kSetting ss)[j]? = some v → w.cell? ⟨g, j, none⟩ = some v := fun j v hj => by
    rw [← htk, List.getElem?_take] at hj
    split at hj
    · exact cell_heap hgg hj
    · cases hj
  have hsplit : cK kSetting ss = cK kSetting (ss.take i) ++ cK kSetting (ss.drop i) := by rw [← cK_append, List.take_append_drop]
  have hAl : (cK kSetting (ss.take i)).length = i * 2 := by rw [cK_len, hks, List.length_take]; congr 1; omega
  have hDl : (cK kSetting (ss.drop i)).length = (n - i) * 2 := by rw [cK_len, hks, List.length_drop, hsl]
  have HA : Hid (∀ j v, (cK kSetting (ss.take i))[j]? = some v → w.cell? ⟨g, j, none⟩ = some v) := fun j v hj => hcu j v (by rw [hsplit, List.getElem?_append_left (List.getElem?_eq_some_iff.1 hj).1]; exact hj)
  have HD : Hid (∀ j v, (cK kSetting (ss.drop i))[j]? = some v → w.cell? ⟨g, i * 2 + j, none⟩ = some v) := fun j v hj => hcu _ v (by rw [hsplit, List.getElem?_append_right (by omega), hAl, show i * 2 + j - i * 2 = j by omega]; exact hj)
  have HS : Hid (∀ j v, (kSetting.c s)[j]? = some v → w.cell? ⟨vb, j, none⟩ = some v) := fun j v hj => cell_heap hvb hj
  have HNew : Hid (cK kSetting (ss.take i ++ [s] ++ ss.drop i) = cK kSetting (ss.take i) ++ kSetting.c s ++ cK kSetting (ss.drop i)) := by
    unfold Hid
    rw [cK_append, cK_snoc]
  have HNl : Hid ((cK kSetting (ss.take i ++ [s] ++ ss.drop i)).length = (n + 1) * 2) := by
    unfold Hid
    rw [HNew.out, List.length_append, List.length_append, hAl, hDl, hcl]; omega
  have HSP : Hid (cur.take (i * 2 + (n - i) * 2) = cK kSetting (ss.take i) ++ cK kSetting (ss.drop i)) := by
    unfold Hid
    rw [← hsplit, ← htk]; congr 1; omega
  have H1A := hide (cK_one (K := kSetting) (xs := ss.take i))
  have H1D := hide (cK_one (K := kSetting) (xs := ss.drop i))
  have H1S : Hid (∀ v ∈ kSetting.c s, v.oneCell' = true) := by
    have := cK_one (K := kSetting) (xs := [s])
    unfold Hid
    simpa [cK] using this
  obtain ⟨A, hA⟩ : ∃ A, A = cK kSetting (ss.take i) := ⟨_, rfl⟩
  obtain ⟨D, hD⟩ : ∃ D, D = cK kSetting (ss.drop i) := ⟨_, rfl⟩
  obtain ⟨S, hS⟩ : ∃ S, S = kSetting.c s := ⟨_, rfl⟩
  rw [← hA] at HA HNew HSP H1A hAl
  rw [← hD] at HD HNew HSP H1D hDl
  rw [← hS] at HS HNew H1S hcl hvb
  clear hown hcu htk hsplit hA hD hS
  obtain ⟨i0, hi0, hz0, hz1, hz2⟩ := info_parts Tryd.infoSetting
  have hw1 : IntKind.i64.wrap ((i : Int) + 1) = (i : Int) + 1 := IntWalk.i64_in _ (by omega)
  have hw2 : IntKind.i64.wrap ((n : Int) + 1) = (n : Int) + 1 := IntWalk.i64_in _ (by omega)
  have hci : ¬ (c = i) := by omega
  have hii : (i : Int) < (n : Int) := by omega
  have hb1 : (0 : Int) ≤ (i : Int) + 1 := by omega
  have hbb2 : (i : Int) ≤ (n : Int) + 1 := by omega
  have hine : ((i : Int) == (n : Int)) = false := by simp; omega
  by_cases hroom : n + 1 ≤ c
  · have hr1 : ¬ ((c : Int) < (n : Int) + 1) := by omega
    have hci1 : ¬ (c = i + 1) := by omega
    have hov : ∀ lb cb, (callFunc 77 #[.slice (some ⟨vb, 0, none⟩) 1 1, .slice (some ⟨g, (i + 1) * 2, none⟩) lb cb]).run Tryd.prog w = .ok (.value (.bool false)) w := fun lb cb => by
      rw [run_callFunc_extern Tryd.func77 (by kernel_rfl) (by kernel_rfl) (by kernel_rfl) (e := Extern.SlicesOverlaps.overlaps #[26, 26] #[4]) (by kernel_rfl),
        Lib.run_overlaps_apart w 26 4 57 Tryd.underlying26 2 Tryd.sizeOf57 ⟨vb, 0, none⟩ ⟨g, (i + 1) * 2, none⟩ 1 1 lb cb hvg 57 57 2 (c * 2) (by simp [World.shape?, hvb, hcl]) (by simp [World.shape?, hgg, hcul]) (by omega) (by simp [World.frozen?, hvb]) (by simp [World.frozen?, hvb])]
      rfl
    have hsv : Hid (∀ (W : World), (∀ k, k ≠ g → W.heap[k]? = w.drew.heap[k]?) → ∀ j v, S[j]? = some v → W.cell? ((⟨vb, 0, none⟩ : Addr).add j) = some v) := fun W hW j v hj => by
      rw [Addr.add_lit, Nat.zero_add]
      exact cell_heap ((hW vb hvg).trans hvb) hj
    have HG := hide hgg
    clear hgg hvb
    go_enter Tryd.func58, Tryd.ntmps58
    go_upto_region 15 with (simp only [hov])
    go_region_law (refine step_copyS rfl _ _ 26 26 rfl 57 Tryd.underlying26 2 Tryd.szOfSetting g ((i + 1) * 2) (n - i) (c - (i + 1)) ⟨g, i * 2, none⟩ (n + 1 - i) (c - i) (n - i) (by simp [Act.eval, Act.put]) (by simp [Act.eval, Act.put]) cur 57 HG.out D (by simp only [Nat.min_def]; split <;> omega) hDl (fun j v hj => by rw [Addr.add_lit]; exact HD.out j v hj) (by omega) H1D.out base w (Below.refl _ _).drew hbg ?_; intro w2 hg2 hb2 hgb2)
    go_wp2_with (refine wpList_copyS rfl _ _ 26 26 rfl 57 Tryd.underlying26 2 Tryd.szOfSetting g (i * 2) (n + 1 - i) (c - i) ⟨vb, 0, none⟩ 1 1 1 rfl rfl _ 57 hg2.out S (by simp only [Nat.min_def]; split <;> omega) (by omega) (hsv.out _ hgb2) (by rw [lay_len _ _ _ (by omega)]; omega) H1S.out base w hb2 hbg ?_; intro w3 hg3 hb3 hgb3)

    go_wp2
    go_ret
    refine ⟨g, c, rfl, own_of (cur := lay (lay cur ((i + 1) * 2) D) (i * 2) S) hbg hg3.out hroom hcm (by rw [lay_len _ _ _ (by rw [lay_len _ _ _ (by omega)]; omega), lay_len _ _ _ (by omega)]; exact hcul) ?_ HNl.out, hb3⟩
    rw [HNew.out]
    have hl := lay_c hAl hcl hDl HSP.out (by omega)
    rw [show i * 2 + 2 = (i + 1) * 2 by omega, show (i + 1) * 2 + (n - i) * 2 = (n + 1) * 2 by omega] at hl
    exact hl
  · have hcn : c = n := by omega
    subst hcn
    have hr1 : (c : Int) < (c : Int) + 1 := by omega
    have ek : (c : Int) + 1 - (i : Int) = ((c + 1 - i : Nat) : Int) := by omega
    have hw3 : IntKind.i64.wrap ((c : Int) + 1 - (i : Int)) = (c : Int) + 1 - (i : Int) := IntWalk.i64_in _ (by omega)
    have e0 : i + (c + 1 - i) = c + 1 := by omega
    have Hgl := hide hglt
    have HI := hide (And.intro hi0 (And.intro hz0 (And.intro hz1 hz2)))
    clear hi0 hz0 hz1 hz2 hgg
    go_enter Tryd.func58, Tryd.ntmps58
    go_upto_region 10 with (at_builtin; refine wpList_append_zerosS rfl _ _ 26 3 rfl 57 i0 _ 2 24 Tryd.underlying26 Tryd.underlying3 HI.out.1 HI.out.2.1 HI.out.2.2.1 HI.out.2.2.2 (by omega) ⟨g, 0, none⟩ i c (c + 1 - i) rfl rfl A hAl (fun j v hj => by rw [Addr.add_lit, Nat.zero_add]; exact HA.out j v hj) (by omega) (by omega) (by omega) (by omega) rfl ?_; intro c2 w2 tail hge hle hb2 hlt2 htl hg2; rw [e0] at hge)
    have hc2a : ¬ (c2 = i) := by omega
    have hc2b : ¬ (c2 = i + 1) := by omega
    have htl2 : (A ++ tail).length = c2 * 2 := by rw [List.length_append, hAl, htl, ← Nat.add_mul]; congr 1; omega
    go_upto_region 11 with (refine wpList_copyS rfl _ _ 26 26 rfl 57 Tryd.underlying26 2 Tryd.szOfSetting w.heap.size (i * 2) (c + 1 - i) (c2 - i) ⟨vb, 0, none⟩ 1 1 1 rfl rfl (A ++ tail) 57 hg2.out S (by simp only [Nat.min_def]; split <;> omega) (by omega) (fun j v hj => by rw [Addr.add_lit, Nat.zero_add]; exact (hb2.cell (p := ⟨vb, j, none⟩) hvl).trans (HS.out j v hj)) (by omega) H1S.out w.heap.size w hb2 (Nat.le_refl _) ?_; intro w3 hg3 hb3 hk3)
    go_region_law (refine step_copyS rfl _ _ 26 26 rfl 57 Tryd.underlying26 2 Tryd.szOfSetting w.heap.size ((i + 1) * 2) (c - i) (c2 - (i + 1)) ⟨g, i * 2, none⟩ (c - i) (c - i) (c - i) (by simp [Act.eval, Act.put]) (by simp [Act.eval, Act.put]) (lay (A ++ tail) (i * 2) S) 57 hg3.out D (by simp only [Nat.min_def]; split <;> omega) hDl (fun j v hj => by rw [Addr.add_lit]; exact (hb3.drew.cell (p := ⟨g, i * 2 + j, none⟩) Hgl.out).trans (HD.out j v hj)) (by rw [lay_len _ _ _ (by omega)]; omega) H1D.out w.heap.size w hb3.drew (Nat.le_refl _) ?_; intro w4 hg4 hb4 hk4)

    go_wp2
    go_ret
    refine ⟨w.heap.size, c2, rfl, own_of (cur := lay (lay (A ++ tail) (i * 2) S) ((i + 1) * 2) D) hbase hg4.out hge hle (by rw [lay_len _ _ _ (by rw [lay_len _ _ _ (by omega)]; omega), lay_len _ _ _ (by omega)]; exact htl2) ?_ HNl.out, hb4.mono hbase⟩
    rw [HNew.out]
    have hl := lay_b (tail := tail) hAl hcl hDl (by omega)
    rw [show i * 2 + 2 = (i + 1) * 2 by omega, show (i + 1) * 2 + (c - i) * 2 = (c + 1) * 2 by omega] at hl
    exact hl

/-- What a deletion leaves. -/
def DelPostSetting (base n i : Nat) (ss : List SetZ) (w : World) (e : Ending) (w' : World) : Prop :=
  ∃ g' c', e = .returned (.slice (some ⟨g', 0, none⟩) n c') ∧ w'.ownsRow base 57 2 (.slice (some ⟨g', 0, none⟩) n c') n (cK kSetting (ss.take i ++ ss.drop (i + 1))) ∧ Below base w w'

set_option maxRecDepth 100000 in
set_option maxHeartbeats 4000000 in
theorem delSetting_calls (g n c base i : Nat) (ss : List SetZ) (w : World) (hown : w.ownsRow base 57 2 (.slice (some ⟨g, 0, none⟩) (n + 1) c) (n + 1) (cK kSetting ss)) (hi : i ≤ n) (hn : n ≤ 1048576) (hbase : base ≤ w.heap.size) :
    Calls Tryd.prog 59 #[.slice (some ⟨g, 0, none⟩) (n + 1) c, .int .i64 i, .int .i64 ((i : Int) + 1)] w (DelPostSetting base n i ss w) := by
  have hks : kSetting.size = 2 := rfl
  have hsl : ss.length = n + 1 := by
    have := hown.1
    rw [cK_len, hks] at this
    omega
  have hnc := own_cap hown
  obtain ⟨cur, hbg, hgg, _, hcm, hcul, htk⟩ := own_at hown
  have hcu : ∀ j v, (cK kSetting ss)[j]? = some v → w.cell? ⟨g, j, none⟩ = some v := fun j v hj => by
    rw [← htk, List.getElem?_take] at hj
    split at hj
    · exact cell_heap hgg hj
    · cases hj
  have hsplit : cK kSetting ss = cK kSetting (ss.take (i + 1)) ++ cK kSetting (ss.drop (i + 1)) := by rw [← cK_append, List.take_append_drop]
  have hAl : (cK kSetting (ss.take i)).length = i * 2 := by rw [cK_len, hks, List.length_take]; congr 1; omega
  have hA1l : (cK kSetting (ss.take (i + 1))).length = (i + 1) * 2 := by rw [cK_len, hks, List.length_take]; congr 1; omega
  have hDl : (cK kSetting (ss.drop (i + 1))).length = (n - i) * 2 := by rw [cK_len, hks, List.length_drop, hsl]; congr 1; omega
  have HA : w.ownsRow base 57 2 (.slice (some ⟨g, 0, none⟩) i c) i (cK kSetting (ss.take i)) := by
    refine own_of hbg hgg (by omega) hcm hcul ?_ hAl
    have := congrArg (List.take (i * 2)) htk
    rw [List.take_take, Nat.min_eq_left (by omega)] at this
    rw [this]
    have hs2 : cK kSetting ss = cK kSetting (ss.take i) ++ cK kSetting (ss.drop i) := by rw [← cK_append, List.take_append_drop]
    rw [hs2, List.take_left' hAl]
  have HD : Hid (∀ j v, (cK kSetting (ss.drop (i + 1)))[j]? = some v → w.cell? ⟨g, (i + 1) * 2 + j, none⟩ = some v) := fun j v hj => hcu _ v (by rw [hsplit, List.getElem?_append_right (by omega), hA1l, show (i + 1) * 2 + j - (i + 1) * 2 = j by omega]; exact hj)
  have H1D := hide (cK_one (K := kSetting) (xs := ss.drop (i + 1)))
  have HNew : Hid (cK kSetting (ss.take i ++ ss.drop (i + 1)) = cK kSetting (ss.take i) ++ cK kSetting (ss.drop (i + 1))) := cK_append _ _
  have HO := hide HA
  obtain ⟨A, hA⟩ : ∃ A, A = cK kSetting (ss.take i) := ⟨_, rfl⟩
  obtain ⟨D, hD⟩ : ∃ D, D = cK kSetting (ss.drop (i + 1)) := ⟨_, rfl⟩
  rw [← hA] at HO HNew hAl
  rw [← hD] at HD HNew H1D hDl
  clear hown hcu htk hsplit hA hD HA hgg hA1l
  obtain ⟨i0, hi0, hz0, hz1, hz2⟩ := info_parts Tryd.infoSetting
  have HI := hide (And.intro hi0 (And.intro hz0 (And.intro hz1 hz2)))
  clear hi0 hz0 hz1 hz2
  have hb1 : (0 : Int) ≤ (i : Int) + 1 := by omega
  have hb2 : (i : Int) ≤ (n : Int) + 1 := by omega
  have hb3 : (i : Int) + 1 ≤ (n : Int) + 1 := by omega
  have hb4 : ((i : Int) == (i : Int) + 1) = false := by simp; omega
  have hb5 : i + (n - i) = n := by omega
  have hb6 : (i : Int) ≤ (i : Int) + 1 := by omega
  have hci : ¬ (c = i) := by omega
  have hcn : ¬ (c = n) := by omega
  have e1 : n + 1 - (i + 1) = n - i := by omega
  have e9 : n + 1 - n = 1 := by omega
  have hb7 : (i : Int) ≤ (c : Int) := by omega
  have hb8 : (n : Int) + 1 ≤ (c : Int) := by omega
  have hb9 : (n : Int) ≤ (n : Int) + 1 := by omega
  have hzv := Tryd.zeroValue57
  have hz1c : ∀ v ∈ (Builtin.zeroCells (Value.agg #[.string ⟨#[]⟩, .int .i64 0]).cells (0 + 1)).toList, v.oneCell' = true := by
    have ez : (Builtin.zeroCells (Value.agg #[.string ⟨#[]⟩, .int .i64 0]).cells (0 + 1)).toList = [.string ⟨#[]⟩, .int .i64 0] := by kernel_rfl
    rw [ez]
    intro v hv
    simp only [List.mem_cons, List.not_mem_nil, or_false] at hv
    rcases hv with rfl | rfl <;> rfl
  by_cases hc1 : c = i + 1
  · obtain rfl : i = n := by omega
    have hni : i - i = 0 := by omega
    have hD0 : D = [] := List.eq_nil_of_length_eq_zero (by simp [hDl, hni])
    subst hc1
    go_enter Tryd.func59, Tryd.ntmps59
    go_wp2
    go_region_law (refine step_append_spareS rfl _ _ 26 rfl base 57 i0 2 Tryd.underlying26 HI.out.1 HI.out.2.2.1 g i (i + 1) A (by simp [Act.eval, Act.put]) (own_drewN HO.out 1) ⟨g, 0, none⟩ 0 0 [] (by simp [Act.eval, Act.put]) rfl (fun j u hj => by simp at hj) (by simp) (by omega) ?_; intro w2 ho2 hgr2)
    have ho3 : w2.ownsRow base 57 2 (.slice (some ⟨g, 0, none⟩) i (i + 1)) i (A ++ D) := by
      have := ho2.out
      rw [hD0]
      exact this
    obtain ⟨cur2, _, hg2, _, _, hcul2, htk2⟩ := own_at ho3
    have hbw2 : Below base w w2 := (Below.refl base w).drew.grown hgr2 hbase (fun k hk => by injection hk with hk; omega)
    clear ho2 ho3 hgr2
    have HT := hide htk2
    have HC2 := hide hcul2
    clear htk2 hcul2
    go_wp2_with (refine wpList_clearS rfl _ 26 rfl 57 Tryd.underlying26 _ hzv g (i * 2) 0 (i + 1 - i) 2 (by simp [Act.eval, e9]) cur2 hg2 rfl (by rw [HC2.out]; omega) hz1c base w hbw2 hbg ?_; intro w3 hg3 hb3)
    go_wp2
    go_ret
    refine ⟨g, _, rfl, own_of hbg hg3.out (by omega) hcm (by rw [lay_len _ _ _ (by rw [Array.length_toList, size_zeroCells, HC2.out]; simp [Value.cells]; omega)]; exact HC2.out) ?_ (by rw [HNew.out, List.length_append, hAl, hDl, ← Nat.add_mul, hb5]), hb3⟩
    rw [HNew.out, ← HT.out]
    unfold lay
    rw [List.take_append_of_le_length (by rw [List.length_take, HC2.out]; omega), List.take_take, Nat.min_self]
  · go_enter Tryd.func59, Tryd.ntmps59
    go_wp2
    go_region_law (refine step_append_spareS rfl _ _ 26 rfl base 57 i0 2 Tryd.underlying26 HI.out.1 HI.out.2.2.1 g i c A (by simp [Act.eval, Act.put]) (own_drewN HO.out 1) ⟨g, (i + 1) * 2, none⟩ (n - i) (c - (i + 1)) D (by simp [Act.eval, Act.put]) hDl (fun j u hj => by rw [Addr.add_lit]; exact HD.out j u hj) H1D.out (by omega) ?_; intro w2 ho2 hgr2)
    have ho3 := ho2.out
    rw [hb5] at ho3
    obtain ⟨cur2, _, hg2, _, _, hcul2, htk2⟩ := own_at ho3
    have hbw2 : Below base w w2 := (Below.refl base w).drew.grown hgr2 hbase (fun k hk => by injection hk with hk; omega)
    clear ho2 ho3 hgr2
    have HT := hide htk2
    have HC2 := hide hcul2
    clear htk2 hcul2
    go_wp2_with (refine wpList_clearS rfl _ 26 rfl 57 Tryd.underlying26 _ hzv g (n * 2) 0 (c - n) 2 (by simp [Act.eval]) cur2 hg2 rfl (by rw [HC2.out]; omega) hz1c base w hbw2 hbg ?_; intro w3 hg3 hb3)
    go_wp2
    go_ret
    refine ⟨g, _, rfl, own_of hbg hg3.out (by omega) hcm (by rw [lay_len _ _ _ (by rw [Array.length_toList, size_zeroCells, HC2.out]; simp [Value.cells]; omega)]; exact HC2.out) ?_ (by rw [HNew.out, List.length_append, hAl, hDl, ← Nat.add_mul, hb5]), hb3⟩
    rw [HNew.out, ← HT.out]
    unfold lay
    rw [List.take_append_of_le_length (by rw [List.length_take, HC2.out]; omega), List.take_take, Nat.min_self]

end Go.Proofs.YtmpfkmbfbeejhaaDoor
