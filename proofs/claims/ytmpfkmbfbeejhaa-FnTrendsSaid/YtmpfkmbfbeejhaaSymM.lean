/- symMerge of the stable sort, over int64: two rows beside each other become one in order. -/
import Derived.Test.YtmpfkmbfbeejhaaSwapR
namespace Go.Proofs.Ytmpfkmbfbeejhaa
open Go.Shelf Go.RowKit Go.Lib Go.Sort
set_option linter.unusedVariables false
variable {α : Type} [Inhabited α]

/-- What the merging is told once: the row, the comparer, the order. -/
structure Told (enc : α → Value) (cf : α → α → Int) (g : Nat) (cb : Array Value) (blk off : Nat) (d0 : Array α) (w0 : World) (T E : α → α → Prop) : Prop where
  row : Row1 enc w0 blk off d0
  enter : ∀ args w, (callFunc g args).run Try.prog w = .ok (.enter g args) w
  lays : CmpLays1 Try.prog g cb enc cf blk off d0.size w0
  small : d0.size < 1048576
  trans : ∀ x y z, T x y → T y z → T x z
  yes : ∀ x y, E y x → cf x y < 0 → T x y
  no : ∀ x y, E y x → ¬ cf x y < 0 → T y x
/-- What a comparison wants of the world. -/
theorem cmp_facts {enc : α → Value} {cf : α → α → Int} {g : Nat} {cb : Array Value} {blk off : Nat} {d0 dk : Array α} {w0 W : World} {T E : α → α → Prop} (H : Told enc cf g cb blk off d0 w0 T E) (S : SW enc w0 blk off dk W) (hs : dk.size = d0.size)
    {i j : Nat} {x y : α} {A B A' B' : List α} (hx : dk.toList = A ++ x :: B) (hi : i = A.length) (hy : dk.toList = A' ++ y :: B') (hj : j = A'.length) :
    (∀ n os, (grow (W.drewN n) os).cell? ⟨blk, off + i, none⟩ = some (enc x)) ∧ (∀ n os, (grow (W.drewN n) os).cell? ⟨blk, off + j, none⟩ = some (enc y)) ∧
      ∀ n os, Calls Try.prog g (#[enc x, enc y] ++ cb) (grow (W.drewN n) os) fun e w' => e = .returned (.int .i64 (cf x y)) ∧ ∃ q os', w' = grow ((grow (W.drewN n) os).drewN q) os' := by
  have l1 : i < dk.size := by rw [← Array.length_toList, hx]; simp; omega
  have l2 : j < dk.size := by rw [← Array.length_toList, hy]; simp; omega
  have e1 := get_mid hx hi
  have e2 := get_mid hy hj
  refine ⟨fun n os => ?_, fun n os => ?_, fun n os => S.cmp H.lays hs x y n os⟩
  · have := S.cl H.row hs i l1 n os
    rwa [e1] at this
  · have := S.cl H.row hs j l2 n os
    rwa [e2] at this
theorem take_all {α : Type} {T : α → α → Prop} {Rr : List α} {x z : α} {p : Nat} (tr : ∀ x y z, T x y → T y z → T x z) (h : Rr.Pairwise T) (hz : Rr[p]? = some z) (ht : T z x) : ∀ y ∈ Rr.take (p + 1), T y x := by
  intro y hy
  rw [take_snoc hz] at hy
  rcases List.mem_append.1 hy with hy | hy
  · obtain ⟨j, hj⟩ := List.mem_iff_getElem?.1 hy
    rw [List.getElem?_take] at hj
    split at hj
    · next hjp =>
      rw [List.pairwise_iff_getElem] at h
      obtain ⟨q1, q2⟩ := List.getElem?_eq_some_iff.1 hj
      obtain ⟨q3, q4⟩ := List.getElem?_eq_some_iff.1 hz
      have := h j p q1 q3 hjp
      rw [q2, q4] at this
      exact tr _ _ _ this ht
    · cases hj
  · have : y = z := by simpa using hy
    rw [this]; exact ht
theorem drop_all {α : Type} {T : α → α → Prop} {Rr : List α} {x z : α} {p : Nat} (tr : ∀ x y z, T x y → T y z → T x z) (h : Rr.Pairwise T) (hz : Rr[p]? = some z) (ht : T x z) : ∀ y ∈ Rr.drop p, T x y := by
  obtain ⟨hk, rfl⟩ := List.getElem?_eq_some_iff.1 hz
  intro y hy
  rw [List.drop_eq_getElem_cons hk] at hy
  rcases List.mem_cons.1 hy with rfl | hy
  · exact ht
  · obtain ⟨j, hj⟩ := List.mem_iff_getElem?.1 hy
    rw [List.getElem?_drop] at hj
    rw [List.pairwise_iff_getElem] at h
    obtain ⟨q1, q2⟩ := List.getElem?_eq_some_iff.1 hj
    have := h p (p + 1 + j) hk q1 (by omega)
    rw [q2] at this
    exact tr _ _ _ ht this
/-- What merging leaves. -/
def MrgPost (enc : α → Value) (w0 : World) (blk off : Nat) (T : α → α → Prop) (P L Rr S : List α) (d : Array α) (e : Ending) (w' : World) : Prop :=
  e = .returned (.tuple #[]) ∧ ∃ M d', d'.toList = P ++ M ++ S ∧ M.Perm (L ++ Rr) ∧ M.Pairwise T ∧ d'.size = d.size ∧ SW enc w0 blk off d' w'
theorem ins_sorted {α : Type} {T : α → α → Prop} {Rr : List α} {x : α} {p : Nat} (h : Rr.Pairwise T) (h1 : ∀ y ∈ Rr.take p, T y x) (h2 : ∀ y ∈ Rr.drop p, T x y) (tr : ∀ x y z, T x y → T y z → T x z) : (Rr.take p ++ [x] ++ Rr.drop p).Pairwise T ∧ (Rr.take p ++ [x] ++ Rr.drop p).Perm ([x] ++ Rr) := by
  constructor
  · rw [List.append_assoc]
    refine List.pairwise_append.2 ⟨h.sublist (List.take_sublist _ _), List.pairwise_cons.2 ⟨h2, h.sublist (List.drop_sublist _ _)⟩, ?_⟩
    intro y hy z hz
    rcases List.mem_cons.1 hz with rfl | hz
    · exact h1 y hy
    · exact tr _ _ _ (h1 y hy) (h2 z hz)
  · conv => rhs; rw [← List.take_append_drop p Rr]
    rw [← List.append_assoc]
    exact List.Perm.append_right _ List.perm_append_comm

theorem swp_back {d : Array α} {A M B : List α} {x y : α} {i j : Nat} (h : d.toList = A ++ x :: (M ++ y :: B)) (hi : i = A.length + 1 + M.length) (hj : j = A.length) : (swp d i j).toList = A ++ y :: (M ++ x :: B) := by
  have e1 := get_mid h hj
  have h2 : d.toList = (A ++ x :: M) ++ y :: B := by rw [h]; simp
  have e2 := get_mid h2 (k := i) (by rw [hi]; simp; omega)
  unfold swp
  rw [e1, e2, Array.toList_setIfInBounds, Array.toList_setIfInBounds, h2, set_mid _ B y x (by rw [hi]; simp; omega)]
  have h3 : (A ++ x :: M) ++ x :: B = A ++ x :: (M ++ x :: B) := by simp
  rw [h3, set_mid A _ x y hj]

set_option maxHeartbeats 8000000 in
set_option maxRecDepth 1000000 in
theorem symMerge_one (enc : α → Value) (cf : α → α → Int) (g : Nat) (cb : Array Value) (blk off cap : Nat) (d0 d : Array α) (w0 w : World) (T E : α → α → Prop) (H : Told enc cf g cb blk off d0 w0 T E)
    (P Rr S : List α) (x : α) (hs : d0.size = d.size) (SS : SW enc w0 blk off d w) (hd : d.toList = P ++ [x] ++ Rr ++ S) (hR : Rr ≠ []) (pR : Rr.Pairwise T) (hE : ∀ y ∈ Rr, E x y) (a m b : Nat) (ha : a = P.length) (hm : m = a + 1) (hb : b = m + Rr.length) :
    Calls Try.prog 105 #[.slice (some ⟨blk, off, none⟩) d.size cap, .int .i64 a, .int .i64 m, .int .i64 b, .func (.func g) #[] cb] w (MrgPost enc w0 blk off T P [x] Rr S d) := by
  have hcl0 := H.row.hO.cells
  simp only [Value.cells] at hcl0
  have hst := H.row.hO.store Try.prog
  have mixed : Try.prog.follows .mixedOrders = true := by kernel_rfl
  have hl : d.size = P.length + 1 + Rr.length + S.length := by rw [← Array.length_toList, hd]; simp; omega
  have hsm := H.small
  have eg := H.enter
  have HT := hide H
  have S0 : Hid (SW enc w0 blk off d w) := SS
  have HD := hide hd
  have HP := hide (And.intro pR hE)
  obtain ⟨r, hr⟩ : ∃ r, r = Rr.length := ⟨_, rfl⟩
  rw [← hr] at hb hl
  have HRL := hide hr
  have HSZ := hide hs
  have hPl := hide ha
  subst hm
  subst hb
  have hds : a + 1 + r ≤ d.size := by omega
  have hds2 : d.size < 1048576 := by omega
  have g0 : ((a : Int) + 1 - (a : Int)) = 1 := by omega
  clear SS hd pR hE hl hsm H hr hs ha
  go_enter Try.func105, Try.ntmps105
  go_wp2
  go_loopw [10, 11, 12] (fun p q s wr => ∃ (i j : Nat), p = .int .i64 ((a + 1 + i : Nat) : Int) ∧ q = .int .i64 ((a + 1 + j : Nat) : Int) ∧ i ≤ j ∧ j ≤ r ∧ Hid ((∀ y ∈ Rr.take i, T y x) ∧ ∀ y ∈ Rr.drop j, T x y) ∧ Hid (SW enc w0 blk off d wr)) (fun p q _ _ => (intOf q).toNat - (intOf p).toNat)
  case atStart => exact ⟨0, r, by first | rfl | simp, rfl, Nat.zero_le _, Nat.le_refl _, ⟨by simp, by rw [List.drop_eq_nil_of_le (by have := HRL.out; omega)]; simp⟩, S0⟩
  case round =>
    clear S0
    obtain ⟨i, j, rfl, rfl, hij, hj, HC, S1⟩ := hrel
    by_cases hlt : i < j
    · obtain ⟨p, hp⟩ : ∃ p, p = (i + j) / 2 := ⟨_, rfl⟩
      have hp1 : i ≤ p := by omega
      have hp2 : p < j := by omega
      obtain ⟨R1, y, R2, hRe, hR1⟩ := cut_at Rr (k := p) (by have := HRL.out; omega)
      have hy := at_mid R1 R2 y hR1.symm
      rw [← hRe] at hy
      have hyR : y ∈ Rr := by rw [hRe]; simp
      obtain ⟨c1, c2, c3⟩ := cmp_facts HT.out S1.out HSZ.out.symm (x := y) (y := x) (A := P ++ [x] ++ R1) (B := R2 ++ S) (A' := P) (B' := Rr ++ S) (i := a + 1 + p) (j := a) (by rw [HD.out, hRe]; simp) (by rw [hPl.out]; simp; omega) (by rw [HD.out]; simp) hPl.out
      obtain ⟨q, hq⟩ : ∃ q, q = a + 1 + p := ⟨_, rfl⟩
      rw [← hq] at c1
      have hm2 : (a + 1 + i + (a + 1 + j)) / 2 = q := by omega
      have eyes := hide (fun h => HT.out.yes y x (HP.out.2 y hyR) h)
      have eno := hide (fun h => HT.out.no y x (HP.out.2 y hyR) h)
      clear hRe hR1 hyR
      have HY := hide hy
      clear hy
      have ea : (((a : Int) + 1 + (i : Int) + ((a : Int) + 1 + (j : Int))) / 2).toNat = q := by omega
      have pa : (0 : Int) ≤ ((a : Int) + 1 + (i : Int) + ((a : Int) + 1 + (j : Int))) / 2 := by omega
      have ba : ((a : Int) + 1 + (i : Int) + ((a : Int) + 1 + (j : Int))) / 2 < (d.size : Int) := by omega
      have ra : IntKind.i64.wrap (((a : Int) + 1 + (i : Int) + ((a : Int) + 1 + (j : Int))) / 2) = ((a : Int) + 1 + (i : Int) + ((a : Int) + 1 + (j : Int))) / 2 := by rw [IntKind.wrap_i64]; omega
      have ec : (a : Int).toNat = a := by omega
      have pc : (0 : Int) ≤ (a : Int) := by omega
      have bc : (a : Int) < (d.size : Int) := by omega
      have rc : IntKind.i64.wrap (a : Int) = (a : Int) := by rw [IntKind.wrap_i64]; omega
      have em : ((a : Int) + 1 + (i : Int) + ((a : Int) + 1 + (j : Int))) / 2 = ((a + 1 + p : Nat) : Int) := by omega
      have hps : a + 1 + p < d.size := by omega
      have EM := hide em
      have HQ := hide (And.intro hq (And.intro hp1 (And.intro hp2 hps)))
      clear em hq hm2 hp hp1 hp2 hps
      rcases Decidable.em (cf y x < 0) with hv | hv
      · have hd1 : decide (cf y x < 0) = true := decide_eq_true hv
        have HT1 := hide (eyes.out hv)
        clear hv eyes eno
        go_wp2_with fail
        go_quiet_grown (first | (go_at_fn g; refine Calls.grown_of (c3 _ _)))
        have S2 : Hid (SW enc w0 blk off d (grow (wr.drewN nq) osq)) := S1.out.grown nq osq
        clear c1 c2 c3 S1
        generalize grow (wr.drewN nq) osq = w2 at S2 ⊢
        clear nq osq
        rw [EM.out] at *
        have hpz : a + 1 + p + 1 < 1048576 := by have := HQ.out.2.2.2; omega
        clear ea pa ba ra ec pc bc rc
        go_wp2
        go_roundw
        case rel => exact ⟨p + 1, by go_num, j, rfl, HQ.out.2.2.1, hj, take_all HT.out.trans HP.out.1 HY.out HT1.out, HC.out.2⟩
        case measure => have := HQ.out; simp [intOf]; omega
      · have hd1 : decide (cf y x < 0) = false := decide_eq_false hv
        have HT1 := hide (eno.out hv)
        clear hv eyes eno
        go_wp2_with fail
        go_quiet_grown (first | (go_at_fn g; refine Calls.grown_of (c3 _ _)))
        have S2 : Hid (SW enc w0 blk off d (grow (wr.drewN nq) osq)) := S1.out.grown nq osq
        clear c1 c2 c3 S1
        generalize grow (wr.drewN nq) osq = w2 at S2 ⊢
        clear nq osq
        rw [EM.out] at *
        clear ea pa ba ra ec pc bc rc
        go_wp2
        go_roundw
        case rel => exact ⟨i, rfl, p, by go_num, HQ.out.2.1, by have := HQ.out.2.2.1; omega, HC.out.1, drop_all HT.out.trans HP.out.1 HY.out HT1.out⟩
        case measure => have := HQ.out; simp [intOf]; omega
    · obtain rfl : i = j := by omega
      have hi1 : i ≤ r := hj
      clear hij hlt hj
      have HIr := hide hi1
      have e0 : Hid (d.toList = P ++ Rr.take 0 ++ [x] ++ Rr.drop 0 ++ S) := by unfold Hid; rw [HD.out]; simp
      go_wp2_with fail
      go_loopw [13] (fun p ws => ∃ (k : Nat) (dk : Array α), k ≤ i ∧ p = .int .i64 ((a + k : Nat) : Int) ∧ dk.size = d.size ∧ Hid (dk.toList = P ++ Rr.take k ++ [x] ++ Rr.drop k ++ S) ∧ Hid (SW enc w0 blk off dk ws)) (fun p _ => d.size - (intOf p).toNat)
      case atStart => exact ⟨0, d, Nat.zero_le _, by first | rfl | simp, rfl, e0, S1⟩
      case round =>
        clear S1 e0
        obtain ⟨k, dk, hk, rfl, hsk, HK, S1⟩ := hrel
        by_cases hlt : k < i
        · have R := HT.out.row
          have hRk : k < Rr.length := by have := HRL.out; omega
          obtain ⟨R1, y, R2, hRe, hR1⟩ := cut_at Rr (k := k) hRk
          have eK : dk.toList = (P ++ R1) ++ x :: ([] ++ y :: (R2 ++ S)) := by
            rw [HK.out, hRe, ← hR1, List.take_left, List.drop_left]
            simp
          have eN : Hid ((swp dk (a + k) (a + k + 1)).toList = P ++ Rr.take (k + 1) ++ [x] ++ Rr.drop (k + 1) ++ S) := by
            unfold Hid
            rw [swp_list eK (by rw [hPl.out]; simp; omega) (by rw [hPl.out]; simp; omega), hRe]
            have t1 : (R1 ++ y :: R2).take (k + 1) = R1 ++ [y] := by rw [take_snoc (at_mid R1 R2 y hR1.symm), ← hR1, List.take_left]
            have t3 : (R1 ++ y :: R2).drop (k + 1) = R2 := by rw [show R1 ++ y :: R2 = (R1 ++ [y]) ++ R2 by simp]; exact List.drop_left' (by simp; omega)
            rw [t1, t3]
            simp
          have hzz := HSZ.out
          obtain ⟨x', y', u, c1, c2, f1, f2, c3, S2⟩ := swap_facts S1.out R (by omega) (i := a + k) (j := a + k + 1) (by omega) (by omega)
          obtain ⟨iN, hiN⟩ : ∃ q, q = a + k := ⟨_, rfl⟩
          obtain ⟨jN, hjN⟩ : ∃ q, q = a + k + 1 := ⟨_, rfl⟩
          rw [← hjN] at c2 f2 c3 S2 eN
          rw [← hiN] at c1 f1 c3 S2 eN
          have ea : ((a : Int) + (k : Int)).toNat = iN := by omega
          have pa : (0 : Int) ≤ (a : Int) + (k : Int) := by omega
          have ba : (a : Int) + (k : Int) < (d.size : Int) := by omega
          have ra : IntKind.i64.wrap ((a : Int) + (k : Int)) = (a : Int) + (k : Int) := by rw [IntKind.wrap_i64]; omega
          have ec : ((a : Int) + (k : Int) + 1).toNat = jN := by omega
          have pc : (0 : Int) ≤ (a : Int) + (k : Int) + 1 := by omega
          have bc : (a : Int) + (k : Int) + 1 < (d.size : Int) := by omega
          have rc : IntKind.i64.wrap ((a : Int) + (k : Int) + 1) = (a : Int) + (k : Int) + 1 := by rw [IntKind.wrap_i64]; omega
          have hK1 : k + 1 ≤ i := by omega
          clear S1 HK eK hiN hjN hRe hR1 hRk hzz R
          go_wp2_with fail
          go_big_region_o
          clear c1 c2 c3 f1 f2
          generalize ((wr.setCell ⟨blk, off + iN, none⟩ (enc y')).setCell ⟨blk, off + jN, none⟩ (enc x')).drew = w2 at S2 ⊢
          clear ea ec
          go_wp2
          go_roundw
          case rel => exact ⟨k + 1, swp dk iN jN, hK1, by go_num, by rw [size_swp]; exact hsk, eN, S2⟩
          case measure => simp [intOf]; omega
        · obtain rfl : k = i := by omega
          go_wp2
          go_end0
          exact ⟨rfl, _, dk, by first | exact HK.out | (rw [HK.out]; simp), (ins_sorted HP.out.1 HC.out.1 HC.out.2 HT.out.trans).2, (ins_sorted HP.out.1 HC.out.1 HC.out.2 HT.out.trans).1, hsk, S1.out⟩

set_option maxHeartbeats 8000000 in
set_option maxRecDepth 1000000 in
theorem symMerge_two (enc : α → Value) (cf : α → α → Int) (g : Nat) (cb : Array Value) (blk off cap : Nat) (d0 d : Array α) (w0 w : World) (T E : α → α → Prop) (H : Told enc cf g cb blk off d0 w0 T E)
    (P Rr S : List α) (x : α) (hs : d0.size = d.size) (SS : SW enc w0 blk off d w) (hd : d.toList = P ++ Rr ++ [x] ++ S) (hR : 2 ≤ Rr.length) (pR : Rr.Pairwise T) (hE : ∀ y ∈ Rr, E y x) (a m b : Nat) (ha : a = P.length) (hm : m = a + Rr.length) (hb : b = m + 1) :
    Calls Try.prog 105 #[.slice (some ⟨blk, off, none⟩) d.size cap, .int .i64 a, .int .i64 m, .int .i64 b, .func (.func g) #[] cb] w (MrgPost enc w0 blk off T P Rr [x] S d) := by
  have hcl0 := H.row.hO.cells
  simp only [Value.cells] at hcl0
  have hst := H.row.hO.store Try.prog
  have mixed : Try.prog.follows .mixedOrders = true := by kernel_rfl
  have hl : d.size = P.length + Rr.length + 1 + S.length := by rw [← Array.length_toList, hd]; simp; omega
  have hsm := H.small
  have eg := H.enter
  have HT := hide H
  have S0 : Hid (SW enc w0 blk off d w) := SS
  have HD := hide hd
  have HP := hide (And.intro pR hE)
  obtain ⟨r, hr⟩ : ∃ r, r = Rr.length := ⟨_, rfl⟩
  rw [← hr] at hm hl hR
  have HRL := hide hr
  have HSZ := hide hs
  have hPl := hide ha
  subst hm
  subst hb
  have hds : a + r + 1 ≤ d.size := by omega
  have hds2 : d.size < 1048576 := by omega
  have g0 : ((a : Int) + (r : Int) - (a : Int)) = (r : Int) := by omega
  have g1 : ((a : Int) + (r : Int) + 1 - ((a : Int) + (r : Int))) = 1 := by omega
  have g2 : decide ((r : Int) = 1) = false := decide_eq_false (by omega)
  have g3 : ¬ (r : Int) = 1 := by omega
  clear SS hd pR hE hl hsm H hr hs ha
  go_enter Try.func105, Try.ntmps105
  go_wp2
  go_loopw [14, 15, 16] (fun p q s wr => ∃ (i j : Nat), p = .int .i64 ((a + i : Nat) : Int) ∧ q = .int .i64 ((a + j : Nat) : Int) ∧ i ≤ j ∧ j ≤ r ∧ Hid ((∀ y ∈ Rr.take i, T y x) ∧ ∀ y ∈ Rr.drop j, T x y) ∧ Hid (SW enc w0 blk off d wr)) (fun p q _ _ => (intOf q).toNat - (intOf p).toNat)
  case atStart => exact ⟨0, r, by first | rfl | simp, rfl, Nat.zero_le _, Nat.le_refl _, ⟨by simp, by rw [List.drop_eq_nil_of_le (by have := HRL.out; omega)]; simp⟩, S0⟩
  case round =>
    clear S0
    obtain ⟨i, j, rfl, rfl, hij, hj, HC, S1⟩ := hrel
    by_cases hlt : i < j
    · obtain ⟨p, hp⟩ : ∃ p, p = (i + j) / 2 := ⟨_, rfl⟩
      have hp1 : i ≤ p := by omega
      have hp2 : p < j := by omega
      obtain ⟨R1, y, R2, hRe, hR1⟩ := cut_at Rr (k := p) (by have := HRL.out; omega)
      have hy := at_mid R1 R2 y hR1.symm
      rw [← hRe] at hy
      have hyR : y ∈ Rr := by rw [hRe]; simp
      obtain ⟨c1, c2, c3⟩ := cmp_facts HT.out S1.out HSZ.out.symm (x := x) (y := y) (A := P ++ Rr) (B := S) (A' := P ++ R1) (B' := R2 ++ [x] ++ S) (i := a + r) (j := a + p) (by rw [HD.out]; simp) (by rw [hPl.out, HRL.out]; simp) (by rw [HD.out, hRe]; simp) (by rw [hPl.out]; simp; omega)
      obtain ⟨q, hq⟩ : ∃ q, q = a + p := ⟨_, rfl⟩
      rw [← hq] at c2
      have hm2 : (a + i + (a + j)) / 2 = q := by omega
      have eyes := hide (fun h => HT.out.yes x y (HP.out.2 y hyR) h)
      have eno := hide (fun h => HT.out.no x y (HP.out.2 y hyR) h)
      clear hRe hR1 hyR
      have HY := hide hy
      clear hy
      have ea : (((a : Int) + (i : Int) + ((a : Int) + (j : Int))) / 2).toNat = q := by omega
      have pa : (0 : Int) ≤ ((a : Int) + (i : Int) + ((a : Int) + (j : Int))) / 2 := by omega
      have ba : ((a : Int) + (i : Int) + ((a : Int) + (j : Int))) / 2 < (d.size : Int) := by omega
      have ra : IntKind.i64.wrap (((a : Int) + (i : Int) + ((a : Int) + (j : Int))) / 2) = ((a : Int) + (i : Int) + ((a : Int) + (j : Int))) / 2 := by rw [IntKind.wrap_i64]; omega
      have ec : ((a : Int) + (r : Int)).toNat = a + r := by omega
      have pc : (0 : Int) ≤ (a : Int) + (r : Int) := by omega
      have bc : (a : Int) + (r : Int) < (d.size : Int) := by omega
      have rc : IntKind.i64.wrap ((a : Int) + (r : Int)) = (a : Int) + (r : Int) := by rw [IntKind.wrap_i64]; omega
      have em : ((a : Int) + (i : Int) + ((a : Int) + (j : Int))) / 2 = ((a + p : Nat) : Int) := by omega
      have hps : a + p < d.size := by omega
      have EM := hide em
      have HQ := hide (And.intro hq (And.intro hp1 (And.intro hp2 hps)))
      clear em hq hm2 hp hp1 hp2 hps
      rcases Decidable.em (cf x y < 0) with hv | hv
      · have hd1 : decide (cf x y < 0) = true := decide_eq_true hv
        have HT1 := hide (eyes.out hv)
        clear hv eyes eno
        go_wp2_with fail
        go_quiet_grown (first | (go_at_fn g; refine Calls.grown_of (c3 _ _)))
        have S2 : Hid (SW enc w0 blk off d (grow (wr.drewN nq) osq)) := S1.out.grown nq osq
        clear c1 c2 c3 S1
        generalize grow (wr.drewN nq) osq = w2 at S2 ⊢
        clear nq osq
        rw [EM.out] at *
        clear ea pa ba ra ec pc bc rc
        go_wp2
        go_roundw
        case rel => exact ⟨i, rfl, p, by go_num, HQ.out.2.1, by have := HQ.out.2.2.1; omega, HC.out.1, drop_all HT.out.trans HP.out.1 HY.out HT1.out⟩
        case measure => have := HQ.out; simp [intOf]; omega
      · have hd1 : decide (cf x y < 0) = false := decide_eq_false hv
        have HT1 := hide (eno.out hv)
        clear hv eyes eno
        go_wp2_with fail
        go_quiet_grown (first | (go_at_fn g; refine Calls.grown_of (c3 _ _)))
        have S2 : Hid (SW enc w0 blk off d (grow (wr.drewN nq) osq)) := S1.out.grown nq osq
        clear c1 c2 c3 S1
        generalize grow (wr.drewN nq) osq = w2 at S2 ⊢
        clear nq osq
        rw [EM.out] at *
        have hpz : a + p + 1 < 1048576 := by have := HQ.out.2.2.2; omega
        clear ea pa ba ra ec pc bc rc
        go_wp2
        go_roundw
        case rel => exact ⟨p + 1, by go_num, j, rfl, HQ.out.2.2.1, hj, take_all HT.out.trans HP.out.1 HY.out HT1.out, HC.out.2⟩
        case measure => have := HQ.out; simp [intOf]; omega
    · obtain rfl : i = j := by omega
      have hi1 : i ≤ r := hj
      clear hij hlt hj
      have HIr := hide hi1
      have e0 : Hid (d.toList = P ++ Rr.take r ++ [x] ++ Rr.drop r ++ S) := by unfold Hid; rw [HD.out, HRL.out, List.take_length, List.drop_length]; simp
      go_wp2_with fail
      go_loopw [17] (fun p ws => ∃ (k : Nat) (dk : Array α), i ≤ k ∧ k ≤ r ∧ p = .int .i64 ((a + k : Nat) : Int) ∧ dk.size = d.size ∧ Hid (dk.toList = P ++ Rr.take k ++ [x] ++ Rr.drop k ++ S) ∧ Hid (SW enc w0 blk off dk ws)) (fun p _ => (intOf p).toNat)
      case atStart => exact ⟨r, d, hi1, Nat.le_refl _, by first | rfl | simp, rfl, e0, S1⟩
      case round =>
        clear S1 e0
        obtain ⟨k, dk, hk, hkr, rfl, hsk, HK, S1⟩ := hrel
        by_cases hlt : i < k
        · have R := HT.out.row
          obtain ⟨q, rfl⟩ : ∃ q, k = q + 1 := ⟨k - 1, by omega⟩
          have hRk : q < Rr.length := by have := HRL.out; omega
          obtain ⟨R1, y, R2, hRe, hR1⟩ := cut_at Rr (k := q) hRk
          have t1 : (R1 ++ y :: R2).take (q + 1) = R1 ++ [y] := by rw [take_snoc (at_mid R1 R2 y hR1.symm), ← hR1, List.take_left]
          have t3 : (R1 ++ y :: R2).drop (q + 1) = R2 := by rw [show R1 ++ y :: R2 = (R1 ++ [y]) ++ R2 by simp]; exact List.drop_left' (by simp; omega)
          have eK : dk.toList = (P ++ R1) ++ y :: ([] ++ x :: (R2 ++ S)) := by
            rw [HK.out, hRe, t1, t3]
            simp
          have eN : Hid ((swp dk (a + q + 1) (a + q)).toList = P ++ Rr.take q ++ [x] ++ Rr.drop q ++ S) := by
            unfold Hid
            rw [swp_back eK (by rw [hPl.out]; simp; omega) (by rw [hPl.out]; simp; omega), hRe, ← hR1, List.take_left, List.drop_left]
            simp
          have hzz := HSZ.out
          obtain ⟨x', y', u, c1, c2, f1, f2, c3, S2⟩ := swap_facts S1.out R (by omega) (i := a + q + 1) (j := a + q) (by omega) (by omega)
          obtain ⟨iN, hiN⟩ : ∃ q2, q2 = a + q := ⟨_, rfl⟩
          obtain ⟨jN, hjN⟩ : ∃ q2, q2 = a + q + 1 := ⟨_, rfl⟩
          rw [← hjN] at c1 f1 c3 S2 eN
          rw [← hiN] at c2 f2 c3 S2 eN
          have em : (a : Int) + ((q : Int) + 1) - 1 = (a : Int) + (q : Int) := by omega
          have ea : ((a : Int) + (q : Int)).toNat = iN := by omega
          have pa : (0 : Int) ≤ (a : Int) + (q : Int) := by omega
          have ba : (a : Int) + (q : Int) < (d.size : Int) := by omega
          have ra : IntKind.i64.wrap ((a : Int) + (q : Int)) = (a : Int) + (q : Int) := by rw [IntKind.wrap_i64]; omega
          have ec : ((a : Int) + ((q : Int) + 1)).toNat = jN := by omega
          have pc : (0 : Int) ≤ (a : Int) + ((q : Int) + 1) := by omega
          have bc : (a : Int) + ((q : Int) + 1) < (d.size : Int) := by omega
          have rc : IntKind.i64.wrap ((a : Int) + ((q : Int) + 1)) = (a : Int) + ((q : Int) + 1) := by rw [IntKind.wrap_i64]; omega
          have hK1 : i ≤ q := by omega
          have hK2 : q ≤ r := by omega
          clear S1 HK eK hiN hjN hRe hR1 hRk hzz R t1 t3
          go_wp2_with fail
          go_big_region_o
          clear c1 c2 c3 f1 f2
          generalize ((wr.setCell ⟨blk, off + jN, none⟩ (enc y')).setCell ⟨blk, off + iN, none⟩ (enc x')).drew = w2 at S2 ⊢
          clear ea ec
          go_wp2
          go_roundw
          case rel => exact ⟨q, swp dk jN iN, hK1, hK2, by go_num, by rw [size_swp]; exact hsk, eN, S2⟩
          case measure => simp [intOf]; omega
        · obtain rfl : k = i := by omega
          have J := ins_sorted HP.out.1 HC.out.1 HC.out.2 HT.out.trans
          go_wp2
          go_end0
          exact ⟨rfl, _, dk, by first | exact HK.out | (rw [HK.out]; simp), J.2.trans List.perm_append_comm, J.1, hsk, S1.out⟩

end Go.Proofs.Ytmpfkmbfbeejhaa
