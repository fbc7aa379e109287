/- CountWords of the program. -/
import Derived.Test.YtcclfmapbgdpdaaGreatDoorLogS
import Derived.Test.YtcclfmapbgdpdaaGreatDoorCutZ
import Derived.Test.YtcclfmapbgdpdaaGreatDoorTwoW
import Derived.Test.YtcclfmapbgdpdaaGreatDoorSortB
import Derived.Test.YtcclfmapbgdpdaaGreatDoorSplitS
import Derived.Test.YtcclfmapbgdpdaaGreatDoorMg
namespace Go.Proofs.YtcclfmapbgdpdaaGreatDoor
open Go.RowKit
set_option linter.unusedVariables false

def firstsZ (xs : List LineZ) : List ByteArray := xs.map fun x => headS x.text
def cwC (xs : List LineZ) : Int := if validL xs = true then 0 else 1
def cwW (xs : List LineZ) : List ByteArray := if validL xs = true then wordsZ (firstsZ xs) else []
def cwN (xs : List LineZ) : List Int := if validL xs = true then (wordsZ (firstsZ xs)).map fun w => (cntB w (firstsZ xs) : Int) else []
theorem cw_bad {xs : List LineZ} (h : validL xs = false) : cwC xs = 1 ∧ cwW xs = [] ∧ cwN xs = [] := by unfold cwC cwW cwN; rw [h]; exact ⟨rfl, rfl, rfl⟩
theorem cw_ok {xs : List LineZ} (h : validL xs = true) : cwC xs = 0 ∧ cwW xs = wordsZ (firstsZ xs) ∧ cwN xs = (wordsZ (firstsZ xs)).map fun w => (cntB w (firstsZ xs) : Int) := by unfold cwC cwW cwN; rw [h]; exact ⟨rfl, rfl, rfl⟩
theorem firsts_snoc {xs : List LineZ} {k : Nat} {x : LineZ} (h : xs[k]? = some x) : firstsZ (xs.take (k + 1)) = firstsZ (xs.take k) ++ [headS x.text] := by
  unfold firstsZ; rw [take_snoc h, List.map_append]; rfl
theorem headS_size (s : ByteArray) : (headS s).size ≤ s.size := by
  unfold headS
  cases hq : (splitS 32 s)[0]? with
  | none => rw [List.getD_eq_getElem?_getD, hq]; exact Nat.zero_le _
  | some y => rw [List.getD_eq_getElem?_getD, hq]; exact splitS_part 32 s y (List.mem_of_getElem? hq)
/-- What CountWords leaves: two rows of its own, apart. -/
def CwPost (xs : List LineZ) (w : World) (e : Ending) (w' : World) : Prop :=
  ∃ A0 n0 c0 A1 n1 c1 l0 u0 l1 u1, e = .returned (.tuple #[.slice A0 n0 c0, .slice A1 n1 c1, .int .i64 (cwC xs)]) ∧ FrK kB w' l0 u0 9 A0 n0 (cwW xs) ∧ n0 ≤ 1048576 ∧ FrI w' l1 u1 2 A1 n1 (cwN xs) ∧ n1 ≤ 1048576 ∧
    (w.heap.size ≤ l0 ∧ l0 ≤ u0 ∧ u0 ≤ w'.heap.size ∧ w.heap.size ≤ l1 ∧ l1 ≤ u1 ∧ u1 ≤ w'.heap.size ∧ (u0 ≤ l1 ∨ u1 ≤ l0)) ∧ Below w.heap.size w w'
theorem cw_none {xs : List LineZ} {w w' : World} (h : cwC xs = 1 ∧ cwW xs = [] ∧ cwN xs = []) (hb : Below w.heap.size w w') : CwPost xs w (.returned (.tuple #[.slice none 0 0, .slice none 0 0, .int .i64 1])) w' := by
  obtain ⟨h1, h2, h3⟩ := h
  refine ⟨none, 0, 0, none, 0, 0, w.heap.size, w.heap.size, w.heap.size, w.heap.size, by rw [h1], by rw [h2]; exact FrK.nil, by omega, by rw [h3]; exact FrI.nil, by omega, ?_, hb⟩
  have := hb.size
  omega
theorem own_range {w : World} {base n : Nat} {e : TypeId} {v : Value} {cs : List Value} (h : w.ownsRow base e 1 v n cs) (hb : base ≤ w.heap.size) : ∃ A c l u, v = .slice A n c ∧ Fr w l u e 1 A n cs ∧ base ≤ l ∧ l ≤ u ∧ u ≤ w.heap.size ∧ (l < u → v.ownBlock = some l ∧ u = l + 1) := by
  rcases h.2 with ⟨rfl, rfl⟩ | ⟨g, cap, cur, rfl, hbg, hg, h1, h2, h3, h4⟩
  · have : cs = [] := by have := h.1; simpa using this
    subst this
    exact ⟨none, 0, base, base, rfl, Fr.nil, Nat.le_refl _, Nat.le_refl _, hb, fun h => absurd h (Nat.lt_irrefl _)⟩
  · have hlt := (h.lt g rfl).2
    have hg' : w.ownsRow g e 1 (.slice (some ⟨g, 0, none⟩) n cap) n cs := ⟨h.1, .inr ⟨g, cap, cur, rfl, Nat.le_refl _, hg, h1, h2, h3, h4⟩⟩
    have hf := Fr.of_own hg'
    refine ⟨_, cap, g, g + 1, rfl, ?_, hbg, by omega, by omega, fun _ => ⟨rfl, rfl⟩⟩
    refine ⟨hf.1, fun hn => ?_⟩
    obtain ⟨b, off, cur', hA, h5, h6, h7⟩ := hf.2 hn
    injection hA with hA
    injection hA with e1 e2
    subst e1
    exact ⟨g, off, cur', by rw [e2], by omega, by omega, h7⟩
theorem cw_of {xs : List LineZ} {w w' w0 : World} {base : Nat} {u v : Value} {n m : Nat} {ws : List ByteArray} {cs : List Int} (h : TwoW w' base u v n m ws cs) (hC : Counted (firstsZ xs) ws cs) (hv : validL xs = true) (hs : ∀ x ∈ firstsZ xs, x.size ≤ 9223372036854775807) (hl : xs.length ≤ 1048576) (hb0 : w.heap.size ≤ base) (hb1 : base ≤ w'.heap.size) (hb : Below w.heap.size w w') :
    CwPost xs w (.returned (.tuple #[u, v, .int .i64 0])) w' := by
  obtain ⟨e1, e2⟩ := counted_one hC (words_counted (firstsZ xs))
  obtain ⟨o1, o2, o3⟩ := cw_ok hv
  have hn : ws.length = n := by have := h.1.1; rw [cK_len] at this; simpa [kB] using this
  have hm : cs.length = m := by have := h.2.1.1; simpa [cI] using this
  have hwl : ws.length ≤ 1048576 := by
    have := nodup_len (xs := ws) (ys := firstsZ xs) (sortB_nodup hC.1) (fun x hx => (hC.2.1 x).1 hx)
    have e : (firstsZ xs).length = xs.length := by unfold firstsZ; rw [List.length_map]
    omega
  have hcl : cs.length = ws.length := by rw [hC.2.2, List.length_map]
  obtain ⟨A0, c0, l0, u0, rfl, f0, a1, a2, a3, a4⟩ := own_range h.1 hb1
  obtain ⟨A1, c1, l1, u1, rfl, f1, b1, b2, b3, b4⟩ := own_range h.2.1 hb1
  refine ⟨A0, n, c0, A1, m, c1, l0, u0, l1, u1, by rw [o1], ?_, by omega, ?_, by omega, ?_, hb⟩
  · rw [o2, ← e1]
    exact ⟨f0, hn, fun x hx => hs x ((hC.2.1 x).1 hx)⟩
  · rw [o3, ← e2]
    refine ⟨f1, fun x hx => ?_⟩
    rw [hC.2.2] at hx
    obtain ⟨y, _, rfl⟩ := List.mem_map.1 hx
    have := cntB_le y (firstsZ xs)
    have e : (firstsZ xs).length = xs.length := by unfold firstsZ; rw [List.length_map]
    unfold I64
    omega
  · refine ⟨by omega, a2, a3, by omega, b2, b3, ?_⟩
    by_cases q0 : l0 < u0
    · by_cases q1 : l1 < u1
      · obtain ⟨r0, r1⟩ := a4 q0
        obtain ⟨s0, s1⟩ := b4 q1
        have hne : l0 ≠ l1 := fun e => h.2.2 l0 r0 (by rw [s0, e])
        omega
      · omega
    · omega

theorem set_last {cs : List Int} {c : Int} {m : Nat} (hm : m = cs.length) (x : Int) : (cs ++ [c]).set m x = cs ++ [x] := by
  subst hm
  rw [List.set_append_right _ _ (Nat.le_refl _), Nat.sub_self]; rfl
theorem at_last {cs : List Int} {c : Int} {m : Nat} (hm : m = cs.length) : (cs ++ [c])[m]? = some c := by
  subst hm
  rw [List.getElem?_append_right (Nat.le_refl _), Nat.sub_self]; rfl

set_option maxRecDepth 100000 in
set_option maxHeartbeats 8000000 in
theorem implCountWords_calls (A : Option Addr) (n c : Nat) (xs : List LineZ) (w : World) (hT : TabPM w) (h : RdK kLine w A n xs) (hn : n ≤ 1048576) (hx : MidL xs) :
    Calls Tryz.prog 32 #[.slice A n c] w (CwPost xs w) := by
  have HL := hide h.2.1
  have HV := implValidLog_calls A n c xs w hT h hn hx
  rcases b_cases (validL xs) with hv | hv
  · have HZ := hide (cw_bad hv)
    rw [hv] at HV
    have HV2 := hide HV
    clear HV hv
    go_enter Tryz.func32, Tryz.ntmps32
    go_wp2_with fail
    refine HV2.out.mono ?_
    rintro e w1 ⟨rfl, hb1⟩
    go_wp2
    refine bodyPost_ret (v := .tuple #[.slice none 0 0, .slice none 0 0, .int .i64 1]) (by simp [results, Tryz.results32, go_sem, *]) rfl ?_
    exact cw_none HZ.out hb1
  have HVL := hide hv
  rw [hv] at HV
  have HV2 := hide HV
  clear HV hv
  have HMX : Hid (∀ x ∈ xs, x.text.size ≤ 1048576) := hx
  have hown0 := World.ownsRow_nil w w.heap.size 9 1
  go_enter Tryz.func32, Tryz.ntmps32
  go_wp2_with fail
  refine HV2.out.mono ?_
  rintro e w1 ⟨rfl, hb1⟩
  clear HV2
  have hz1 := hb1.size
  have hown0 := World.ownsRow_nil w1 w1.heap.size 9 1
  go_wp2
  go_loopw [5, 7, 8, 9, 10, 20] (fun v p q r s i wr => ∃ (K : Nat), K ≤ n ∧ i = .int .i64 K ∧ wr.ownsRow w1.heap.size 9 1 v K (cK kB (firstsZ (xs.take K))) ∧ Below w1.heap.size w1 wr) (fun _ _ _ _ _ i _ => n - (intOf i).toNat)
  case atStart => exact ⟨0, Nat.zero_le _, rfl, by simpa [cK, firstsZ] using hown0, Below.refl _ _⟩
  case round =>
    clear hown0
    obtain ⟨K, hK, rfl, hown, hb⟩ := hrel
    have HO := hide hown
    have hbb := hb1.trans (hb.mono hz1)
    clear hown
    by_cases hlt : K < n
    · obtain ⟨b, off, f0, f1, f2, f3, rfl, hbl, hx0, hc0, hc1, hc2, hc3, _⟩ := (h.below hbb (Nat.le_refl _)).atLine hlt
      have hf2 := HMX.out _ (List.mem_of_getElem? hx0.out)
      simp only at hf2
      have HE : Hid (firstsZ (xs.take (K + 1)) = firstsZ (xs.take K) ++ [headS f2]) := firsts_snoc hx0.out
      obtain ⟨W1, hW1⟩ : ∃ W1, W1 = wr.alloc (.cells #[.int .i64 f0, .int .i64 f1, .string f2, .int .i64 f3] 48) := ⟨_, rfl⟩
      have hw1 : Below wr.heap.size wr W1 := by rw [hW1]; exact (Below.refl _ _).alloc (Nat.le_refl _) _
      have k2 : W1.cell? ⟨wr.heap.size, 2, none⟩ = some (.string f2) := by rw [hW1]; simp
      have hsz := hb.size
      have hsz1 := hw1.size
      have HCU : Hid (Calls Tryz.prog 103 #[.string f2, .string ⟨#[32]⟩] W1 fun e w' => (∃ r q, e = .returned (.tuple #[.string (headS f2), .string r, .bool q])) ∧ ∃ m, w' = W1.drewN m) := by
        obtain ⟨m, hm⟩ := (hT.2.here hbb).here hw1
        have := Tryz.strings_Cut f2 ⟨#[32]⟩ m W1 (by omega) hm
        refine this.mono ?_
        rintro e w' ⟨rfl, hw⟩
        exact ⟨⟨_, _, by rw [← cut_head f2]⟩, hw⟩
      generalize headS f2 = hd at *
      clear hx0
      go_wp2_with fail
      rw [← hW1]
      clear hW1
      (try go_wp2_with fail)
      refine HCU.out.mono ?_
      rintro e w2 ⟨⟨r, q, rfl⟩, m, rfl⟩
      go_wp2_with (at_builtin; refine appB rfl _ _ rfl w1.heap.size u5 K _ hd rfl (own_drewN (own_below HO.out hw1 (Nat.le_refl _)) m) (by first | rfl | (simp; rfl)) (by omega) (by simp; omega) ?_; intro v4 w4 hown4 hb4 hz4)
      go_roundw
      case rel => exact ⟨K + 1, by omega, by go_num, by rw [HE.out]; exact hown4, (hb.trans (below_drewN (hw1.mono hsz) m)).trans hb4⟩
      case measure => simp [intOf]; omega
    · obtain rfl : K = n := by omega
      have hown := HO.out
      rw [List.take_of_length_le (by rw [HL.out]; omega)] at hown
      obtain ⟨A6, c6, rfl⟩ := own_slice hown
      have hsz := hb.size
      have HS := hide (sortB_calls A6 K c6 w1.heap.size _ wr hown hn hsz)
      clear hown HO
      go_wp2_with fail
      refine HS.out.mono ?_
      rintro e w2 ⟨rfl, ys, hown2, hperm, hrise, hb2⟩
      have hB2 := hb1.trans ((hb.trans hb2).mono hz1)
      have hyl : ys.length = K := by
        have := hown2.1
        rw [cK_len] at this
        simpa [kB] using this
      have HP := hide hperm
      have HR := hide hrise
      have HYL := hide hyl
      have hsm : ∀ x ∈ ys, x.size ≤ 9223372036854775807 := by
        intro x hx1
        obtain ⟨y, hy, rfl⟩ := List.mem_map.1 (hperm.mem_iff.1 hx1)
        have := headS_size y.text
        have := HMX.out y hy
        omega
      have HRY : Hid (RdK kB w2 A6 K ys) := RdK.of_own (K := kB) hown2 hyl hsm
      clear hown2 hperm hrise hyl hsm HS
      obtain ⟨wo, rfl⟩ : ∃ wo : World, wo = w2 := ⟨_, rfl⟩
      have hsm40 : K ≤ 40 := by
        have := log_len (show isLogB xs = true by have e := HVL.out; unfold validL at e; rw [Bool.and_eq_true] at e; exact e.1)
        rw [HL.out] at this
        exact this
      go_wp2
      go_loopw [11, 12, 13, 14, 40] (fun u v p q i wr => ∃ (J m : Nat) (ws : List ByteArray) (cs : List Int), J ≤ K ∧ i = .int .i64 J ∧ m ≤ J ∧ Hid (TwoW wr wo.heap.size u v m m ws cs) ∧ Hid (Counted (ys.take J) ws cs) ∧ Hid (∀ x, 0 < J → ys[J - 1]? = some x → ws.getLast? = some x) ∧ Below wo.heap.size wo wr) (fun _ _ _ _ i _ => K - (intOf i).toNat)
      case atStart => exact ⟨0, 0, [], [], Nat.zero_le _, rfl, Nat.le_refl _, TwoW.nil _ _, by simpa [Hid] using counted_nil, fun _ h => absurd h (Nat.lt_irrefl _), Below.refl _ _⟩
      case round =>
        obtain ⟨J, m, ws, cs, hJ, rfl, hmJ, HT, HC, HLA, hb⟩ := hrel
        have hsz2 := hb.size
        have hwl : ws.length = m := by have := HT.out.1.1; rw [cK_len] at this; simpa [kB] using this
        have hcl : cs.length = m := by have := HT.out.2.1.1; simpa [cI] using this
        by_cases hlt2 : J < K
        · obtain ⟨b, off, x, rfl, hbl, hx1, hc1, hxs⟩ := (HRY.out.below hb (Nat.le_refl _)).atB hlt2
          have HTK : Hid (ys.take (J + 1) = ys.take J ++ [x]) := take_snoc hx1.out
          have HWL := hide (And.intro hwl hcl)
          clear hwl hcl
          -- a new word
          have new : ∀ (hnw : ∀ y ∈ ws, strLess y x = true), Hid (Counted (ys.take (J + 1)) (ws ++ [x]) (cs ++ [1])) := fun hnw => by
            unfold Hid
            rw [HTK.out]
            exact counted_new HC.out hnw
          have last1 : Hid (∀ z, 0 < J + 1 → ys[J + 1 - 1]? = some z → (ws ++ [x]).getLast? = some z) := fun z _ hz => by
            rw [Nat.add_sub_cancel, hx1.out] at hz
            rw [List.getLast?_concat]; exact hz
          by_cases h0 : J = 0
          · have hm0 : m = 0 := by omega
            have hws : ws = [] := List.length_eq_zero_iff.1 (by rw [HWL.out.1, hm0])
            have HN := hide (new (by rw [hws]; simp))
            have g0 : ((J : Int) == 0) = true := by simp; omega
            clear new hx1 hm0 hws h0
            go_wp2_with (at_builtin; first
              | (refine appBW rfl _ _ rfl wo.heap.size u11 u12 m m ws cs x rfl HT.out (by first | rfl | (simp; rfl)) (by omega) (by omega) ?_; intro v4 w4 hT4 hb4 hz4)
              | (refine appIW rfl _ _ rfl wo.heap.size v4 u12 (m + 1) m (ws ++ [x]) cs 0 rfl hT4 (by first | rfl | (simp; rfl)) (by omega) (by omega) ?_; intro v5 w5 hT5 hb5 hz5; obtain ⟨g5, c5, rfl⟩ := hT5.addr (by omega); obtain ⟨k5, f5, hg5, hl5⟩ := hT5.cell (k := m) (at_last HWL.out.2.symm); have HT6 := hide (hT5.store (k := m) (by omega) 1); clear hT4 hT5))
            rw [set_last HWL.out.2.symm] at HT6
            go_roundw
            case rel => exact ⟨J + 1, m + 1, ws ++ [x], cs ++ [1], by omega, by go_num, by omega, HT6.out, HN, last1, ((hb.trans hb4).trans hb5).setCell hg5 _⟩
            case measure => simp [intOf]; omega
          obtain ⟨J, rfl⟩ : ∃ J', J = J' + 1 := ⟨J - 1, by omega⟩
          have g0 : (((J + 1 : Nat) : Int) == 0) = false := by simp; omega
          have g1 : ((J : Int) + 1 == 0) = false := by simp; omega
          obtain ⟨b', off', y, hA', _, hy1, hc2, hys⟩ := (HRY.out.below hb (Nat.le_refl _)).atB (show J < K by omega)
          obtain ⟨rfl, rfl⟩ : b = b' ∧ off = off' := by injection hA' with hA; injection hA; exact ⟨‹_›, ‹_›⟩
          clear hA'
          have hla := HLA.out y (by omega) (by rw [Nat.add_sub_cancel]; exact hy1.out)
          have hrise : strLess x y = false := by
            have := HR.out
            unfold RiseB at this
            rw [List.pairwise_iff_getElem] at this
            obtain ⟨q1, q2⟩ := List.getElem?_eq_some_iff.1 hy1.out
            obtain ⟨q3, q4⟩ := List.getElem?_eq_some_iff.1 hx1.out
            have := this J (J + 1) q1 q3 (by omega)
            rwa [q2, q4] at this
          by_cases hq : x = y
          · obtain ⟨ws', hws⟩ := last_split hla
            have hcn : cs ≠ [] := by
              intro e
              have h1 := HWL.out.2
              have h2 := HWL.out.1
              rw [e] at h1
              rw [hws] at h2
              simp at h1 h2
              omega
            obtain ⟨cs', cl, hcs⟩ : ∃ cs' cl, cs = cs' ++ [cl] := ⟨cs.dropLast, cs.getLast hcn, (List.dropLast_concat_getLast hcn).symm⟩
            have e1 := (str_eq hq).1
            have e2 := (str_eq hq).2
            subst hq
            subst hws hcs
            have hm' : m = cs'.length + 1 := by have := HWL.out.2; simpa using this.symm
            have hw' : ws'.length = cs'.length := by have := HWL.out.1; simp at this; omega
            subst hm'
            have hcl2 : 0 ≤ cl ∧ cl ≤ 40 := by
              have e3 := HC.out.2.2
              rw [List.map_append, List.map_cons, List.map_nil] at e3
              have e4 := (List.append_inj' e3 rfl).2
              have e5 : cl = (cntB x (ys.take (J + 1)) : Int) := by simpa using e4
              have := cntB_le x (ys.take (J + 1))
              rw [List.length_take] at this
              omega
            have HN : Hid (Counted (ys.take (J + 1 + 1)) (ws' ++ [x]) (cs' ++ [cl + 1])) := by
              unfold Hid
              rw [HTK.out]
              exact counted_more HC.out
            have last2 : Hid (∀ z, 0 < J + 1 + 1 → ys[J + 1 + 1 - 1]? = some z → (ws' ++ [x]).getLast? = some z) := fun z _ hz => by
              rw [Nat.add_sub_cancel, hx1.out] at hz
              rw [List.getLast?_concat]; exact hz
            obtain ⟨g5, c5, rfl⟩ := HT.out.addr (by omega)
            obtain ⟨k5, f5, hg5, hl5⟩ := HT.out.cell (k := cs'.length) (at_last rfl)
            have HT6 := hide (HT.out.store (k := cs'.length) (by omega) (cl + 1))
            rw [set_last rfl] at HT6
            clear new hx1 hy1 hla hrise hcn last1 HC HLA
            generalize cs'.length = mm at *
            go_wp2
            go_roundw
            case rel => exact ⟨J + 1 + 1, mm + 1, ws' ++ [x], cs' ++ [cl + 1], by omega, by go_num, by omega, HT6.out, HN, last2, hb.setCell hg5 _⟩
            case measure => simp [intOf]; omega
          · have HN := hide (new (rise_new HC.out.1 hla hrise hq))
            have e1 := (str_ne hq).1
            have e2 := (str_ne hq).2
            clear new hx1 hy1 hla hrise hq
            go_wp2_with (at_builtin; first
              | (refine appBW rfl _ _ rfl wo.heap.size u11 u12 m m ws cs x rfl HT.out (by first | rfl | (simp; rfl)) (by omega) (by omega) ?_; intro v4 w4 hT4 hb4 hz4)
              | (refine appIW rfl _ _ rfl wo.heap.size v4 u12 (m + 1) m (ws ++ [x]) cs 0 rfl hT4 (by first | rfl | (simp; rfl)) (by omega) (by omega) ?_; intro v5 w5 hT5 hb5 hz5; obtain ⟨g5, c5, rfl⟩ := hT5.addr (by omega); obtain ⟨k5, f5, hg5, hl5⟩ := hT5.cell (k := m) (at_last HWL.out.2.symm); have HT6 := hide (hT5.store (k := m) (by omega) 1); clear hT4 hT5))
            rw [set_last HWL.out.2.symm] at HT6
            go_roundw
            case rel => exact ⟨J + 1 + 1, m + 1, ws ++ [x], cs ++ [1], by omega, by go_num, by omega, HT6.out, HN, last1, ((hb.trans hb4).trans hb5).setCell hg5 _⟩
            case measure => simp [intOf]; omega
        · obtain rfl : J = K := by omega
          have hC := HC.out
          rw [List.take_of_length_le (by rw [HYL.out]; omega)] at hC
          have HF := hide (cw_of (w := w) HT.out (counted_perm hC HP.out) HVL.out (by
            intro x hx1
            obtain ⟨y, hy, rfl⟩ := List.mem_map.1 hx1
            have := headS_size y.text
            have := HMX.out y hy
            omega) (by rw [HL.out]; exact hn) hB2.size hsz2 (hB2.trans (hb.mono hB2.size)) (w0 := w))
          clear hC HC HT HLA
          go_wp2
          refine bodyPost_ret (v := .tuple #[u11, u12, .int .i64 0]) (by simp [results, Tryz.results32, go_sem, *]) rfl ?_
          exact HF.out

end Go.Proofs.YtcclfmapbgdpdaaGreatDoor
