/- CountWords of the reference. -/
import Derived.Test.YtlomloepdnojoaaGreatDoorCountI
import Derived.Test.YtlomloepdnojoaaGreatDoorSplit
import Derived.Test.YtlomloepdnojoaaGreatDoorSymZ
import Derived.Test.YtlomloepdnojoaaGreatDoorHelpI
import Derived.Test.YtlomloepdnojoaaGreatDoorTake
namespace Go.Proofs.YtlomloepdnojoaaGreatDoor
open Go.RowKit
set_option linter.unusedVariables false

/-- A word put to its place. -/
theorem ins_place {ws : List ByteArray} {w : ByteArray} {a : Nat} (h : SortB ws) (h1 : ∀ x ∈ ws.take a, strLess x w = true) (h2 : ∀ x ∈ ws.drop a, strLess w x = true) : SortB (ws.take a ++ [w] ++ ws.drop a) ∧ ∀ x, x ∈ ws.take a ++ [w] ++ ws.drop a ↔ x ∈ ws ∨ x = w := by
  constructor
  · unfold SortB at h ⊢
    rw [List.append_assoc]
    refine List.pairwise_append.2 ⟨h.sublist (List.take_sublist _ _), List.pairwise_cons.2 ⟨h2, h.sublist (List.drop_sublist _ _)⟩, ?_⟩
    intro x hx y hy
    rcases List.mem_cons.1 hy with rfl | hy
    · exact h1 x hx
    · exact strLess_trans (h1 x hx) (h2 y hy)
  · intro x
    rw [List.mem_append, List.mem_append, List.mem_singleton]
    have e : x ∈ ws ↔ x ∈ ws.take a ∨ x ∈ ws.drop a := by rw [← List.mem_append, List.take_append_drop]
    rw [e]
    constructor
    · rintro ((h | h) | h)
      · exact .inl (.inl h)
      · exact .inr h
      · exact .inl (.inr h)
    · rintro ((h | h) | h)
      · exact .inl (.inl h)
      · exact .inr h
      · exact .inl (.inr h)
theorem sort_before {ws : List ByteArray} {y w : ByteArray} {a : Nat} (h : SortB ws) (hy : ws[a]? = some y) (hl : strLess y w = true) : ∀ x ∈ ws.take (a + 1), strLess x w = true := by
  intro x hx
  rw [take_snoc hy] at hx
  rcases List.mem_append.1 hx with hx | hx
  · obtain ⟨j, hj⟩ := List.mem_iff_getElem?.1 hx
    rw [List.getElem?_take] at hj
    split at hj
    · next hja =>
      unfold SortB at h
      rw [List.pairwise_iff_getElem] at h
      obtain ⟨q1, q2⟩ := List.getElem?_eq_some_iff.1 hj
      obtain ⟨q3, q4⟩ := List.getElem?_eq_some_iff.1 hy
      have := h j a q1 q3 hja
      rw [q2, q4] at this
      exact strLess_trans this hl
    · cases hj
  · have : x = y := by simpa using hx
    rw [this]; exact hl
theorem drop_more {ws : List ByteArray} {y w : ByteArray} {a : Nat} (hy : ws[a]? = some y) (hl : strLess w y = true) (h : ∀ x ∈ ws.drop (a + 1), strLess w x = true) : ∀ x ∈ ws.drop a, strLess w x = true := by
  obtain ⟨hk, rfl⟩ := List.getElem?_eq_some_iff.1 hy
  rw [List.drop_eq_getElem_cons hk]
  intro x hx
  rcases List.mem_cons.1 hx with rfl | hx
  · exact hl
  · exact h x hx

section
variable {P : Program} {ops : Array Oper} {Q : Exit → Act → World → Prop} {md : Region.Mode} {S S' : World → Prop}
theorem wpAnyH_mono (hS : ∀ w, S' w → S w) : ∀ (fuel : Nat) (listed : Array Bool) (a : Act) (w : World), wpAnyH P md ops Q S' fuel listed a w → wpAnyH P md ops Q S fuel listed a w
  | 0, _, _, _, h => h
  | fuel + 1, _, _, _, h => ⟨h.1, fun i hi => wpOp_mono (fun a' w' h' => ⟨hS w' h'.1, wpAnyH_mono hS fuel _ a' w' h'.2⟩) (h.2 i hi)⟩
end
theorem own_lower {w : World} {base base' : Nat} {e : TypeId} {size : Nat} {v : Value} {n : Nat} {xs : List Value} (h : w.ownsRow base e size v n xs) (h1 : base' ≤ base) : w.ownsRow base' e size v n xs := by
  refine ⟨h.1, ?_⟩
  rcases h.2 with hv | ⟨g, cap, cur, hv, hb, hg⟩
  · exact .inl hv
  · exact .inr ⟨g, cap, cur, hv, Nat.le_trans h1 hb, hg⟩
theorem own_addr3 {w : World} {base : Nat} {e : TypeId} {size n : Nat} {v : Value} {xs : List Value} (h : w.ownsRow base e size v n xs) (hn : 1 ≤ n) : ∃ g c, v = .slice (some ⟨g, 0, none⟩) n c := by
  rcases h.2 with ⟨rfl, rfl⟩ | ⟨g, cap, cur, rfl, _⟩
  · omega
  · exact ⟨g, cap, rfl⟩

/-- The counts so far: the first k words are done, of the next one the first i lines. -/
def cntD (ws fs : List ByteArray) (k m : Nat) : List Int := (ws.take k).map (fun w => (cntB w fs : Int)) ++ List.replicate (m - k) 0
theorem cntD_len {ws fs : List ByteArray} {k m : Nat} (h : ws.length = m) (hk : k ≤ m) : ((ws.take k).map (fun w => (cntB w fs : Int))).length = k := by rw [List.length_map, List.length_take]; omega
theorem cntD_split {ws fs : List ByteArray} {k m : Nat} (hk : k < m) : cntD ws fs k m = (ws.take k).map (fun w => (cntB w fs : Int)) ++ 0 :: List.replicate (m - (k + 1)) 0 := by
  unfold cntD
  rw [show m - k = (m - (k + 1)) + 1 by omega, List.replicate_succ]
theorem cntD_next {ws fs : List ByteArray} {k m : Nat} {y : ByteArray} (hy : ws[k]? = some y) : (ws.take k).map (fun w => (cntB w fs : Int)) ++ (cntB y fs : Int) :: List.replicate (m - (k + 1)) 0 = cntD ws fs (k + 1) m := by
  unfold cntD
  rw [take_snoc hy, List.map_append, List.append_assoc]
  rfl

theorem own_mid {w : World} {base g c m k : Nat} {A B : List Int} {x : Int} (h : w.ownsRow base 2 1 (.slice (some ⟨g, 0, none⟩) m c) m (cI (A ++ x :: B))) (hk : k = A.length) :
    w.cell? ⟨g, k, none⟩ = some (.int .i64 x) ∧ w.frozen? ⟨g, k, none⟩ = false ∧ Hid (∀ u, (w.setCell ⟨g, k, none⟩ (.int .i64 u)).ownsRow base 2 1 (.slice (some ⟨g, 0, none⟩) m c) m (cI (A ++ u :: B))) := by
  have hl : (A ++ x :: B).length = m := by have := h.1; simpa [cI] using this
  have hkm : k < m := by rw [← hl, List.length_append, List.length_cons]; omega
  obtain ⟨v, hv, hf, ho⟩ := own_store h (show k < m * 1 by omega)
  refine ⟨?_, hf, fun u => ?_⟩
  · have e : w.cell? ⟨g, k, none⟩ = (cI (A ++ x :: B))[k]? := h.cellAt k (by omega)
    rw [e]; unfold cI; rw [List.getElem?_map, at_mid A B x hk]; rfl
  · have := ho.out (.int .i64 u)
    rwa [show (cI (A ++ x :: B)).set k (.int .i64 u) = cI (A ++ u :: B) by unfold cI; rw [← List.map_set, set_mid A B x u hk]] at this

set_option maxRecDepth 100000 in
set_option maxHeartbeats 16000000 in
theorem specCountWords_calls (A : Option Addr) (n c : Nat) (xs : List LineZ) (w : World) (h : RdK kLine w A n xs) (hn : n ≤ 1048576) (hx : MidL xs) :
    Calls Tryz.prog 6 #[.slice A n c] w (CwPost xs w) := by
  have HL := hide h.2.1
  have HV := l25Ok_calls A n c xs w h hn hx
  rcases b_cases (validL xs) with hv | hv
  · have HZ := hide (cw_bad hv)
    rw [hv] at HV
    have HV2 := hide HV
    clear HV hv
    go_enter Tryz.func6, Tryz.ntmps6
    go_wp2_with fail
    refine HV2.out.mono ?_
    rintro e w1 ⟨rfl, hb1⟩
    go_wp2
    refine bodyPost_ret (v := .tuple #[.slice none 0 0, .slice none 0 0, .int .i64 1]) (by simp [results, Tryz.results6, go_sem, *]) rfl ?_
    exact cw_none HZ.out hb1
  have HVL := hide hv
  rw [hv] at HV
  have HV2 := hide HV
  have hn40 : n ≤ 40 := by
    have := log_len (show isLogB xs = true by have e := hv; unfold validL at e; rw [Bool.and_eq_true] at e; exact e.1)
    rw [HL.out] at this
    exact this
  clear HV hv
  have HMX : Hid (∀ x ∈ xs, x.text.size ≤ 1048576) := hx
  go_enter Tryz.func6, Tryz.ntmps6
  go_wp2_with fail
  refine HV2.out.mono ?_
  rintro e w1 ⟨rfl, hb1⟩
  clear HV2
  have hz1 := hb1.size
  have hown0 := World.ownsRow_lit (base := w1.heap.size) (e := 9) (size := 1) w1 #[] 0 (Nat.le_refl _) (by simp) rfl
  go_wp2
  go_loopw [5, 6, 7, 8, 9] (fun v i p q r wr => ∃ (K m g cp : Nat) (ws : List ByteArray), K ≤ n ∧ i = .int .i64 K ∧ m ≤ K ∧ v = .slice (some ⟨g, 0, none⟩) m cp ∧ Hid (wr.ownsRow w1.heap.size 9 1 (.slice (some ⟨g, 0, none⟩) m cp) m (cK kB ws)) ∧ Hid (SortB ws ∧ ∀ x, x ∈ ws ↔ x ∈ firstsZ (xs.take K)) ∧ Below w1.heap.size w1 wr) (fun _ i _ _ _ _ => n - (intOf i).toNat)
  case atStart => exact ⟨0, 0, w1.heap.size, 0, [], Nat.zero_le _, rfl, Nat.le_refl _, rfl, by simpa [Hid, cK] using hown0, ⟨List.Pairwise.nil, by simp [firstsZ]⟩, (Below.refl _ _).alloc (Nat.le_refl _) _⟩
  case round =>
    clear hown0
    obtain ⟨K, m, g, cp, ws, hK, rfl, hmK, rfl, HO, HS, hb⟩ := hrel
    have hbb := hb1.trans (hb.mono hz1)
    have hwl : ws.length = m := by have := HO.out.1; rw [cK_len] at this; simpa [kB] using this
    have HWL := hide hwl
    clear hwl
    have hcap := own_cap HO.out
    have hgl := (HO.out.lt g rfl)
    by_cases hlt : K < n
    · obtain ⟨b, off, f0, f1, f2, f3, rfl, hbl, hx0, hc0, hc1, hc2, hc3, _⟩ := (h.below hbb (Nat.le_refl _)).atLine hlt
      have hf2 := HMX.out _ (List.mem_of_getElem? hx0.out)
      simp only at hf2
      have HE : Hid (firstsZ (xs.take (K + 1)) = firstsZ (xs.take K) ++ [headS f2]) := firsts_snoc hx0.out
      have HSP := hide (l01Split_calls f2 32 wr hf2)
      have HSL : Hid ((splitS 32 f2).getD 0 ⟨#[]⟩ = headS f2 ∧ 1 ≤ (splitS 32 f2).length ∧ ∀ p ∈ splitS 32 f2, p.size ≤ f2.size) := ⟨rfl, List.length_pos_iff.2 (splitS_ne 32 f2), splitS_part 32 f2⟩
      generalize headS f2 = hd at *
      generalize splitS 32 f2 = W at *
      clear hx0
      go_wp2_with fail
      refine HSP.out.mono ?_
      rintro e w2 ⟨A2, n2, c2, rfl, hown2, hlen2, hb2⟩
      have hR2 : RdK kB w2 A2 n2 W := RdK.of_own (K := kB) hown2 hlen2 (fun x hx => by have := HSL.out.2.2 x hx; show x.size ≤ 9223372036854775807; omega)
      have hn2 : 1 ≤ n2 := by have := HSL.out.2.1; omega
      obtain ⟨b2, o2, y, rfl, hbl2, hy, cy, _⟩ := hR2.atB (show 0 < n2 by omega)
      obtain rfl : hd = y := by rw [← HSL.out.1, List.getD_eq_getElem?_getD, hy.out]; rfl
      simp only [Nat.add_zero] at cy
      have hsz2 := hb2.size
      have hsz := hb.size
      have HO2 := hide (own_below HO.out hb2 (Nat.le_refl _))
      have hB2 := hb.trans (hb2.mono hsz)
      have hkn2 : ((0 : Int) < (n2 : Int)) := by omega
      clear hown2 hlen2 hR2 hy HSP HO HSL
      have HRN : Hid (RdK kB w2 (some ⟨g, 0, none⟩) m ws) := RdK.of_own (K := kB) HO2.out HWL.out (fun x hx => by
        obtain ⟨y, hy, rfl⟩ := List.mem_map.1 ((HS.out.2 x).1 hx)
        have := headS_size y.text
        have := HMX.out y (List.mem_of_mem_take hy)
        show (headS y.text).size ≤ 9223372036854775807
        omega)
      obtain ⟨wo, rfl⟩ : ∃ wo : World, wo = w2 := ⟨_, rfl⟩
      go_wp2
      go_loopw [8] (fun q wr => ∃ (a : Nat), a ≤ m ∧ q = .int .i64 a ∧ Hid (∀ x ∈ ws.drop a, strLess hd x = true) ∧ wr = wo) (fun q _ => (intOf q).toNat)
      case atStart => exact ⟨m, Nat.le_refl _, rfl, by rw [List.drop_eq_nil_of_le (by rw [HWL.out]; omega)]; simp [Hid], rfl⟩
      case round =>
        obtain ⟨a, ha, rfl, HD, rfl⟩ := hrel
        by_cases h0 : a = 0
        · have HBE : Hid (∀ x ∈ ws.take a, strLess x hd = true) := by rw [h0]; simp [Hid]
          have g0 : ¬ 0 < a := by omega
          have g1 : decide (0 < a) = false := by simp; omega
          clear h0
          have HIN := hide (ins_place HS.out.1 HBE.out HD.out)
          have HWN : Hid (SortB (ws.take a ++ [hd] ++ ws.drop a) ∧ ∀ x, x ∈ ws.take a ++ [hd] ++ ws.drop a ↔ x ∈ firstsZ (xs.take (K + 1))) := ⟨HIN.out.1, fun x => by rw [HIN.out.2 x, HE.out, List.mem_append, List.mem_singleton, HS.out.2 x]⟩
          have hszw := hB2.size
          by_cases hac : a = cp
          · have hma : m = a := by omega
            have hdr : ws.drop a = [] := List.drop_eq_nil_of_le (by rw [HWL.out]; omega)
            rw [hdr, List.append_nil] at HWN
            clear HIN HD hdr
            subst hac
            subst hma
            go_wp2_with (at_builtin; first
              | (refine appsB rfl _ _ rfl wr.heap.size (.slice (some ⟨wr.heap.size, 0, none⟩) 0 0) 0 [] rfl (World.ownsRow_lit (base := wr.heap.size) (e := 9) (size := 1) _ #[] 0 (Nat.le_refl _) (by simp) rfl) (some ⟨g, 0, none⟩) m m (ws.take m) (by first | rfl | (simp; rfl) | simp) (Rd.alloc (rdK_take (K := kB) HRN.out.1 HWL.out (Nat.le_refl _)) _) (by omega) (by simp) ?_; intro v6 w6 hown6 hb6 hz6; rw [Nat.zero_add, List.nil_append] at hown6; have HO6 := hide hown6; have hb06 := ((Below.refl wr.heap.size wr).alloc (Nat.le_refl _) (.cells #[] 9)).trans hb6; have hz06 := hb06.size; clear hown6)
              | (refine appB rfl _ _ rfl wr.heap.size v6 m (ws.take m) hd rfl HO6.out (by first | rfl | (simp; rfl)) (by omega) (by omega) ?_; intro v7 w7 hown7 hb7 hz7; have HO7 := hide hown7; have hb07 := hb06.trans hb7; clear hown7)
              | (refine appsB rfl _ _ rfl wr.heap.size v7 (m + 1) (ws.take m ++ [hd]) rfl HO7.out (some ⟨g, 0, none⟩) 0 0 [] (by first | rfl | (simp; rfl) | simp) Rd.nil (by omega) (by omega) ?_; intro v8 w8 hown8 hb8 hz8; rw [Nat.add_zero, List.append_nil] at hown8; obtain ⟨g8, c8, rfl⟩ := own_addr3 hown8 (by omega); have HO8 := hide (own_lower hown8 hszw); clear hown8))
            go_roundw
            case rel => exact ⟨K + 1, m + 1, g8, c8, ws.take m ++ [hd], by omega, by go_num, by omega, rfl, HO8.out, HWN, hB2.trans ((hb07.trans hb8).mono hszw)⟩
            case measure => simp [intOf]; omega
          · have hs1 : (0 : Int) ≤ (a : Int) := by omega
            have hs2 : (a : Int) ≤ (m : Int) := by omega
            have hs3 : (m : Int) ≤ (cp : Int) := by omega
            have hs4 : (a : Int) ≤ (cp : Int) := by omega
            have hs5 : ¬ (cp = a) := by omega
            clear HIN HD
            go_wp2_with (at_builtin; first
              | (refine appsB rfl _ _ rfl wr.heap.size (.slice (some ⟨wr.heap.size, 0, none⟩) 0 0) 0 [] rfl (World.ownsRow_lit (base := wr.heap.size) (e := 9) (size := 1) _ #[] 0 (Nat.le_refl _) (by simp) rfl) (some ⟨g, 0, none⟩) a cp (ws.take a) (by first | rfl | (simp; rfl) | simp) (Rd.alloc (rdK_take (K := kB) HRN.out.1 HWL.out ha) _) (by omega) (by simp) ?_; intro v6 w6 hown6 hb6 hz6; rw [Nat.zero_add, List.nil_append] at hown6; have HO6 := hide hown6; have hb06 := ((Below.refl wr.heap.size wr).alloc (Nat.le_refl _) (.cells #[] 9)).trans hb6; have hz06 := hb06.size; clear hown6)
              | (refine appB rfl _ _ rfl wr.heap.size v6 a (ws.take a) hd rfl HO6.out (by first | rfl | (simp; rfl)) (by omega) (by omega) ?_; intro v7 w7 hown7 hb7 hz7; have HO7 := hide hown7; have hb07 := hb06.trans hb7; have HD7 : Hid (Rd w7 (some ⟨g, a, none⟩) (m - a) 1 (cK kB (ws.drop a))) := (by have := rdK_drop (K := kB) (HRN.out.below hb07 (Nat.le_refl _)).1 HWL.out ha; simpa [kB, Hid] using this); clear hown7)
              | (refine appsB rfl _ _ rfl wr.heap.size v7 (a + 1) (ws.take a ++ [hd]) rfl HO7.out (some ⟨g, a, none⟩) (m - a) (cp - a) (ws.drop a) (by first | rfl | (simp; rfl) | simp) HD7.out (by omega) (by omega) ?_; intro v8 w8 hown8 hb8 hz8; rw [show a + 1 + (m - a) = m + 1 by omega] at hown8; obtain ⟨g8, c8, rfl⟩ := own_addr3 hown8 (by omega); have HO8 := hide (own_lower hown8 hszw); clear hown8))
            go_roundw
            case rel => exact ⟨K + 1, m + 1, g8, c8, ws.take a ++ [hd] ++ ws.drop a, by omega, by go_num, by omega, rfl, HO8.out, HWN, hB2.trans ((hb07.trans hb8).mono hszw)⟩
            case measure => simp [intOf]; omega
        obtain ⟨a, rfl⟩ : ∃ a', a = a' + 1 := ⟨a - 1, by omega⟩
        clear h0
        obtain ⟨b3, o3, y, hA3, _, hy, hcy, _⟩ := HRN.out.atB (show a < m by omega)
        obtain ⟨rfl, rfl⟩ : g = b3 ∧ 0 = o3 := by injection hA3 with hA; injection hA; exact ⟨‹_›, ‹_›⟩
        rw [Nat.zero_add] at hcy
        clear hA3
        rcases str_ways hd y with ⟨q1, q2, q3, q4, q5, q6, q7⟩ | ⟨q1, q2, q3, q4, q5, q6, q7⟩ | ⟨q1, q2, q3, q4, q5, q6, q7⟩
        · have HD2 : Hid (∀ x ∈ ws.drop a, strLess hd x = true) := drop_more hy.out q5 HD.out
          clear hy q5 q6 q7
          go_wp2
          go_roundw
          case rel => exact ⟨a, by omega, by go_num, HD2, by first | rfl | trivial⟩
          case measure => simp [intOf]
        · have HWN : Hid (SortB ws ∧ ∀ x, x ∈ ws ↔ x ∈ firstsZ (xs.take (K + 1))) := ⟨HS.out.1, fun x => by
            rw [HE.out, List.mem_append, List.mem_singleton, ← HS.out.2 x]
            constructor
            · exact Or.inl
            · rintro (e | e)
              · exact e
              · rw [e, q7]; exact List.mem_of_getElem? hy.out⟩
          clear hy q5 q6 q7
          go_wp2
          go_roundw
          case rel => exact ⟨K + 1, m, g, cp, ws, by omega, by go_num, by omega, rfl, HO2.out, HWN, hB2⟩
          case measure => simp [intOf]; omega
        · have HBE : Hid (∀ x ∈ ws.take (a + 1), strLess x hd = true) := sort_before HS.out.1 hy.out q6
          clear hy q5 q6 q7
          have g0 : 0 < a + 1 := by omega
          have HIN := hide (ins_place HS.out.1 HBE.out HD.out)
          have HWN : Hid (SortB (ws.take (a + 1) ++ [hd] ++ ws.drop (a + 1)) ∧ ∀ x, x ∈ ws.take (a + 1) ++ [hd] ++ ws.drop (a + 1) ↔ x ∈ firstsZ (xs.take (K + 1))) := ⟨HIN.out.1, fun x => by rw [HIN.out.2 x, HE.out, List.mem_append, List.mem_singleton, HS.out.2 x]⟩
          have hszw := hB2.size
          by_cases hac : (a + 1) = cp
          · have hma : m = (a + 1) := by omega
            have hdr : ws.drop (a + 1) = [] := List.drop_eq_nil_of_le (by rw [HWL.out]; omega)
            rw [hdr, List.append_nil] at HWN
            clear HIN HD hdr
            
            obtain rfl : cp = m := by omega
            subst hma
            go_wp2_with (at_builtin; first
              | (refine appsB rfl _ _ rfl wr.heap.size (.slice (some ⟨wr.heap.size, 0, none⟩) 0 0) 0 [] rfl (World.ownsRow_lit (base := wr.heap.size) (e := 9) (size := 1) _ #[] 0 (Nat.le_refl _) (by simp) rfl) (some ⟨g, 0, none⟩) (a + 1) (a + 1) (ws.take (a + 1)) (by first | rfl | (simp; rfl) | simp) (Rd.alloc (rdK_take (K := kB) HRN.out.1 HWL.out (Nat.le_refl _)) _) (by omega) (by simp) ?_; intro v6 w6 hown6 hb6 hz6; rw [Nat.zero_add, List.nil_append] at hown6; have HO6 := hide hown6; have hb06 := ((Below.refl wr.heap.size wr).alloc (Nat.le_refl _) (.cells #[] 9)).trans hb6; have hz06 := hb06.size; clear hown6)
              | (refine appB rfl _ _ rfl wr.heap.size v6 (a + 1) (ws.take (a + 1)) hd rfl HO6.out (by first | rfl | (simp; rfl)) (by omega) (by omega) ?_; intro v7 w7 hown7 hb7 hz7; have HO7 := hide hown7; have hb07 := hb06.trans hb7; clear hown7)
              | (refine appsB rfl _ _ rfl wr.heap.size v7 ((a + 1) + 1) (ws.take (a + 1) ++ [hd]) rfl HO7.out (some ⟨g, 0, none⟩) 0 0 [] (by first | rfl | (simp; rfl) | simp) Rd.nil (by omega) (by omega) ?_; intro v8 w8 hown8 hb8 hz8; rw [Nat.add_zero, List.append_nil] at hown8; obtain ⟨g8, c8, rfl⟩ := own_addr3 hown8 (by omega); have HO8 := hide (own_lower hown8 hszw); clear hown8))
            go_roundw
            case rel => exact ⟨K + 1, (a + 1) + 1, g8, c8, ws.take (a + 1) ++ [hd], by omega, by go_num, by omega, rfl, HO8.out, HWN, hB2.trans ((hb07.trans hb8).mono hszw)⟩
            case measure => simp [intOf]; omega
          · have hs1 : (0 : Int) ≤ ((a + 1) : Int) := by omega
            have hs2 : ((a + 1) : Int) ≤ (m : Int) := by omega
            have hs3 : (m : Int) ≤ (cp : Int) := by omega
            have hs4 : ((a + 1) : Int) ≤ (cp : Int) := by omega
            have hs5 : ¬ (cp = (a + 1)) := by omega
            clear HIN HD
            go_wp2_with (at_builtin; first
              | (refine appsB rfl _ _ rfl wr.heap.size (.slice (some ⟨wr.heap.size, 0, none⟩) 0 0) 0 [] rfl (World.ownsRow_lit (base := wr.heap.size) (e := 9) (size := 1) _ #[] 0 (Nat.le_refl _) (by simp) rfl) (some ⟨g, 0, none⟩) (a + 1) cp (ws.take (a + 1)) (by first | rfl | (simp; rfl) | simp) (Rd.alloc (rdK_take (K := kB) HRN.out.1 HWL.out ha) _) (by omega) (by simp) ?_; intro v6 w6 hown6 hb6 hz6; rw [Nat.zero_add, List.nil_append] at hown6; have HO6 := hide hown6; have hb06 := ((Below.refl wr.heap.size wr).alloc (Nat.le_refl _) (.cells #[] 9)).trans hb6; have hz06 := hb06.size; clear hown6)
              | (refine appB rfl _ _ rfl wr.heap.size v6 (a + 1) (ws.take (a + 1)) hd rfl HO6.out (by first | rfl | (simp; rfl)) (by omega) (by omega) ?_; intro v7 w7 hown7 hb7 hz7; have HO7 := hide hown7; have hb07 := hb06.trans hb7; have HD7 : Hid (Rd w7 (some ⟨g, (a + 1), none⟩) (m - (a + 1)) 1 (cK kB (ws.drop (a + 1)))) := (by have := rdK_drop (K := kB) (HRN.out.below hb07 (Nat.le_refl _)).1 HWL.out ha; simpa [kB, Hid] using this); clear hown7)
              | (refine appsB rfl _ _ rfl wr.heap.size v7 ((a + 1) + 1) (ws.take (a + 1) ++ [hd]) rfl HO7.out (some ⟨g, (a + 1), none⟩) (m - (a + 1)) (cp - (a + 1)) (ws.drop (a + 1)) (by first | rfl | (simp; rfl) | simp) HD7.out (by omega) (by omega) ?_; intro v8 w8 hown8 hb8 hz8; rw [show (a + 1) + 1 + (m - (a + 1)) = m + 1 by omega] at hown8; obtain ⟨g8, c8, rfl⟩ := own_addr3 hown8 (by omega); have HO8 := hide (own_lower hown8 hszw); clear hown8))
            go_roundw
            case rel => exact ⟨K + 1, m + 1, g8, c8, ws.take (a + 1) ++ [hd] ++ ws.drop (a + 1), by omega, by go_num, by omega, rfl, HO8.out, HWN, hB2.trans ((hb07.trans hb8).mono hszw)⟩
            case measure => simp [intOf]; omega
    · obtain rfl : K = n := by omega
      obtain ⟨i0, hi, hz0, hz1, hz2⟩ := info_parts Tryz.info2
      have hsz := hb.size
      have HS2 : Hid (SortB ws ∧ ∀ x, x ∈ ws ↔ x ∈ firstsZ xs) := by
        have := HS.out
        rwa [List.take_of_length_le (by rw [HL.out]; omega)] at this
      have HFS : Hid (∀ x ∈ firstsZ xs, x.size ≤ 9223372036854775807) := by
        intro x hx1
        obtain ⟨y, hy, rfl⟩ := List.mem_map.1 hx1
        have := headS_size y.text
        have := HMX.out y hy
        omega
      have HRN : Hid (RdK kB wr (some ⟨g, 0, none⟩) m ws) := RdK.of_own (K := kB) HO.out HWL.out (fun x hx => HFS.out x ((HS2.out.2 x).1 hx))
      clear HS
      obtain ⟨wo, rfl⟩ : ∃ wo : World, wo = wr := ⟨_, rfl⟩
      go_wp2_with (refine wpList_make_full _ rfl _ _ 25 rfl wo.heap.size 2 i0 (.int .i64 0) 1 Tryz.underlying25 hi hz0 hz1 .i64 .i64 _ _ m rfl rfl rfl rfl (by rw [hz2]; omega) (by unfold maxLen; omega) (Nat.le_refl _) ?_; intro w3 hown3 hgr3)
      have hb3 : Below wo.heap.size wo w3 := (Below.refl _ _).grown hgr3 (Nat.le_refl _) (fun k hk => by cases hk)
      go_loopw [11, 12] (fun p q wr => ∃ (k : Nat), k ≤ m ∧ p = .int .i64 k ∧ wr.ownsRow wo.heap.size 2 1 (.slice (some ⟨wo.heap.size, 0, none⟩) m m) m (cI (cntD ws (firstsZ xs) k m)) ∧ Below wo.heap.size wo wr) (fun p _ _ => m - (intOf p).toNat)
      case atStart => exact ⟨0, Nat.zero_le _, rfl, by simpa [cI, cntD, toList_madeCells_one, Value.cells] using hown3, hb3⟩
      case round =>
        clear hown3 hgr3 hb3
        obtain ⟨k, hk, rfl, hown, hb4⟩ := hrel
        have HOC := hide hown
        clear hown
        by_cases hkm : k < m
        · obtain ⟨b3, o3, y, hA3, _, hy, hcy, _⟩ := HRN.out.atB hkm
          obtain ⟨rfl, rfl⟩ : g = b3 ∧ 0 = o3 := by injection hA3 with hA; injection hA; exact ⟨‹_›, ‹_›⟩
          rw [Nat.zero_add] at hcy
          clear hA3
          have HLD := hide (cntD_len (fs := firstsZ xs) HWL.out hk)
          have HNX := hide (cntD_next (fs := firstsZ xs) (m := m) hy.out)
          have hspl := cntD_split (ws := ws) (fs := firstsZ xs) hkm
          rw [hspl] at HOC
          clear hspl hy
          generalize (ws.take k).map (fun w => (cntB w (firstsZ xs) : Int)) = dn at *
          go_wp2
          go_loopw [12] (fun q wr => ∃ (J : Nat), J ≤ K ∧ q = .int .i64 J ∧ Hid (wr.ownsRow wo.heap.size 2 1 (.slice (some ⟨wo.heap.size, 0, none⟩) m m) m (cI (dn ++ (cntB y (firstsZ (xs.take J)) : Int) :: List.replicate (m - (k + 1)) 0))) ∧ Below wo.heap.size wo wr) (fun q _ => K - (intOf q).toNat)
          case atStart => exact ⟨0, Nat.zero_le _, rfl, HOC.out, hb4⟩
          case round =>
            clear HOC hb4
            obtain ⟨J, hJ, rfl, HOC, hb4⟩ := hrel
            by_cases hJK : J < K
            · have hb5 := hbb.trans (hb4.mono hbb.size)
              obtain ⟨b, off, f0, f1, f2, f3, rfl, hbl, hx0, hc0, hc1, hc2, hc3, _⟩ := (h.below hb5 (Nat.le_refl _)).atLine hJK
              have hf2 := HMX.out _ (List.mem_of_getElem? hx0.out)
              simp only at hf2
              have HE : Hid (firstsZ (xs.take (J + 1)) = firstsZ (xs.take J) ++ [headS f2]) := firsts_snoc hx0.out
              have HSP : Hid (∀ W, Calls Tryz.prog 31 #[.string f2, .int .u8 32] W (PartsPost (splitS 32 f2) W)) := fun W => l01Split_calls f2 32 W hf2
              have HSL : Hid ((splitS 32 f2).getD 0 ⟨#[]⟩ = headS f2 ∧ 1 ≤ (splitS 32 f2).length ∧ ∀ p ∈ splitS 32 f2, p.size ≤ f2.size) := ⟨rfl, List.length_pos_iff.2 (splitS_ne 32 f2), splitS_part 32 f2⟩
              have hcn := cntB_le y (firstsZ (xs.take J))
              have hfl : (firstsZ (xs.take J)).length ≤ J := by unfold firstsZ; rw [List.length_map, List.length_take]; omega
              have KS : Hid (∀ W, Below wr.heap.size wr W → W.cell? ⟨b, off + J * 4 + 2, none⟩ = some (.string f2) ∧ W.cell? ⟨g, k, none⟩ = some (.string y)) := fun W hW => ⟨(hW.cell (p := ⟨b, off + J * 4 + 2, none⟩) hbl).trans hc2, ((hb4.trans (hW.mono hb4.size)).cell (p := ⟨g, k, none⟩) hgl.2).trans hcy⟩
              have hkk := KS.out wr (Below.refl _ _)
              have hdr := (Below.refl wr.heap.size wr).drew
              have hsz4 := hb4.size
              have hk0 : (0 : Int) ≤ (k : Int) := by omega
              have hk1 : (k : Int) < (m : Int) := by omega
              have hJ0 : (0 : Int) ≤ (J : Int) := by omega
              have hJ1 : (J : Int) < (K : Int) := by omega
              generalize headS f2 = hd at *
              generalize splitS 32 f2 = W at *
              clear hx0
              clear hc0 hc1 hc2 hc3 hcy
              go_wp2
              refine wp_region_held_drew (S := fun W => W.cell? ⟨b, off + J * 4 + 2, none⟩ = some (.string f2) ∧ W.cell? ⟨g, k, none⟩ = some (.string y)) (by kernel_rfl) hkk (fun hHeld => ?_)
              refine takeH 0 86 (.slice (some ⟨b, off, none⟩) K c) ⟨_, rfl, rfl, rfl, ?_⟩ (by kernel_rfl) (by kernel_rfl) (by kernel_rfl) (fun _ _ _ h => h) hHeld ?_
              · intro w hSw; (try dsimp only at hSw); go_simp; try (intro hh; exact absurd hh (by omega))
              try simp only [Act.put, List.setIfInBounds_toArray, List.set_cons_zero, List.set_cons_succ]
              refine takeH 1 87 (.int .i64 (J : Int)) ⟨_, rfl, rfl, rfl, ?_⟩ (by kernel_rfl) (by kernel_rfl) (by kernel_rfl) (fun _ _ _ h => h) hHeld ?_
              · intro w hSw; (try dsimp only at hSw); go_simp; try (intro hh; exact absurd hh (by omega))
              try simp only [Act.put, List.setIfInBounds_toArray, List.set_cons_zero, List.set_cons_succ]
              refine takeH 2 88 (.pointer (some ⟨b, off + J * 4, none⟩)) ⟨_, rfl, rfl, rfl, ?_⟩ (by kernel_rfl) (by kernel_rfl) (by kernel_rfl) (fun _ _ _ h => h) hHeld ?_
              · intro w hSw; (try dsimp only at hSw); go_simp; try (intro hh; exact absurd hh (by omega))
              try simp only [Act.put, List.setIfInBounds_toArray, List.set_cons_zero, List.set_cons_succ]
              refine takeH 3 89 (.pointer (some ⟨b, off + J * 4 + 2, none⟩)) ⟨_, rfl, rfl, rfl, ?_⟩ (by kernel_rfl) (by kernel_rfl) (by kernel_rfl) (fun _ _ _ h => h) hHeld ?_
              · intro w hSw; (try dsimp only at hSw); go_simp; try (intro hh; exact absurd hh (by omega))
              try simp only [Act.put, List.setIfInBounds_toArray, List.set_cons_zero, List.set_cons_succ]
              refine takeH 4 90 (.string f2) ⟨_, rfl, rfl, rfl, ?_⟩ (by kernel_rfl) (by kernel_rfl) (by kernel_rfl) (fun _ _ _ h => h) hHeld ?_
              · intro w hSw; (try dsimp only at hSw); go_simp; try (intro hh; exact absurd hh (by omega))
              try simp only [Act.put, List.setIfInBounds_toArray, List.set_cons_zero, List.set_cons_succ]
              refine takeH 8 94 (.slice (some ⟨g, 0, none⟩) m cp) ⟨_, rfl, rfl, rfl, ?_⟩ (by kernel_rfl) (by kernel_rfl) (by kernel_rfl) (fun _ _ _ h => h) hHeld ?_
              · intro w hSw; (try dsimp only at hSw); go_simp; try (intro hh; exact absurd hh (by omega))
              try simp only [Act.put, List.setIfInBounds_toArray, List.set_cons_zero, List.set_cons_succ]
              refine takeH 9 95 (.int .i64 (k : Int)) ⟨_, rfl, rfl, rfl, ?_⟩ (by kernel_rfl) (by kernel_rfl) (by kernel_rfl) (fun _ _ _ h => h) hHeld ?_
              · intro w hSw; (try dsimp only at hSw); go_simp; try (intro hh; exact absurd hh (by omega))
              try simp only [Act.put, List.setIfInBounds_toArray, List.set_cons_zero, List.set_cons_succ]
              refine takeH 10 96 (.pointer (some ⟨g, k, none⟩)) ⟨_, rfl, rfl, rfl, ?_⟩ (by kernel_rfl) (by kernel_rfl) (by kernel_rfl) (fun _ _ _ h => h) hHeld ?_
              · intro w hSw; (try dsimp only at hSw); go_simp; try (intro hh; exact absurd hh (by omega))
              try simp only [Act.put, List.setIfInBounds_toArray, List.set_cons_zero, List.set_cons_succ]
              refine takeH 11 97 (.string y) ⟨_, rfl, rfl, rfl, ?_⟩ (by kernel_rfl) (by kernel_rfl) (by kernel_rfl) (fun _ _ _ h => h) hHeld ?_
              · intro w hSw; (try dsimp only at hSw); go_simp; try (intro hh; exact absurd hh (by omega))
              try simp only [Act.put, List.setIfInBounds_toArray, List.set_cons_zero, List.set_cons_succ]
              refine wpAnyH_ready (rs := [5]) (by kernel_rfl) (by simp) ?_
              refine AllReadyH.cons rfl (fun K hK => ?_) AllReadyH.nil
              go_simp
              refine (HSP.out wr.drew).mono ?_
              rintro e w5 ⟨A2, n2, c2, rfl, hown2, hlen2, hb5⟩
              have hR2 : RdK kB w5 A2 n2 W := RdK.of_own (K := kB) hown2 hlen2 (fun x hx => by have := HSL.out.2.2 x hx; show x.size ≤ 9223372036854775807; omega)
              have hn2 : 1 ≤ n2 := by have := HSL.out.2.1; omega
              obtain ⟨b2, o2, z, rfl, hbl2, hz, cy, _⟩ := hR2.atB (show 0 < n2 by omega)
              obtain rfl : hd = z := by rw [← HSL.out.1, List.getD_eq_getElem?_getD, hz.out]; rfl
              simp only [Nat.add_zero] at cy
              have hkn2 : ((0 : Int) < (n2 : Int)) := by omega
              have hbx : Below wr.heap.size wr w5 := hdr.trans (hb5.mono hdr.size)
              have hky := KS.out w5 hbx
              clear hown2 hlen2 hR2 hz
              try go_wp2_with fail
              refine hK.out _ _ hky (fun hHeld => ?_)
              clear hK K
              try simp only [Act.put, List.setIfInBounds_toArray, List.set_cons_zero, List.set_cons_succ]
              refine wpAnyH_mono (S' := fun W => (W.cell? ⟨b, off + J * 4 + 2, none⟩ = some (.string f2) ∧ W.cell? ⟨g, k, none⟩ = some (.string y)) ∧ W.cell? ⟨b2, o2, none⟩ = some (.string hd)) (fun _ h => h.1) _ _ _ _ ?_
              clear hHeld
              have hHeld : (w5.cell? ⟨b, off + J * 4 + 2, none⟩ = some (.string f2) ∧ w5.cell? ⟨g, k, none⟩ = some (.string y)) ∧ w5.cell? ⟨b2, o2, none⟩ = some (.string hd) := ⟨hky, cy⟩
              refine takeH 6 92 (.pointer (some ⟨b2, o2, none⟩)) ⟨_, rfl, rfl, rfl, ?_⟩ (by kernel_rfl) (by kernel_rfl) (by kernel_rfl) (fun _ _ _ h => h) hHeld ?_
              · intro w hSw; (try dsimp only at hSw); go_simp; try (intro hh; exact absurd hh (by omega))
              try simp only [Act.put, List.setIfInBounds_toArray, List.set_cons_zero, List.set_cons_succ]
              refine takeH 7 93 (.string hd) ⟨_, rfl, rfl, rfl, ?_⟩ (by kernel_rfl) (by kernel_rfl) (by kernel_rfl) (fun _ _ _ h => h) hHeld ?_
              · intro w hSw; (try dsimp only at hSw); go_simp; try (intro hh; exact absurd hh (by omega))
              try simp only [Act.put, List.setIfInBounds_toArray, List.set_cons_zero, List.set_cons_succ]
              refine takeH 12 98 (.bool (hd.toList == y.toList)) ⟨_, rfl, rfl, rfl, ?_⟩ (by kernel_rfl) (by kernel_rfl) (by kernel_rfl) (fun _ _ _ h => h) hHeld ?_
              · intro w hSw; (try dsimp only at hSw); go_simp; try (intro hh; exact absurd hh (by omega))
              try simp only [Act.put, List.setIfInBounds_toArray, List.set_cons_zero, List.set_cons_succ]
              refine wpAnyH_done (by kernel_rfl) ?_ _
              clear hHeld hky cy
              by_cases hq : hd = y
              · have q1 := (str_eq hq).1
                have HN : Hid ((cntB y (firstsZ (xs.take (J + 1))) : Int) = (cntB y (firstsZ (xs.take J)) : Int) + 1) := by unfold Hid; rw [HE.out, cntB_snoc, if_pos hq]; rfl
                clear hq
                rw [q1]
                generalize cntB y (firstsZ (xs.take J)) = cj at *
                have HOC5 := own_below HOC.out hbx (Nat.le_refl _)
                obtain ⟨k5, f5, hst⟩ := own_mid HOC5 HLD.out.symm
                have HO6 := hide (hst.out ((cj : Int) + 1))
                have hb6 := hb4.trans (hbx.mono hb4.size)
                clear HOC5 hst HOC
                go_wp2
                go_roundw
                case rel => exact ⟨J + 1, by omega, by go_num, by rw [HN.out]; exact HO6.out, hb6.setCell (Nat.le_refl _) _⟩
                case measure => simp [intOf]; omega
              · have q1 := (str_ne hq).1
                have HN : Hid ((cntB y (firstsZ (xs.take (J + 1))) : Int) = (cntB y (firstsZ (xs.take J)) : Int)) := by unfold Hid; rw [HE.out, cntB_snoc, if_neg hq]; rfl
                clear hq
                rw [q1]
                generalize cntB y (firstsZ (xs.take J)) = cj at *
                have HO5 := hide (own_below HOC.out hbx (Nat.le_refl _))
                have hb6 := hb4.trans (hbx.mono hb4.size)
                clear HOC
                go_wp2
                go_roundw
                case rel => exact ⟨J + 1, by omega, by go_num, by rw [HN.out]; exact HO5.out, hb6⟩
                case measure => simp [intOf]; omega
            · obtain rfl : J = K := by omega
              rw [List.take_of_length_le (by rw [HL.out]; omega), HNX.out] at HOC
              go_wp2
              go_roundw
              case rel => exact ⟨k + 1, by omega, by go_num, HOC.out, hb4⟩
              case measure => simp [intOf]; omega
        · obtain rfl : k = m := by omega
          have e1 : cntD ws (firstsZ xs) k k = ws.map fun w => (cntB w (firstsZ xs) : Int) := by
            unfold cntD
            rw [List.take_of_length_le (by rw [HWL.out]; omega), Nat.sub_self, List.replicate_zero, List.append_nil]
          rw [e1] at HOC
          have hT : TwoW wr w1.heap.size (.slice (some ⟨g, 0, none⟩) k cp) (.slice (some ⟨wo.heap.size, 0, none⟩) k k) k k ws (ws.map fun w => (cntB w (firstsZ xs) : Int)) := ⟨own_below HO.out hb4 (Nat.le_refl _), own_lower HOC.out hsz, fun q h1 h2 => by
            simp only [Value.ownBlock, Option.some.injEq] at h1 h2
            omega⟩
          have hsz4 := hb4.size
          have HF := hide (cw_of (w := w) hT ⟨HS2.out.1, HS2.out.2, rfl⟩ HVL.out HFS.out (by rw [HL.out]; exact hn) hb1.size (by omega) (hbb.trans (hb4.mono hbb.size)) (w0 := w))
          clear hT e1 HOC
          go_wp2
          refine bodyPost_ret (v := .tuple #[.slice (some ⟨g, 0, none⟩) k cp, .slice (some ⟨wo.heap.size, 0, none⟩) k k, .int .i64 0]) (by simp [results, Tryz.results6, go_sem, *]) rfl ?_
          exact HF.out

end Go.Proofs.YtlomloepdnojoaaGreatDoor
