/- l28Put, l28Rights, RightsOf of the reference. -/
import Derived.Test.YtidhbpnibgegdaaRightsI
import Derived.Test.YtidhbpnibgegdaaSplit
import Derived.Deep.AppendLies
namespace Go.Proofs.Ytidhbpnibgegdaa
open Go.RowKit
set_option linter.unusedVariables false

theorem put_split {xs : List ByteArray} {nm : ByteArray} {k : Nat} (h : ∀ x ∈ xs.take k, strLess x nm = true) (h2 : ∀ s, xs[k]? = some s → strLess s nm = false ∧ s ≠ nm) : putZ nm xs = xs.take k ++ [nm] ++ xs.drop k := by
  have e : xs = xs.take k ++ xs.drop k := (List.take_append_drop k xs).symm
  conv => lhs; rw [e]
  rw [putZ_at h, List.append_assoc]
  congr 1
  rcases Nat.lt_or_ge k xs.length with hk | hk
  · rw [List.drop_eq_getElem_cons hk]
    obtain ⟨h3, h4⟩ := h2 _ (List.getElem?_eq_getElem hk)
    exact putZ_more h3 h4
  · rw [List.drop_eq_nil_of_le hk]; rfl
theorem put_there {xs : List ByteArray} {nm : ByteArray} {k : Nat} (h : ∀ x ∈ xs.take k, strLess x nm = true) (h2 : xs[k]? = some nm) : putZ nm xs = xs := by
  obtain ⟨hk, hg⟩ := List.getElem?_eq_some_iff.1 h2
  have e : xs = xs.take k ++ nm :: xs.drop (k + 1) := by
    conv => lhs; rw [← List.take_append_drop k xs, List.drop_eq_getElem_cons hk, hg]
  conv => lhs; rw [e]
  rw [putZ_at h, putZ_same, ← e]

def PutPost (base : Nat) (xs : List ByteArray) (w : World) (e : Ending) (w' : World) : Prop :=
  ∃ g n' c', e = .returned (.slice (some ⟨g, 0, none⟩) n' c') ∧ w'.ownsRow base 9 1 (.slice (some ⟨g, 0, none⟩) n' c') n' (cK kB xs) ∧ xs.length = n' ∧ Below w.heap.size w w'

set_option maxHeartbeats 4000000 in
theorem l28Put_calls (g n c base : Nat) (xs : List ByteArray) (nm : ByteArray) (w : World) (hown : w.ownsRow base 9 1 (.slice (some ⟨g, 0, none⟩) n c) n (cK kB xs)) (hl : xs.length = n) (hf : ∀ x ∈ xs, x.size ≤ 9223372036854775807) (hn : n ≤ 1000) (hbase : base ≤ w.heap.size) :
    Calls Try.prog 108 #[.slice (some ⟨g, 0, none⟩) n c, .string nm] w (PutPost base (putZ nm xs) w) := by
  have hr : RdK kB w (some ⟨g, 0, none⟩) n xs := ⟨Rd.of_own hown, hl, hf⟩
  have HR := hide hr
  have hcap := own_cap hown
  have HO := hide hown
  have HL := hide hl
  clear hr hown hl hf
  go_enter Try.func108, Try.ntmps108
  go_wp2
  go_loop [5] (fun i => ∃ (K : Nat), K ≤ n ∧ i = .int .i64 K ∧ Hid (∀ x ∈ xs.take K, strLess x nm = true)) (fun i => n - (intOf i).toNat)
  case atStart => exact ⟨0, Nat.zero_le _, rfl, by simp [Hid]⟩
  case round =>
    obtain ⟨K, hK, rfl, HC⟩ := hrel
    by_cases hlt : K < n
    · obtain ⟨b, off, s, hA, hbl, hx, hc, hs1⟩ := RdK.atB HR.out hlt
      obtain ⟨rfl, rfl⟩ : g = b ∧ 0 = off := by simpa using hA
      rw [Nat.zero_add] at hc
      clear hA
      rcases str_ways s nm with ⟨q1, q2, q3, q4, q5, q6, q7⟩ | ⟨q1, q2, q3, q4, q5, q6, q7⟩ | ⟨q1, q2, q3, q4, q5, q6, q7⟩
      · have HN : Hid (∀ x ∈ xs.take (K + 1), strLess x nm = true) := by
          intro x hxm
          rw [take_snoc hx.out] at hxm
          rcases List.mem_append.1 hxm with h | h
          · exact HC.out x h
          · simp only [List.mem_singleton] at h
            subst h
            exact q5
        clear q2 q3 q4 q5 q6 q7
        go_wp2
        go_round
        case rel => exact ⟨K + 1, by omega, by go_num, HN⟩
        case measure => simp [intOf]; omega
      · have HE := hide (put_there HC.out (q7 ▸ hx.out))
        clear q2 q4 q5 q6 q7
        go_wp2
        go_ret
        exact ⟨g, n, c, rfl, by rw [HE.out]; exact HO.out, by rw [HE.out]; exact HL.out, Below.refl _ _⟩
      · have HE := hide (put_split HC.out (fun s' hs' => by rw [hx.out] at hs'; injection hs' with hs'; subst hs'; exact ⟨q5, q7⟩))
        have hcK : ¬ (c = K) := by omega
        clear q2 q4 q5 q6 q7
        go_upto_region 7 with (at_builtin; refine appsB rfl _ _ rfl w.heap.size (.slice (some ⟨w.heap.size, 0, none⟩) 0 0) 0 [] rfl (World.ownsRow_lit (base := w.heap.size) (e := 9) (size := 1) _ #[] 0 (Nat.le_refl _) (by simp) rfl) (some ⟨g, 0, none⟩) K c (xs.take K) rfl (Rd.alloc (rdK_take (K := kB) HR.out.1 HL.out (by omega)) _) (by omega) (by simp) ?_; intro v6 w6 hown6 hb6 hz6)
        rw [Nat.zero_add, List.nil_append] at hown6
        have HO6 := hide hown6
        have hb06 := ((Below.refl w.heap.size w).alloc (Nat.le_refl _) (.cells #[] 9)).trans hb6
        have hz06 := hb06.size
        have HR6 := hide (HR.out.1.below hb06 (Nat.le_refl _))
        clear hown6
        go_upto_region 8 with (at_builtin; refine appB rfl _ _ rfl w.heap.size v6 K (xs.take K) nm rfl HO6.out (by first | rfl | (simp; rfl)) (by omega) (by omega) ?_; intro v7 w7 hown7 hb7 hz7)
        have HO7 := hide hown7
        have hb07 := hb06.trans hb7
        have hr7 : Rd w7 (some ⟨g, K, none⟩) (n - K) 1 (cK kB (xs.drop K)) := by
          have := rdK_drop (K := kB) (HR.out.1.below hb07 (Nat.le_refl _)) HL.out (show K ≤ n by omega)
          simpa [kB] using this
        have HR7 := hide hr7
        clear hown7 hr7
        go_wp2_with (at_builtin; refine appsB rfl _ _ rfl w.heap.size v7 (K + 1) (xs.take K ++ [nm]) rfl HO7.out (some ⟨g, K, none⟩) (n - K) (c - K) (xs.drop K) (by first | rfl | (simp; rfl) | simp) HR7.out (by omega) (by omega) ?_; intro v8 w8 hown8 hb8 hz8)
        obtain ⟨g8, c8, rfl⟩ := own_addr2 hown8 (by omega)
        go_ret
        exact ⟨g8, _, c8, rfl, by rw [HE.out]; exact own_mono2 hown8 hbase, by rw [HE.out]; simp [HL.out]; omega, hb07.trans hb8⟩
    · have hKn : K = n := by omega
      have HE : Hid (putZ nm xs = xs.take K ++ [nm] ++ xs.drop K) := put_split HC.out (fun s' hs' => by
        have := (List.getElem?_eq_some_iff.1 hs').1
        have := HL.out
        omega)
      have HD : Hid (xs.drop K = []) := List.drop_eq_nil_of_le (by rw [HL.out]; omega)
      rw [HD.out, List.append_nil] at HE
      subst hKn
      go_upto_region 7 with (at_builtin; refine appsB rfl _ _ rfl w.heap.size (.slice (some ⟨w.heap.size, 0, none⟩) 0 0) 0 [] rfl (World.ownsRow_lit (base := w.heap.size) (e := 9) (size := 1) _ #[] 0 (Nat.le_refl _) (by simp) rfl) (some ⟨g, 0, none⟩) K c (xs.take K) rfl (Rd.alloc (rdK_take (K := kB) HR.out.1 HL.out (by omega)) _) (by omega) (by simp) ?_; intro v6 w6 hown6 hb6 hz6)
      rw [Nat.zero_add, List.nil_append] at hown6
      have HO6 := hide hown6
      have hb06 := ((Below.refl w.heap.size w).alloc (Nat.le_refl _) (.cells #[] 9)).trans hb6
      have hz06 := hb06.size
      clear hown6
      go_upto_region 8 with (at_builtin; refine appB rfl _ _ rfl w.heap.size v6 K (xs.take K) nm rfl HO6.out (by first | rfl | (simp; rfl)) (by omega) (by omega) ?_; intro v7 w7 hown7 hb7 hz7)
      have HO7 := hide hown7
      have hb07 := hb06.trans hb7
      clear hown7
      by_cases hcK : c = K
      · subst hcK
        go_wp2_with (at_builtin; refine appsB rfl _ _ rfl w.heap.size v7 (c + 1) (xs.take c ++ [nm]) rfl HO7.out (some ⟨g, 0, none⟩) 0 0 [] (by first | rfl | (simp; rfl) | simp) Rd.nil (by omega) (by omega) ?_; intro v8 w8 hown8 hb8 hz8)
        obtain ⟨g8, c8, rfl⟩ := own_addr2 hown8 (by omega)
        rw [List.append_nil] at hown8
        go_ret
        exact ⟨g8, _, c8, rfl, by rw [HE.out]; exact own_mono2 hown8 hbase, by rw [HE.out]; simp [HL.out], hb07.trans hb8⟩
      · go_wp2_with (at_builtin; refine appsB rfl _ _ rfl w.heap.size v7 (K + 1) (xs.take K ++ [nm]) rfl HO7.out (some ⟨g, K, none⟩) 0 (c - K) [] (by first | rfl | (simp; rfl) | simp) Rd.nil (by omega) (by omega) ?_; intro v8 w8 hown8 hb8 hz8)
        obtain ⟨g8, c8, rfl⟩ := own_addr2 hown8 (by omega)
        rw [List.append_nil] at hown8
        go_ret
        exact ⟨g8, _, c8, rfl, by rw [HE.out]; exact own_mono2 hown8 hbase, by rw [HE.out]; simp [HL.out], hb07.trans hb8⟩

set_option maxRecDepth 100000 in
set_option maxHeartbeats 8000000 in
theorem l28Rights_calls (A : Option Addr) (n c : Nat) (rs : List RoleZ) (A1 : Option Addr) (n1 c1 : Nat) (gs : List GrantZ) (t : Nat) (nm : ByteArray) (w : World) (h : RdRz w A n rs) (h1 : RdK kGrant w A1 n1 gs) (hok : RolesOk rs) (hg : ∀ x ∈ gs, hasR rs x.role = true) (hn : n ≤ 1048576) (hn1 : n1 ≤ 48) (ht : findN rs nm = t) (hh : hasR rs nm = true) :
    Calls Try.prog 83 #[.slice A n c, .slice A1 n1 c1, .int .i64 (t : Int)] w (GrasPost (rightsZ rs gs nm) w) := by
  have HL1 := hide h1.2.1
  have HOK := hide hok
  have HG := hide hg
  have HFO := hide (fineO h1)
  have htn : t < n := by rw [← h.len, ← ht]; exact hasR_iff.1 hh
  obtain ⟨rt, hrt, hrn⟩ := find_name hh
  rw [ht] at hrt
  have HRT := hide (And.intro hrt hrn)
  have HT := hide ht
  have hlen : ∀ k, (objZ (gs.take k)).length ≤ k := fun k => by
    have h1 := (objZ_all (gs := gs.take k)).2.2
    have h2 := List.length_take_le k gs
    omega
  have HLEN := hide hlen
  have HFK : Hid (∀ k, ∀ o ∈ objZ (gs.take k), o.size ≤ 9223372036854775807) := fun k o ho => by
    obtain ⟨x, hx, rfl⟩ := (objZ_all.2.1 o).1 ho
    exact (h1.2.2 x (List.mem_of_mem_take hx)).2.1
  have hlit := World.ownsRow_lit (base := w.heap.size) (e := 9) (size := 1) w #[] 0 (Nat.le_refl _) (by simp) rfl
  have hba := (Below.refl w.heap.size w).alloc (Nat.le_refl _) (.cells #[] 9)
  clear hok hg hh ht hrt hrn hlen
  go_enter Try.func83, Try.ntmps83
  go_wp2
  go_loopw [7, 8] (fun v i wr => ∃ (J m g c3 : Nat), J ≤ n1 ∧ m ≤ J ∧ i = .int .i64 J ∧ v = .slice (some ⟨g, 0, none⟩) m c3 ∧ Hid (wr.ownsRow w.heap.size 9 1 (.slice (some ⟨g, 0, none⟩) m c3) m (cK kB (objZ (gs.take J))) ∧ (objZ (gs.take J)).length = m) ∧ Below w.heap.size w wr) (fun _ i _ => n1 - (intOf i).toNat)
  case atStart => exact ⟨0, 0, _, _, Nat.zero_le _, Nat.le_refl _, rfl, rfl, by simpa [Hid, cK, objZ] using hlit, hba⟩
  case round =>
    clear hlit hba
    obtain ⟨J, m, g, c3, hJ, hmJ, rfl, rfl, HO, hb⟩ := hrel
    by_cases hlt : J < n1
    · obtain ⟨b, off, f0, f1, f2, rfl, hbl, hx, hc0, hc1, hc2, hs0, hs1, hs2, hs3⟩ := (h1.below hb (Nat.le_refl _)).atGrant hlt
      have HE := hide (objZ_snoc hx.out)
      have HM := hide (l28Put_calls g m c3 w.heap.size (objZ (gs.take J)) f1 wr HO.out.1 HO.out.2 (HFK.out J) (by omega) hb.size)
      have HLK := HLEN.out (J + 1)
      rw [HE.out] at HLK
      go_wp2_with fail
      refine HM.out.mono ?_
      clear HM
      rintro e w2 ⟨g2, n2, c2, rfl, hown2, hl2, hb2⟩
      have hn2 : n2 ≤ J + 1 := by rw [← hl2]; exact HLK
      have HO2 := hide (And.intro hown2 hl2)
      clear hown2 hl2 HLK
      go_wp2
      go_roundw
      case rel => exact ⟨J + 1, n2, g2, c2, by omega, hn2, by go_num, rfl, by rw [HE.out]; exact HO2, hb.trans (hb2.mono hb.size)⟩
      case measure => simp [intOf]; omega
    · have hJn : J = n1 := by omega
      have HE : Hid (gs.take J = gs) := List.take_of_length_le (by rw [HL1.out]; omega)
      have hR : RdK kB wr (some ⟨g, 0, none⟩) m (objZ gs) := by
        have h3 := HO.out
        rw [HE.out] at h3
        exact ⟨Rd.of_own h3.1, h3.2, HFO.out⟩
      have HR := hide hR
      have HML := hide hR.2.1
      have hm48 : m ≤ 48 := by omega
      clear hR HO HE hJn
      have hlit := World.ownsRow_lit (base := wr.heap.size) (e := 49) (size := 3) wr #[] 0 (Nat.le_refl _) (by simp) rfl
      have hba := (Below.refl wr.heap.size wr).alloc (Nat.le_refl _) (.cells #[] 49)
      obtain ⟨W3, rfl⟩ : ∃ W3 : World, W3 = wr := ⟨_, rfl⟩
      obtain ⟨b2, off2, nm2, Aq, nq, cq, us, rfl, hbl2, hx2, hcn, _, _, _, _⟩ := (h.below hb (Nat.le_refl _)).at htn
      obtain rfl : nm2 = nm := by
        have h3 := hx2.out
        rw [HRT.out.1] at h3
        injection h3 with h3
        rw [← HRT.out.2, h3]
      clear hx2
      obtain ⟨i0, hi0, hz0, hz1, hz2⟩ := info_parts Try.infoGrant
      have HI := hide (And.intro hi0 (And.intro hz0 (And.intro hz1 hz2)))
      clear hi0 hz0 hz1 hz2
      have HCN := hide hcn
      clear hcn
      go_wp2
      go_loopw [9, 10] (fun v i wr => ∃ (J k c5 : Nat) (A5 : Option Addr), J ≤ m ∧ k ≤ 3 * J ∧ i = .int .i64 J ∧ v = .slice A5 k c5 ∧ Hid (wr.ownsRow W3.heap.size 49 3 (.slice A5 k c5) k (cK kGrant (rgK rs gs nm2 J)) ∧ (rgK rs gs nm2 J).length = k) ∧ Below W3.heap.size W3 wr) (fun _ i _ => m - (intOf i).toNat)
      case atStart => exact ⟨0, 0, _, _, Nat.zero_le _, by omega, rfl, rfl, ⟨by simpa [rgK_zero, cK] using hlit, rfl⟩, hba⟩
      case round =>
        clear hlit hba
        obtain ⟨K, k, c5, A5, hK, hkK, rfl, rfl, HO, hb4⟩ := hrel
        by_cases hlk : K < m
        · obtain ⟨b, off, o, hA, hbl, hx, hc, hso⟩ := RdK.atB HR.out hlk
          obtain ⟨rfl, rfl⟩ : g = b ∧ 0 = off := by simpa using hA
          rw [Nat.zero_add] at hc
          clear hA
          obtain ⟨R, hR⟩ : ∃ R, R = rgK rs gs nm2 K := ⟨_, rfl⟩
          have HSN := hide (rgK_snoc (rs := rs) (nm := nm2) hx.out)
          rw [HT.out] at HSN
          rw [← hR] at HO HSN
          have HCO := hide hc
          clear hR hc
          obtain ⟨w5, rfl⟩ : ∃ w5 : World, w5 = wr := ⟨_, rfl⟩
          go_wp2
          -- the actions
          go_loopw [9, 11] (fun v i wr => ∃ (I k c5 : Nat) (A5 : Option Addr), I ≤ 3 ∧ k ≤ 3 * K + I ∧ i = .int .i64 ((I : Int) + 1) ∧ v = .slice A5 k c5 ∧ Hid (wr.ownsRow W3.heap.size 49 3 (.slice A5 k c5) k (cK kGrant (R ++ actsZ (mayB rs gs t o) nm2 o I)) ∧ (R ++ actsZ (mayB rs gs t o) nm2 o I).length = k) ∧ Below W3.heap.size W3 wr) (fun _ i _ => 4 - (intOf i).toNat)
          case atStart => exact ⟨0, k, c5, A5, by omega, by omega, rfl, rfl, by rw [acts_zero, List.append_nil]; exact HO, hb4⟩
          case round =>
            clear HO hb4
            obtain ⟨I, k', c6, A6, hI, hkI, rfl, rfl, HO, hb5⟩ := hrel
            have hc := (hb5.cell (p := ⟨g, K, none⟩) hbl).trans HCO.out
            by_cases hli : I < 3
            · have hbw := hb.trans (hb5.mono hb.size)
              have HM := hide (l28May_calls (some ⟨b2, off2, none⟩) n c rs A1 n1 c1 gs t o ((I : Int) + 1) wr (h.below hbw (Nat.le_refl _)) (h1.below hbw (Nat.le_refl _)) HOK.out HG.out hn (by omega))
              have HSA := hide (actsZ_snoc (mayB rs gs t o) nm2 o I)
              have hsz5 := hb5.size
              rcases b_cases (mayB rs gs t o ((I : Int) + 1)) with hq | hq
              · have HE2 : Hid (actsZ (mayB rs gs t o) nm2 o (I + 1) = actsZ (mayB rs gs t o) nm2 o I) := by unfold Hid; rw [HSA.out, hq]; simp
                rw [hq] at HM
                clear hq
                go_wp2_with fail
                refine HM.out.mono ?_
                clear HM
                rintro e w6 ⟨rfl, hb6⟩
                have HO2 := hide (And.intro (own_below HO.out.1 hb6 (Nat.le_refl _)) HO.out.2)
                go_wp2
                go_roundw
                case rel => exact ⟨I + 1, k', c6, A6, by omega, by omega, by go_num, rfl, by rw [HE2.out]; exact HO2, hb5.trans (hb6.mono hb5.size)⟩
                case measure => simp [intOf]; omega
              · have HE2 : Hid (R ++ actsZ (mayB rs gs t o) nm2 o (I + 1) = R ++ actsZ (mayB rs gs t o) nm2 o I ++ [⟨nm2, o, (I : Int) + 1⟩]) := by unfold Hid; rw [HSA.out, hq, List.append_assoc]; rfl
                rw [hq] at HM
                clear hq
                go_wp2_with fail
                refine HM.out.mono ?_
                clear HM
                rintro e w6 ⟨rfl, hb6⟩
                have HO2 := hide (own_below HO.out.1 hb6 (Nat.le_refl _))
                have hbw6 := hb5.trans (hb6.mono hb5.size)
                have hsz6 := hbw6.size
                have e0 := (hbw6.cell (p := ⟨b2, off2 + t * 2, none⟩) hbl2).trans HCN.out
                have e1 := (hbw6.cell (p := ⟨g, K, none⟩) hbl).trans HCO.out
                have HSa : Hid (∀ W, Below W3.heap.size w6 W → W.cell? ⟨b2, off2 + t * 2, none⟩ = some (.string nm2) ∧ W.cell? ⟨g, K, none⟩ = some (.string o)) := fun W hW => ⟨(hW.cell (p := ⟨b2, off2 + t * 2, none⟩) hbl2).trans e0, (hW.cell (p := ⟨g, K, none⟩) hbl).trans e1⟩
                clear e0 e1
                go_wp2
                clear hc
                go_region_held3 (fun W => W.cell? ⟨b2, off2 + t * 2, none⟩ = some (.string nm2) ∧ W.cell? ⟨g, K, none⟩ = some (.string o))
                  (first | exact HSa.out _ (Below.refl _ _) | exact HSa.out _ (Below.refl _ _).drew | exact HSa.out _ (((Below.refl _ _).drew).alloc (by simpa using hsz6) _) | exact HSa.out _ hk4)
                  (first
                    | (refine step_append_lies _ (by rfl) _ _ _ (by rfl) W3.heap.size 49 i0 _ 3 40 Try.underlying39 HI.out.1 HI.out.2.1 HI.out.2.2.1 HI.out.2.2.2 rfl (by omega) (.slice A6 k' c6) k' (cK kGrant (R ++ actsZ (mayB rs gs t o) nm2 o I)) (by rfl) ((own_drewN HO2.out 1).alloc _)
                        ⟨w6.heap.size, 0, none⟩ 1 1 [.string nm2, .string o, .int .i64 ((I : Int) + 1)] (by rfl) (by rfl) (World.news_of_block (cs := #[.string nm2, .string o, .int .i64 ((I : Int) + 1)]) (t := 49) (fr := (0, 0)) (heap_alloc_new w6.drew _)) (by simp [Value.oneCell'])
                        (by omega) (by unfold maxLen; omega) (by omega) (by simp; omega) (w6.heap.size + 1) (by simp) ?_; intro gg cap w7 hown7 hgrow hat hlt7; have hk4 : Below W3.heap.size w6 w7 := (((Below.refl _ w6).drew).alloc (by simpa using hsz6) _).grown hgrow (by simp; omega) (fun g hg => (HO2.out.lt g hg).1)))
                have HO7 := hide hown7
                clear hown7 hgrow hat hlt7
                go_wp2
                go_roundw
                case rel =>
                  refine ⟨I + 1, k' + 1, cap, _, by omega, by omega, by go_num, rfl, ?_, hbw6.trans hk4⟩
                  rw [HE2.out]
                  exact ⟨by rw [cK_snoc]; exact HO7.out, by rw [List.length_append, HO.out.2]; rfl⟩
                case measure => simp [intOf]; omega
            · have hI3 : I = 3 := by omega
              have HE2 : Hid (rgK rs gs nm2 (K + 1) = R ++ actsZ (mayB rs gs t o) nm2 o I) := by unfold Hid; rw [HSN.out, hI3]
              clear hI3
              go_wp2
              go_roundw
              case rel => exact ⟨K + 1, k', c6, A6, by omega, by omega, by go_num, rfl, by rw [HE2.out]; exact HO, hb5⟩
              case measure => simp [intOf]; omega
        · have hKm : K = m := by omega
          have HE2 : Hid (rgK rs gs nm2 K = rightsZ rs gs nm2) := rgK_all (by rw [HML.out]; omega)
          clear hKm
          go_wp2
          go_ret
          have h3 := HO.out
          rw [HE2.out] at h3
          exact ⟨A5, k, c5, rfl, own_mono2 h3.1 hb.size, h3.2, hb.trans (hb4.mono hb.size)⟩

set_option maxHeartbeats 2000000 in
theorem specRightsOf_calls (A : Option Addr) (n c : Nat) (rs : List RoleZ) (A1 : Option Addr) (n1 c1 : Nat) (gs : List GrantZ) (nm : ByteArray) (w : World) (h : RdRz w A n rs) (h1 : RdK kGrant w A1 n1 gs) (hqf : nm.size ≤ 9223372036854775807) (hn : n ≤ 1048576) (hn1 : n1 ≤ 1048576) (_ : nm.size ≤ 1048576) (hs : ShortR rs) :
    Calls Try.prog 44 #[.slice A n c, .slice A1 n1 c1, .string nm] w (GCPost (rgV rs gs nm) (rgC rs gs nm) w) := by
  have HM := hide (l28Ok_calls A n c rs A1 n1 c1 gs w h h1 hn hn1)
  have HC : Hid (rgC rs gs nm = namedZ (grantsB rs gs) rs nm) := rfl
  rcases b_cases (grantsB rs gs) with hg | hg
  · have HV := hide (rgV_no (nm := nm) (.inl hg))
    rw [hg, named_bad] at HC
    rw [hg] at HM
    clear hg
    go_enter Try.func44, Try.ntmps44
    go_wp2_with fail
    refine HM.out.mono ?_
    rintro e w1 ⟨rfl, hb1⟩
    go_wp2
    go_ret2
    exact GCPost.none HV.out HC.out hb1
  rw [hg] at HM HC
  rcases b_cases (hasR rs nm) with hh | hh
  · have HV := hide (rgV_no (gs := gs) (.inr hh))
    have HFN := hide (findI_no hh)
    rw [named_no hh] at HC
    clear hg hh
    go_enter Try.func44, Try.ntmps44
    go_wp2_with fail
    refine HM.out.mono ?_
    rintro e w1 ⟨rfl, hb1⟩
    have HF := hide (l28Find_calls A n c rs nm w1 (h.below hb1 (Nat.le_refl _)) hn)
    rw [HFN.out] at HF
    go_wp2_with fail
    refine HF.out.mono ?_
    rintro e w2 ⟨rfl, rfl⟩
    go_wp2
    go_ret2
    exact GCPost.none HV.out HC.out hb1
  · have HV := hide (rgV_ok hg hh)
    rw [named_ok hh] at HC
    have HOK := hide (roles_ok (grants_roles hg))
    have HGH : Hid (∀ x ∈ gs, hasR rs x.role = true) := fun x hx => grants_has hg hx
    have h48 : n1 ≤ 48 := by rw [← h1.2.1]; exact grants_len hg
    have HGL := hide (grants_len hg)
    have HH := hide hh
    have HFN := hide (findI_yes hh)
    obtain ⟨t, ht⟩ : ∃ t, findN rs nm = t := ⟨_, rfl⟩
    rw [ht] at HFN
    have HT := hide ht
    clear hg hh ht
    go_enter Try.func44, Try.ntmps44
    go_wp2_with fail
    refine HM.out.mono ?_
    rintro e w1 ⟨rfl, hb1⟩
    have HF := hide (l28Find_calls A n c rs nm w1 (h.below hb1 (Nat.le_refl _)) hn)
    rw [HFN.out] at HF
    go_wp2_with fail
    refine HF.out.mono ?_
    rintro e w2 ⟨rfl, rfl⟩
    have HU := hide (l28Rights_calls A n c rs A1 n1 c1 gs t nm w1 (h.below hb1 (Nat.le_refl _)) (h1.below hb1 (Nat.le_refl _)) HOK.out HGH.out hn h48 HT.out HH.out)
    go_wp2_with fail
    refine HU.out.mono ?_
    rintro e w3 ⟨A', n', c', rfl, hown, hl, hb3⟩
    have HO := hide (And.intro hown hl)
    clear hown hl
    go_wp2
    go_ret2
    refine ⟨A', n', c', ret_two rfl (congrArg (Value.int .i64) HC.out.symm), ?_, ?_, hb1.trans (hb3.mono hb1.size)⟩
    · rw [HV.out]
      exact (FrK.of_own (K := kGrant) HO.out.1 HO.out.2 (rights_fine hqf (fineO h1))).mono hb1.size (Nat.le_refl _)
    · have h3 := rights_small (rs := rs) nm HGL.out
      rw [HO.out.2] at h3
      omega

end Go.Proofs.Ytidhbpnibgegdaa
