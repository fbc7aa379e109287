/- NeedlessGrants of the program. -/
import Derived.Test.YtidhbpnibgegdaaNeedS
import Derived.Test.YtidhbpnibgegdaaWho
namespace Go.Proofs.Ytidhbpnibgegdaa
open Go.RowKit
set_option linter.unusedVariables false

set_option maxRecDepth 100000 in
set_option maxHeartbeats 8000000 in
theorem implNeedlessGrants_calls (A : Option Addr) (n c : Nat) (rs : List RoleZ) (A1 : Option Addr) (n1 c1 : Nat) (gs : List GrantZ) (w : World) (h : RdRz w A n rs) (h1 : RdK kGrant w A1 n1 gs) (hn : n ≤ 1048576) (hn1 : n1 ≤ 1048576) (hs : ShortR rs) (hcap : n1 ≤ c1) :
    Calls Try.prog 47 #[.slice A n c, .slice A1 n1 c1] w (ICPost (neV rs gs) (neC rs gs) w) := by
  have HL := hide h1.2.1
  obtain ⟨W0, hW0⟩ : ∃ W0, W0 = ((w.alloc (.cells #[.slice A n c] 25)).alloc (.cells #[.slice A1 n1 c1] 39)) := ⟨_, rfl⟩
  have hB : Below w.heap.size w W0 := by rw [hW0]; exact ((Below.refl _ _).alloc (Nat.le_refl _) _).alloc (by simp) _
  have g0 : W0.cell? ⟨w.heap.size, 0, none⟩ = some (.slice A n c) := by rw [hW0]; exact cell_box (heap2 _ _ _).1
  have g1 : W0.cell? ⟨w.heap.size + 1, 0, none⟩ = some (.slice A1 n1 c1) := by rw [hW0]; exact cell_box (heap2 _ _ _).2
  have hz : w.heap.size + 1 < W0.heap.size := by rw [hW0]; simp
  have h0 := h.below hB (Nat.le_refl _)
  have h10 := h1.below hB (Nat.le_refl _)
  have HM := hide (implValidGrants_calls A n c rs A1 n1 c1 gs W0 h0 h10 hn hn1 hs)
  have box : Hid (∀ {W : World}, Below W0.heap.size W0 W → W.cell? ⟨w.heap.size, 0, none⟩ = some (.slice A n c) ∧ W.cell? ⟨w.heap.size + 1, 0, none⟩ = some (.slice A1 n1 c1)) := fun hb =>
    ⟨(hb.cell (p := ⟨w.heap.size, 0, none⟩) (by show w.heap.size < _; omega)).trans g0, (hb.cell (p := ⟨w.heap.size + 1, 0, none⟩) hz).trans g1⟩
  rcases b_cases (grantsB rs gs) with hg | hg
  · have HV := hide (ne_bad hg)
    rw [hg] at HM
    clear hg
    go_enter Try.func47, Try.ntmps47
    go_wp2_with fail
    rw [← hW0]
    clear hW0
    refine HM.out.mono ?_
    rintro e w1 ⟨rfl, hb1⟩
    go_wp2
    go_ret2
    exact ICPost.none HV.out.1 HV.out.2 (hB.trans (hb1.mono hB.size))
  have HV := hide (ne_ok hg)
  have HOK := hide (roles_ok (grants_roles hg))
  have HGH : Hid (∀ x ∈ gs, hasR rs x.role = true) := fun x hx => grants_has hg hx
  have h48 : n1 ≤ 48 := by rw [← h1.2.1]; exact grants_len hg
  have HND : Hid (∀ {k : Nat} {g : GrantZ}, gs[k]? = some g → ndB rs gs k = !(rs.any (nePr rs gs (remZ gs k)))) := fun hk => ndB_eq hg hk
  rw [hg] at HM
  clear hg
  go_enter Try.func47, Try.ntmps47
  go_wp2_with fail
  rw [← hW0]
  clear hW0
  refine HM.out.mono ?_
  clear HM
  rintro e w1 ⟨rfl, hb1⟩
  obtain ⟨e0, e1⟩ := box.out hb1
  have hbw := hB.trans (hb1.mono hB.size)
  have hown0 := World.ownsRow_nil w1 w1.heap.size 2 1
  clear g0 g1 h0 h10
  obtain ⟨wo, rfl⟩ : ∃ wo : World, wo = w1 := ⟨_, rfl⟩
  go_wp2
  clear e0 e1
  go_loopw [6, 16] (fun v i wr => ∃ (K m c3 : Nat) (A3 : Option Addr), K ≤ n1 ∧ m ≤ K ∧ i = .int .i64 K ∧ v = .slice A3 m c3 ∧ Hid (wr.ownsRow wo.heap.size 2 1 (.slice A3 m c3) m (cI (ndI rs gs K)) ∧ (ndI rs gs K).length = m) ∧ Below wo.heap.size wo wr) (fun _ i _ => n1 - (intOf i).toNat)
  case atStart => exact ⟨0, 0, 0, none, Nat.zero_le _, Nat.le_refl _, rfl, rfl, by simpa [Hid, cI, ndI] using hown0, Below.refl _ _⟩
  case round =>
    clear hown0
    obtain ⟨K, m, c3, A3, hK, hmK, rfl, rfl, HO, hb⟩ := hrel
    by_cases hlt : K < n1
    · have hbW := hbw.trans (hb.mono hbw.size)
      have hr := h.below hbW (Nat.le_refl _)
      have h1r := h1.below hbW (Nat.le_refl _)
      obtain ⟨b, off, f0, f1, f2, hA, hbl, hx, d0, d1, d2, _, _, _, _⟩ := h1r.atGrant hlt
      have HX := hide hx.out
      clear d0 d1 d2 hx
      subst hA
      obtain ⟨e0, e1⟩ := box.out (hb1.trans (hb.mono hb1.size))
      have hsz := hb.size
      have HCO : Hid (∀ (W : World) (vb : Nat) (A5 : Option Addr) (n5 c5 : Nat), Below wr.heap.size wr W → n5 = n1 - (K + 1) → RdK kGrant W A5 n5 (gs.drop (K + 1)) → vb < W.heap.size → W.cell? ⟨vb, 0, none⟩ = some (.slice (some ⟨b, off, none⟩) K c1) → W.cell? ⟨vb, 1, none⟩ = some (.slice A5 n5 c5) → Calls Try.prog 85 #[.slice (some ⟨vb, 0, none⟩) 2 2] W (GrasPost (remZ gs K) W)) := by
        intro W vb A5 n5 c5 hW hn5 h5 hvb k0 k1
        exact concatG_calls vb _ K c1 (gs.take K) A5 n5 c5 (gs.drop (K + 1)) W ⟨rdK_take (K := kGrant) (h1r.below hW (Nat.le_refl _)).1 HL.out (by omega), by rw [List.length_take, HL.out]; omega, fun x hx => h1r.2.2 x (List.mem_of_mem_take hx)⟩ h5 (by omega) (by omega) hvb k0 k1
      have i1 : (0 : Int) ≤ (K : Int) := by omega
      have i2 : (K : Int) < (n1 : Int) := by omega
      have i3 : (K : Int) ≤ (c1 : Int) := by omega
      have i4 : (K : Int) + 1 ≤ (n1 : Int) := by omega
      have i5 : (K : Int) + 1 ≤ (c1 : Int) := by omega
      have i7 : IntKind.i64.wrap ((K : Int) + 1) = (K : Int) + 1 := IntWalk.i64_in _ (by omega)
      have i8 : (0 : Int) ≤ (K : Int) + 1 := by omega
      have i9 : (n1 : Int) ≤ (c1 : Int) := by omega
      have i10 : ((K : Int) + 1).toNat = K + 1 := by omega
      have HRF : Hid (∀ x ∈ remZ gs K, kGrant.fine x) := fun x hx => h1r.2.2 x (remZ_mem hx)
      have KS : Hid (∀ W, Below wr.heap.size wr W → W.cell? ⟨w.heap.size, 0, none⟩ = some (.slice A n c) ∧ W.cell? ⟨w.heap.size + 1, 0, none⟩ = some (.slice (some ⟨b, off, none⟩) n1 c1)) := fun W C => box.out ((hb1.trans (hb.mono hb1.size)).trans (C.mono (hb1.trans (hb.mono hb1.size)).size))
      by_cases hcj : c1 = K + 1
      · subst hcj
        have hn5 : n1 - (K + 1) = 0 := by omega
        have HN5 := hide hn5
        clear hn5
        have j3 : (n1 : Int) ≤ (K : Int) + 1 := by omega
        have j1 : (K : Int) ≤ (K : Int) + 1 := by omega
        have j2 : (K : Int) < (K : Int) + 1 := by omega
        have hdr : gs.drop (K + 1) = [] := List.drop_eq_nil_of_le (by rw [HL.out]; omega)
        have HD : Hid (∀ W, Below wr.heap.size wr W → RdK kGrant W (some ⟨b, off, none⟩) 0 (gs.drop (K + 1))) := fun W hW => by rw [hdr]; exact ⟨Rd.nil, rfl, by simp⟩
        clear hdr
        go_wp2
        go_region_held3 (fun W => W.cell? ⟨w.heap.size, 0, none⟩ = some (.slice A n c) ∧ W.cell? ⟨w.heap.size + 1, 0, none⟩ = some (.slice (some ⟨b, off, none⟩) n1 (K + 1)))
          (first
            | exact ⟨e0, e1⟩
            | exact KS.out _ hk5
            | exact KS.out _ (Below.refl _ _).drew
            | exact KS.out _ ((Below.refl _ _).alloc (Nat.le_refl _) _).drew
            | exact KS.out _ (((Below.refl _ _).alloc (Nat.le_refl _) _).alloc (by simp) _).drew
            | exact KS.out _ (hk5.setCell (Nat.le_refl wr.heap.size) _)
            | exact KS.out _ (hk5.setCell (Nat.le_succ wr.heap.size) _)
            | (refine KS.out _ (hk5.alloc hk5.size _)))
          (first
            | (go_at_call 85; have qh : (wr.alloc (.cells #[.slice (some ⟨b, off, none⟩) K (K + 1), .slice (some ⟨b, off, none⟩) 0 0] 39)).drew.heap[wr.heap.size]? = some (.cells #[.slice (some ⟨b, off, none⟩) K (K + 1), .slice (some ⟨b, off, none⟩) 0 0] 39 (0, 0)) := heap_alloc_new wr _; have qb : Below wr.heap.size wr (wr.alloc (.cells #[.slice (some ⟨b, off, none⟩) K (K + 1), .slice (some ⟨b, off, none⟩) 0 0] 39)).drew := ((Below.refl wr.heap.size wr).alloc (Nat.le_refl _) _).drew; have ql : wr.heap.size < (wr.alloc (.cells #[.slice (some ⟨b, off, none⟩) K (K + 1), .slice (some ⟨b, off, none⟩) 0 0] 39)).drew.heap.size := (by first | (simp; done) | (simp; omega)); (with_reducible refine (HCO.out (wr.alloc (.cells #[.slice (some ⟨b, off, none⟩) K (K + 1), .slice (some ⟨b, off, none⟩) 0 0] 39)).drew _ _ _ _ qb (by omega) (HD.out _ qb) ql (cell_heap (j := 0) qh rfl) (cell_heap (j := 1) qh rfl)).mono ?_); rintro e w5 ⟨A6, n6, c6, rfl, hown6, hl6, hb6⟩; have hk5 : Below wr.heap.size wr w5 := qb.trans (hb6.mono qb.size); have fr6 := FrK.of_own (K := kGrant) hown6 hl6 HRF.out; clear hown6; clear hb6 qb ql qh)
            | (go_at_call 85; have qh : ((wr.alloc (.cells #[.slice none 0 0] 39)).alloc (.cells #[.slice (some ⟨b, off, none⟩) K (K + 1), .slice (some ⟨b, off, none⟩) 0 0] 39)).drew.heap[wr.heap.size + 1]? = some (.cells #[.slice (some ⟨b, off, none⟩) K (K + 1), .slice (some ⟨b, off, none⟩) 0 0] 39 (0, 0)) := (heap2 wr _ _).2; have qb : Below wr.heap.size wr ((wr.alloc (.cells #[.slice none 0 0] 39)).alloc (.cells #[.slice (some ⟨b, off, none⟩) K (K + 1), .slice (some ⟨b, off, none⟩) 0 0] 39)).drew := (((Below.refl wr.heap.size wr).alloc (Nat.le_refl _) _).alloc (by simp) _).drew; have ql : wr.heap.size + 1 < ((wr.alloc (.cells #[.slice none 0 0] 39)).alloc (.cells #[.slice (some ⟨b, off, none⟩) K (K + 1), .slice (some ⟨b, off, none⟩) 0 0] 39)).drew.heap.size := (by first | (simp; done) | (simp; omega)); (with_reducible refine (HCO.out ((wr.alloc (.cells #[.slice none 0 0] 39)).alloc (.cells #[.slice (some ⟨b, off, none⟩) K (K + 1), .slice (some ⟨b, off, none⟩) 0 0] 39)).drew _ _ _ _ qb (by omega) (HD.out _ qb) ql (cell_heap (j := 0) qh rfl) (cell_heap (j := 1) qh rfl)).mono ?_); rintro e w5 ⟨A6, n6, c6, rfl, hown6, hl6, hb6⟩; have hk5 : Below wr.heap.size wr w5 := qb.trans (hb6.mono qb.size); have fr6 := FrK.of_own (K := kGrant) hown6 hl6 HRF.out; clear hown6; have hz6 : wr.heap.size + 1 + 1 ≤ w5.heap.size := (by have := hb6.size; simpa using this); have fr7 := fr6.mono (lo' := wr.heap.size + 1 + 1) (by simp) (Nat.le_refl _); have kb : w5.heap[wr.heap.size]? = some (.cells #[.slice none 0 0] 39 (0, 0)) := (hb6.block (wr.heap.size) (by first | (simp; done) | (simp; omega))).trans (heap2 wr _ _).1; have kx := cell_box kb; have kf := frozen_of_row w5 (wr.heap.size) 0 _ _ kb; clear hb6 qb ql qh)
            | (go_at_call 85; have qh : ((wr.alloc (.cells #[.slice (some ⟨b, off, none⟩) K (K + 1), .slice (some ⟨b, off, none⟩) 0 0] 39)).alloc (.cells #[.slice none 0 0] 39)).drew.heap[wr.heap.size]? = some (.cells #[.slice (some ⟨b, off, none⟩) K (K + 1), .slice (some ⟨b, off, none⟩) 0 0] 39 (0, 0)) := (heap2 wr _ _).1; have qb : Below wr.heap.size wr ((wr.alloc (.cells #[.slice (some ⟨b, off, none⟩) K (K + 1), .slice (some ⟨b, off, none⟩) 0 0] 39)).alloc (.cells #[.slice none 0 0] 39)).drew := (((Below.refl wr.heap.size wr).alloc (Nat.le_refl _) _).alloc (by simp) _).drew; have ql : wr.heap.size < ((wr.alloc (.cells #[.slice (some ⟨b, off, none⟩) K (K + 1), .slice (some ⟨b, off, none⟩) 0 0] 39)).alloc (.cells #[.slice none 0 0] 39)).drew.heap.size := (by first | (simp; done) | (simp; omega)); (with_reducible refine (HCO.out ((wr.alloc (.cells #[.slice (some ⟨b, off, none⟩) K (K + 1), .slice (some ⟨b, off, none⟩) 0 0] 39)).alloc (.cells #[.slice none 0 0] 39)).drew _ _ _ _ qb (by omega) (HD.out _ qb) ql (cell_heap (j := 0) qh rfl) (cell_heap (j := 1) qh rfl)).mono ?_); rintro e w5 ⟨A6, n6, c6, rfl, hown6, hl6, hb6⟩; have hk5 : Below wr.heap.size wr w5 := qb.trans (hb6.mono qb.size); have fr6 := FrK.of_own (K := kGrant) hown6 hl6 HRF.out; clear hown6; have hz6 : wr.heap.size + 1 + 1 ≤ w5.heap.size := (by have := hb6.size; simpa using this); have fr7 := fr6.mono (lo' := wr.heap.size + 1 + 1) (by simp) (Nat.le_refl _); have kb : w5.heap[wr.heap.size + 1]? = some (.cells #[.slice none 0 0] 39 (0, 0)) := (hb6.block (wr.heap.size + 1) (by first | (simp; done) | (simp; omega))).trans (heap2 wr _ _).2; have kx := cell_box kb; have kf := frozen_of_row w5 (wr.heap.size + 1) 0 _ _ kb; clear hb6 qb ql qh)
            | fail)
        · have P1 : Below wr.heap.size wr (w5.alloc (.cells #[.slice A6 n6 c6] 39)) := hk5.alloc hk5.size _
          have P2 : RdK kGrant (w5.alloc (.cells #[.slice A6 n6 c6] 39)) A6 n6 (remZ gs K) := fr6.rd.below ((Below.refl _ _).alloc (Nat.le_refl _) _) (Nat.le_refl _)
          have P3 : (w5.alloc (.cells #[.slice A6 n6 c6] 39)).cell? ⟨w5.heap.size, 0, none⟩ = some (.slice A6 n6 c6) := cell_box (heap_alloc_new w5 _)
          have P4 : w5.heap.size < (w5.alloc (.cells #[.slice A6 n6 c6] 39)).heap.size := by simp
          generalize (w5.alloc (.cells #[.slice A6 n6 c6] 39)) = W6 at *
          have hl6' := remZ_short (K := K) HL.out h48
          have h6 : n6 ≤ 48 := by omega
          have hbX := hb.trans (P1.mono hsz)
          have hbWX := hbW.trans (P1.mono hbW.size)
          obtain ⟨y0, y1⟩ := KS.out _ P1
          have HCT := hide (containsR_calls A n c rs 87 #[.pointer (some ⟨w.heap.size, 0, none⟩), .pointer (some ⟨w.heap.size + 1, 0, none⟩), .pointer (some ⟨w5.heap.size, 0, none⟩)] (nePr rs gs (remZ gs K)) W6 (h.below hbWX (Nat.le_refl _)) hn Try.call87 (by
            intro W nm Aq nq cq us hW hm hsz' hst hnq
            rw [cat3]
            have hWW := hbWX.trans (hW.mono hbWX.size)
            have hPW := P1.trans (hW.mono P1.size)
            obtain ⟨z0, z1⟩ := KS.out _ hPW
            have hzW : w.heap.size + 1 < W.heap.size := by have := hW.size; have := P1.size; have := hb.size; have := hb1.size; omega
            exact needClos_calls A n c rs _ n1 (K + 1) gs A6 n6 c6 (remZ gs K) nm Aq nq cq w.heap.size (w5.heap.size) W (h.below hWW (Nat.le_refl _)) (h1.below hWW (Nat.le_refl _)) (P2.below hW (Nat.le_refl _)) HOK.out HGH.out (fun x hx => HGH.out x (remZ_mem hx)) h48 h6 (has_mem.2 (List.mem_map.2 ⟨_, hm, rfl⟩)) hsz' hzW (Nat.lt_of_lt_of_le P4 hW.size) z0 z1 ((hW.cell (p := ⟨w5.heap.size, 0, none⟩) P4).trans P3)))
          have hnd := HND.out HX.out
          clear P3 fr6
          rcases b_cases (rs.any (nePr rs gs (remZ gs K))) with hq | hq
          · rw [hq] at HCT hnd
            have HE2 := hide (ndI_yes hnd)
            clear hq hnd
            go_wp2_with fail
            refine HCT.out.mono ?_
            clear HCT
            rintro e w7 ⟨rfl, hb7⟩
            have hbw7 := hbX.trans (hb7.mono hbX.size)
            have HO2 := hide (own_below HO.out.1 (P1.trans (hb7.mono P1.size)) (Nat.le_refl _))
            have hsz7 := hbw7.size
            go_wp2_with (at_builtin; refine appI rfl _ _ rfl wo.heap.size (.slice A3 m c3) m (ndI rs gs K) (K : Int) rfl HO2.out (by first | rfl | (simp; rfl)) (by omega) (by omega) ?_; intro v8 w8 hown8 hb8 hz8; obtain ⟨A8, c8, rfl⟩ := own_slice hown8)
            go_roundw
            case rel => exact ⟨K + 1, m + 1, c8, A8, by omega, by omega, by go_num, rfl, by rw [HE2.out]; exact ⟨hown8, by rw [List.length_append, HO.out.2]; rfl⟩, hbw7.trans hb8⟩
            case measure => simp [intOf]; omega
          · rw [hq] at HCT hnd
            have HE2 := hide (ndI_no hnd)
            clear hq hnd
            go_wp2_with fail
            refine HCT.out.mono ?_
            clear HCT
            rintro e w7 ⟨rfl, hb7⟩
            have HO2 : Hid (w7.ownsRow wo.heap.size 2 1 (.slice A3 m c3) m (cI (ndI rs gs (K + 1))) ∧ (ndI rs gs (K + 1)).length = m) := by rw [HE2.out]; exact ⟨own_below HO.out.1 (P1.trans (hb7.mono P1.size)) (Nat.le_refl _), HO.out.2⟩
            go_wp2
            go_roundw
            case rel => exact ⟨K + 1, m, c3, A3, by omega, by omega, by go_num, rfl, HO2, hbX.trans (hb7.mono hbX.size)⟩
            case measure => simp [intOf]; omega
        · have hwr : Wr (wr.heap.size + 1) (wr.heap.size + 1 + 1) w5 (w5.setCell ⟨wr.heap.size + 1, 0, none⟩ (.slice A6 n6 c6)) := Wr.setCell w5 _ (Nat.le_refl _) (Nat.lt_succ_self _)
          have P1 : Below wr.heap.size wr (w5.setCell ⟨wr.heap.size + 1, 0, none⟩ (.slice A6 n6 c6)) := hk5.setCell (by first | exact Nat.le_refl _ | exact Nat.le_succ _) _
          have P2 : RdK kGrant (w5.setCell ⟨wr.heap.size + 1, 0, none⟩ (.slice A6 n6 c6)) A6 n6 (remZ gs K) := (fr7.wr hwr (.inr (by omega))).rd
          have P3 : (w5.setCell ⟨wr.heap.size + 1, 0, none⟩ (.slice A6 n6 c6)).cell? ⟨wr.heap.size + 1, 0, none⟩ = some (.slice A6 n6 c6) := World.cell?_setCell_same w5 _ _ kx
          have P4 : wr.heap.size + 1 < (w5.setCell ⟨wr.heap.size + 1, 0, none⟩ (.slice A6 n6 c6)).heap.size := Nat.lt_of_lt_of_le (by omega) hwr.size
          clear hwr
          generalize (w5.setCell ⟨wr.heap.size + 1, 0, none⟩ (.slice A6 n6 c6)) = W6 at *
          have hl6' := remZ_short (K := K) HL.out h48
          have h6 : n6 ≤ 48 := by omega
          have hbX := hb.trans (P1.mono hsz)
          have hbWX := hbW.trans (P1.mono hbW.size)
          obtain ⟨y0, y1⟩ := KS.out _ P1
          have HCT := hide (containsR_calls A n c rs 87 #[.pointer (some ⟨w.heap.size, 0, none⟩), .pointer (some ⟨w.heap.size + 1, 0, none⟩), .pointer (some ⟨wr.heap.size + 1, 0, none⟩)] (nePr rs gs (remZ gs K)) W6 (h.below hbWX (Nat.le_refl _)) hn Try.call87 (by
            intro W nm Aq nq cq us hW hm hsz' hst hnq
            rw [cat3]
            have hWW := hbWX.trans (hW.mono hbWX.size)
            have hPW := P1.trans (hW.mono P1.size)
            obtain ⟨z0, z1⟩ := KS.out _ hPW
            have hzW : w.heap.size + 1 < W.heap.size := by have := hW.size; have := P1.size; have := hb.size; have := hb1.size; omega
            exact needClos_calls A n c rs _ n1 (K + 1) gs A6 n6 c6 (remZ gs K) nm Aq nq cq w.heap.size (wr.heap.size + 1) W (h.below hWW (Nat.le_refl _)) (h1.below hWW (Nat.le_refl _)) (P2.below hW (Nat.le_refl _)) HOK.out HGH.out (fun x hx => HGH.out x (remZ_mem hx)) h48 h6 (has_mem.2 (List.mem_map.2 ⟨_, hm, rfl⟩)) hsz' hzW (Nat.lt_of_lt_of_le P4 hW.size) z0 z1 ((hW.cell (p := ⟨wr.heap.size + 1, 0, none⟩) P4).trans P3)))
          have hnd := HND.out HX.out
          clear P3 fr6 fr7 kb kx kf hz6
          rcases b_cases (rs.any (nePr rs gs (remZ gs K))) with hq | hq
          · rw [hq] at HCT hnd
            have HE2 := hide (ndI_yes hnd)
            clear hq hnd
            go_wp2_with fail
            refine HCT.out.mono ?_
            clear HCT
            rintro e w7 ⟨rfl, hb7⟩
            have hbw7 := hbX.trans (hb7.mono hbX.size)
            have HO2 := hide (own_below HO.out.1 (P1.trans (hb7.mono P1.size)) (Nat.le_refl _))
            have hsz7 := hbw7.size
            go_wp2_with (at_builtin; refine appI rfl _ _ rfl wo.heap.size (.slice A3 m c3) m (ndI rs gs K) (K : Int) rfl HO2.out (by first | rfl | (simp; rfl)) (by omega) (by omega) ?_; intro v8 w8 hown8 hb8 hz8; obtain ⟨A8, c8, rfl⟩ := own_slice hown8)
            go_roundw
            case rel => exact ⟨K + 1, m + 1, c8, A8, by omega, by omega, by go_num, rfl, by rw [HE2.out]; exact ⟨hown8, by rw [List.length_append, HO.out.2]; rfl⟩, hbw7.trans hb8⟩
            case measure => simp [intOf]; omega
          · rw [hq] at HCT hnd
            have HE2 := hide (ndI_no hnd)
            clear hq hnd
            go_wp2_with fail
            refine HCT.out.mono ?_
            clear HCT
            rintro e w7 ⟨rfl, hb7⟩
            have HO2 : Hid (w7.ownsRow wo.heap.size 2 1 (.slice A3 m c3) m (cI (ndI rs gs (K + 1))) ∧ (ndI rs gs (K + 1)).length = m) := by rw [HE2.out]; exact ⟨own_below HO.out.1 (P1.trans (hb7.mono P1.size)) (Nat.le_refl _), HO.out.2⟩
            go_wp2
            go_roundw
            case rel => exact ⟨K + 1, m, c3, A3, by omega, by omega, by go_num, rfl, HO2, hbX.trans (hb7.mono hbX.size)⟩
            case measure => simp [intOf]; omega
        · have hwr : Wr (wr.heap.size) (wr.heap.size + 1) w5 (w5.setCell ⟨wr.heap.size, 0, none⟩ (.slice A6 n6 c6)) := Wr.setCell w5 _ (Nat.le_refl _) (Nat.lt_succ_self _)
          have P1 : Below wr.heap.size wr (w5.setCell ⟨wr.heap.size, 0, none⟩ (.slice A6 n6 c6)) := hk5.setCell (by first | exact Nat.le_refl _ | exact Nat.le_succ _) _
          have P2 : RdK kGrant (w5.setCell ⟨wr.heap.size, 0, none⟩ (.slice A6 n6 c6)) A6 n6 (remZ gs K) := (fr7.wr hwr (.inr (by omega))).rd
          have P3 : (w5.setCell ⟨wr.heap.size, 0, none⟩ (.slice A6 n6 c6)).cell? ⟨wr.heap.size, 0, none⟩ = some (.slice A6 n6 c6) := World.cell?_setCell_same w5 _ _ kx
          have P4 : wr.heap.size < (w5.setCell ⟨wr.heap.size, 0, none⟩ (.slice A6 n6 c6)).heap.size := Nat.lt_of_lt_of_le (by omega) hwr.size
          clear hwr
          generalize (w5.setCell ⟨wr.heap.size, 0, none⟩ (.slice A6 n6 c6)) = W6 at *
          have hl6' := remZ_short (K := K) HL.out h48
          have h6 : n6 ≤ 48 := by omega
          have hbX := hb.trans (P1.mono hsz)
          have hbWX := hbW.trans (P1.mono hbW.size)
          obtain ⟨y0, y1⟩ := KS.out _ P1
          have HCT := hide (containsR_calls A n c rs 87 #[.pointer (some ⟨w.heap.size, 0, none⟩), .pointer (some ⟨w.heap.size + 1, 0, none⟩), .pointer (some ⟨wr.heap.size, 0, none⟩)] (nePr rs gs (remZ gs K)) W6 (h.below hbWX (Nat.le_refl _)) hn Try.call87 (by
            intro W nm Aq nq cq us hW hm hsz' hst hnq
            rw [cat3]
            have hWW := hbWX.trans (hW.mono hbWX.size)
            have hPW := P1.trans (hW.mono P1.size)
            obtain ⟨z0, z1⟩ := KS.out _ hPW
            have hzW : w.heap.size + 1 < W.heap.size := by have := hW.size; have := P1.size; have := hb.size; have := hb1.size; omega
            exact needClos_calls A n c rs _ n1 (K + 1) gs A6 n6 c6 (remZ gs K) nm Aq nq cq w.heap.size (wr.heap.size) W (h.below hWW (Nat.le_refl _)) (h1.below hWW (Nat.le_refl _)) (P2.below hW (Nat.le_refl _)) HOK.out HGH.out (fun x hx => HGH.out x (remZ_mem hx)) h48 h6 (has_mem.2 (List.mem_map.2 ⟨_, hm, rfl⟩)) hsz' hzW (Nat.lt_of_lt_of_le P4 hW.size) z0 z1 ((hW.cell (p := ⟨wr.heap.size, 0, none⟩) P4).trans P3)))
          have hnd := HND.out HX.out
          clear P3 fr6 fr7 kb kx kf hz6
          rcases b_cases (rs.any (nePr rs gs (remZ gs K))) with hq | hq
          · rw [hq] at HCT hnd
            have HE2 := hide (ndI_yes hnd)
            clear hq hnd
            go_wp2_with fail
            refine HCT.out.mono ?_
            clear HCT
            rintro e w7 ⟨rfl, hb7⟩
            have hbw7 := hbX.trans (hb7.mono hbX.size)
            have HO2 := hide (own_below HO.out.1 (P1.trans (hb7.mono P1.size)) (Nat.le_refl _))
            have hsz7 := hbw7.size
            go_wp2_with (at_builtin; refine appI rfl _ _ rfl wo.heap.size (.slice A3 m c3) m (ndI rs gs K) (K : Int) rfl HO2.out (by first | rfl | (simp; rfl)) (by omega) (by omega) ?_; intro v8 w8 hown8 hb8 hz8; obtain ⟨A8, c8, rfl⟩ := own_slice hown8)
            go_roundw
            case rel => exact ⟨K + 1, m + 1, c8, A8, by omega, by omega, by go_num, rfl, by rw [HE2.out]; exact ⟨hown8, by rw [List.length_append, HO.out.2]; rfl⟩, hbw7.trans hb8⟩
            case measure => simp [intOf]; omega
          · rw [hq] at HCT hnd
            have HE2 := hide (ndI_no hnd)
            clear hq hnd
            go_wp2_with fail
            refine HCT.out.mono ?_
            clear HCT
            rintro e w7 ⟨rfl, hb7⟩
            have HO2 : Hid (w7.ownsRow wo.heap.size 2 1 (.slice A3 m c3) m (cI (ndI rs gs (K + 1))) ∧ (ndI rs gs (K + 1)).length = m) := by rw [HE2.out]; exact ⟨own_below HO.out.1 (P1.trans (hb7.mono P1.size)) (Nat.le_refl _), HO.out.2⟩
            go_wp2
            go_roundw
            case rel => exact ⟨K + 1, m, c3, A3, by omega, by omega, by go_num, rfl, HO2, hbX.trans (hb7.mono hbX.size)⟩
            case measure => simp [intOf]; omega
      · have i6 : ¬ ((c1 : Int) = (K : Int) + 1) := by omega
        have i11 : ¬ (c1 = K + 1) := hcj
        have HD : Hid (∀ W, Below wr.heap.size wr W → RdK kGrant W (some ⟨b, off + (K + 1) * 3, none⟩) (n1 - (K + 1)) (gs.drop (K + 1))) := fun W hW => ⟨rdK_drop (K := kGrant) (h1r.below hW (Nat.le_refl _)).1 HL.out (by omega), by rw [List.length_drop, HL.out], fun x hx => h1r.2.2 x (List.mem_of_mem_drop hx)⟩
        go_wp2
        go_region_held3 (fun W => W.cell? ⟨w.heap.size, 0, none⟩ = some (.slice A n c) ∧ W.cell? ⟨w.heap.size + 1, 0, none⟩ = some (.slice (some ⟨b, off, none⟩) n1 c1))
          (first
            | exact ⟨e0, e1⟩
            | exact KS.out _ hk5
            | exact KS.out _ (Below.refl _ _).drew
            | exact KS.out _ ((Below.refl _ _).alloc (Nat.le_refl _) _).drew
            | exact KS.out _ (((Below.refl _ _).alloc (Nat.le_refl _) _).alloc (by simp) _).drew
            | exact KS.out _ (hk5.setCell (Nat.le_refl wr.heap.size) _)
            | exact KS.out _ (hk5.setCell (Nat.le_succ wr.heap.size) _)
            | (refine KS.out _ (hk5.alloc hk5.size _)))
          (first
            | (go_at_call 85; have qh : (wr.alloc (.cells #[.slice (some ⟨b, off, none⟩) K c1, .slice (some ⟨b, off + (K + 1) * 3, none⟩) (n1 - (K + 1)) (c1 - (K + 1))] 39)).drew.heap[wr.heap.size]? = some (.cells #[.slice (some ⟨b, off, none⟩) K c1, .slice (some ⟨b, off + (K + 1) * 3, none⟩) (n1 - (K + 1)) (c1 - (K + 1))] 39 (0, 0)) := heap_alloc_new wr _; have qb : Below wr.heap.size wr (wr.alloc (.cells #[.slice (some ⟨b, off, none⟩) K c1, .slice (some ⟨b, off + (K + 1) * 3, none⟩) (n1 - (K + 1)) (c1 - (K + 1))] 39)).drew := ((Below.refl wr.heap.size wr).alloc (Nat.le_refl _) _).drew; have ql : wr.heap.size < (wr.alloc (.cells #[.slice (some ⟨b, off, none⟩) K c1, .slice (some ⟨b, off + (K + 1) * 3, none⟩) (n1 - (K + 1)) (c1 - (K + 1))] 39)).drew.heap.size := (by first | (simp; done) | (simp; omega)); (with_reducible refine (HCO.out (wr.alloc (.cells #[.slice (some ⟨b, off, none⟩) K c1, .slice (some ⟨b, off + (K + 1) * 3, none⟩) (n1 - (K + 1)) (c1 - (K + 1))] 39)).drew _ _ _ _ qb (by omega) (HD.out _ qb) ql (cell_heap (j := 0) qh rfl) (cell_heap (j := 1) qh rfl)).mono ?_); rintro e w5 ⟨A6, n6, c6, rfl, hown6, hl6, hb6⟩; have hk5 : Below wr.heap.size wr w5 := qb.trans (hb6.mono qb.size); have fr6 := FrK.of_own (K := kGrant) hown6 hl6 HRF.out; clear hown6; clear hb6 qb ql qh)
            | (go_at_call 85; have qh : ((wr.alloc (.cells #[.slice none 0 0] 39)).alloc (.cells #[.slice (some ⟨b, off, none⟩) K c1, .slice (some ⟨b, off + (K + 1) * 3, none⟩) (n1 - (K + 1)) (c1 - (K + 1))] 39)).drew.heap[wr.heap.size + 1]? = some (.cells #[.slice (some ⟨b, off, none⟩) K c1, .slice (some ⟨b, off + (K + 1) * 3, none⟩) (n1 - (K + 1)) (c1 - (K + 1))] 39 (0, 0)) := (heap2 wr _ _).2; have qb : Below wr.heap.size wr ((wr.alloc (.cells #[.slice none 0 0] 39)).alloc (.cells #[.slice (some ⟨b, off, none⟩) K c1, .slice (some ⟨b, off + (K + 1) * 3, none⟩) (n1 - (K + 1)) (c1 - (K + 1))] 39)).drew := (((Below.refl wr.heap.size wr).alloc (Nat.le_refl _) _).alloc (by simp) _).drew; have ql : wr.heap.size + 1 < ((wr.alloc (.cells #[.slice none 0 0] 39)).alloc (.cells #[.slice (some ⟨b, off, none⟩) K c1, .slice (some ⟨b, off + (K + 1) * 3, none⟩) (n1 - (K + 1)) (c1 - (K + 1))] 39)).drew.heap.size := (by first | (simp; done) | (simp; omega)); (with_reducible refine (HCO.out ((wr.alloc (.cells #[.slice none 0 0] 39)).alloc (.cells #[.slice (some ⟨b, off, none⟩) K c1, .slice (some ⟨b, off + (K + 1) * 3, none⟩) (n1 - (K + 1)) (c1 - (K + 1))] 39)).drew _ _ _ _ qb (by omega) (HD.out _ qb) ql (cell_heap (j := 0) qh rfl) (cell_heap (j := 1) qh rfl)).mono ?_); rintro e w5 ⟨A6, n6, c6, rfl, hown6, hl6, hb6⟩; have hk5 : Below wr.heap.size wr w5 := qb.trans (hb6.mono qb.size); have fr6 := FrK.of_own (K := kGrant) hown6 hl6 HRF.out; clear hown6; have hz6 : wr.heap.size + 1 + 1 ≤ w5.heap.size := (by have := hb6.size; simpa using this); have fr7 := fr6.mono (lo' := wr.heap.size + 1 + 1) (by simp) (Nat.le_refl _); have kb : w5.heap[wr.heap.size]? = some (.cells #[.slice none 0 0] 39 (0, 0)) := (hb6.block (wr.heap.size) (by first | (simp; done) | (simp; omega))).trans (heap2 wr _ _).1; have kx := cell_box kb; have kf := frozen_of_row w5 (wr.heap.size) 0 _ _ kb; clear hb6 qb ql qh)
            | (go_at_call 85; have qh : ((wr.alloc (.cells #[.slice (some ⟨b, off, none⟩) K c1, .slice (some ⟨b, off + (K + 1) * 3, none⟩) (n1 - (K + 1)) (c1 - (K + 1))] 39)).alloc (.cells #[.slice none 0 0] 39)).drew.heap[wr.heap.size]? = some (.cells #[.slice (some ⟨b, off, none⟩) K c1, .slice (some ⟨b, off + (K + 1) * 3, none⟩) (n1 - (K + 1)) (c1 - (K + 1))] 39 (0, 0)) := (heap2 wr _ _).1; have qb : Below wr.heap.size wr ((wr.alloc (.cells #[.slice (some ⟨b, off, none⟩) K c1, .slice (some ⟨b, off + (K + 1) * 3, none⟩) (n1 - (K + 1)) (c1 - (K + 1))] 39)).alloc (.cells #[.slice none 0 0] 39)).drew := (((Below.refl wr.heap.size wr).alloc (Nat.le_refl _) _).alloc (by simp) _).drew; have ql : wr.heap.size < ((wr.alloc (.cells #[.slice (some ⟨b, off, none⟩) K c1, .slice (some ⟨b, off + (K + 1) * 3, none⟩) (n1 - (K + 1)) (c1 - (K + 1))] 39)).alloc (.cells #[.slice none 0 0] 39)).drew.heap.size := (by first | (simp; done) | (simp; omega)); (with_reducible refine (HCO.out ((wr.alloc (.cells #[.slice (some ⟨b, off, none⟩) K c1, .slice (some ⟨b, off + (K + 1) * 3, none⟩) (n1 - (K + 1)) (c1 - (K + 1))] 39)).alloc (.cells #[.slice none 0 0] 39)).drew _ _ _ _ qb (by omega) (HD.out _ qb) ql (cell_heap (j := 0) qh rfl) (cell_heap (j := 1) qh rfl)).mono ?_); rintro e w5 ⟨A6, n6, c6, rfl, hown6, hl6, hb6⟩; have hk5 : Below wr.heap.size wr w5 := qb.trans (hb6.mono qb.size); have fr6 := FrK.of_own (K := kGrant) hown6 hl6 HRF.out; clear hown6; have hz6 : wr.heap.size + 1 + 1 ≤ w5.heap.size := (by have := hb6.size; simpa using this); have fr7 := fr6.mono (lo' := wr.heap.size + 1 + 1) (by simp) (Nat.le_refl _); have kb : w5.heap[wr.heap.size + 1]? = some (.cells #[.slice none 0 0] 39 (0, 0)) := (hb6.block (wr.heap.size + 1) (by first | (simp; done) | (simp; omega))).trans (heap2 wr _ _).2; have kx := cell_box kb; have kf := frozen_of_row w5 (wr.heap.size + 1) 0 _ _ kb; clear hb6 qb ql qh)
            | fail)
        · have P1 : Below wr.heap.size wr (w5.alloc (.cells #[.slice A6 n6 c6] 39)) := hk5.alloc hk5.size _
          have P2 : RdK kGrant (w5.alloc (.cells #[.slice A6 n6 c6] 39)) A6 n6 (remZ gs K) := fr6.rd.below ((Below.refl _ _).alloc (Nat.le_refl _) _) (Nat.le_refl _)
          have P3 : (w5.alloc (.cells #[.slice A6 n6 c6] 39)).cell? ⟨w5.heap.size, 0, none⟩ = some (.slice A6 n6 c6) := cell_box (heap_alloc_new w5 _)
          have P4 : w5.heap.size < (w5.alloc (.cells #[.slice A6 n6 c6] 39)).heap.size := by simp
          generalize (w5.alloc (.cells #[.slice A6 n6 c6] 39)) = W6 at *
          have hl6' := remZ_short (K := K) HL.out h48
          have h6 : n6 ≤ 48 := by omega
          have hbX := hb.trans (P1.mono hsz)
          have hbWX := hbW.trans (P1.mono hbW.size)
          obtain ⟨y0, y1⟩ := KS.out _ P1
          have HCT := hide (containsR_calls A n c rs 87 #[.pointer (some ⟨w.heap.size, 0, none⟩), .pointer (some ⟨w.heap.size + 1, 0, none⟩), .pointer (some ⟨w5.heap.size, 0, none⟩)] (nePr rs gs (remZ gs K)) W6 (h.below hbWX (Nat.le_refl _)) hn Try.call87 (by
            intro W nm Aq nq cq us hW hm hsz' hst hnq
            rw [cat3]
            have hWW := hbWX.trans (hW.mono hbWX.size)
            have hPW := P1.trans (hW.mono P1.size)
            obtain ⟨z0, z1⟩ := KS.out _ hPW
            have hzW : w.heap.size + 1 < W.heap.size := by have := hW.size; have := P1.size; have := hb.size; have := hb1.size; omega
            exact needClos_calls A n c rs _ n1 c1 gs A6 n6 c6 (remZ gs K) nm Aq nq cq w.heap.size (w5.heap.size) W (h.below hWW (Nat.le_refl _)) (h1.below hWW (Nat.le_refl _)) (P2.below hW (Nat.le_refl _)) HOK.out HGH.out (fun x hx => HGH.out x (remZ_mem hx)) h48 h6 (has_mem.2 (List.mem_map.2 ⟨_, hm, rfl⟩)) hsz' hzW (Nat.lt_of_lt_of_le P4 hW.size) z0 z1 ((hW.cell (p := ⟨w5.heap.size, 0, none⟩) P4).trans P3)))
          have hnd := HND.out HX.out
          clear P3 fr6
          rcases b_cases (rs.any (nePr rs gs (remZ gs K))) with hq | hq
          · rw [hq] at HCT hnd
            have HE2 := hide (ndI_yes hnd)
            clear hq hnd
            go_wp2_with fail
            refine HCT.out.mono ?_
            clear HCT
            rintro e w7 ⟨rfl, hb7⟩
            have hbw7 := hbX.trans (hb7.mono hbX.size)
            have HO2 := hide (own_below HO.out.1 (P1.trans (hb7.mono P1.size)) (Nat.le_refl _))
            have hsz7 := hbw7.size
            go_wp2_with (at_builtin; refine appI rfl _ _ rfl wo.heap.size (.slice A3 m c3) m (ndI rs gs K) (K : Int) rfl HO2.out (by first | rfl | (simp; rfl)) (by omega) (by omega) ?_; intro v8 w8 hown8 hb8 hz8; obtain ⟨A8, c8, rfl⟩ := own_slice hown8)
            go_roundw
            case rel => exact ⟨K + 1, m + 1, c8, A8, by omega, by omega, by go_num, rfl, by rw [HE2.out]; exact ⟨hown8, by rw [List.length_append, HO.out.2]; rfl⟩, hbw7.trans hb8⟩
            case measure => simp [intOf]; omega
          · rw [hq] at HCT hnd
            have HE2 := hide (ndI_no hnd)
            clear hq hnd
            go_wp2_with fail
            refine HCT.out.mono ?_
            clear HCT
            rintro e w7 ⟨rfl, hb7⟩
            have HO2 : Hid (w7.ownsRow wo.heap.size 2 1 (.slice A3 m c3) m (cI (ndI rs gs (K + 1))) ∧ (ndI rs gs (K + 1)).length = m) := by rw [HE2.out]; exact ⟨own_below HO.out.1 (P1.trans (hb7.mono P1.size)) (Nat.le_refl _), HO.out.2⟩
            go_wp2
            go_roundw
            case rel => exact ⟨K + 1, m, c3, A3, by omega, by omega, by go_num, rfl, HO2, hbX.trans (hb7.mono hbX.size)⟩
            case measure => simp [intOf]; omega
        · have hwr : Wr (wr.heap.size + 1) (wr.heap.size + 1 + 1) w5 (w5.setCell ⟨wr.heap.size + 1, 0, none⟩ (.slice A6 n6 c6)) := Wr.setCell w5 _ (Nat.le_refl _) (Nat.lt_succ_self _)
          have P1 : Below wr.heap.size wr (w5.setCell ⟨wr.heap.size + 1, 0, none⟩ (.slice A6 n6 c6)) := hk5.setCell (by first | exact Nat.le_refl _ | exact Nat.le_succ _) _
          have P2 : RdK kGrant (w5.setCell ⟨wr.heap.size + 1, 0, none⟩ (.slice A6 n6 c6)) A6 n6 (remZ gs K) := (fr7.wr hwr (.inr (by omega))).rd
          have P3 : (w5.setCell ⟨wr.heap.size + 1, 0, none⟩ (.slice A6 n6 c6)).cell? ⟨wr.heap.size + 1, 0, none⟩ = some (.slice A6 n6 c6) := World.cell?_setCell_same w5 _ _ kx
          have P4 : wr.heap.size + 1 < (w5.setCell ⟨wr.heap.size + 1, 0, none⟩ (.slice A6 n6 c6)).heap.size := Nat.lt_of_lt_of_le (by omega) hwr.size
          clear hwr
          generalize (w5.setCell ⟨wr.heap.size + 1, 0, none⟩ (.slice A6 n6 c6)) = W6 at *
          have hl6' := remZ_short (K := K) HL.out h48
          have h6 : n6 ≤ 48 := by omega
          have hbX := hb.trans (P1.mono hsz)
          have hbWX := hbW.trans (P1.mono hbW.size)
          obtain ⟨y0, y1⟩ := KS.out _ P1
          have HCT := hide (containsR_calls A n c rs 87 #[.pointer (some ⟨w.heap.size, 0, none⟩), .pointer (some ⟨w.heap.size + 1, 0, none⟩), .pointer (some ⟨wr.heap.size + 1, 0, none⟩)] (nePr rs gs (remZ gs K)) W6 (h.below hbWX (Nat.le_refl _)) hn Try.call87 (by
            intro W nm Aq nq cq us hW hm hsz' hst hnq
            rw [cat3]
            have hWW := hbWX.trans (hW.mono hbWX.size)
            have hPW := P1.trans (hW.mono P1.size)
            obtain ⟨z0, z1⟩ := KS.out _ hPW
            have hzW : w.heap.size + 1 < W.heap.size := by have := hW.size; have := P1.size; have := hb.size; have := hb1.size; omega
            exact needClos_calls A n c rs _ n1 c1 gs A6 n6 c6 (remZ gs K) nm Aq nq cq w.heap.size (wr.heap.size + 1) W (h.below hWW (Nat.le_refl _)) (h1.below hWW (Nat.le_refl _)) (P2.below hW (Nat.le_refl _)) HOK.out HGH.out (fun x hx => HGH.out x (remZ_mem hx)) h48 h6 (has_mem.2 (List.mem_map.2 ⟨_, hm, rfl⟩)) hsz' hzW (Nat.lt_of_lt_of_le P4 hW.size) z0 z1 ((hW.cell (p := ⟨wr.heap.size + 1, 0, none⟩) P4).trans P3)))
          have hnd := HND.out HX.out
          clear P3 fr6 fr7 kb kx kf hz6
          rcases b_cases (rs.any (nePr rs gs (remZ gs K))) with hq | hq
          · rw [hq] at HCT hnd
            have HE2 := hide (ndI_yes hnd)
            clear hq hnd
            go_wp2_with fail
            refine HCT.out.mono ?_
            clear HCT
            rintro e w7 ⟨rfl, hb7⟩
            have hbw7 := hbX.trans (hb7.mono hbX.size)
            have HO2 := hide (own_below HO.out.1 (P1.trans (hb7.mono P1.size)) (Nat.le_refl _))
            have hsz7 := hbw7.size
            go_wp2_with (at_builtin; refine appI rfl _ _ rfl wo.heap.size (.slice A3 m c3) m (ndI rs gs K) (K : Int) rfl HO2.out (by first | rfl | (simp; rfl)) (by omega) (by omega) ?_; intro v8 w8 hown8 hb8 hz8; obtain ⟨A8, c8, rfl⟩ := own_slice hown8)
            go_roundw
            case rel => exact ⟨K + 1, m + 1, c8, A8, by omega, by omega, by go_num, rfl, by rw [HE2.out]; exact ⟨hown8, by rw [List.length_append, HO.out.2]; rfl⟩, hbw7.trans hb8⟩
            case measure => simp [intOf]; omega
          · rw [hq] at HCT hnd
            have HE2 := hide (ndI_no hnd)
            clear hq hnd
            go_wp2_with fail
            refine HCT.out.mono ?_
            clear HCT
            rintro e w7 ⟨rfl, hb7⟩
            have HO2 : Hid (w7.ownsRow wo.heap.size 2 1 (.slice A3 m c3) m (cI (ndI rs gs (K + 1))) ∧ (ndI rs gs (K + 1)).length = m) := by rw [HE2.out]; exact ⟨own_below HO.out.1 (P1.trans (hb7.mono P1.size)) (Nat.le_refl _), HO.out.2⟩
            go_wp2
            go_roundw
            case rel => exact ⟨K + 1, m, c3, A3, by omega, by omega, by go_num, rfl, HO2, hbX.trans (hb7.mono hbX.size)⟩
            case measure => simp [intOf]; omega
        · have hwr : Wr (wr.heap.size) (wr.heap.size + 1) w5 (w5.setCell ⟨wr.heap.size, 0, none⟩ (.slice A6 n6 c6)) := Wr.setCell w5 _ (Nat.le_refl _) (Nat.lt_succ_self _)
          have P1 : Below wr.heap.size wr (w5.setCell ⟨wr.heap.size, 0, none⟩ (.slice A6 n6 c6)) := hk5.setCell (by first | exact Nat.le_refl _ | exact Nat.le_succ _) _
          have P2 : RdK kGrant (w5.setCell ⟨wr.heap.size, 0, none⟩ (.slice A6 n6 c6)) A6 n6 (remZ gs K) := (fr7.wr hwr (.inr (by omega))).rd
          have P3 : (w5.setCell ⟨wr.heap.size, 0, none⟩ (.slice A6 n6 c6)).cell? ⟨wr.heap.size, 0, none⟩ = some (.slice A6 n6 c6) := World.cell?_setCell_same w5 _ _ kx
          have P4 : wr.heap.size < (w5.setCell ⟨wr.heap.size, 0, none⟩ (.slice A6 n6 c6)).heap.size := Nat.lt_of_lt_of_le (by omega) hwr.size
          clear hwr
          generalize (w5.setCell ⟨wr.heap.size, 0, none⟩ (.slice A6 n6 c6)) = W6 at *
          have hl6' := remZ_short (K := K) HL.out h48
          have h6 : n6 ≤ 48 := by omega
          have hbX := hb.trans (P1.mono hsz)
          have hbWX := hbW.trans (P1.mono hbW.size)
          obtain ⟨y0, y1⟩ := KS.out _ P1
          have HCT := hide (containsR_calls A n c rs 87 #[.pointer (some ⟨w.heap.size, 0, none⟩), .pointer (some ⟨w.heap.size + 1, 0, none⟩), .pointer (some ⟨wr.heap.size, 0, none⟩)] (nePr rs gs (remZ gs K)) W6 (h.below hbWX (Nat.le_refl _)) hn Try.call87 (by
            intro W nm Aq nq cq us hW hm hsz' hst hnq
            rw [cat3]
            have hWW := hbWX.trans (hW.mono hbWX.size)
            have hPW := P1.trans (hW.mono P1.size)
            obtain ⟨z0, z1⟩ := KS.out _ hPW
            have hzW : w.heap.size + 1 < W.heap.size := by have := hW.size; have := P1.size; have := hb.size; have := hb1.size; omega
            exact needClos_calls A n c rs _ n1 c1 gs A6 n6 c6 (remZ gs K) nm Aq nq cq w.heap.size (wr.heap.size) W (h.below hWW (Nat.le_refl _)) (h1.below hWW (Nat.le_refl _)) (P2.below hW (Nat.le_refl _)) HOK.out HGH.out (fun x hx => HGH.out x (remZ_mem hx)) h48 h6 (has_mem.2 (List.mem_map.2 ⟨_, hm, rfl⟩)) hsz' hzW (Nat.lt_of_lt_of_le P4 hW.size) z0 z1 ((hW.cell (p := ⟨wr.heap.size, 0, none⟩) P4).trans P3)))
          have hnd := HND.out HX.out
          clear P3 fr6 fr7 kb kx kf hz6
          rcases b_cases (rs.any (nePr rs gs (remZ gs K))) with hq | hq
          · rw [hq] at HCT hnd
            have HE2 := hide (ndI_yes hnd)
            clear hq hnd
            go_wp2_with fail
            refine HCT.out.mono ?_
            clear HCT
            rintro e w7 ⟨rfl, hb7⟩
            have hbw7 := hbX.trans (hb7.mono hbX.size)
            have HO2 := hide (own_below HO.out.1 (P1.trans (hb7.mono P1.size)) (Nat.le_refl _))
            have hsz7 := hbw7.size
            go_wp2_with (at_builtin; refine appI rfl _ _ rfl wo.heap.size (.slice A3 m c3) m (ndI rs gs K) (K : Int) rfl HO2.out (by first | rfl | (simp; rfl)) (by omega) (by omega) ?_; intro v8 w8 hown8 hb8 hz8; obtain ⟨A8, c8, rfl⟩ := own_slice hown8)
            go_roundw
            case rel => exact ⟨K + 1, m + 1, c8, A8, by omega, by omega, by go_num, rfl, by rw [HE2.out]; exact ⟨hown8, by rw [List.length_append, HO.out.2]; rfl⟩, hbw7.trans hb8⟩
            case measure => simp [intOf]; omega
          · rw [hq] at HCT hnd
            have HE2 := hide (ndI_no hnd)
            clear hq hnd
            go_wp2_with fail
            refine HCT.out.mono ?_
            clear HCT
            rintro e w7 ⟨rfl, hb7⟩
            have HO2 : Hid (w7.ownsRow wo.heap.size 2 1 (.slice A3 m c3) m (cI (ndI rs gs (K + 1))) ∧ (ndI rs gs (K + 1)).length = m) := by rw [HE2.out]; exact ⟨own_below HO.out.1 (P1.trans (hb7.mono P1.size)) (Nat.le_refl _), HO.out.2⟩
            go_wp2
            go_roundw
            case rel => exact ⟨K + 1, m, c3, A3, by omega, by omega, by go_num, rfl, HO2, hbX.trans (hb7.mono hbX.size)⟩
            case measure => simp [intOf]; omega
    · have hKn : K = n1 := by omega
      have HE : Hid (neV rs gs = ndI rs gs K) := HV.out.1.trans (by rw [HL.out, hKn])
      have hi := ndI_i64 rs gs (m := K) (by omega)
      clear hKn
      go_wp2
      go_ret2
      refine ⟨A3, m, c3, ret_two rfl (congrArg (Value.int .i64) HV.out.2.symm), ?_, by omega, hbw.trans (hb.mono hbw.size)⟩
      rw [HE.out]
      exact frI_mono (FrI.of_own HO.out.1 hi) hbw.size (Nat.le_refl _)

end Go.Proofs.Ytidhbpnibgegdaa
