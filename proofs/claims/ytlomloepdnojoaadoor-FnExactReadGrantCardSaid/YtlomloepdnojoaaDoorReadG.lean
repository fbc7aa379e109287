/- ReadGrant of the program and of the reference. -/
import Derived.Test.YtlomloepdnojoaaDoorReadGZ
import Derived.Test.YtlomloepdnojoaaDoorSplitS
import Derived.Deep.RegionHeld3
namespace Go.Proofs.YtlomloepdnojoaaDoor
open Go.RowKit
set_option linter.unusedVariables false

/-- A reader of a grant gives a grant and whether it was one. -/
def GrBPost (V : GrantZ) (C : Bool) (w : World) (e : Ending) (w' : World) : Prop :=
  e = .returned (.tuple #[.agg #[.string V.role, .string V.object, .int .i64 V.action], .bool C]) ∧ Below w.heap.size w w'
theorem grb_of {V : GrantZ} {C c : Bool} {r o : ByteArray} {k : Int} {w w' : World} (h : C = c ∧ V = ⟨r, o, k⟩) (hb : Below w.heap.size w w') : GrBPost V C w (.returned (.tuple #[.agg #[.string r, .string o, .int .i64 k], .bool c])) w' := by
  obtain ⟨rfl, rfl⟩ := h
  exact ⟨rfl, hb⟩
theorem getD_at {W : List ByteArray} {k : Nat} {a : ByteArray} (h : W[k]? = some a) : W.getD k ⟨#[]⟩ = a := by rw [List.getD_eq_getElem?_getD, h]; rfl
theorem own_addrB {w : World} {base : Nat} {e : TypeId} {size n c : Nat} {A : Option Addr} {xs : List Value} (h : w.ownsRow base e size (.slice A n c) n xs) (hn : 1 ≤ n) : ∃ g, A = some ⟨g, 0, none⟩ ∧ base ≤ g := by
  rcases h.2 with ⟨hv, rfl⟩ | ⟨g, cap, cur, hv, hb, _⟩
  · omega
  · injection hv with hv
    exact ⟨g, hv, hb⟩
/-- A block of three cells. -/
def At3 (e : TypeId) (w : World) (B : Nat) (a0 a1 a2 : Value) : Prop := w.heap[B]? = some (.cells #[a0, a1, a2] e (0, 0))
theorem At3.below {e : TypeId} {w w' : World} {B base : Nat} {a0 a1 a2 : Value} (h : At3 e w B a0 a1 a2) (hb : Below base w w') (hB : B < base) : At3 e w' B a0 a1 a2 := (hb.block B hB).trans h
theorem At3.other {e : TypeId} {w : World} {B C k : Nat} {a0 a1 a2 u : Value} (h : At3 e w B a0 a1 a2) (hC : B ≠ C) : At3 e (w.setCell ⟨C, k, none⟩ u) B a0 a1 a2 := (heap_setCell_other _ _ _ _ hC).trans h
theorem At3.set2 {e : TypeId} {w : World} {B : Nat} {a0 a1 a2 u : Value} (h : At3 e w B a0 a1 a2) : At3 e (w.setCell ⟨B, 2, none⟩ u) B a0 a1 u := heap_setCell_same w B 2 _ _ u h
theorem At3.new (e : TypeId) (w : World) (a0 a1 a2 : Value) : At3 e (w.alloc (.cells #[a0, a1, a2] e)) w.heap.size a0 a1 a2 := heap_alloc_new w _
theorem At3.out {e : TypeId} {w : World} {B : Nat} {a0 a1 a2 : Value} (h : At3 e w B a0 a1 a2) : w.cell? ⟨B, 0, none⟩ = some a0 ∧ w.cell? ⟨B, 1, none⟩ = some a1 ∧ w.cell? ⟨B, 2, none⟩ = some a2 ∧
    w.frozen? ⟨B, 0, none⟩ = false ∧ w.frozen? ⟨B, 1, none⟩ = false ∧ w.frozen? ⟨B, 2, none⟩ = false := by
  have d0 := cell_of_row _ B 0 _ _ _ h
  have d1 := cell_of_row _ B 1 _ _ _ h
  have d2 := cell_of_row _ B 2 _ _ _ h
  simp at d0 d1 d2
  exact ⟨d0, d1, d2, frozen_of_row _ B 0 _ _ h, frozen_of_row _ B 1 _ _ h, frozen_of_row _ B 2 _ _ h⟩
theorem below_set3 {w w' : World} {B C : Nat} {u0 u1 u2 : Value} (h : Below B w w') (hC : B ≤ C) : Below B w (((w'.setCell ⟨C, 0, none⟩ u0).setCell ⟨C, 1, none⟩ u1).setCell ⟨C, 2, none⟩ u2) :=
  ((h.setCell hC _).setCell hC _).setCell hC _

set_option maxRecDepth 100000 in
set_option maxHeartbeats 8000000 in
theorem implReadGrant_calls (s : ByteArray) (w : World) (hM : TabM w) (hs : s.size ≤ 1048576) :
    Calls Tryd.prog 32 #[.string s] w (GrBPost (rgV s) (rgC s) w) := by
  obtain ⟨W1, hW1⟩ : ∃ W1, W1 = w.alloc (.cells #[.string ⟨#[]⟩, .string ⟨#[]⟩, .int .i64 0] 51) := ⟨_, rfl⟩
  have hB1 : Below w.heap.size w W1 := by rw [hW1]; exact (Below.refl _ _).alloc (Nat.le_refl _) _
  have HR1 : Hid (At3 51 W1 w.heap.size (.string ⟨#[]⟩) (.string ⟨#[]⟩) (.int .i64 0)) := by rw [hW1]; exact At3.new _ _ _ _ _
  have hz1 : w.heap.size < W1.heap.size := by rw [hW1]; simp
  have HSP := hide (split_calls s W1 (hM.here hB1) hs)
  have HPT : Hid (∀ p ∈ splitS 32 s, p.size ≤ s.size) := splitS_part 32 s
  have HSH : Hid ((splitS 32 s).length ≠ 3 → rgC s = false ∧ rgV s = ⟨⟨#[]⟩, ⟨#[]⟩, 0⟩) := rg_short
  have HBD : Hid (fineG (rdG (splitS 32 s)) = false → rgC s = false ∧ rgV s = ⟨⟨#[]⟩, ⟨#[]⟩, 0⟩) := rg_bad
  have HGD : Hid ((splitS 32 s).length = 3 → fineG (rdG (splitS 32 s)) = true → rgC s = true ∧ rgV s = rdG (splitS 32 s)) := rg_good
  have HIF : Hid ((splitS 32 s).length = 3 → (grantText (rdG (splitS 32 s)) = s ↔ fineG (rdG (splitS 32 s)) = true)) := rg_iff
  generalize splitS 32 s = W at *
  go_enter Tryd.func32, Tryd.ntmps32
  go_wp2_with fail
  rw [← hW1]
  clear hW1
  refine HSP.out.mono ?_
  rintro e w2 ⟨A, n, c, rfl, hown, hlen, hb2⟩
  have hB2 := hB1.trans (hb2.mono hB1.size)
  have HR2 : Hid (At3 51 w2 w.heap.size (.string ⟨#[]⟩) (.string ⟨#[]⟩) (.int .i64 0)) := HR1.out.below hb2 hz1
  have HO := hide hown
  have HLN := hide hlen
  clear hown hlen HSP
  by_cases h3 : n = 3
  case neg =>
    have HV := hide (HSH.out (by rw [HLN.out]; exact h3))
    have g1 : ((n : Int) != 3) = true := by simp; omega
    obtain ⟨q0, q1, q2, f0, f1, f2⟩ := HR2.out.out
    clear h3
    go_wp2
    refine bodyPost_ret (v := .tuple #[.agg #[.string ⟨#[]⟩, .string ⟨#[]⟩, .int .i64 0], .bool false]) (by simp [results, Tryd.results32, go_sem, *]) rfl ?_
    exact grb_of HV.out (below_set3 hB2 (Nat.le_refl _))
  subst h3
  have hcap := own_cap HO.out
  obtain ⟨g, rfl, hgb⟩ := own_addrB HO.out (by omega)
  have HRW : Hid (RdK kB w2 (some ⟨g, 0, none⟩) 3 W) := RdK.of_own (K := kB) HO.out HLN.out (fun x hx => by have := HPT.out x hx; show x.size ≤ 9223372036854775807; omega)
  obtain ⟨b0, o0, a, hA0, hgs, ha, ca, _⟩ := HRW.out.atB (show 0 < 3 by omega)
  obtain ⟨rfl, rfl⟩ : g = b0 ∧ 0 = o0 := by injection hA0 with hA; injection hA; exact ⟨‹_›, ‹_›⟩
  obtain ⟨b1, o1, b, hA1, _, hb, cb, _⟩ := HRW.out.atB (show 1 < 3 by omega)
  obtain ⟨rfl, rfl⟩ : g = b1 ∧ 0 = o1 := by injection hA1 with hA; injection hA; exact ⟨‹_›, ‹_›⟩
  obtain ⟨b2, o2, l, hA2, _, hl, cl, _⟩ := HRW.out.atB (show 2 < 3 by omega)
  obtain ⟨rfl, rfl⟩ : g = b2 ∧ 0 = o2 := by injection hA2 with hA; injection hA; exact ⟨‹_›, ‹_›⟩
  simp only [Nat.zero_add] at ca cb cl
  clear hA0 hA1 hA2
  have ha2 := HPT.out a (List.mem_of_getElem? ha.out)
  have hb22 := HPT.out b (List.mem_of_getElem? hb.out)
  have hl2 := HPT.out l (List.mem_of_getElem? hl.out)
  have HXE : Hid (rdG W = ⟨a, l, actL b 3⟩) := by
    unfold Hid rdG
    rw [getD_at ha.out, getD_at hb.out, getD_at hl.out]
  have HG4 := hide (HGD.out HLN.out)
  have HI4 := hide (HIF.out HLN.out)
  rw [HXE.out] at HG4 HI4 HBD
  clear HGD HIF HXE HSH HPT HRW HO ha hb hl HLN
  have KS : Hid (∀ W, Below w2.heap.size w2 W → W.cell? ⟨g, 0, none⟩ = some (.string a) ∧ W.cell? ⟨g, 1, none⟩ = some (.string b) ∧ W.cell? ⟨g, 2, none⟩ = some (.string l)) := fun W hW => ⟨(hW.cell (p := ⟨g, 0, none⟩) hgs).trans ca, (hW.cell (p := ⟨g, 1, none⟩) hgs).trans cb, (hW.cell (p := ⟨g, 2, none⟩) hgs).trans cl⟩
  go_wp2
  go_region_held3 (fun W => W.cell? ⟨g, 0, none⟩ = some (.string a) ∧ W.cell? ⟨g, 1, none⟩ = some (.string b) ∧ W.cell? ⟨g, 2, none⟩ = some (.string l))
    (first | exact ⟨ca, cb, cl⟩ | exact KS.out _ (Below.refl _ _).drew | exact KS.out _ ((Below.refl _ _).alloc (Nat.le_refl _) _).drew | exact KS.out _ ((Below.refl _ _).drew.alloc (Nat.le_refl _) _))
    (first | fail)
  have hw : Below w2.heap.size w2 (w2.alloc (.cells #[.string a, .string l, .int .i64 0] 51)).drew := ((Below.refl _ _).alloc (Nat.le_refl _) _).drew
  have HX : Hid (At3 51 (w2.alloc (.cells #[.string a, .string l, .int .i64 0] 51)).drew w2.heap.size (.string a) (.string l) (.int .i64 0)) := At3.new _ w2 _ _ _
  have hx : w2.heap.size < (w2.alloc (.cells #[.string a, .string l, .int .i64 0] 51)).drew.heap.size := by simp
  generalize (w2.alloc (.cells #[.string a, .string l, .int .i64 0] 51)).drew = w3 at *
  have HN := hide fun (k : Nat) (W : World) => implActionName_calls ((k : Int) + 1) W
  go_wp2
  go_loopw [6] (fun i wr => ∃ (K : Nat), K ≤ 3 ∧ i = .int .i64 ((K : Int) + 1) ∧ Hid (At3 51 wr w2.heap.size (.string a) (.string l) (.int .i64 (actL b K))) ∧ Below w2.heap.size w2 wr ∧ w2.heap.size < wr.heap.size) (fun i _ => 4 - (intOf i).toNat)
  case atStart => exact ⟨0, by omega, rfl, HX, hw, hx⟩
  case round =>
    obtain ⟨K, hK, rfl, HK, hb, hz⟩ := hrel
    clear HX hw hx
    by_cases hlt : K < 3
    · obtain ⟨p0, p1, p2, z0, z1, z2⟩ := HK.out.out
      obtain ⟨k0, k1, k2⟩ := KS.out wr hb
      have g1 : decide ((K : Int) + 1 ≤ 3) = true := by simp; omega
      by_cases hq : actName ((K : Int) + 1) = b
      · have HE : Hid (actL b (K + 1) = (K : Int) + 1) := by unfold Hid; rw [actL, if_pos hq]
        have g3 := (str_eq hq).1
        clear hq
        go_wp2
        go_region_held3 (fun W => W.cell? ⟨g, 1, none⟩ = some (.string b))
          (first | exact k1 | exact (KS.out _ (hb.drew.trans (hbn.mono hb.size))).2.1)
          (first | (go_at_call 77; (with_reducible refine (HN.out K _).mono ?_); rintro e wn ⟨rfl, hbn⟩) | fail)
        have hb9 := hb.drew.trans (hbn.mono hb.size)
        have HA9 : At3 51 wn w2.heap.size (.string a) (.string l) (.int .i64 (actL b K)) := At3.below (w := wr.drew) HK.out hbn hz
        have hz9 : w2.heap.size < wn.heap.size := Nat.lt_of_lt_of_le hz hbn.size
        clear p0 p1 p2 z0 z1 z2 k0 k1 k2
        obtain ⟨p0, p1, p2, z0, z1, z2⟩ := HA9.out
        have HA10 : Hid (At3 51 (wn.setCell ⟨w2.heap.size, 2, none⟩ (.int .i64 ((K : Int) + 1))) w2.heap.size (.string a) (.string l) (.int .i64 ((K : Int) + 1))) := HA9.set2
        clear HA9 HK
        go_wp2
        go_roundw
        case rel => exact ⟨K + 1, by omega, by go_num, by rw [HE.out]; exact HA10, hb9.setCell (Nat.le_refl _) _, by rw [World.size_setCell]; exact hz9⟩
        case measure => simp [intOf]; omega
      · have HE : Hid (actL b (K + 1) = actL b K) := by unfold Hid; rw [actL, if_neg hq]
        have g3 := (str_ne hq).1
        clear hq
        go_wp2
        go_region_held3 (fun W => W.cell? ⟨g, 1, none⟩ = some (.string b))
          (first | exact k1 | exact (KS.out _ (hb.drew.trans (hbn.mono hb.size))).2.1)
          (first | (go_at_call 77; (with_reducible refine (HN.out K _).mono ?_); rintro e wn ⟨rfl, hbn⟩) | fail)
        have hb9 := hb.drew.trans (hbn.mono hb.size)
        have HA9 : Hid (At3 51 wn w2.heap.size (.string a) (.string l) (.int .i64 (actL b K))) := At3.below (w := wr.drew) HK.out hbn hz
        have hz9 : w2.heap.size < wn.heap.size := Nat.lt_of_lt_of_le hz hbn.size
        clear p0 p1 p2 z0 z1 z2 k0 k1 k2 HK
        go_wp2
        go_roundw
        case rel => exact ⟨K + 1, by omega, by go_num, by rw [HE.out]; exact HA9, hb9, hz9⟩
        case measure => simp [intOf]; omega
    · obtain rfl : K = 3 := by omega
      clear hlt
      have HT := hide fun (W : World) => implGrantText_calls ⟨a, l, actL b 3⟩ W ⟨by show a.size ≤ 1048576; omega, by show l.size ≤ 1048576; omega⟩
      have hbb := hB2.trans (hb.mono hB2.size)
      have HQ := hide (HR2.out.below hb (Nat.lt_of_lt_of_le hz1 hb2.size))
      have hzq : w.heap.size < wr.heap.size := Nat.lt_of_lt_of_le (Nat.lt_of_lt_of_le hz1 hb2.size) hb.size
      simp only at HT
      generalize actL b 3 = k at *
      obtain ⟨p0, p1, p2, z0, z1, z2⟩ := HK.out.out
      rcases b_cases (fineG ⟨a, l, k⟩) with hf | hf
      · have HV := hide (HBD.out hf)
        have g3 := (str_ne (show grantText ⟨a, l, k⟩ ≠ s from fun e => by rw [HI4.out.1 e] at hf; exact absurd hf (by simp))).1
        clear hf HG4 HI4 HBD
        generalize grantText ⟨a, l, k⟩ = gt at *
        go_wp2_with fail
        refine (HT.out _).mono ?_
        rintro e w5 ⟨rfl, hb5⟩
        clear p0 p1 p2 z0 z1 z2
        obtain ⟨p0, p1, p2, z0, z1, z2⟩ := (HQ.out.below hb5 hzq).out
        have hB5 := hbb.trans (hb5.mono hbb.size)
        go_wp2
        refine bodyPost_ret (v := .tuple #[.agg #[.string ⟨#[]⟩, .string ⟨#[]⟩, .int .i64 0], .bool false]) (by simp [results, Tryd.results32, go_sem, *]) rfl ?_
        exact grb_of HV.out (below_set3 hB5 (Nat.le_refl _))
      · have HV := hide (HG4.out hf)
        have g3 := (str_eq (HI4.out.2 hf)).1
        clear hf HG4 HI4 HBD
        generalize grantText ⟨a, l, k⟩ = gt at *
        go_wp2_with fail
        refine (HT.out _).mono ?_
        rintro e w5 ⟨rfl, hb5⟩
        clear p0 p1 p2 z0 z1 z2
        obtain ⟨p0, p1, p2, z0, z1, z2⟩ := (HQ.out.below hb5 hzq).out
        obtain ⟨y0, y1, y2, _, _, _⟩ := (HK.out.below hb5 hz).out
        have hB5 := hbb.trans (hb5.mono hbb.size)
        go_wp2
        refine bodyPost_ret (v := .tuple #[.agg #[.string a, .string l, .int .i64 k], .bool true]) (by simp [results, Tryd.results32, go_sem, *]) rfl ?_
        exact grb_of HV.out (below_set3 hB5 (Nat.le_refl _))

set_option maxRecDepth 100000 in
set_option maxHeartbeats 8000000 in
theorem l28Read_calls (s : ByteArray) (w : World) (hs : s.size ≤ 1048576) :
    Calls Tryd.prog 76 #[.string s] w (GrBPost (rgV s) (rgC s) w) := by
  obtain ⟨W1, hW1⟩ : ∃ W1, W1 = w.alloc (.cells #[.string ⟨#[]⟩, .string ⟨#[]⟩, .int .i64 0] 51) := ⟨_, rfl⟩
  have hB1 : Below w.heap.size w W1 := by rw [hW1]; exact (Below.refl _ _).alloc (Nat.le_refl _) _
  have HR1 : Hid (At3 51 W1 w.heap.size (.string ⟨#[]⟩) (.string ⟨#[]⟩) (.int .i64 0)) := by rw [hW1]; exact At3.new _ _ _ _ _
  have hz1 : w.heap.size < W1.heap.size := by rw [hW1]; simp
  have HSP : Hid (Calls Tryd.prog 122 #[.string s, .int .u8 32] W1 (PartsPost (splitS 32 s) W1)) := l01Split_calls s 32 W1 hs
  have HPT : Hid (∀ p ∈ splitS 32 s, p.size ≤ s.size) := splitS_part 32 s
  have HSH : Hid ((splitS 32 s).length ≠ 3 → rgC s = false ∧ rgV s = ⟨⟨#[]⟩, ⟨#[]⟩, 0⟩) := rg_short
  have HBD : Hid (fineG (rdG (splitS 32 s)) = false → rgC s = false ∧ rgV s = ⟨⟨#[]⟩, ⟨#[]⟩, 0⟩) := rg_bad
  have HGD : Hid ((splitS 32 s).length = 3 → fineG (rdG (splitS 32 s)) = true → rgC s = true ∧ rgV s = rdG (splitS 32 s)) := rg_good
  generalize splitS 32 s = W at *
  go_enter Tryd.func76, Tryd.ntmps76
  go_wp2_with fail
  rw [← hW1]
  clear hW1
  refine HSP.out.mono ?_
  rintro e w2 ⟨A, n, c, rfl, hown, hlen, hb2⟩
  have hB2 := hB1.trans (hb2.mono hB1.size)
  have HR2 : Hid (At3 51 w2 w.heap.size (.string ⟨#[]⟩) (.string ⟨#[]⟩) (.int .i64 0)) := HR1.out.below hb2 hz1
  have HO := hide hown
  have HLN := hide hlen
  clear hown hlen HSP
  by_cases h3 : n = 3
  case neg =>
    have HV := hide (HSH.out (by rw [HLN.out]; exact h3))
    have g1 : ((n : Int) != 3) = true := by simp; omega
    obtain ⟨q0, q1, q2, f0, f1, f2⟩ := HR2.out.out
    clear h3
    go_wp2
    refine bodyPost_ret (v := .tuple #[.agg #[.string ⟨#[]⟩, .string ⟨#[]⟩, .int .i64 0], .bool false]) (by simp [results, Tryd.results76, go_sem, *]) rfl ?_
    exact grb_of HV.out (below_set3 hB2 (Nat.le_refl _))
  subst h3
  have hcap := own_cap HO.out
  obtain ⟨g, rfl, hgb⟩ := own_addrB HO.out (by omega)
  have HRW : Hid (RdK kB w2 (some ⟨g, 0, none⟩) 3 W) := RdK.of_own (K := kB) HO.out HLN.out (fun x hx => by have := HPT.out x hx; show x.size ≤ 9223372036854775807; omega)
  obtain ⟨b0, o0, a, hA0, hgs, ha, ca, _⟩ := HRW.out.atB (show 0 < 3 by omega)
  obtain ⟨rfl, rfl⟩ : g = b0 ∧ 0 = o0 := by injection hA0 with hA; injection hA; exact ⟨‹_›, ‹_›⟩
  obtain ⟨b1, o1, b, hA1, _, hb, cb, _⟩ := HRW.out.atB (show 1 < 3 by omega)
  obtain ⟨rfl, rfl⟩ : g = b1 ∧ 0 = o1 := by injection hA1 with hA; injection hA; exact ⟨‹_›, ‹_›⟩
  obtain ⟨b2, o2, l, hA2, _, hl, cl, _⟩ := HRW.out.atB (show 2 < 3 by omega)
  obtain ⟨rfl, rfl⟩ : g = b2 ∧ 0 = o2 := by injection hA2 with hA; injection hA; exact ⟨‹_›, ‹_›⟩
  simp only [Nat.zero_add] at ca cb cl
  clear hA0 hA1 hA2
  have ha2 := HPT.out a (List.mem_of_getElem? ha.out)
  have hb22 := HPT.out b (List.mem_of_getElem? hb.out)
  have hl2 := HPT.out l (List.mem_of_getElem? hl.out)
  have HXE : Hid (rdG W = ⟨a, l, actL b 3⟩) := by
    unfold Hid rdG
    rw [getD_at ha.out, getD_at hb.out, getD_at hl.out]
  have HG4 := hide (HGD.out HLN.out)
  rw [HXE.out] at HG4 HBD
  clear HGD HXE HSH HPT HRW HO ha hb hl HLN
  have KS : Hid (∀ W, Below w2.heap.size w2 W → W.cell? ⟨g, 0, none⟩ = some (.string a) ∧ W.cell? ⟨g, 1, none⟩ = some (.string b) ∧ W.cell? ⟨g, 2, none⟩ = some (.string l)) := fun W hW => ⟨(hW.cell (p := ⟨g, 0, none⟩) hgs).trans ca, (hW.cell (p := ⟨g, 1, none⟩) hgs).trans cb, (hW.cell (p := ⟨g, 2, none⟩) hgs).trans cl⟩
  go_wp2
  go_region_held3 (fun W => W.cell? ⟨g, 0, none⟩ = some (.string a) ∧ W.cell? ⟨g, 1, none⟩ = some (.string b) ∧ W.cell? ⟨g, 2, none⟩ = some (.string l))
    (first | exact ⟨ca, cb, cl⟩ | exact KS.out _ (Below.refl _ _).drew | exact KS.out _ ((Below.refl _ _).alloc (Nat.le_refl _) _).drew | exact KS.out _ ((Below.refl _ _).drew.alloc (Nat.le_refl _) _))
    (first | fail)
  have hw : Below w2.heap.size w2 (w2.alloc (.cells #[.string a, .string l, .int .i64 0] 51)).drew := ((Below.refl _ _).alloc (Nat.le_refl _) _).drew
  have HX : Hid (At3 51 (w2.alloc (.cells #[.string a, .string l, .int .i64 0] 51)).drew w2.heap.size (.string a) (.string l) (.int .i64 0)) := At3.new _ w2 _ _ _
  have hx : w2.heap.size < (w2.alloc (.cells #[.string a, .string l, .int .i64 0] 51)).drew.heap.size := by simp
  generalize (w2.alloc (.cells #[.string a, .string l, .int .i64 0] 51)).drew = w3 at *
  have HN := hide fun (k : Nat) (W : World) => l28Name_calls ((k : Int) + 1) W
  go_wp2
  go_loopw [6] (fun i wr => ∃ (K : Nat), K ≤ 3 ∧ i = .int .i64 ((K : Int) + 1) ∧ Hid (At3 51 wr w2.heap.size (.string a) (.string l) (.int .i64 (actL b K))) ∧ Below w2.heap.size w2 wr ∧ w2.heap.size < wr.heap.size) (fun i _ => 4 - (intOf i).toNat)
  case atStart => exact ⟨0, by omega, rfl, HX, hw, hx⟩
  case round =>
    obtain ⟨K, hK, rfl, HK, hb, hz⟩ := hrel
    clear HX hw hx
    by_cases hlt : K < 3
    · obtain ⟨p0, p1, p2, z0, z1, z2⟩ := HK.out.out
      obtain ⟨k0, k1, k2⟩ := KS.out wr hb
      have g1 : decide ((K : Int) + 1 ≤ 3) = true := by simp; omega
      by_cases hq : actName ((K : Int) + 1) = b
      · have HE : Hid (actL b (K + 1) = (K : Int) + 1) := by unfold Hid; rw [actL, if_pos hq]
        have g3 := (str_eq hq).1
        clear hq
        go_wp2
        go_quiet ((go_at_call 127; exact Calls.quiet_of_same ((HN.out K _).mono fun _ _ hh => ⟨hh.1, hh.2.symm⟩)))
        have hb9 := below_drewN hb nq
        have HA9 : At3 51 (wr.drewN nq) w2.heap.size (.string a) (.string l) (.int .i64 (actL b K)) := HK.out
        have hz9 : w2.heap.size < (wr.drewN nq).heap.size := hz
        clear p0 p1 p2 z0 z1 z2 k0 k1 k2
        obtain ⟨p0, p1, p2, z0, z1, z2⟩ := HA9.out
        have HA10 : Hid (At3 51 ((wr.drewN nq).setCell ⟨w2.heap.size, 2, none⟩ (.int .i64 ((K : Int) + 1))) w2.heap.size (.string a) (.string l) (.int .i64 ((K : Int) + 1))) := HA9.set2
        clear HA9 HK
        go_wp2
        go_roundw
        case rel => exact ⟨K + 1, by omega, by go_num, by rw [HE.out]; exact HA10, hb9.setCell (Nat.le_refl _) _, by rw [World.size_setCell]; exact hz9⟩
        case measure => simp [intOf]; omega
      · have HE : Hid (actL b (K + 1) = actL b K) := by unfold Hid; rw [actL, if_neg hq]
        have g3 := (str_ne hq).1
        clear hq
        go_wp2
        go_quiet ((go_at_call 127; exact Calls.quiet_of_same ((HN.out K _).mono fun _ _ hh => ⟨hh.1, hh.2.symm⟩)))
        have hb9 := below_drewN hb nq
        have HA9 : Hid (At3 51 (wr.drewN nq) w2.heap.size (.string a) (.string l) (.int .i64 (actL b K))) := HK.out
        have hz9 : w2.heap.size < (wr.drewN nq).heap.size := hz
        clear p0 p1 p2 z0 z1 z2 k0 k1 k2 HK
        go_wp2
        go_roundw
        case rel => exact ⟨K + 1, by omega, by go_num, by rw [HE.out]; exact HA9, hb9, hz9⟩
        case measure => simp [intOf]; omega
    · obtain rfl : K = 3 := by omega
      clear hlt
      have HT := hide (l28Fine_calls ⟨a, l, actL b 3⟩ w2.heap.size 0 wr ⟨by show a.size ≤ 1048576; omega, by show l.size ≤ 1048576; omega⟩ HK.out.out.1 HK.out.out.2.1 HK.out.out.2.2.1)
      have hbb := hB2.trans (hb.mono hB2.size)
      have HQ := hide (HR2.out.below hb (Nat.lt_of_lt_of_le hz1 hb2.size))
      obtain ⟨y0, y1, y2, _, _, _⟩ := HK.out.out
      obtain ⟨p0, p1, p2, z0, z1, z2⟩ := HQ.out.out
      generalize actL b 3 = k at *
      rcases b_cases (fineG ⟨a, l, k⟩) with hf | hf
      · have HV := hide (HBD.out hf)
        rw [hf] at HT
        clear hf HG4 HBD
        go_wp2_with fail
        refine HT.out.mono ?_
        rintro e w5 ⟨rfl, rfl⟩
        go_wp2
        refine bodyPost_ret (v := .tuple #[.agg #[.string ⟨#[]⟩, .string ⟨#[]⟩, .int .i64 0], .bool false]) (by simp [results, Tryd.results76, go_sem, *]) rfl ?_
        exact grb_of HV.out (below_set3 hbb (Nat.le_refl _))
      · have HV := hide (HG4.out hf)
        rw [hf] at HT
        clear hf HG4 HBD
        go_wp2_with fail
        refine HT.out.mono ?_
        rintro e w5 ⟨rfl, rfl⟩
        go_wp2
        refine bodyPost_ret (v := .tuple #[.agg #[.string a, .string l, .int .i64 k], .bool true]) (by simp [results, Tryd.results76, go_sem, *]) rfl ?_
        exact grb_of HV.out (below_set3 hbb (Nat.le_refl _))

set_option maxHeartbeats 1000000 in
theorem specReadGrant_calls (s : ByteArray) (w : World) (hs : s.size ≤ 1048576) :
    Calls Tryd.prog 31 #[.string s] w (GrBPost (rgV s) (rgC s) w) := by
  obtain ⟨W1, hW1⟩ : ∃ W1, W1 = w.alloc (.cells #[.string ⟨#[]⟩, .string ⟨#[]⟩, .int .i64 0] 51) := ⟨_, rfl⟩
  have hB1 : Below w.heap.size w W1 := by rw [hW1]; exact (Below.refl _ _).alloc (Nat.le_refl _) _
  have HR1 : Hid (At3 51 W1 w.heap.size (.string ⟨#[]⟩) (.string ⟨#[]⟩) (.int .i64 0)) := by rw [hW1]; exact At3.new _ _ _ _ _
  have hz1 : w.heap.size < W1.heap.size := by rw [hW1]; simp
  have HS := hide (l28Read_calls s W1 hs)
  unfold GrBPost at HS
  generalize rgV s = V at *
  generalize rgC s = C at *
  obtain ⟨r, o, k⟩ := V
  simp only at HS
  go_enter Tryd.func31, Tryd.ntmps31
  go_wp2_with fail
  rw [← hW1]
  clear hW1
  refine HS.out.mono ?_
  rintro e w2 ⟨rfl, hb2⟩
  obtain ⟨p0, p1, p2, z0, z1, z2⟩ := (HR1.out.below hb2 hz1).out
  have hB2 := hB1.trans (hb2.mono hB1.size)
  go_wp2
  refine bodyPost_ret (v := .tuple #[.agg #[.string r, .string o, .int .i64 k], .bool C]) (by simp [results, Tryd.results31, go_sem, *]) rfl ?_
  exact grb_of ⟨rfl, rfl⟩ (below_set3 hB2 (Nat.le_refl _))

end Go.Proofs.YtlomloepdnojoaaDoor
