/- ReadLine of the program. -/
import Derived.Test.YtcclfmapbgdpdaaGreatDoorReadZ
import Derived.Test.YtcclfmapbgdpdaaGreatDoorNum
import Derived.Test.YtcclfmapbgdpdaaGreatDoorSplitS
namespace Go.Proofs.YtcclfmapbgdpdaaGreatDoor
open Go.RowKit
set_option linter.unusedVariables false

/-- A reader of a line gives a line and whether it was one. -/
def LinBPost (V : LineZ) (C : Bool) (w : World) (e : Ending) (w' : World) : Prop :=
  e = .returned (.tuple #[.agg #[.int .i64 V.day, .int .i64 V.minute, .string V.text, .int .i64 V.crc], .bool C]) ∧ Below w.heap.size w w'
theorem linb_of {V : LineZ} {C c : Bool} {d m k : Int} {t : ByteArray} {w w' : World} (h : C = c ∧ V = ⟨d, m, t, k⟩) (hb : Below w.heap.size w w') : LinBPost V C w (.returned (.tuple #[.agg #[.int .i64 d, .int .i64 m, .string t, .int .i64 k], .bool c])) w' := by
  obtain ⟨rfl, rfl⟩ := h
  exact ⟨rfl, hb⟩

/-- The first k lines with their seals made anew, the others as they were. -/
def mixR (xs : List LineZ) (k : Nat) : List LineZ := madeZ (xs.take k) ++ xs.drop k

/-- A block of a line. -/
def At4 (w : World) (B : Nat) (a0 a1 a2 a3 : Value) : Prop := w.heap[B]? = some (.cells #[a0, a1, a2, a3] 48 (0, 0))
theorem At4.below {w w' : World} {B base : Nat} {a0 a1 a2 a3 : Value} (h : At4 w B a0 a1 a2 a3) (hb : Below base w w') (hB : B < base) : At4 w' B a0 a1 a2 a3 := (hb.block B hB).trans h
theorem At4.other {w : World} {B C k : Nat} {a0 a1 a2 a3 u : Value} (h : At4 w B a0 a1 a2 a3) (hC : B ≠ C) : At4 (w.setCell ⟨C, k, none⟩ u) B a0 a1 a2 a3 := (heap_setCell_other _ _ _ _ hC).trans h
theorem At4.set0 {w : World} {B : Nat} {a0 a1 a2 a3 u : Value} (h : At4 w B a0 a1 a2 a3) : At4 (w.setCell ⟨B, 0, none⟩ u) B u a1 a2 a3 := heap_setCell_same w B 0 _ _ u h
theorem At4.set1 {w : World} {B : Nat} {a0 a1 a2 a3 u : Value} (h : At4 w B a0 a1 a2 a3) : At4 (w.setCell ⟨B, 1, none⟩ u) B a0 u a2 a3 := heap_setCell_same w B 1 _ _ u h
theorem At4.set3 {w : World} {B : Nat} {a0 a1 a2 a3 u : Value} (h : At4 w B a0 a1 a2 a3) : At4 (w.setCell ⟨B, 3, none⟩ u) B a0 a1 a2 u := heap_setCell_same w B 3 _ _ u h
theorem At4.new (w : World) (a0 a1 a2 a3 : Value) : At4 (w.alloc (.cells #[a0, a1, a2, a3] 48)) w.heap.size a0 a1 a2 a3 := heap_alloc_new w _
theorem At4.out {w : World} {B : Nat} {a0 a1 a2 a3 : Value} (h : At4 w B a0 a1 a2 a3) : w.cell? ⟨B, 0, none⟩ = some a0 ∧ w.cell? ⟨B, 1, none⟩ = some a1 ∧ w.cell? ⟨B, 2, none⟩ = some a2 ∧ w.cell? ⟨B, 3, none⟩ = some a3 ∧
    w.frozen? ⟨B, 0, none⟩ = false ∧ w.frozen? ⟨B, 1, none⟩ = false ∧ w.frozen? ⟨B, 2, none⟩ = false ∧ w.frozen? ⟨B, 3, none⟩ = false := by
  have d0 := cell_of_row _ B 0 _ _ _ h
  have d1 := cell_of_row _ B 1 _ _ _ h
  have d2 := cell_of_row _ B 2 _ _ _ h
  have d3 := cell_of_row _ B 3 _ _ _ h
  simp at d0 d1 d2 d3
  exact ⟨d0, d1, d2, d3, frozen_of_row _ B 0 _ _ h, frozen_of_row _ B 1 _ _ h, frozen_of_row _ B 2 _ _ h, frozen_of_row _ B 3 _ _ h⟩
theorem below_set4 {w w' : World} {B C : Nat} {u0 u1 u2 u3 : Value} (h : Below B w w') (hC : B ≤ C) : Below B w ((((w'.setCell ⟨C, 0, none⟩ u0).setCell ⟨C, 1, none⟩ u1).setCell ⟨C, 2, none⟩ u2).setCell ⟨C, 3, none⟩ u3) :=
  (((h.setCell hC _).setCell hC _).setCell hC _).setCell hC _
theorem mid_size {s : ByteArray} : ((rdX (splitS 32 s)).text).size ≤ s.size := by
  have hsp : (splitS 32 s).map bs = splitL 32 (bs s) := by
    unfold splitS
    rw [List.map_map]
    conv => rhs; rw [← List.map_id (splitL 32 (bs s))]
    exact List.map_congr_left fun x _ => by simp [bs]
  have hj : Lib.join ((splitS 32 s).map bs) [32] = bs s := by rw [hsp, join_split]
  generalize splitS 32 s = W at *
  have key : ∀ (xs ys : List (List UInt8)), (Lib.join xs [32]).length ≤ (Lib.join (xs ++ ys) [32]).length := by
    intro xs ys
    cases xs with
    | nil => simp [Lib.join_nil]
    | cons x r => rw [List.cons_append, Lib.join_cons, Lib.join_cons]; simp [Lib.joinTail]
  have key2 : ∀ (k : Nat) (xs : List (List UInt8)), (Lib.join (xs.drop k) [32]).length ≤ (Lib.join xs [32]).length := by
    intro k
    induction k with
    | zero => intro xs; exact Nat.le_refl _
    | succ k ih =>
      intro xs
      cases xs with
      | nil => exact Nat.le_refl _
      | cons x r =>
        rw [List.drop_succ_cons]
        refine Nat.le_trans (ih r) ?_
        cases r with
        | nil => simp [Lib.join_nil]
        | cons y r => rw [join_two 32 x (by simp)]; simp; omega
  have h1 := key2 2 ((W.map bs).take (W.length - 1))
  have h2 := key ((W.map bs).take (W.length - 1)) ((W.map bs).drop (W.length - 1))
  rw [List.take_append_drop, hj] at h2
  have e : (rdX W).text.size = (Lib.join (((W.map bs).take (W.length - 1)).drop 2) [32]).length := by
    show (bs (joinS ((W.take (W.length - 1)).drop 2))).length = _
    rw [bs_joinS, List.map_drop, List.map_take]
  rw [e]
  have h3 := bs_len s
  omega

set_option maxRecDepth 100000 in
set_option maxHeartbeats 8000000 in
theorem implReadLine_calls (s : ByteArray) (w : World) (hT : TabPM w) (hE : TabE w) (hs : s.size ≤ 1048576) :
    Calls Tryz.prog 29 #[.string s] w (LinBPost (readV s) (readC s) w) := by
  obtain ⟨W1, hW1⟩ : ∃ W1, W1 = w.alloc (.cells #[.int .i64 0, .int .i64 0, .string ⟨#[]⟩, .int .i64 0] 48) := ⟨_, rfl⟩
  have hB1 : Below w.heap.size w W1 := by rw [hW1]; exact (Below.refl _ _).alloc (Nat.le_refl _) _
  have HR1 : Hid (At4 W1 w.heap.size (.int .i64 0) (.int .i64 0) (.string ⟨#[]⟩) (.int .i64 0)) := by rw [hW1]; exact At4.new _ _ _ _ _
  have hz1 : w.heap.size < W1.heap.size := by rw [hW1]; simp
  have HSP := hide (split_calls s W1 (hT.2.here hB1) hs)
  have hle := splitS_le 32 s
  have HPT : Hid (∀ p ∈ splitS 32 s, p.size ≤ s.size) := splitS_part 32 s
  have HSH : Hid ((splitS 32 s).length < 4 → readC s = false ∧ readV s = ⟨0, 0, ⟨#[]⟩, 0⟩) := read_short
  have HBD : Hid ((rdN (splitS 32 s) && lineB (rdX (splitS 32 s))) = false → readC s = false ∧ readV s = ⟨0, 0, ⟨#[]⟩, 0⟩) := read_bad
  have HGD : Hid (4 ≤ (splitS 32 s).length → (rdN (splitS 32 s) && lineB (rdX (splitS 32 s))) = true → readC s = true ∧ readV s = rdX (splitS 32 s)) := read_good
  have HMS : Hid ((rdX (splitS 32 s)).text.size ≤ s.size) := mid_size
  have HIF : Hid (4 ≤ (splitS 32 s).length → (printL (rdX (splitS 32 s)) = s ↔ rdN (splitS 32 s) = true)) := read_iff
  generalize splitS 32 s = W at *
  go_enter Tryz.func29, Tryz.ntmps29
  go_wp2_with fail
  rw [← hW1]
  clear hW1
  refine HSP.out.mono ?_
  rintro e w2 ⟨A, n, c, rfl, hown, hlen, hb2⟩
  have hB2 := hB1.trans (hb2.mono hB1.size)
  have HR2 : Hid (At4 w2 w.heap.size (.int .i64 0) (.int .i64 0) (.string ⟨#[]⟩) (.int .i64 0)) := HR1.out.below hb2 hz1
  have HO := hide hown
  have HLN := hide hlen
  have hle2 : n ≤ s.size + 1 := by omega
  clear hown hlen hle HSP
  by_cases h4 : n < 4
  · have HV := hide (HSH.out (by rw [HLN.out]; exact h4))
    have g1 : decide ((n : Int) - 1 < 3) = true := by simp; omega
    obtain ⟨q0, q1, q2, q3, f0, f1, f2, f3⟩ := HR2.out.out
    clear h4
    go_wp2
    refine bodyPost_ret (v := .tuple #[.agg #[.int .i64 0, .int .i64 0, .string ⟨#[]⟩, .int .i64 0], .bool false]) (by simp [results, Tryz.results29, go_sem, *]) rfl ?_
    exact linb_of HV.out (below_set4 hB2 (Nat.le_refl _))
  obtain ⟨m, rfl⟩ : ∃ m, n = m + 4 := ⟨n - 4, by omega⟩
  clear h4
  have hcap := own_cap HO.out
  obtain ⟨g, rfl, hgb⟩ := own_addrB HO.out (by omega)
  have HRW : Hid (RdK kB w2 (some ⟨g, 0, none⟩) (m + 4) W) := RdK.of_own (K := kB) HO.out HLN.out (fun x hx => by have := HPT.out x hx; show x.size ≤ 9223372036854775807; omega)
  have hgs : g < w2.heap.size := by
    obtain ⟨b, off, x, hA, hb, _⟩ := HRW.out.atB (show 0 < m + 4 by omega)
    injection hA with hA
    injection hA with h1 _
    omega
  have HJ : Hid (Calls Tryz.prog 80 #[.slice (some ⟨g, 2, none⟩) (m + 1) (c - 2), .string ⟨#[32]⟩] w2 fun e w' => e = .returned (.string (rdX W).text) ∧ Below w2.heap.size w2 w') := by
    have hl : ((W.take (W.length - 1)).drop 2).length = m + 1 := by rw [List.length_drop, List.length_take, HLN.out]; omega
    have := Tryz.strings_Join g 2 (c - 2) ((W.take (W.length - 1)).drop 2) ⟨#[32]⟩ w2 (by
      intro j x hx
      have hj := (List.getElem?_eq_some_iff.1 hx).1
      rw [hl] at hj
      obtain ⟨b, off, y, hA, hb, hy, hc, _⟩ := HRW.out.atB (show 2 + j < m + 4 by omega)
      injection hA with hA
      injection hA with h1 h2
      subst h1
      subst h2
      rw [List.getElem?_drop, List.getElem?_take, if_pos (by rw [HLN.out]; omega), hy.out] at hx
      rw [← Option.some.inj hx]
      simpa using hc) hgs (by rw [hl]; omega) (by rw [hl]; omega) (by
      have := join_len 32 1048576 (((W.take (W.length - 1)).drop 2).map (·.data.toList)) (by
        intro x hx
        obtain ⟨y, hy, rfl⟩ := List.mem_map.1 hx
        have := HPT.out y (List.mem_of_mem_take (List.mem_of_mem_drop hy))
        have e : y.data.toList.length = y.size := bs_len y
        show y.data.toList.length ≤ 1048576
        omega)
      rw [List.length_map, hl] at this
      have e : (m + 1) * (1048576 + 1) ≤ 1048577 * 1048577 := Nat.mul_le_mul (by omega) (by omega)
      have e2 : (1048577 : Nat) * 1048577 ≤ 140737488355328 := by decide
      exact Nat.le_trans this (Nat.le_trans e e2))
    rw [hl] at this
    exact this
  obtain ⟨b0, o0, a, hA0, _, ha, ca, _⟩ := HRW.out.atB (show 0 < m + 4 by omega)
  obtain ⟨rfl, rfl⟩ : g = b0 ∧ 0 = o0 := by injection hA0 with hA; injection hA; exact ⟨‹_›, ‹_›⟩
  obtain ⟨b1, o1, b, hA1, _, hb, cb, _⟩ := HRW.out.atB (show 1 < m + 4 by omega)
  obtain ⟨rfl, rfl⟩ : g = b1 ∧ 0 = o1 := by injection hA1 with hA; injection hA; exact ⟨‹_›, ‹_›⟩
  obtain ⟨b2, o2, l, hA2, _, hl, cl, _⟩ := HRW.out.atB (show m + 3 < m + 4 by omega)
  obtain ⟨rfl, rfl⟩ : g = b2 ∧ 0 = o2 := by injection hA2 with hA; injection hA; exact ⟨‹_›, ‹_›⟩
  simp only [Nat.zero_add] at ca cb cl
  clear hA0 hA1 hA2
  have ha2 := HPT.out a (List.mem_of_getElem? ha.out)
  have hb22 := HPT.out b (List.mem_of_getElem? hb.out)
  have hl2 := HPT.out l (List.mem_of_getElem? hl.out)
  have HXE : Hid (rdX W = ⟨numV (bs a), numV (bs b), (rdX W).text, numV (bs l)⟩) := by
    unfold Hid rdX
    rw [HLN.out, getD_atB ha.out, getD_atB hb.out, show m + 4 - 1 = m + 3 by omega, getD_atB hl.out]
  have hF : kLine.fine (rdX W) := by
    rw [HXE.out]
    exact ⟨numV_I64 _, numV_I64 _, by have := HMS.out; show (rdX W).text.size ≤ 9223372036854775807; omega, numV_I64 _⟩
  have hms := HMS.out
  have HG4 := hide (HGD.out (by rw [HLN.out]; omega))
  have HI4 := hide (HIF.out (by rw [HLN.out]; omega))
  generalize rdX W = x at *
  obtain ⟨x0, x1, t, x3⟩ := x
  obtain ⟨rfl, rfl, rfl⟩ : x0 = numV (bs a) ∧ x1 = numV (bs b) ∧ x3 = numV (bs l) := by
    have h := HXE.out
    injection h with h1 h2 h3 h4
    exact ⟨h1, h2, h4⟩
  simp only at hms HJ
  have HT : Hid (∀ W, Below w.heap.size w W → TabPM W ∧ TabE W) := fun W hW => ⟨hT.here hW, hE.here hW⟩
  have HRD : Hid (∀ (t : ByteArray) W, Below w.heap.size w W → t.size ≤ 1048576 → Calls Tryz.prog 78 #[.string t] W fun e w' => e = .returned (.tuple #[.int .i64 (numV (bs t)), .bool (numB (bs t))]) ∧ Below W.heap.size W w') := fun t W hW ht => readDecimal_calls t W (hT.here hW).1 (hE.here hW) ht
  have HVL : Hid (∀ W, Below w.heap.size w W → Calls Tryz.prog 99 #[.agg #[.int .i64 (numV (bs a)), .int .i64 (numV (bs b)), .string t, .int .i64 (numV (bs l))]] W fun e w' => e = .returned (.bool (lineB ⟨numV (bs a), numV (bs b), t, numV (bs l)⟩)) ∧ Below W.heap.size W w') := fun W hW => validLine_calls ⟨numV (bs a), numV (bs b), t, numV (bs l)⟩ W (hT.here hW).2 (by show t.size ≤ 1048576; omega)
  have HLT : Hid (∀ W, Below w.heap.size w W → Calls Tryz.prog 30 #[.agg #[.int .i64 (numV (bs a)), .int .i64 (numV (bs b)), .string t, .int .i64 (numV (bs l))]] W fun e w' => e = .returned (.string (textL ⟨numV (bs a), numV (bs b), t, numV (bs l)⟩)) ∧ Below W.heap.size W w') := fun W hW => implLineText_calls ⟨numV (bs a), numV (bs b), t, numV (bs l)⟩ W (hT.here hW) hF (by show t.size ≤ 1048576; omega)
  have HTX : Hid (lineB ⟨numV (bs a), numV (bs b), t, numV (bs l)⟩ = true → textL ⟨numV (bs a), numV (bs b), t, numV (bs l)⟩ = printL ⟨numV (bs a), numV (bs b), t, numV (bs l)⟩) := fun h => by unfold textL; rw [if_pos h]
  have HRa := hide fun W hW => HRD.out a W hW (by omega)
  have HRb := hide fun W hW => HRD.out b W hW (by omega)
  have HRl := hide fun W hW => HRD.out l W hW (by omega)
  clear HIF HGD HSH HLN HPT HRW HO HXE HMS hF hT hE ha hb hl HRD HT
  generalize numV (bs a) = va at *
  generalize numV (bs b) = vb at *
  generalize numV (bs l) = vl at *
  generalize numB (bs a) = na at *
  generalize numB (bs b) = nb at *
  generalize numB (bs l) = nl at *
  go_wp2_with fail
  refine HJ.out.mono ?_
  rintro e w3 ⟨rfl, hb3⟩
  have hB3 := hB2.trans (hb3.mono hB2.size)
  have HA3 := At4.new w3 (.int .i64 0) (.int .i64 0) (.string t) (.int .i64 0)
  have HQ3 := HR2.out.below hb3 (Nat.lt_of_lt_of_le hz1 hb2.size)
  have hX : w.heap.size < w3.heap.size := Nat.lt_of_lt_of_le hz1 (Nat.le_trans hb2.size hb3.size)
  have hgX : g < w3.heap.size := Nat.lt_of_lt_of_le hgs hb3.size
  obtain ⟨W4, hW4⟩ : ∃ W4, W4 = w3.alloc (.cells #[.int .i64 0, .int .i64 0, .string t, .int .i64 0] 48) := ⟨_, rfl⟩
  have hw34 : Below w3.heap.size w3 W4 := by rw [hW4]; exact (Below.refl _ _).alloc (Nat.le_refl _) _
  have hB4 : Below w.heap.size w W4 := hB3.trans (hw34.mono hB3.size)
  have HA4 : Hid (At4 W4 w3.heap.size (.int .i64 0) (.int .i64 0) (.string t) (.int .i64 0)) := by rw [hW4]; exact HA3
  have HQ4 := hide (HQ3.below hw34 hX)
  have hx4 : w3.heap.size < W4.heap.size := by rw [hW4]; simp
  have h24 : Below w2.heap.size w2 W4 := hb3.trans (hw34.mono hb3.size)
  have cg4a := (h24.cell (p := ⟨g, 0, none⟩) hgs).trans ca
  have cg4b := (h24.cell (p := ⟨g, 1, none⟩) hgs).trans cb
  have cg4l := (h24.cell (p := ⟨g, m + 3, none⟩) hgs).trans cl
  have hgX' : g ≠ w3.heap.size := by omega
  have hwX : w.heap.size ≠ w3.heap.size := by omega
  have hg4 : g < W4.heap.size := by omega
  have hq4 : w.heap.size < W4.heap.size := by omega
  have c3a := (hb3.cell (p := ⟨g, 0, none⟩) hgs).trans ca
  clear ca cb cl HJ HR2 HR1 HA3 HQ3 h24 hw34 hB3 hb3 hb2 hB2
  go_wp2_with fail
  rw [← hW4]
  clear hW4 c3a
  refine (HRa.out W4 hB4).mono ?_
  rintro e w5 ⟨rfl, hb5⟩
  obtain ⟨p0, p1, p2, p3, z0, z1, z2, z3⟩ := (HA4.out.below hb5 hx4).out
  have HA5 : Hid (At4 (w5.setCell ⟨w3.heap.size, 0, none⟩ (.int .i64 va)) w3.heap.size (.int .i64 va) (.int .i64 0) (.string t) (.int .i64 0)) := (HA4.out.below hb5 hx4).set0
  have HQ5 : Hid (At4 (w5.setCell ⟨w3.heap.size, 0, none⟩ (.int .i64 va)) w.heap.size (.int .i64 0) (.int .i64 0) (.string ⟨#[]⟩) (.int .i64 0)) := (HQ4.out.below hb5 hq4).other hwX
  have k5 := (hb5.cell (p := ⟨g, 1, none⟩) hg4).trans cg4b
  have j5 := (hb5.cell (p := ⟨g, m + 3, none⟩) hg4).trans cg4l
  have hB5 : Below w.heap.size w (w5.setCell ⟨w3.heap.size, 0, none⟩ (.int .i64 va)) := (hB4.trans (hb5.mono hB4.size)).setCell (by show w.heap.size ≤ w3.heap.size; omega) _
  have hz5 := hb5.size
  clear hb5 HA4 HQ4 cg4a cg4b cg4l hB4
  have hx5 : w3.heap.size < (w5.setCell ⟨w3.heap.size, 0, none⟩ (.int .i64 va)).heap.size := by rw [World.size_setCell]; omega
  have hq5 : w.heap.size < (w5.setCell ⟨w3.heap.size, 0, none⟩ (.int .i64 va)).heap.size := by rw [World.size_setCell]; omega
  have hg5 : g < (w5.setCell ⟨w3.heap.size, 0, none⟩ (.int .i64 va)).heap.size := by rw [World.size_setCell]; omega
  have j5' : (w5.setCell ⟨w3.heap.size, 0, none⟩ (.int .i64 va)).cell? ⟨g, m + 3, none⟩ = some (.string l) := (World.cell?_setCell_other _ _ _ _ (by intro e; injection e; omega)).trans j5
  go_wp2_with fail
  refine (HRb.out _ hB5).mono ?_
  rintro e w6 ⟨rfl, hb6⟩
  clear p0 p1 p2 p3 z0 z1 z2 z3
  obtain ⟨p0, p1, p2, p3, z0, z1, z2, z3⟩ := (HA5.out.below hb6 hx5).out
  have HA6 : Hid (At4 (w6.setCell ⟨w3.heap.size, 1, none⟩ (.int .i64 vb)) w3.heap.size (.int .i64 va) (.int .i64 vb) (.string t) (.int .i64 0)) := (HA5.out.below hb6 hx5).set1
  have HQ6 : Hid (At4 (w6.setCell ⟨w3.heap.size, 1, none⟩ (.int .i64 vb)) w.heap.size (.int .i64 0) (.int .i64 0) (.string ⟨#[]⟩) (.int .i64 0)) := (HQ5.out.below hb6 hq5).other hwX
  have j6 := (hb6.cell (p := ⟨g, m + 3, none⟩) hg5).trans j5'
  have hB6 : Below w.heap.size w (w6.setCell ⟨w3.heap.size, 1, none⟩ (.int .i64 vb)) := (hB5.trans (hb6.mono hB5.size)).setCell (by show w.heap.size ≤ w3.heap.size; omega) _
  have hz6 := hb6.size
  rw [World.size_setCell] at hz6
  have hx6 : w3.heap.size < (w6.setCell ⟨w3.heap.size, 1, none⟩ (.int .i64 vb)).heap.size := by rw [World.size_setCell]; omega
  have hq6 : w.heap.size < (w6.setCell ⟨w3.heap.size, 1, none⟩ (.int .i64 vb)).heap.size := by rw [World.size_setCell]; omega
  clear hb6 HA5 HQ5 k5 j5 j5' hB5 hx5 hq5 hg5
  go_wp2_with fail
  refine (HRl.out _ hB6).mono ?_
  rintro e w7 ⟨rfl, hb7⟩
  clear p0 p1 p2 p3 z0 z1 z2 z3
  obtain ⟨p0, p1, p2, p3, z0, z1, z2, z3⟩ := (HA6.out.below hb7 hx6).out
  have HA7 : Hid (At4 (w7.setCell ⟨w3.heap.size, 3, none⟩ (.int .i64 vl)) w3.heap.size (.int .i64 va) (.int .i64 vb) (.string t) (.int .i64 vl)) := (HA6.out.below hb7 hx6).set3
  have HQ7 : Hid (At4 (w7.setCell ⟨w3.heap.size, 3, none⟩ (.int .i64 vl)) w.heap.size (.int .i64 0) (.int .i64 0) (.string ⟨#[]⟩) (.int .i64 0)) := (HQ6.out.below hb7 hq6).other hwX
  have hB7 : Below w.heap.size w (w7.setCell ⟨w3.heap.size, 3, none⟩ (.int .i64 vl)) := (hB6.trans (hb7.mono hB6.size)).setCell (by show w.heap.size ≤ w3.heap.size; omega) _
  have hz7 := hb7.size
  rw [World.size_setCell] at hz7
  have hx7 : w3.heap.size < (w7.setCell ⟨w3.heap.size, 3, none⟩ (.int .i64 vl)).heap.size := by rw [World.size_setCell]; omega
  have hq7 : w.heap.size < (w7.setCell ⟨w3.heap.size, 3, none⟩ (.int .i64 vl)).heap.size := by rw [World.size_setCell]; omega
  clear hb7 HA6 HQ6 j6 hB6 hx6 hq6 hz5 hz6 hz7
  rcases b_cases (lineB ⟨va, vb, t, vl⟩) with hg | hg
  · have HV := hide (HBD.out (by rw [hg, Bool.and_false]))
    rw [hg] at HVL
    clear hg
    go_wp2_with fail
    refine (HVL.out _ hB7).mono ?_
    rintro e w8 ⟨rfl, hb8⟩
    clear p0 p1 p2 p3 z0 z1 z2 z3
    obtain ⟨p0, p1, p2, p3, z0, z1, z2, z3⟩ := (HQ7.out.below hb8 hq7).out
    have hB8 := hB7.trans (hb8.mono hB7.size)
    clear HA7 HQ7 hB7 hb8
    go_wp2
    refine bodyPost_ret (v := .tuple #[.agg #[.int .i64 0, .int .i64 0, .string ⟨#[]⟩, .int .i64 0], .bool false]) (by simp [results, Tryz.results29, go_sem, *]) rfl ?_
    exact linb_of HV.out (below_set4 hB8 (Nat.le_refl _))
  have htx := HTX.out hg
  rw [htx] at HLT
  rw [hg] at HVL HG4
  rw [hg] at HBD
  clear htx HTX hg
  generalize printL ⟨va, vb, t, vl⟩ = pr at *
  rcases b_cases (rdN W) with hn | hn
  · have HV := hide (HBD.out (by rw [hn]; rfl))
    have g3 := (str_ne (show pr ≠ s from fun e => by rw [HI4.out.1 e] at hn; exact absurd hn (by simp))).1
    clear hn HG4 HI4 HBD
    go_wp2_with fail
    refine (HVL.out _ hB7).mono ?_
    rintro e w8 ⟨rfl, hb8⟩
    clear p0 p1 p2 p3 z0 z1 z2 z3
    have hB8 := hB7.trans (hb8.mono hB7.size)
    have HA8 := hide (HA7.out.below hb8 hx7)
    have HQ8 := hide (HQ7.out.below hb8 hq7)
    obtain ⟨p0, p1, p2, p3, _, _, _, _⟩ := HA8.out.out
    have hq8 := Nat.lt_of_lt_of_le hq7 hb8.size
    clear HA7 HQ7 hB7 hb8
    go_wp2_with fail
    refine (HLT.out _ hB8).mono ?_
    rintro e w9 ⟨rfl, hb9⟩
    clear p0 p1 p2 p3
    obtain ⟨p0, p1, p2, p3, z0, z1, z2, z3⟩ := (HQ8.out.below hb9 hq8).out
    have hB9 := hB8.trans (hb9.mono hB8.size)
    clear HA8 HQ8 hB8 hb9
    go_wp2
    refine bodyPost_ret (v := .tuple #[.agg #[.int .i64 0, .int .i64 0, .string ⟨#[]⟩, .int .i64 0], .bool false]) (by simp [results, Tryz.results29, go_sem, *]) rfl ?_
    exact linb_of HV.out (below_set4 hB9 (Nat.le_refl _))
  · have HV := hide (HG4.out (by rw [hn]; rfl))
    have g3 := (str_eq (HI4.out.2 hn)).1
    clear hn HG4 HI4 HBD
    go_wp2_with fail
    refine (HVL.out _ hB7).mono ?_
    rintro e w8 ⟨rfl, hb8⟩
    clear p0 p1 p2 p3 z0 z1 z2 z3
    have hB8 := hB7.trans (hb8.mono hB7.size)
    have HA8 := hide (HA7.out.below hb8 hx7)
    have HQ8 := hide (HQ7.out.below hb8 hq7)
    obtain ⟨p0, p1, p2, p3, _, _, _, _⟩ := HA8.out.out
    have hq8 := Nat.lt_of_lt_of_le hq7 hb8.size
    have hx8 := Nat.lt_of_lt_of_le hx7 hb8.size
    clear HA7 HQ7 hB7 hb8
    go_wp2_with fail
    refine (HLT.out _ hB8).mono ?_
    rintro e w9 ⟨rfl, hb9⟩
    clear p0 p1 p2 p3
    obtain ⟨p0, p1, p2, p3, z0, z1, z2, z3⟩ := (HQ8.out.below hb9 hq8).out
    obtain ⟨y0, y1, y2, y3, _, _, _, _⟩ := (HA8.out.below hb9 hx8).out
    have hB9 := hB8.trans (hb9.mono hB8.size)
    clear HA8 HQ8 hB8 hb9
    go_wp2
    refine bodyPost_ret (v := .tuple #[.agg #[.int .i64 va, .int .i64 vb, .string t, .int .i64 vl], .bool true]) (by simp [results, Tryz.results29, go_sem, *]) rfl ?_
    exact linb_of HV.out (below_set4 hB9 (Nat.le_refl _))

end Go.Proofs.YtcclfmapbgdpdaaGreatDoor
