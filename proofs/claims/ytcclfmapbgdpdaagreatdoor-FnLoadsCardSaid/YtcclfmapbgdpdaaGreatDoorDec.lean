/- Decimal of the program, l01Dec of the reference. -/
import Derived.Test.YtcclfmapbgdpdaaGreatDoorMg
import Derived.Test.YtcclfmapbgdpdaaGreatDoorTab
import Derived.Test.YtcclfmapbgdpdaaGreatDoorShelf
import Derived.Laws.IdiomStrings
import Derived.Lib.UnsafeStr
import Derived.Deep.Cut
namespace Go.Proofs.YtcclfmapbgdpdaaGreatDoor
open Go.RowKit
set_option linter.unusedVariables false

theorem below_grow (w : World) (k : Nat) (os : Array Obj) : Below w.heap.size w (Sort.grow (w.drewN k) os) :=
  ⟨rfl, rfl, rfl, by show w.heap.size ≤ (w.heap ++ os).size; rw [Array.size_append]; omega, fun j hj => by show (w.heap ++ os)[j]? = w.heap[j]?; exact Array.getElem?_append_left hj⟩

theorem decimal_calls (n : Int) (w : World) (ht : TabP w) (h : I64 n) : Calls Tryz.prog 79 #[.int .i64 n] w fun e w' => e = .returned (.string (decZ n)) ∧ Below w.heap.size w w' := by
  have HM := hide (Tryz.strconv_FormatInt_10 n h.1 h.2 w ht)
  go_enter Tryz.func79, Tryz.ntmps79
  go_wp2_with fail
  refine HM.out.mono ?_
  rintro e w1 ⟨rfl, k, os, rfl⟩
  have hb := hide (below_grow w k os)
  go_wp2
  go_ret
  exact ⟨rfl, hb.out⟩

/-- Bytes in memory. -/
def kU : Kind UInt8 := ⟨fun c => [.int .u8 (c.toNat : Int)], 1, fun _ => True, fun _ => rfl, by intro x u hu; simp at hu; subst hu; rfl⟩
theorem cK_kU (l : List UInt8) : cK kU l = l.map fun c => Value.int .u8 (c.toNat : Int) := by
  induction l with
  | nil => rfl
  | cons x xs ih =>
    have e1 : cK kU (x :: xs) = .int .u8 (x.toNat : Int) :: cK kU xs := rfl
    rw [e1, List.map_cons, ih]
/-- The digits that are left, the last one first; none at 0. -/
def tailD (v : Nat) : List UInt8 := if v = 0 then [] else revD v
theorem tailD_zero : tailD 0 = [] := rfl
theorem tailD_step {v : Nat} (h : v ≠ 0) : tailD v = UInt8.ofNat (48 + v % 10) :: tailD (v / 10) := by
  unfold tailD
  rw [if_neg h]
  by_cases h10 : v < 10
  · rw [revD_small h10, if_pos (by omega), show v % 10 = v by omega]
  · rw [revD_big h10, if_neg (by omega)]
theorem tailD_len : ∀ (k v : Nat), v < 10 ^ k → (tailD v).length ≤ k
  | 0, v, h => by
    obtain rfl : v = 0 := by simpa using h
    simp [tailD_zero]
  | k + 1, v, h => by
    by_cases hv : v = 0
    · subst hv; simp [tailD_zero]
    · rw [tailD_step hv, List.length_cons]
      have := tailD_len k (v / 10) (by rw [Nat.pow_succ] at h; omega)
      omega
theorem len_of_parts {a b c : List UInt8} {j : Nat} (h : a = b ++ c) (hl : b.length = j) (ha : a.length ≤ 19) : j ≤ 19 := by
  rw [h, List.length_append] at ha; omega
theorem dig_toNat {d : Nat} (h : d < 10) : (UInt8.ofNat (48 + d)).toNat = 48 + d := by
  rw [UInt8.toNat_ofNat']
  omega
theorem itoa_zero : decZ 0 = ⟨#[48]⟩ := by
  unfold decZ Lib.itoa
  rw [if_neg (by omega), show Int.toNat 0 = 0 from rfl, Lib.decDigits, dif_pos (by omega)]
  rfl
theorem itoa_pos {v : Nat} (h : v ≠ 0) : decZ (v : Int) = ⟨(tailD v).reverse.toArray⟩ := by
  unfold decZ Lib.itoa tailD revD
  rw [if_neg (by omega), if_neg h, List.reverse_reverse, Int.toNat_natCast]
theorem itoa_neg {v : Nat} (h : v ≠ 0) : decZ (-(v : Int)) = ⟨(tailD v ++ [45]).reverse.toArray⟩ := by
  unfold decZ Lib.itoa tailD revD
  rw [if_pos (by omega), if_neg h]
  simp

theorem Tryz.infoU8 : (Tryz.prog.info? 5).map (fun i => (i.zero, i.size, i.bytes)) = some (some (.int .u8 0), 1, 1) := by kernel_rfl
theorem appU {w : World} {ops : Array Oper} {rest : List Oper} {o : Oper} {a : Act} {Q : Exit → Act → World → Prop} (hgd : o.guard = none) (s x : Operand)
    (ho : o.op = .call { callee := .builtin .append, args := #[s, x], argTypes := #[22, 22] })
    (base : Nat) (v : Value) (n : Nat) (xs : List UInt8) (u : UInt8) (d : Int) (hd : (u.toNat : Int) = d) (hs : a.eval s = v) (hown : w.ownsRow base 5 1 v n (cK kU xs)) (hx : a.eval x = .slice (some ⟨w.heap.size, 0, none⟩) 1 1)
    (hn : n ≤ 1099511627776) (hbase : base ≤ w.heap.size)
    (h : ∀ v' w', w'.ownsRow base 5 1 v' (n + 1) (cK kU (xs ++ [u])) → Below base w w' → w.heap.size ≤ w'.heap.size → wpList Tryz.prog ops Q rest (a.put o.dst v') w') : wpList Tryz.prog ops Q (o :: rest) a (w.alloc (.cells #[.int .u8 d] 5)) := by
  subst hd
  exact appK_gen kU hgd s x 22 ho base 5 (.int .u8 0) 1 Tryz.underlying22 Tryz.infoU8 rfl (by decide) (by omega) v n xs u hs hown hx hn hbase h
theorem RdU8.at {w : World} {A : Option Addr} {n : Nat} {xs : List UInt8} {k : Nat} (h : Rd w A n 1 (cK kU xs)) (hl : xs.length = n) (hk : k < n) :
    ∃ b off x, A = some ⟨b, off, none⟩ ∧ b < w.heap.size ∧ Hid (xs[k]? = some x) ∧ w.cell? ⟨b, off + k, none⟩ = some (.int .u8 (x.toNat : Int)) := by
  obtain ⟨b, off, u, e, hb, hu, hc⟩ := h.at1 hk
  have hx := List.getElem?_eq_getElem (l := xs) (i := k) (by omega)
  rw [cK_kU, List.getElem?_map, hx] at hu
  simp only [Option.map_some, Option.some.injEq] at hu
  subst hu
  exact ⟨b, off, _, e, hb, hx, hc⟩
theorem conv_own {w : World} {base n c : Nat} {A : Option Addr} {l : List UInt8} (h : w.ownsRow base 5 1 (.slice A n c) n (cK kU l)) (hl : l.length = n) (hn : 0 < n) :
    (convert 22 9 (.slice A n c)).run Tryz.prog w = .ok (.string ⟨l.toArray⟩) w := by
  have hr := Rd.of_own h
  obtain ⟨b, off, rfl, _, hc⟩ := hr.2 hn
  subst hl
  refine run_convert_bytes_back w 22 9 5 ⟨b, off, none⟩ c l Tryz.underlying22 Tryz.underlying5 Tryz.underlying9 fun j hj => ?_
  rw [Addr.add_lit]
  refine hc j _ ?_
  rw [cK_kU, List.getElem?_map, List.getElem?_eq_getElem hj]
  rfl

set_option maxRecDepth 100000 in
set_option maxHeartbeats 8000000 in
/-- The second half: the digits turned round, and the text of them. -/
theorem l01Dec_calls (n : Int) (w : World) (h : I64 n) : Calls Tryz.prog 180 #[.int .i64 n] w fun e w' => e = .returned (.string (decZ n)) ∧ Below w.heap.size w w' := by
  obtain ⟨hn1, hn2⟩ := h
  by_cases h0 : n = 0
  · subst h0
    have HZ := hide itoa_zero
    go_enter Tryz.func180, Tryz.ntmps180
    go_wp2
    go_ret
    exact ⟨ret_str HZ.out.symm, Below.refl _ _⟩
  have e0 : (n == 0) = false := by simpa using h0
  have hlit := World.ownsRow_lit (base := w.heap.size) (e := 5) (size := 1) w #[] 0 (Nat.le_refl _) (by simp) rfl
  have B0 : Below w.heap.size w (w.alloc (.cells #[] 5)) := (Below.refl _ _).alloc (Nat.le_refl _) _
  have HH := hide (And.intro hlit B0)
  clear hlit B0
  rcases Int.lt_or_gt_of_ne h0 with hneg | hpos
  · obtain ⟨v, rfl⟩ : ∃ v : Nat, n = -(v : Int) := ⟨n.natAbs, by omega⟩
    have hv : v ≠ 0 := by omega
    have HF0 := hide (itoa_neg hv)
    have HLEN := hide (tailD_len 19 v (by have : (9223372036854775808 : Nat) < 10 ^ 19 := by decide
                                          omega))
    have hdn : decide (-(v : Int) < 0) = true := by simp; omega
    clear h0
    go_enter Tryz.func180, Tryz.ntmps180
    go_wp2
    go_loopw [3, 4, 5] (fun ds m d wr => ∃ (q j : Nat) (xs : List UInt8), m = .int .i64 (-(q : Int)) ∧ q ≤ v ∧ j + q ≤ v ∧ wr.ownsRow w.heap.size 5 1 ds j (cK kU xs) ∧ Hid (xs.length = j ∧ tailD v = xs ++ tailD q) ∧ Below w.heap.size w wr) (fun _ m _ _ => (-intOf m).toNat)
    case atStart => exact ⟨v, 0, [], rfl, Nat.le_refl _, by omega, by simpa [cK] using HH.out.1, ⟨rfl, rfl⟩, HH.out.2⟩
    case round =>
     obtain ⟨q, j, xs, rfl, hqv, hjq, hown, HX, hb⟩ := hrel
     have hj19 := len_of_parts HX.out.2 HX.out.1 HLEN.out
     have HO := hide hown
     have hsz := hb.size
     clear hown
     by_cases hq0 : q = 0
     · subst hq0
       have HF : Hid (decZ (-(v : Int)) = ⟨((xs ++ [45]).reverse).toArray⟩) := by unfold Hid; rw [HF0.out, HX.out.2, tailD_zero, List.append_nil]
       have HXL : Hid ((xs ++ [(45 : UInt8)]).length = j + 1) := by unfold Hid; rw [List.length_append, HX.out.1]; rfl
       go_upto_region 13 with (at_builtin; refine appU rfl _ _ rfl w.heap.size u3 j xs 45 _ rfl rfl HO.out (by first | rfl | (simp; rfl)) (by omega) (by omega) ?_; intro v9 w9 hown9 hb9 hz9)
       have HO := hide hown9
       have hb := hb.trans hb9
       clear hown9 hb9 hz9 hsz
       have hsz := hb.size
       generalize xs ++ [(45 : UInt8)] = L at *
       obtain ⟨A3, c3, rfl⟩ := own_slice HO.out
       obtain ⟨wo, rfl⟩ : ∃ wo : World, wo = w9 := ⟨_, rfl⟩
       have hlit2 := World.ownsRow_lit (base := wo.heap.size) (e := 5) (size := 1) wo #[] 0 (Nat.le_refl _) (by simp) rfl
       have B2 : Below wo.heap.size wo (wo.alloc (.cells #[] 5)) := (Below.refl _ _).alloc (Nat.le_refl _) _
       have H2 := hide (And.intro hlit2 (And.intro B2 (Rd.of_own HO.out)))
       clear hlit2 B2
       go_wp2
       go_loopw [6, 7] (fun o i wx => ∃ (z : Int) (r K : Nat) (ys : List UInt8), i = .int .i64 z ∧ -1 ≤ z ∧ Hid (z + 1 = (r : Int)) ∧ r + K = j + 1 ∧ wx.ownsRow wo.heap.size 5 1 o K (cK kU ys) ∧ Hid (ys = (L.drop r).reverse ∧ ys.length = K) ∧ Below wo.heap.size wo wx) (fun _ i _ => (intOf i + 1).toNat)
       case atStart => exact ⟨_, j + 1, 0, [], rfl, by omega, by unfold Hid; omega, rfl, by simpa [cK] using H2.out.1, ⟨by rw [List.drop_of_length_le (by rw [HXL.out]; exact Nat.le_refl _)]; rfl, rfl⟩, H2.out.2.1⟩
       case round =>
         obtain ⟨z, r, K, ys, rfl, hz1, HZ, hrK, hown2, HY, hb2⟩ := hrel
         have HO2 := hide hown2
         have hsz2 := hb2.size
         clear hown2
         have hz := HZ.out
         rcases Nat.eq_zero_or_pos r with hr0 | hr0
         · obtain rfl : z = -1 := by omega
           have hKj : K = j + 1 := by omega
           subst hKj
           have HE : Hid (ys = L.reverse) := by unfold Hid; rw [HY.out.1, hr0]; rfl
           obtain ⟨A6, c6, rfl⟩ := own_slice HO2.out
           have hcv := conv_own HO2.out HY.out.2 (by omega)
           clear hz hr0 hrK
           go_wp2
           go_ret
           exact ⟨ret_str (by rw [HE.out, HF.out]), hb.trans (hb2.mono hb.size)⟩
         · obtain ⟨r', rfl⟩ : ∃ r', r = r' + 1 := ⟨r - 1, by omega⟩
           obtain rfl : z = (r' : Int) := by omega
           obtain ⟨b, off, x, rfl, hbl, hx, hc⟩ := RdU8.at (H2.out.2.2.below hb2 (Nat.le_refl _)) HXL.out (k := r') (by omega)
           have HE : Hid (ys ++ [x] = (L.drop r').reverse) := by
             unfold Hid
             have hk := (List.getElem?_eq_some_iff.1 hx.out).1
             rw [HY.out.1, ← List.getElem_cons_drop (h := hk), (List.getElem?_eq_some_iff.1 hx.out).2]
             simp
           clear hz HZ
           go_wp2_with (at_builtin; refine appU rfl _ _ rfl wo.heap.size u6 K ys x _ rfl rfl HO2.out (by first | rfl | (simp; rfl)) (by omega) (by omega) ?_; intro v' w4 hown4 hb4 hz4)
           go_roundw
           case rel => exact ⟨(r' : Int) - 1, r', K + 1, ys ++ [x], by go_num, by omega, by unfold Hid; omega, by omega, hown4, ⟨HE.out, by rw [List.length_append, HY.out.2]; rfl⟩, hb2.trans hb4⟩
           case measure => simp [intOf] <;> omega
     · have hqne : ((-(q : Int)) != 0) = true := by simp; omega
       have HS := hide (tailD_step hq0)
       have HQ : Hid (q / 10 ≤ v ∧ j + 1 + q / 10 ≤ v ∧ q / 10 < q) := by unfold Hid; omega
       have HU := hide (dig_toNat (d := q % 10) (by omega))
       rcases Nat.eq_zero_or_pos (q % 10) with hr0 | hr0
       · have m1 : (0 : Int) ≤ -((q : Int) % 10) := by omega
         have m2 : -((q : Int) % 10) < 10 := by omega
         have f1 : decide (-((q : Int) % 10) < 0) = false := by simp; omega
         have f2 : decide (0 < (q : Int) % 10) = false := by simp; omega
         have HR : Hid ((48 + q % 10 : Nat) = (48 + -((q : Int) % 10) : Int)) := by unfold Hid; omega
         clear hr0
         go_wp2_with (at_builtin; refine appU rfl _ _ rfl w.heap.size u3 j xs (UInt8.ofNat (48 + q % 10)) _ (by rw [HU.out]; exact HR.out) rfl HO.out (by first | rfl | (simp; rfl)) (by omega) (by omega) ?_; intro v' w4 hown4 hb4 hz4)
         go_roundw
         case rel => exact ⟨q / 10, j + 1, _, by go_num, HQ.out.1, HQ.out.2.1, hown4, ⟨by rw [List.length_append, HX.out.1]; rfl, by rw [HX.out.2, HS.out]; simp⟩, hb.trans hb4⟩
         case measure => have := HQ.out.2.2; simp [intOf] <;> omega
       · have m1 : (0 : Int) < (q : Int) % 10 := by omega
         have m2 : (q : Int) % 10 < 10 := by omega
         have f1 : decide (-((q : Int) % 10) < 0) = true := by simp; omega
         have f2 : decide (0 < (q : Int) % 10) = true := by simp; omega
         have HR : Hid ((48 + q % 10 : Nat) = (48 + (q : Int) % 10 : Int)) := by unfold Hid; omega
         clear hr0
         go_wp2_with (at_builtin; refine appU rfl _ _ rfl w.heap.size u3 j xs (UInt8.ofNat (48 + q % 10)) _ (by rw [HU.out]; exact HR.out) rfl HO.out (by first | rfl | (simp; rfl)) (by omega) (by omega) ?_; intro v' w4 hown4 hb4 hz4)
         go_roundw
         case rel => exact ⟨q / 10, j + 1, _, by go_num, HQ.out.1, HQ.out.2.1, hown4, ⟨by rw [List.length_append, HX.out.1]; rfl, by rw [HX.out.2, HS.out]; simp⟩, hb.trans hb4⟩
         case measure => have := HQ.out.2.2; simp [intOf] <;> omega
  · obtain ⟨v, rfl⟩ : ∃ v : Nat, n = (v : Int) := ⟨n.toNat, by omega⟩
    have hv : v ≠ 0 := by omega
    have HF0 := hide (itoa_pos hv)
    have HLEN := hide (tailD_len 19 v (by have : (9223372036854775807 : Nat) < 10 ^ 19 := by decide
                                          omega))
    have HJ0 : Hid (tailD v ≠ []) := by unfold Hid; rw [tailD_step hv]; simp
    clear h0
    go_enter Tryz.func180, Tryz.ntmps180
    go_wp2
    go_loopw [3, 4, 5] (fun ds m d wr => ∃ (q j : Nat) (xs : List UInt8), m = .int .i64 q ∧ q ≤ v ∧ j + q ≤ v ∧ wr.ownsRow w.heap.size 5 1 ds j (cK kU xs) ∧ Hid (xs.length = j ∧ tailD v = xs ++ tailD q) ∧ Below w.heap.size w wr) (fun _ m _ _ => (intOf m).toNat)
    case atStart => exact ⟨v, 0, [], rfl, Nat.le_refl _, by omega, by simpa [cK] using HH.out.1, ⟨rfl, rfl⟩, HH.out.2⟩
    case round =>
     obtain ⟨q, j, xs, rfl, hqv, hjq, hown, HX, hb⟩ := hrel
     have hj19 := len_of_parts HX.out.2 HX.out.1 HLEN.out
     have HO := hide hown
     have hsz := hb.size
     clear hown
     by_cases hq0 : q = 0
     · subst hq0
       have hd : decide ((v : Int) < 0) = false := by simp
       have HF : Hid (decZ (v : Int) = ⟨(xs.reverse).toArray⟩) := by unfold Hid; rw [HF0.out, HX.out.2, tailD_zero, List.append_nil]
       have HJ : Hid (0 < j) := by
         unfold Hid
         have h1 := HX.out.2
         rw [tailD_zero, List.append_nil] at h1
         have h2 := HX.out.1
         have h3 := HJ0.out
         rw [h1] at h3
         have := List.length_pos_iff.2 h3
         omega
       have hj1 := HJ.out
       obtain ⟨A3, c3, rfl⟩ := own_slice HO.out
       obtain ⟨wo, rfl⟩ : ∃ wo : World, wo = wr := ⟨_, rfl⟩
       have hlit2 := World.ownsRow_lit (base := wo.heap.size) (e := 5) (size := 1) wo #[] 0 (Nat.le_refl _) (by simp) rfl
       have B2 : Below wo.heap.size wo (wo.alloc (.cells #[] 5)) := (Below.refl _ _).alloc (Nat.le_refl _) _
       have H2 := hide (And.intro hlit2 (And.intro B2 (Rd.of_own HO.out)))
       clear hlit2 B2
       go_wp2
       go_loopw [6, 7] (fun o i wx => ∃ (z : Int) (r K : Nat) (ys : List UInt8), i = .int .i64 z ∧ -1 ≤ z ∧ Hid (z + 1 = (r : Int)) ∧ r + K = j ∧ wx.ownsRow wo.heap.size 5 1 o K (cK kU ys) ∧ Hid (ys = (xs.drop r).reverse ∧ ys.length = K) ∧ Below wo.heap.size wo wx) (fun _ i _ => (intOf i + 1).toNat)
       case atStart => exact ⟨_, j, 0, [], rfl, by omega, by unfold Hid; omega, rfl, by simpa [cK] using H2.out.1, ⟨by rw [List.drop_of_length_le (by rw [HX.out.1]; exact Nat.le_refl _)]; rfl, rfl⟩, H2.out.2.1⟩
       case round =>
         obtain ⟨z, r, K, ys, rfl, hz1, HZ, hrK, hown2, HY, hb2⟩ := hrel
         have HO2 := hide hown2
         have hsz2 := hb2.size
         clear hown2
         have hz := HZ.out
         rcases Nat.eq_zero_or_pos r with hr0 | hr0
         · obtain rfl : z = -1 := by omega
           have hKj : K = j := by omega
           subst hKj
           have HE : Hid (ys = xs.reverse) := by unfold Hid; rw [HY.out.1, hr0]; rfl
           obtain ⟨A6, c6, rfl⟩ := own_slice HO2.out
           have hcv := conv_own HO2.out HY.out.2 (by have := HJ.out; omega)
           clear hz hr0 hrK
           go_wp2
           go_ret
           exact ⟨ret_str (by rw [HE.out, HF.out]), hb.trans (hb2.mono hb.size)⟩
         · obtain ⟨r', rfl⟩ : ∃ r', r = r' + 1 := ⟨r - 1, by omega⟩
           obtain rfl : z = (r' : Int) := by omega
           obtain ⟨b, off, x, rfl, hbl, hx, hc⟩ := RdU8.at (H2.out.2.2.below hb2 (Nat.le_refl _)) HX.out.1 (k := r') (by omega)
           have HE : Hid (ys ++ [x] = (xs.drop r').reverse) := by
             unfold Hid
             have hk := (List.getElem?_eq_some_iff.1 hx.out).1
             rw [HY.out.1, ← List.getElem_cons_drop (h := hk), (List.getElem?_eq_some_iff.1 hx.out).2]
             simp
           clear hz HZ
           go_wp2_with (at_builtin; refine appU rfl _ _ rfl wo.heap.size u6 K ys x _ rfl rfl HO2.out (by first | rfl | (simp; rfl)) (by omega) (by omega) ?_; intro v' w4 hown4 hb4 hz4)
           go_roundw
           case rel => exact ⟨(r' : Int) - 1, r', K + 1, ys ++ [x], by go_num, by omega, by unfold Hid; omega, by omega, hown4, ⟨HE.out, by rw [List.length_append, HY.out.2]; rfl⟩, hb2.trans hb4⟩
           case measure => simp [intOf] <;> omega
     · have hqne : ((q : Int) != 0) = true := by simp; omega
       have HS := hide (tailD_step hq0)
       have m1 : (0 : Int) ≤ (q : Int) % 10 := by omega
       have m2 : (q : Int) % 10 < 10 := by omega
       have HU := hide (dig_toNat (d := q % 10) (by omega))
       have HQ : Hid (q / 10 ≤ v ∧ j + 1 + q / 10 ≤ v ∧ q / 10 < q) := by unfold Hid; omega
       go_wp2_with (at_builtin; refine appU rfl _ _ rfl w.heap.size u3 j xs (UInt8.ofNat (48 + q % 10)) _ (by rw [HU.out]; omega) rfl HO.out (by first | rfl | (simp; rfl)) (by omega) (by omega) ?_; intro v' w4 hown4 hb4 hz4)
       go_roundw
       case rel => exact ⟨q / 10, j + 1, _, by go_num, HQ.out.1, HQ.out.2.1, hown4, ⟨by rw [List.length_append, HX.out.1]; rfl, by rw [HX.out.2, HS.out]; simp⟩, hb.trans hb4⟩
       case measure => have := HQ.out.2.2; simp [intOf] <;> omega

theorem itoa_len {n : Int} (h : I64 n) : (decZ n).size ≤ 20 := by
  have e : (decZ n).size = (Lib.itoa n).length := by rw [← bs_len, bs_decZ]
  rw [e]
  have hd : ∀ v : Nat, v < 10 ^ 19 → (Lib.decDigits v).length ≤ 19 := by
    intro v hv
    by_cases h0 : v = 0
    · subst h0; rw [Lib.decDigits, dif_pos (by omega)]; simp
    · have := tailD_len 19 v hv
      unfold tailD revD at this
      rw [if_neg h0, List.length_reverse] at this
      exact this
  have h10 : (9223372036854775808 : Nat) < 10 ^ 19 := by decide
  obtain ⟨h1, h2⟩ := h
  unfold Lib.itoa
  split
  · rw [List.length_cons]; have := hd n.natAbs (by omega); omega
  · have := hd n.toNat (by omega); omega

end Go.Proofs.YtcclfmapbgdpdaaGreatDoor
