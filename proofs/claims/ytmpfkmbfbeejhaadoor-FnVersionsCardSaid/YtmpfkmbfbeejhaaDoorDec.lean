/- Decimal of the program, l01Dec of the reference. -/
import Derived.Test.YtmpfkmbfbeejhaaDoorTextZ
import Derived.Test.YtmpfkmbfbeejhaaDoorTab
import Derived.Test.YtmpfkmbfbeejhaaDoorShelf
import Derived.Test.YtmpfkmbfbeejhaaDoorMg
import Derived.Laws.IdiomStrings
import Derived.Lib.UnsafeStr
import Derived.Deep.Cut
namespace Go.Proofs.YtmpfkmbfbeejhaaDoor
open Go.RowKit
set_option linter.unusedVariables false

theorem below_grow (w : World) (k : Nat) (os : Array Obj) : Below w.heap.size w (Sort.grow (w.drewN k) os) :=
  ⟨rfl, rfl, rfl, by show w.heap.size ≤ (w.heap ++ os).size; rw [Array.size_append]; omega, fun j hj => by show (w.heap ++ os)[j]? = w.heap[j]?; exact Array.getElem?_append_left hj⟩

theorem decimal_calls (n : Int) (w : World) (ht : TabP w) (h : I64 n) : Calls Tryd.prog 39 #[.int .i64 n] w fun e w' => e = .returned (.string (decZ n)) ∧ Below w.heap.size w w' := by
  have HM := hide (Tryd.strconv_FormatInt_10 n h.1 h.2 w ht)
  go_enter Tryd.func39, Tryd.ntmps39
  go_wp2_with fail
  refine HM.out.mono ?_
  rintro e w1 ⟨rfl, k, os, rfl⟩
  have hb := hide (below_grow w k os)
  go_wp2
  go_ret
  exact ⟨rfl, hb.out⟩

/-- Bytes in memory. -/
def kU : Kind UInt8 := ⟨fun c => [.int .u8 (c.toNat : Int)], 1, fun _ => True, fun _ => rfl, by intro x u hu; simp at hu; subst hu; rfl⟩
theorem cK_kU (l : List UInt8) : cK kU l = l.map fun c => Value.int .u8 (c.toNat : Int) := by
  induction l with
  | nil => rfl
  | cons x xs ih =>
    have e1 : cK kU (x :: xs) = .int .u8 (x.toNat : Int) :: cK kU xs := rfl
    rw [e1, List.map_cons, ih]
/-- The digits that are left, the last one first; none at 0. -/
def tailD (v : Nat) : List UInt8 := if v = 0 then [] else revD v
theorem tailD_zero : tailD 0 = [] := rfl
theorem tailD_step {v : Nat} (h : v ≠ 0) : tailD v = UInt8.ofNat (48 + v % 10) :: tailD (v / 10) := by
  unfold tailD
  rw [if_neg h]
  by_cases h10 : v < 10
  · rw [revD_small h10, if_pos (by omega), show v % 10 = v by omega]
  · rw [revD_big h10, if_neg (by omega)]
theorem tailD_len : ∀ (k v : Nat), v < 10 ^ k → (tailD v).length ≤ k
  | 0, v, h => by
    obtain rfl : v = 0 := by simpa using h
    simp [tailD_zero]
  | k + 1, v, h => by
    by_cases hv : v = 0
    · subst hv; simp [tailD_zero]
    · rw [tailD_step hv, List.length_cons]
      have := tailD_len k (v / 10) (by rw [Nat.pow_succ] at h; omega)
      omega
theorem len_of_parts {a b c : List UInt8} {j : Nat} (h : a = b ++ c) (hl : b.length = j) (ha : a.length ≤ 19) : j ≤ 19 := by
  rw [h, List.length_append] at ha; omega
theorem dig_toNat {d : Nat} (h : d < 10) : (UInt8.ofNat (48 + d)).toNat = 48 + d := by
  rw [UInt8.toNat_ofNat']
  omega
theorem itoa_zero : decZ 0 = ⟨#[48]⟩ := by
  unfold decZ Lib.itoa
  rw [if_neg (by omega), show Int.toNat 0 = 0 from rfl, Lib.decDigits, dif_pos (by omega)]
  rfl
theorem itoa_pos {v : Nat} (h : v ≠ 0) : decZ (v : Int) = ⟨(tailD v).reverse.toArray⟩ := by
  unfold decZ Lib.itoa tailD revD
  rw [if_neg (by omega), if_neg h, List.reverse_reverse, Int.toNat_natCast]
theorem itoa_neg {v : Nat} (h : v ≠ 0) : decZ (-(v : Int)) = ⟨(tailD v ++ [45]).reverse.toArray⟩ := by
  unfold decZ Lib.itoa tailD revD
  rw [if_pos (by omega), if_neg h]
  simp

theorem Tryd.infoU8 : (Tryd.prog.info? 5).map (fun i => (i.zero, i.size, i.bytes)) = some (some (.int .u8 0), 1, 1) := by kernel_rfl
theorem appU {w : World} {ops : Array Oper} {rest : List Oper} {o : Oper} {a : Act} {Q : Exit → Act → World → Prop} (hgd : o.guard = none) (s x : Operand)
    (ho : o.op = .call { callee := .builtin .append, args := #[s, x], argTypes := #[22, 22] })
    (base : Nat) (v : Value) (n : Nat) (xs : List UInt8) (u : UInt8) (d : Int) (hd : (u.toNat : Int) = d) (hs : a.eval s = v) (hown : w.ownsRow base 5 1 v n (cK kU xs)) (hx : a.eval x = .slice (some ⟨w.heap.size, 0, none⟩) 1 1)
    (hn : n ≤ 1099511627776) (hbase : base ≤ w.heap.size)
    (h : ∀ v' w', w'.ownsRow base 5 1 v' (n + 1) (cK kU (xs ++ [u])) → Below base w w' → w.heap.size ≤ w'.heap.size → wpList Tryd.prog ops Q rest (a.put o.dst v') w') : wpList Tryd.prog ops Q (o :: rest) a (w.alloc (.cells #[.int .u8 d] 5)) := by
  subst hd
  exact appK_gen kU hgd s x 22 ho base 5 (.int .u8 0) 1 Tryd.underlying22 Tryd.infoU8 rfl (by decide) (by omega) v n xs u hs hown hx hn hbase h
theorem RdU8.at {w : World} {A : Option Addr} {n : Nat} {xs : List UInt8} {k : Nat} (h : Rd w A n 1 (cK kU xs)) (hl : xs.length = n) (hk : k < n) :
    ∃ b off x, A = some ⟨b, off, none⟩ ∧ b < w.heap.size ∧ Hid (xs[k]? = some x) ∧ w.cell? ⟨b, off + k, none⟩ = some (.int .u8 (x.toNat : Int)) := by
  obtain ⟨b, off, u, e, hb, hu, hc⟩ := h.at1 hk
  have hx := List.getElem?_eq_getElem (l := xs) (i := k) (by omega)
  rw [cK_kU, List.getElem?_map, hx] at hu
  simp only [Option.map_some, Option.some.injEq] at hu
  subst hu
  exact ⟨b, off, _, e, hb, hx, hc⟩
theorem conv_own {w : World} {base n c : Nat} {A : Option Addr} {l : List UInt8} (h : w.ownsRow base 5 1 (.slice A n c) n (cK kU l)) (hl : l.length = n) (hn : 0 < n) :
    (convert 22 9 (.slice A n c)).run Tryd.prog w = .ok (.string ⟨l.toArray⟩) w := by
  have hr := Rd.of_own h
  obtain ⟨b, off, rfl, _, hc⟩ := hr.2 hn
  subst hl
  refine run_convert_bytes_back w 22 9 5 ⟨b, off, none⟩ c l Tryd.underlying22 Tryd.underlying5 Tryd.underlying9 fun j hj => ?_
  rw [Addr.add_lit]
  refine hc j _ ?_
  rw [cK_kU, List.getElem?_map, List.getElem?_eq_getElem hj]
  rfl


theorem itoa_len {n : Int} (h : I64 n) : (decZ n).size ≤ 20 := by
  have e : (decZ n).size = (Lib.itoa n).length := by rw [← bs_len, bs_decZ]
  rw [e]
  have hd : ∀ v : Nat, v < 10 ^ 19 → (Lib.decDigits v).length ≤ 19 := by
    intro v hv
    by_cases h0 : v = 0
    · subst h0; rw [Lib.decDigits, dif_pos (by omega)]; simp
    · have := tailD_len 19 v hv
      unfold tailD revD at this
      rw [if_neg h0, List.length_reverse] at this
      exact this
  have h10 : (9223372036854775808 : Nat) < 10 ^ 19 := by decide
  obtain ⟨h1, h2⟩ := h
  unfold Lib.itoa
  split
  · rw [List.length_cons]; have := hd n.natAbs (by omega); omega
  · have := hd n.toNat (by omega); omega

end Go.Proofs.YtmpfkmbfbeejhaaDoor
